/- Plain laws on forms: the reference reads the same holes. -/
import Derived.Test.YtllllfbnbndegaaM1
namespace Go.Proofs.Ytllllfbnbndegaa.L
open Go.RowKit Go.Proofs.Ytllllfbnbndegaa.Q Go.Proofs.YtllllfbnbndegaaW.PrintWords Go.Proofs.YtllllfbnbndegaaW.PrintLast
set_option linter.unusedVariables false

def fst_ (l : List (ByteArray × Bool)) : List ByteArray := l.map fun x => x.1
def snd_ (l : List (ByteArray × Bool)) : List Bool := l.map fun x => x.2
def fmS : Option (List S108 × ByteArray) → List ByteArray × List Bool × Bool
  | some b => (fst_ (tg b.1 ++ tl b.2), snd_ (tg b.1 ++ tl b.2), decide (0 < b.1.length))
  | none => ([], [], false)
theorem rd_fst (pre suf : List (ByteArray × Bool)) (x : ByteArray × Bool) : rdOf ByteArray.empty (fst_ (pre ++ x :: suf)) (pre.length : Int) = x.1 := by
  simp [rdOf, fst_, List.getD_eq_getElem?_getD]
theorem rd_snd (pre suf : List (ByteArray × Bool)) (x : ByteArray × Bool) : rdOf false (snd_ (pre ++ x :: suf)) (pre.length : Int) = x.2 := by
  simp [rdOf, snd_, List.getD_eq_getElem?_getD]
/-- The round over the parts that were: is the name among them? -/
theorem seen_l (s : ByteArray) (hs : s.size ≤ 1000) (L : List (ByteArray × Bool)) (hL : L.length ≤ 3000) (many : Int) (hm : 0 ≤ many ∧ many ≤ 3000) (i e : Nat) (hi : i + 1 ≤ e) (he : e ≤ s.size) (K : Nat) (r : List ByteArray × List Bool × Bool)
    (hcont : ∀ k, K ≤ k → spec_l22Form.l0 k s (fst_ (L ++ [(s.extract (i + 1) e, true)])) (snd_ (L ++ [(s.extract (i + 1) e, true)])) ⟨#[]⟩ (many + 1) ((e + 1 : Nat) : Int) = some r) :
    ∀ (suf pre : List (ByteArray × Bool)) (k : Nat), L = pre ++ suf → K + suf.length + 1 ≤ k →
      spec_l22Form.l1 k s (fst_ L) (snd_ L) many (i : Int) (e : Int) (fst_ L) ((fst_ L).length : Int) (pre.length : Int) = some (if suf.any (fun x => x.2 && decide (x.1 = s.extract (i + 1) e)) = true then ([], [], false) else r) := by
  have hf : (fst_ L).length = L.length := by simp [fst_]
  have hg : (snd_ L).length = L.length := by simp [snd_]
  intro suf
  induction suf with
  | nil =>
    intro pre k h1 h2
    obtain ⟨k, rfl⟩ : ∃ m, k = m + 1 := ⟨k - 1, by omega⟩
    rw [List.append_nil] at h1
    subst h1
    simp only [spec_l22Form.l1]
    rw [if_neg (by omega), wrap_in (i := (i : Int) + 1) (by omega) (by omega), wrap_in (i := many + 1) (by omega) (by omega), wrap_in (i := (e : Int) + 1) (by omega) (by omega)]
    rw [if_pos (by omega), if_pos (by omega), if_pos (by omega), if_pos (by omega), if_pos (by omega), show (i : Int) + 1 = ((i + 1 : Nat) : Int) from rfl, Int.toNat_natCast, Int.toNat_natCast]
    have h3 := hcont k (by simp at h2; omega)
    unfold fst_ snd_ at h3
    rw [List.map_append, List.map_append] at h3
    exact h3
  | cons x r' ih =>
    intro pre k h1 h2
    simp only [List.length_cons] at h2
    obtain ⟨k, rfl⟩ : ∃ m, k = m + 1 := ⟨k - 1, by omega⟩
    have hl : pre.length < L.length := by rw [h1]; simp
    have hn := ih (pre ++ [x]) k (by rw [h1]; simp) (by omega)
    rw [show ((pre ++ [x]).length : Int) = (pre.length : Int) + 1 by simp] at hn
    simp only [spec_l22Form.l1]
    rw [if_pos (by omega), if_pos (by omega), if_pos (by omega), if_pos (by omega), wrap_in (i := (i : Int) + 1) (by omega) (by omega), wrap_in (i := (pre.length : Int) + 1) (by omega) (by omega), hn]
    have e1 : rdOf false (snd_ L) (pre.length : Int) = x.2 := by rw [h1]; exact rd_snd pre r' x
    have e2 : rdOf ByteArray.empty (fst_ L) (pre.length : Int) = x.1 := by rw [h1]; exact rd_fst pre r' x
    rw [e1, e2, List.any_cons]
    cases hx : x.2 with
    | false => rw [if_neg (by simp), Bool.false_and, Bool.false_or]
    | true =>
      rw [if_pos rfl, if_pos (by omega), if_pos (by omega), if_pos (by omega), show (i : Int) + 1 = ((i + 1 : Nat) : Int) from rfl, Int.toNat_natCast, Int.toNat_natCast, Bool.true_and]
      by_cases c : x.1 = s.extract (i + 1) e
      · rw [if_pos (toList_inj.2 c), if_pos (by simp [c])]
      · rw [if_neg (fun h => c (toList_inj.1 h)), decide_eq_false c, Bool.false_or]
theorem last_hole (out : List S108) (h : 0 < out.length) : ∃ L n, tg out = L ++ [(n, true)] := by
  have hne : out ≠ [] := by intro e; rw [e] at h; simp at h
  obtain ⟨l, x, rfl⟩ : ∃ l x, out = l ++ [x] := ⟨out.dropLast, out.getLast hne, (List.dropLast_concat_getLast hne).symm⟩
  obtain ⟨a, b⟩ := x
  exact ⟨_, _, tg_snoc l a b⟩
theorem spec_form_l (s : ByteArray) (hs : s.size ≤ 1000) : ∀ d i out text k, i ≤ s.size → s.size < i + d → out.length ≤ i → text.size ≤ i → 3000 * d ≤ k →
    spec_l22Form.l0 k s (fst_ (tg out)) (snd_ (tg out)) text (out.length : Int) (i : Int) = some (fmS (fm s d i out text)) := by
  intro d
  induction d with
  | zero => intro i out text k h1 h2 h3 h4 h5; omega
  | succ d ih =>
    intro i out text k h1 h2 h3 h4 h5
    obtain ⟨k, rfl⟩ : ∃ m, k = m + 4 := ⟨k - 4, by omega⟩
    have hT := tg_length out
    have hTx := tl_length text
    have hf : (fst_ (tg out)).length = (tg out).length := by simp [fst_]
    have hg : (snd_ (tg out)).length = (tg out).length := by simp [snd_]
    by_cases c0 : i < s.size
    · have hText : holeAt s i = none → ∀ e : Int, spec_l22Form.j3 (k + 2) s (fst_ (tg out)) (snd_ (tg out)) text (out.length : Int) (i : Int) e true = some (fmS (fm s (d + 1) i out text)) := by
        intro h e
        simp only [spec_l22Form.j3]
        rw [if_pos trivial, if_pos (by omega), wrap_in (i := (i : Int) + 1) (by omega) (by omega), if_pos (by omega), if_pos (by omega), show (i : Int) + 1 = ((i + 1 : Nat) : Int) from rfl, Int.toNat_natCast, Int.toNat_natCast]
        rw [if_pos (by rw [ByteArray.size_extract]; omega), fm_text c0 h]
        exact ih (i + 1) out _ (k + 1) (by omega) (by omega) (by omega) (by rw [ByteArray.size_append, ByteArray.size_extract]; omega) (by omega)
      simp only [spec_l22Form.l0]
      rw [if_pos (by omega), if_pos (by omega), wrap_in (i := (i : Int) + 1) (by omega) (by omega)]
      by_cases c1 : bt s (i : Int) = 60
      · have hwe := we1_ge s (i + 1) (by omega)
        have hz := ext_size s (a := i + 1) hwe.2
        have hna := nameAt_l s hs (s.size - (i + 1)) (k + 3) (i + 1) rfl (by omega) (by omega)
        rw [if_pos c1]
        unfold spec_l2NameAt.f
        rw [show (i : Int) + 1 = ((i + 1 : Nat) : Int) from rfl, hna, Option.bind_some]
        rw [show weF s (s.size - (i + 1)) (i + 1) = we1 s (i + 1) from rfl]
        simp only [spec_l22Form.j2]
        rw [if_pos (by omega), if_pos (by omega), if_pos c1]
        by_cases c2 : we1 s (i + 1) < s.size
        · rw [if_neg (by omega), if_pos (by omega), if_pos (by omega)]
          by_cases c3 : bt s ((we1 s (i + 1) : Nat) : Int) = 62
          · rw [if_pos c3, wrap_in (i := (i : Int) + 1) (by omega) (by omega), if_pos (by omega), if_pos (by omega), if_pos (by omega), show (i : Int) + 1 = ((i + 1 : Nat) : Int) from rfl, Int.toNat_natCast, Int.toNat_natCast]
            rw [spec_name _ (k + 2) (by omega), Option.bind_some]
            by_cases c4 : nameB (s.extract (i + 1) (we1 s (i + 1))) = true
            · have hh : holeAt s i = some (we1 s (i + 1)) := by unfold holeAt; rw [if_pos ⟨c1, c3, c4⟩]
              rw [c4, fm_hole c0 hh]
              generalize hE : we1 s (i + 1) = e at *
              have hcont : ∀ kk, 3000 * d ≤ kk → spec_l22Form.l0 kk s (fst_ (tg out ++ tl text ++ [(s.extract (i + 1) e, true)])) (snd_ (tg out ++ tl text ++ [(s.extract (i + 1) e, true)])) ⟨#[]⟩ ((out.length : Int) + 1) ((e + 1 : Nat) : Int) = some (fmS (fm s d (e + 1) (out ++ [⟨text, s.extract (i + 1) e⟩]) ⟨#[]⟩)) := by
                intro kk hk
                have h := ih (e + 1) (out ++ [⟨text, s.extract (i + 1) e⟩]) ⟨#[]⟩ kk (by omega) (by omega) (by simp; omega) (by show 0 ≤ _; omega) hk
                rw [tg_snoc, show ((out ++ [(⟨text, s.extract (i + 1) e⟩ : S108)]).length : Int) = (out.length : Int) + 1 by simp] at h
                exact h
              have hJ4 : ∀ L, L = tg out ++ tl text → ¬ (text.size = 0 ∧ 0 < out.length) → spec_l22Form.j4 (k + 1) s (fst_ L) (snd_ L) (out.length : Int) (i : Int) (e : Int) = some (fmS (if hasHole out (s.extract (i + 1) e) = true ∨ (text.size = 0 ∧ 0 < out.length) then none else fm s d (e + 1) (out ++ [⟨text, s.extract (i + 1) e⟩]) ⟨#[]⟩)) := by
                intro L hL hno
                simp only [spec_l22Form.j4]
                have hlen : L.length ≤ 2 * out.length + 1 := by rw [hL, List.length_append]; omega
                have h := seen_l s hs L (by omega) (out.length : Int) (by omega) i e (by omega) (by omega) (3000 * d) _ (by rw [hL]; exact hcont) L [] k rfl (by omega)
                rw [List.length_nil, show ((0 : Nat) : Int) = 0 from rfl] at h
                rw [h, hL, List.any_append, tg_any, tl_any, Bool.or_false]
                by_cases c : hasHole out (s.extract (i + 1) e) = true
                · rw [if_pos c, if_pos (Or.inl c)]
                  rfl
                · rw [if_neg c, if_neg (by rintro (h | h); exact c h; exact hno h)]
              simp only [spec_l22Form.j3]
              rw [if_neg (by simp)]
              by_cases c5 : text.size = 0
              · rw [if_pos (toList_nil.2 c5)]
                by_cases c6 : 0 < out.length
                · obtain ⟨L, n, hLn⟩ := last_hole out c6
                  have hLl : (tg out).length = L.length + 1 := by rw [hLn]; simp
                  rw [if_pos (by omega), wrap_in (by omega) (by omega), if_pos (by omega), if_pos (by omega), show ((fst_ (tg out)).length : Int) - 1 = (L.length : Int) by omega]
                  have e1 : rdOf false (snd_ (tg out)) (L.length : Int) = true := by rw [hLn]; exact rd_snd L [] (n, true)
                  rw [if_pos e1, if_pos (Or.inr ⟨c5, c6⟩)]
                  rfl
                · rw [if_neg (by omega)]
                  exact hJ4 (tg out) (by unfold tl; rw [if_pos c5, List.append_nil]) (fun h => c6 h.2)
              · rw [if_neg (fun h => c5 (toList_nil.1 h)), if_pos (by omega), if_pos (by omega)]
                have h := hJ4 (tg out ++ tl text) rfl (fun h => c5 h.1)
                have e3 : tl text = [(text, false)] := by unfold tl; rw [if_neg c5]
                rw [e3] at h
                unfold fst_ snd_ at h ⊢
                rw [List.map_append, List.map_append] at h
                exact h
            · have c4' : nameB (s.extract (i + 1) (we1 s (i + 1))) = false := by simpa using c4
              rw [c4']
              exact hText (by unfold holeAt; rw [if_neg (fun h => c4 h.2.2)]) _
          · rw [if_neg c3]
            exact hText (by unfold holeAt; rw [if_neg (fun h => c3 h.2.1)]) _
        · rw [if_pos (by omega)]
          exact hText (by unfold holeAt; rw [if_neg (fun h => by have h2 := h.2.1; rw [bt_out s _ (by omega)] at h2; cases h2)]) _
      · rw [if_neg c1]
        simp only [spec_l22Form.j2]
        rw [if_pos (by omega), if_pos (by omega), if_neg c1]
        exact hText (by unfold holeAt; rw [if_neg (fun h => c1 h.1)]) _
    · simp only [spec_l22Form.l0, fm]
      rw [if_neg (by omega), if_neg c0]
      unfold fmS tl
      by_cases c5 : text.size = 0
      · rw [if_pos (toList_nil.2 c5)]
        simp only [if_pos c5, List.append_nil]
        congr 3
        rw [decide_eq_decide]; omega
      · rw [if_neg (fun h => c5 (toList_nil.1 h)), if_pos (by omega), if_pos (by omega)]
        simp only [if_neg c5, fst_, snd_, List.map_append, List.map_cons, List.map_nil]
        congr 3
        rw [decide_eq_decide]; omega
/-- The holes of a form, and the text behind the last; none where it is no form. -/
def form (s : ByteArray) : Option (List S108 × ByteArray) := if 0 < s.size ∧ s.size ≤ 100 ∧ printedB s = true then fm s (s.size + 9) 0 [] ⟨#[]⟩ else none
theorem impl_form (s : ByteArray) (hs : s.size ≤ 2000000) : impl_formOf.f s = some (fmI (form s)) := by
  unfold impl_formOf.f form
  by_cases c0 : s.size = 0
  · rw [if_pos (toList_nil.2 c0), if_neg (by omega)]
    rfl
  · rw [if_neg (fun h => c0 (toList_nil.1 h)), impl_print s 100 _ (by omega) (by omega), Option.bind_some]
    by_cases c1 : s.size ≤ 100
    · by_cases c2 : printedB s = true
      · rw [if_pos (by simp [c2]; omega), if_pos (by omega), if_pos ⟨by omega, c1, c2⟩]
        exact impl_form_l s (by omega) _ 0 [] ⟨#[]⟩ (by omega) (by omega) (by simp) (by show 0 ≤ _; omega)
      · rw [if_neg (by simp [c2]), if_neg (fun h => c2 h.2.2)]
        rfl
    · rw [if_neg (by simp; omega), if_neg (fun h => c1 h.2.1)]
      rfl
theorem spec_form (s : ByteArray) (hs : s.size ≤ 2000000) (k : Nat) (hk : 4000000 ≤ k) : spec_l22Form.f k s = some (fmS (form s)) := by
  obtain ⟨k, rfl⟩ : ∃ m, k = m + 1 := ⟨k - 1, by omega⟩
  unfold spec_l22Form.f form
  by_cases c0 : s.size = 0
  · rw [if_pos (by omega), if_neg (by omega)]
    simp only [spec_l22Form.j0]
    rfl
  · rw [if_neg (by omega)]
    unfold spec_l22Text.f
    by_cases c1 : s.size ≤ 100
    · rw [if_pos (by omega), spec_print s _ (by omega) (by omega), Option.bind_some, Option.bind_some]
      simp only [spec_l22Form.j0]
      by_cases c2 : printedB s = true
      · rw [if_neg (by simp [c2]), if_pos ⟨by omega, c1, c2⟩]
        exact spec_form_l s (by omega) (s.size + 9) 0 [] ⟨#[]⟩ k (by omega) (by omega) (by simp) (by show 0 ≤ _; omega) (by omega)
      · rw [if_pos (by simp [c2]), if_neg (fun h => c2 h.2.2)]
        rfl
    · rw [if_neg (by omega), Option.bind_some, if_neg (fun h => c1 h.2.1)]
      simp only [spec_l22Form.j0]
      rfl
end Go.Proofs.Ytllllfbnbndegaa.L
