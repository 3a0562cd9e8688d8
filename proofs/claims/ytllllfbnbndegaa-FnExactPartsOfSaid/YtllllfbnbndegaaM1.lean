/- Plain laws on forms: the two programs read the same holes. -/
import Derived.Test.YtllllfbnbndegaaM0
namespace Go.Proofs.Ytllllfbnbndegaa.L
open Go.RowKit Go.Proofs.Ytllllfbnbndegaa.Q Go.Proofs.YtllllfbnbndegaaW.PrintWords Go.Proofs.YtllllfbnbndegaaW.PrintLast
set_option linter.unusedVariables false

theorem bt_drop (s : ByteArray) (a j : Nat) : bt (s.extract a s.size) (j : Int) = bt s ((a + j : Nat) : Int) := by
  by_cases h : a + j < s.size
  · have hz := ext_size s (a := a) (Nat.le_refl s.size)
    rw [bt_get s (a + j) h, bt_get _ j (by omega)]
    congr 2
    simp [ByteArray.getElem_extract]
  · rw [bt_out s _ (by omega), bt_out _ _ (by rw [ByteArray.size_extract]; omega)]
theorem weF_drop (s : ByteArray) (a : Nat) : ∀ d j, a + weF (s.extract a s.size) d j = weF s d (a + j) := by
  intro d
  induction d with
  | zero => intro j; simp [weF]
  | succ d ih =>
    intro j
    simp only [weF]
    rw [bt_drop]
    split
    · rw [ih (j + 1)]; rfl
    · rfl
/-- The end of the word that begins at a. -/
def we1 (s : ByteArray) (a : Nat) : Nat := weF s (s.size - a) a
theorem we1_ge (s : ByteArray) (a : Nat) (h : a ≤ s.size) : a ≤ we1 s a ∧ we1 s a ≤ s.size := by
  have := weF_ge s (s.size - a) a
  unfold we1; omega
theorem wordOf_l (x : ByteArray) (hs : x.size ≤ 1000000) : ∀ d k (i : Nat), x.size - i = d → i ≤ x.size → d < k → impl_wordOf.l0 k x (i : Int) = some (x.extract 0 (weF x d i), x.extract (weF x d i) x.size) := by
  intro d
  induction d with
  | zero =>
    intro k i hd hi hk
    obtain ⟨k, rfl⟩ : ∃ m, k = m + 1 := ⟨k - 1, by omega⟩
    simp only [impl_wordOf.l0, weF]
    rw [if_neg (by omega), if_pos (by omega), if_pos (by omega), Int.toNat_natCast]
  | succ d ih =>
    intro k i hd hi hk
    obtain ⟨k, rfl⟩ : ∃ m, k = m + 1 := ⟨k - 1, by omega⟩
    simp only [impl_wordOf.l0, weF]
    rw [if_pos (by omega), if_pos (by omega), impl_word, Option.bind_some, wrap_in (by omega) (by omega)]
    by_cases c : wordB (bt x (i : Int)) = true
    · rw [if_pos c, if_pos c]
      exact ih k (i + 1) (by omega) (by omega) (by omega)
    · rw [if_neg c, if_neg c, if_pos (by omega), Int.toNat_natCast]
theorem wordOf_ok (s : ByteArray) (hs : s.size ≤ 1000000) (a : Nat) (ha : a ≤ s.size) (k : Nat) (hk : s.size + 3 ≤ k) : impl_wordOf.f k (s.extract a s.size) = some (s.extract a (we1 s a), s.extract (we1 s a) s.size) := by
  unfold impl_wordOf.f
  have hz := ext_size s (a := a) (Nat.le_refl s.size)
  have h := wordOf_l (s.extract a s.size) (by omega) _ k 0 rfl (by omega) (by omega)
  rw [show ((0 : Nat) : Int) = 0 from rfl] at h
  rw [h, hz]
  have h2 := weF_drop s a (s.size - a - 0) 0
  have hg := we1_ge s a ha
  unfold we1 at hg ⊢
  rw [Nat.add_zero, Nat.sub_zero] at h2
  rw [Nat.sub_zero] at *
  rw [ByteArray.extract_extract, ByteArray.extract_extract, h2, Nat.min_eq_left hg.2, Nat.add_zero, show min (a + (s.size - a)) s.size = s.size by omega]

/-- The end of the hole that begins at i. -/
def holeAt (s : ByteArray) (i : Nat) : Option Nat :=
  if bt s (i : Int) = 60 ∧ bt s ((we1 s (i + 1) : Nat) : Int) = 62 ∧ nameB (s.extract (i + 1) (we1 s (i + 1))) = true then some (we1 s (i + 1)) else none
theorem holeAt_lt {s : ByteArray} {i e : Nat} (hi : i < s.size) (h : holeAt s i = some e) : i + 1 ≤ e ∧ e < s.size ∧ nameB (s.extract (i + 1) e) = true := by
  unfold holeAt at h
  split at h
  · rename_i hc
    injection h with h
    subst h
    have hg := we1_ge s (i + 1) (by omega)
    refine ⟨hg.1, ?_, hc.2.2⟩
    rcases Nat.lt_or_ge (we1 s (i + 1)) s.size with h | h
    · exact h
    · have := hc.2.1
      rw [bt_out s _ (by omega)] at this
      cases this
  · cases h
/-- The holes, and the text behind the last. -/
def fm (s : ByteArray) : Nat → Nat → List S108 → ByteArray → Option (List S108 × ByteArray)
  | 0, _, _, _ => none
  | d + 1, i, out, text => if i < s.size then (match holeAt s i with
      | some e => if hasHole out (s.extract (i + 1) e) = true ∨ (text.size = 0 ∧ 0 < out.length) then none else fm s d (e + 1) (out ++ [⟨text, s.extract (i + 1) e⟩]) ⟨#[]⟩
      | none => fm s d (i + 1) out (text ++ s.extract i (i + 1)))
    else some (out, text)
def fmI : Option (List S108 × ByteArray) → List S108 × Bool
  | some b => (b.1 ++ [⟨b.2, ⟨#[]⟩⟩], decide (0 < b.1.length))
  | none => ([], false)
theorem fm_hole {s : ByteArray} {d i e : Nat} {out : List S108} {text : ByteArray} (hi : i < s.size) (h : holeAt s i = some e) : fm s (d + 1) i out text = if hasHole out (s.extract (i + 1) e) = true ∨ (text.size = 0 ∧ 0 < out.length) then none else fm s d (e + 1) (out ++ [⟨text, s.extract (i + 1) e⟩]) ⟨#[]⟩ := by
  simp only [fm]
  rw [if_pos hi, h]
theorem fm_text {s : ByteArray} {d i : Nat} {out : List S108} {text : ByteArray} (hi : i < s.size) (h : holeAt s i = none) : fm s (d + 1) i out text = fm s d (i + 1) out (text ++ s.extract i (i + 1)) := by
  simp only [fm]
  rw [if_pos hi, h]
theorem impl_form_l (s : ByteArray) (hs : s.size ≤ 1000) : ∀ d i out text, i ≤ s.size → s.size < i + d → out.length ≤ i → text.size ≤ i → formL s d i out text = some (fmI (fm s d i out text)) := by
  intro d
  induction d with
  | zero => intro i out text h1 h2 h3 h4; omega
  | succ d ih =>
    intro i out text h1 h2 h3 h4
    by_cases c0 : i < s.size
    · have hT : holeAt s i = none → formL s d (i + 1) out (text ++ s.extract i (i + 1)) = some (fmI (fm s (d + 1) i out text)) := by
        intro h
        rw [fm_text c0 h]
        exact ih (i + 1) out _ (by omega) (by omega) (by omega) (by rw [ByteArray.size_append, ByteArray.size_extract]; omega)
      unfold formL
      rw [if_pos c0, if_pos ⟨by omega, by omega⟩]
      by_cases c1 : bt s (i : Int) = 60
      · rw [if_pos c1, wordOf_ok s (by omega) (i + 1) (by omega) _ (by omega), Option.bind_some]
        have hg := we1_ge s (i + 1) (by omega)
        have hz := ext_size s (a := i + 1) hg.2
        rw [if_pos (show (s.extract (i + 1) (we1 s (i + 1))).size ≤ 100000 by omega)]
        dsimp only
        rw [impl_name _ _ (by omega), Option.bind_some]
        by_cases c2 : nameB (s.extract (i + 1) (we1 s (i + 1))) = true
        · rw [if_pos c2, hasPrefix_fr, Option.bind_some, fr_byte _ 62 (by decide), show (0 : Int) = ((0 : Nat) : Int) from rfl, bt_drop, Nat.add_zero, show ((62 : UInt8).toNat : Int) = 62 from rfl]
          by_cases c3 : bt s ((we1 s (i + 1) : Nat) : Int) = 62
          · have hh : holeAt s i = some (we1 s (i + 1)) := by unfold holeAt; rw [if_pos ⟨c1, c3, c2⟩]
            obtain ⟨g1, g2, g3⟩ := holeAt_lt c0 hh
            rw [if_pos (decide_eq_true c3), fm_hole c0 hh]
            have hgo : formL s d (i + (s.extract (i + 1) (we1 s (i + 1))).size + 2) (out ++ [⟨text, s.extract (i + 1) (we1 s (i + 1))⟩]) ⟨#[]⟩ = some (fmI (fm s d (we1 s (i + 1) + 1) (out ++ [⟨text, s.extract (i + 1) (we1 s (i + 1))⟩]) ⟨#[]⟩)) := by
              rw [show i + (s.extract (i + 1) (we1 s (i + 1))).size + 2 = we1 s (i + 1) + 1 by omega]
              exact ih (we1 s (i + 1) + 1) _ _ (by omega) (by omega) (by simp; omega) (by show 0 ≤ _; omega)
            by_cases c4 : hasHole out (s.extract (i + 1) (we1 s (i + 1))) = true
            · rw [if_pos c4, if_pos (Or.inl c4)]
              rfl
            · rw [if_neg c4]
              by_cases c5 : text.size = 0
              · rw [if_pos (toList_nil.2 c5)]
                by_cases c6 : 0 < out.length
                · rw [if_pos c6, if_pos (Or.inr ⟨c5, c6⟩)]
                  rfl
                · rw [if_neg c6, if_neg (by rintro (h | h); exact c4 h; exact c6 h.2)]
                  exact hgo
              · rw [if_neg (fun h => c5 (toList_nil.1 h)), if_neg (by rintro (h | h); exact c4 h; exact c5 h.1)]
                exact hgo
          · rw [if_neg (by simpa using c3)]
            exact hT (by unfold holeAt; rw [if_neg (fun h => c3 h.2.1)])
        · rw [if_neg c2]
          exact hT (by unfold holeAt; rw [if_neg (fun h => c2 h.2.2)])
      · rw [if_neg c1]
        exact hT (by unfold holeAt; rw [if_neg (fun h => c1 h.1)])
    · unfold formL
      rw [if_neg c0, if_pos (by omega)]
      simp only [fm]
      rw [if_neg c0]
      rfl

/-- The parts of a form as the reference keeps them: texts, and holes' names. -/
def tg (out : List S108) : List (ByteArray × Bool) := out.flatMap fun h => (if h.f0.size = 0 then [] else [(h.f0, false)]) ++ [(h.f1, true)]
def tl (text : ByteArray) : List (ByteArray × Bool) := if text.size = 0 then [] else [(text, false)]
theorem tg_snoc (out : List S108) (text n : ByteArray) : tg (out ++ [⟨text, n⟩]) = tg out ++ tl text ++ [(n, true)] := by
  unfold tg tl
  rw [List.flatMap_append]
  simp
theorem tg_any (out : List S108) (n : ByteArray) : (tg out).any (fun x => x.2 && decide (x.1 = n)) = hasHole out n := by
  unfold tg hasHole
  induction out with
  | nil => rfl
  | cons h r ih =>
    rw [List.flatMap_cons, List.any_append, ih, List.any_cons]
    congr 1
    split <;> simp
theorem tl_any (text n : ByteArray) : (tl text).any (fun x => x.2 && decide (x.1 = n)) = false := by
  unfold tl
  split <;> simp
theorem tg_length (out : List S108) : out.length ≤ (tg out).length ∧ (tg out).length ≤ 2 * out.length := by
  unfold tg
  induction out with
  | nil => exact ⟨Nat.le_refl _, Nat.le_refl _⟩
  | cons h r ih =>
    rw [List.flatMap_cons, List.length_append, List.length_cons]
    generalize (List.flatMap _ r).length = z at ih ⊢
    have h1 : 1 ≤ ((if h.f0.size = 0 then [] else [(h.f0, false)]) ++ [(h.f1, true)]).length ∧ ((if h.f0.size = 0 then [] else [(h.f0, false)]) ++ [(h.f1, true)]).length ≤ 2 := by
      split <;> simp
    omega
theorem tl_length (text : ByteArray) : (tl text).length ≤ 1 := by
  unfold tl
  split <;> simp
end Go.Proofs.Ytllllfbnbndegaa.L
