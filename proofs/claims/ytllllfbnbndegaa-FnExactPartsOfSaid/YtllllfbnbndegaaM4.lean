/- Plain laws on the parts of a text by a form: the reference; the law. -/
import Derived.Test.YtllllfbnbndegaaM3
namespace Go.Proofs.Ytllllfbnbndegaa.L
open Go.RowKit Go.Proofs.Ytllllfbnbndegaa.Q Go.Proofs.YtllllfbnbndegaaW.PrintWords Go.Proofs.YtllllfbnbndegaaW.PrintLast
open Go.Proofs.YtllllfbnbndegaaU
set_option linter.unusedVariables false

/-- The parts from a hole on. -/
def pX : List S108 → ByteArray → List (ByteArray × Bool)
  | [], _ => []
  | h :: r, t => (h.f1, true) :: (tl (hd r t) ++ pX r t)
theorem tg_cons (h : S108) (r : List S108) : tg (h :: r) = tl h.f0 ++ (h.f1, true) :: tg r := by
  unfold tg tl
  rw [List.flatMap_cons]
  simp
theorem tg_pX : ∀ (out : List S108) (t : ByteArray), tg out ++ tl t = tl (hd out t) ++ pX out t
  | [], t => by simp [tg, pX, hd]
  | h :: r, t => by
    show _ = tl h.f0 ++ (h.f1, true) :: (tl (hd r t) ++ pX r t)
    rw [tg_cons, List.append_assoc, List.cons_append, tg_pX r t]
theorem pX_length : ∀ (out : List S108) (t : ByteArray), (pX out t).length ≤ 2 * out.length
  | [], t => by simp [pX]
  | h :: r, t => by
    have h1 := pX_length r t
    have h2 := tl_length (hd r t)
    simp only [pX, List.length_cons, List.length_append]
    omega
theorem head_at (s t : ByteArray) (a : Nat) (h1 : a + t.size ≤ s.size) (h2 : s.extract a (a + t.size) = t) : spec_l2Head.f (s.extract a s.size) t = some true := by
  rw [head_fr]
  unfold fr
  rw [sub_ext s a _ h1, h2]
  simp
theorem spec_parts_l (s : ByteArray) (hs : s.size ≤ 1000) (t : ByteArray) (ht : t.size ≤ 1000) (L : List (ByteArray × Bool)) (hL : L.length ≤ 5000) : ∀ (suf : List S108) (pre : List (ByteArray × Bool)) (a : Nat) (acc : List S62) (k : Nat), L = pre ++ pX suf t → a ≤ s.size → 10 * suf.length + 10000 ≤ k →
    suf.Pairwise (fun x y => x.f1 ≠ y.f1) → (∀ h ∈ suf, h.f1.size ≤ 40 ∧ h.f0.size ≤ 1000) → (∀ h ∈ suf.tail, 0 < h.f0.size) → acc.length + suf.length ≤ 400 → (∀ y ∈ acc, y.f0.size ≤ 40 ∧ ∀ h ∈ suf, y.f0 ≠ h.f1) →
    spec_l22Parts.l0 k s (fst_ L) (snd_ L) acc (a : Int) (fst_ L) ((fst_ L).length : Int) (pre.length : Int) = some (spR s acc (pm s (nx suf t) a)) := by
  have hf : (fst_ L).length = L.length := by simp [fst_]
  have hg : (snd_ L).length = L.length := by simp [snd_]
  intro suf
  induction suf with
  | nil =>
    intro pre a acc k h1 h2 h3 h4 h5 h6 h7 h8
    obtain ⟨k, rfl⟩ : ∃ m, k = m + 1 := ⟨k - 1, by omega⟩
    simp only [pX, List.append_nil] at h1
    subst h1
    simp only [spec_l22Parts.l0, nx, pm]
    rw [if_neg (by omega)]
    show some (acc, (a : Int) == (s.size : Int)) = some (acc, decide (a = s.size))
    congr 2
    rw [Bool.eq_iff_iff, beq_iff_eq, decide_eq_true_iff]
    omega
  | cons h r ih =>
    intro pre a acc k h1 h2 h3 h4 h5 h6 h7 h8
    simp only [List.length_cons] at h3 h7
    obtain ⟨k, rfl⟩ : ∃ m, k = m + 3 := ⟨k - 3, by omega⟩
    obtain ⟨d1, d2⟩ := List.pairwise_cons.1 h4
    have hh := h5 h List.mem_cons_self
    have hhd : (hd r t).size ≤ 1000 := by
      cases r with
      | nil => exact ht
      | cons h2' r' => exact (h5 h2' (by simp)).2
    simp only [pX] at h1
    have hlen : pre.length + 1 + (tl (hd r t) ++ pX r t).length = L.length := by rw [h1]; simp; omega
    have e1 : rdOf false (snd_ L) (pre.length : Int) = true := by rw [h1]; exact rd_snd pre _ (h.f1, true)
    have e2 : rdOf ByteArray.empty (fst_ L) (pre.length : Int) = h.f1 := by rw [h1]; exact rd_fst pre _ (h.f1, true)
    -- what follows a value
    have hW : ∀ v : ByteArray, valueB v = true → ∀ kk, 5000 ≤ kk → spec_l2With.f kk acc h.f1 v = some (ins ⟨h.f1, v⟩ acc) := by
      intro v hv kk hk
      refine with_new acc h.f1 v (by omega) (fun y hy => ⟨(h8 y hy).2 h List.mem_cons_self, by have := (h8 y hy).1; omega⟩) (by omega) ?_ kk (by omega)
      unfold valueB at hv
      simp only [Bool.and_eq_true, decide_eq_true_iff] at hv
      exact hv.1.1
    have hN : ∀ v : ByteArray, ∀ y ∈ ins (⟨h.f1, v⟩ : S62) acc, y.f0.size ≤ 40 ∧ ∀ h' ∈ r, y.f0 ≠ h'.f1 := by
      intro v y hy
      rcases List.mem_cons.1 ((ins_perm _ _).mem_iff.1 hy) with rfl | hy
      · exact ⟨hh.1, fun h' hh' => d1 h' hh'⟩
      · exact ⟨(h8 y hy).1, fun h' hh' => (h8 y hy).2 h' (List.mem_cons_of_mem _ hh')⟩
    have hln : ∀ v : ByteArray, (ins (⟨h.f1, v⟩ : S62) acc).length = acc.length + 1 := fun v => by rw [(ins_perm _ _).length_eq]; simp
    have h6' : ∀ h' ∈ r.tail, 0 < h'.f0.size := fun h' hh' => h6 h' (by rw [List.tail_cons]; exact List.mem_of_mem_tail hh')
    simp only [spec_l22Parts.l0, nx, pm]
    rw [wrap_in (i := (pre.length : Int) + 1) (by omega) (by omega), e1, e2]
    rw [if_pos (by omega), if_pos (by omega), if_pos (by omega), if_pos (by omega), if_pos rfl]
    by_cases c0 : (hd r t).size = 0
    · -- the last hole, nothing behind it
      have hr : r = [] := by
        cases r with
        | nil => rfl
        | cons h2' r' => have := h6 h2' (by simp); simp only [hd] at c0; omega
      subst hr
      have htl : tl (hd [] t) = [] := by unfold tl; rw [if_pos c0]
      rw [htl] at hlen h1
      simp only [pX, List.append_nil, List.length_nil] at hlen
      rw [if_neg (by omega), if_pos c0]
      simp only [spec_l22Parts.j1]
      rw [if_neg (by omega), if_pos (by omega), if_pos (by omega), if_pos (by omega), Int.toNat_natCast, Int.toNat_natCast, wrap_in (i := (pre.length : Int) + 1) (by omega) (by omega)]
      rw [spec_value _ (k + 1) (by rw [ByteArray.size_extract]; omega) (by rw [ByteArray.size_extract]; omega), Option.bind_some]
      by_cases c1 : valueB (s.extract a s.size) = true
      · have hIH := ih (pre ++ [(h.f1, true)]) s.size (ins ⟨h.f1, s.extract a s.size⟩ acc) (k + 1) (by rw [h1]; simp [pX]) (Nat.le_refl _) (by simp at h3 ⊢; omega) List.Pairwise.nil (by simp) (by simp) (by rw [hln]; simp at h7 ⊢; omega) (hN _)
        rw [show ((pre ++ [(h.f1, true)]).length : Int) = (pre.length : Int) + 1 by simp] at hIH
        rw [if_pos c1, if_pos c1, hW _ c1 (k + 1) (by omega), Option.bind_some, hIH]
        rfl
      · rw [if_neg c1, if_neg c1]
        rfl
    · have htl : tl (hd r t) = [(hd r t, false)] := by unfold tl; rw [if_neg c0]
      rw [htl] at hlen h1
      simp only [List.length_append, List.length_cons, List.length_nil] at hlen
      have e3 : rdOf ByteArray.empty (fst_ L) ((pre.length : Int) + 1) = hd r t := by
        have e := rd_fst (pre ++ [(h.f1, true)]) (pX r t) (hd r t, false)
        rw [show ((pre ++ [(h.f1, true)]).length : Int) = (pre.length : Int) + 1 by simp] at e
        rw [h1]
        simp only [List.append_assoc, List.cons_append, List.nil_append] at e ⊢
        exact e
      have e4 : rdOf false (snd_ L) ((pre.length : Int) + 1) = false := by
        have e := rd_snd (pre ++ [(h.f1, true)]) (pX r t) (hd r t, false)
        rw [show ((pre ++ [(h.f1, true)]).length : Int) = (pre.length : Int) + 1 by simp] at e
        rw [h1]
        simp only [List.append_assoc, List.cons_append, List.nil_append] at e ⊢
        exact e
      rw [if_pos (by omega), if_pos (by omega), e3, find_ok s (hd r t) (by omega) (by omega) (by omega) a h2 (k + 2) (by omega), Option.bind_some, if_neg c0]
      by_cases c1 : fnd s (hd r t) a < 0
      · rw [if_pos c1, if_pos c1]
        simp only [spec_l22Parts.j1]
        rw [if_pos (by omega)]
        rfl
      · obtain ⟨f1, f2⟩ := fnd_le s (hd r t) (by omega) a h2 c1
        rw [if_neg c1, if_neg c1]
        generalize hn' : (fnd s (hd r t) a).toNat = n at *
        have hn : fnd s (hd r t) a + (a : Int) = ((a + n : Nat) : Int) := by omega
        rw [hn]
        simp only [spec_l22Parts.j1]
        rw [if_neg (by omega), if_pos (by omega), if_pos (by omega), if_pos (by omega), Int.toNat_natCast, Int.toNat_natCast, wrap_in (i := (pre.length : Int) + 1) (by omega) (by omega)]
        rw [spec_value _ (k + 1) (by rw [ByteArray.size_extract]; omega) (by rw [ByteArray.size_extract]; omega), Option.bind_some]
        by_cases c2 : valueB (s.extract a (a + n)) = true
        · have hIH := ih (pre ++ [(h.f1, true)] ++ [(hd r t, false)]) (a + n + (hd r t).size) (ins ⟨h.f1, s.extract a (a + n)⟩ acc) k (by rw [h1]; simp) f1 (by omega) d2 (fun x hx => h5 x (List.mem_cons_of_mem _ hx)) h6' (by rw [hln]; omega) (hN _)
          rw [show ((pre ++ [(h.f1, true)] ++ [(hd r t, false)]).length : Int) = (pre.length : Int) + 1 + 1 by simp; omega] at hIH
          rw [if_pos c2, if_pos c2, hW _ c2 (k + 1) (by omega), Option.bind_some]
          simp only [spec_l22Parts.l0]
          rw [if_pos (by omega), if_pos (by omega), if_pos (by omega), if_pos (by omega), e4, e3, if_neg (by simp), if_pos (by omega), if_pos (by omega), Int.toNat_natCast, head_at s (hd r t) (a + n) f1 f2, Option.bind_some, if_pos rfl]
          rw [wrap_in (i := ((a + n : Nat) : Int) + ((hd r t).size : Int)) (by omega) (by omega), wrap_in (i := (pre.length : Int) + 1 + 1) (by omega) (by omega), show ((a + n : Nat) : Int) + ((hd r t).size : Int) = ((a + n + (hd r t).size : Nat) : Int) by omega, hIH]
          cases pm s (nx r t) (a + n + (hd r t).size) with
          | none => rfl
          | some b => rfl
        · rw [if_neg c2, if_neg c2]
          rfl
theorem pm_names (s : ByteArray) (t : ByteArray) : ∀ (suf : List S108) (a : Nat) (b : List S62 × Nat), pm s (nx suf t) a = some b → b.1.map (fun x => x.f0) = suf.map (fun h => h.f1) := by
  intro suf
  induction suf with
  | nil => intro a b h; simp only [nx, pm] at h; injection h with h; subst h; rfl
  | cons h r ih =>
    intro a b hb
    simp only [nx, pm] at hb
    have hgo : ∀ (x : S62) (a' : Nat), x.f0 = h.f1 → (pm s (nx r t) a').map (fun b => (x :: b.1, b.2)) = some b → b.1.map (fun x => x.f0) = (h :: r).map (fun h => h.f1) := by
      intro x a' hx hm
      cases e : pm s (nx r t) a' with
      | none => rw [e] at hm; cases hm
      | some c =>
        rw [e] at hm
        injection hm with hm
        subst hm
        simp only [List.map_cons, hx, ih a' c e]
    split at hb
    · split at hb
      · exact hgo _ _ rfl hb
      · cases hb
    · split at hb
      · cases hb
      · split at hb
        · exact hgo _ _ rfl hb
        · cases hb
theorem fold_ins : ∀ (l acc : List S62), (l.foldl (fun l x => ins x l) acc).Perm (acc ++ l)
  | [], acc => by simp
  | x :: r, acc => by
    refine (fold_ins r (ins x acc)).trans ?_
    refine ((ins_perm x acc).append_right r).trans ?_
    exact (List.perm_middle (l₁ := acc) (a := x) (l₂ := r)).symm
theorem fold_sorted : ∀ (l acc : List S62), l.Pairwise (fun x y => x.f0 ≠ y.f0) → (∀ x ∈ l, ∀ y ∈ acc, y.f0 ≠ x.f0) → acc.Pairwise lt2 → (l.foldl (fun l x => ins x l) acc).Pairwise lt2
  | [], _, _, _, h => h
  | x :: r, acc, hd_, hn, h => by
    obtain ⟨d1, d2⟩ := List.pairwise_cons.1 hd_
    refine fold_sorted r _ d2 (fun z hz y hy => ?_) (ins_sorted x acc (hn x List.mem_cons_self) h)
    rcases List.mem_cons.1 ((ins_perm _ _).mem_iff.1 hy) with rfl | hy
    · exact d1 z hz
    · exact hn z (List.mem_cons_of_mem _ hz) y hy
theorem same_end {s t : ByteArray} {out : List S108} {a : Nat} {b : List S62 × Nat} (hd_ : out.Pairwise fun x y => x.f1 ≠ y.f1) (h : pm s (nx out t) a = some b) : sortLabs b.1 = b.1.foldl (fun l x => ins x l) [] := by
  have hn := pm_names s t out a b h
  have hp : b.1.Pairwise fun x y => x.f0 ≠ y.f0 := by
    have h1 : (b.1.map fun x => x.f0).Pairwise (fun x y => x ≠ y) := by
      rw [hn]
      exact List.pairwise_map.2 hd_
    exact List.pairwise_map.1 h1
  refine sort_lab ?_ (fold_sorted b.1 [] hp (by simp) List.Pairwise.nil)
  have := fold_ins b.1 []
  rw [List.nil_append] at this
  exact this.symm
/-- What the parts of a text are. -/
def pt (s : ByteArray) (b : List S108 × ByteArray) : Option (List S62 × Nat) := if fr s (hd b.1 b.2) = true then pm s (nx b.1 b.2) (hd b.1 b.2).size else none
def told (f s : ByteArray) : List S62 × Bool :=
  match form f with
  | some b => if 0 < b.1.length ∧ s.size ≤ 500 ∧ printedB s = true then (match pt s b with
      | some c => if c.2 = s.size then (sortLabs c.1, true) else ([], false)
      | none => ([], false)) else ([], false)
  | none => ([], false)
end Go.Proofs.Ytllllfbnbndegaa.L
