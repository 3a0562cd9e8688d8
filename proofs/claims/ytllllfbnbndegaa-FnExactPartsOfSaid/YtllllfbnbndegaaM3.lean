/- Plain laws on the parts of a text by a form: the two programs tell the same. -/
import Derived.Test.YtllllfbnbndegaaM2
namespace Go.Proofs.Ytllllfbnbndegaa.L
open Go.RowKit Go.Proofs.Ytllllfbnbndegaa.Q Go.Proofs.YtllllfbnbndegaaW.PrintWords Go.Proofs.YtllllfbnbndegaaW.PrintLast
open Go.Proofs.YtllllfbnbndegaaU
set_option linter.unusedVariables false

/-- What holds of the holes that were read. -/
structure FmInv (out : List S108) (text : ByteArray) (i : Nat) : Prop where
  diff : out.Pairwise fun x y => x.f1 ≠ y.f1
  each : ∀ h ∈ out, h.f1.size ≤ 40 ∧ h.f0.size ≤ 1000
  mid : ∀ h ∈ out.tail, 0 < h.f0.size
  len : out.length ≤ i
  size : text.size ≤ i
theorem hasHole_false {l : List S108} {n : ByteArray} : hasHole l n = false ↔ ∀ y ∈ l, y.f1 ≠ n := by
  unfold hasHole
  rw [List.any_eq_false]
  simp
theorem fm_inv (s : ByteArray) (hs : s.size ≤ 1000) : ∀ d i out text b, i ≤ s.size → FmInv out text i → fm s d i out text = some b → FmInv b.1 b.2 1000 := by
  intro d
  induction d with
  | zero => intro i out text b hi h hf; cases hf
  | succ d ih =>
    intro i out text b hi h hf
    by_cases c0 : i < s.size
    · cases hh : holeAt s i with
      | none =>
        rw [fm_text c0 hh] at hf
        have h1 := h.len
        have h2 := h.size
        exact ih (i + 1) out _ b (by omega) ⟨h.diff, h.each, h.mid, by omega, by rw [ByteArray.size_append, ByteArray.size_extract]; omega⟩ hf
      | some e =>
        rw [fm_hole c0 hh] at hf
        obtain ⟨g1, g2, g3⟩ := holeAt_lt c0 hh
        by_cases c1 : hasHole out (s.extract (i + 1) e) = true ∨ (text.size = 0 ∧ 0 < out.length)
        · rw [if_pos c1] at hf; cases hf
        · rw [if_neg c1] at hf
          have h1 := h.len
          have h2 := h.size
          have hn : ∀ y ∈ out, y.f1 ≠ s.extract (i + 1) e := hasHole_false.1 (by cases hx : hasHole out (s.extract (i + 1) e) with | false => rfl | true => exact absurd (Or.inl hx) c1)
          have hnz : (s.extract (i + 1) e).size ≤ 40 := by
            unfold nameB at g3
            simp only [Bool.and_eq_true, decide_eq_true_iff] at g3
            exact g3.1.1.2
          refine ih (e + 1) _ _ b (by omega) ⟨?_, ?_, ?_, by simp; omega, by show 0 ≤ _; omega⟩ hf
          · rw [List.pairwise_append]
            exact ⟨h.diff, by simp, fun x hx y hy => by simp at hy; subst hy; exact hn x hx⟩
          · intro y hy
            rcases List.mem_append.1 hy with hy | hy
            · exact h.each y hy
            · simp at hy; subst hy; exact ⟨hnz, by show text.size ≤ 1000; omega⟩
          · intro y hy
            cases ho : out with
            | nil => rw [ho] at hy; simp at hy
            | cons x r =>
              rw [ho] at hy
              rw [List.cons_append, List.tail_cons] at hy
              rcases List.mem_append.1 hy with hy | hy
              · exact h.mid y (by rw [ho]; exact hy)
              · simp at hy
                subst hy
                show 0 < text.size
                rcases Nat.eq_zero_or_pos text.size with e0 | e0
                · exact absurd (Or.inr ⟨e0, by rw [ho]; simp⟩) c1
                · exact e0
    · simp only [fm] at hf
      rw [if_neg c0] at hf
      injection hf with hf
      subst hf
      exact ⟨h.diff, h.each, h.mid, by have := h.len; show out.length ≤ 1000; omega, by have := h.size; show text.size ≤ 1000; omega⟩
theorem form_inv {s : ByteArray} {b : List S108 × ByteArray} (h : form s = some b) : FmInv b.1 b.2 1000 := by
  unfold form at h
  split at h
  · rename_i hc
    exact fm_inv s (by omega) _ 0 [] ⟨#[]⟩ b (by omega) ⟨List.Pairwise.nil, by simp, by simp, by simp, by show 0 ≤ _; omega⟩ h
  · cases h

theorem fm_len (s : ByteArray) : ∀ d i out text b, i ≤ s.size → out.length ≤ i → fm s d i out text = some b → b.1.length ≤ s.size := by
  intro d
  induction d with
  | zero => intro i out text b hi h hf; cases hf
  | succ d ih =>
    intro i out text b hi h hf
    by_cases c0 : i < s.size
    · cases hh : holeAt s i with
      | none =>
        rw [fm_text c0 hh] at hf
        exact ih (i + 1) out _ b (by omega) (by omega) hf
      | some e =>
        rw [fm_hole c0 hh] at hf
        obtain ⟨g1, g2, g3⟩ := holeAt_lt c0 hh
        split at hf
        · cases hf
        · exact ih (e + 1) _ _ b (by omega) (by simp; omega) hf
    · simp only [fm] at hf
      rw [if_neg c0] at hf
      injection hf with hf
      subst hf
      show out.length ≤ _
      omega
theorem form_len {s : ByteArray} {b : List S108 × ByteArray} (h : form s = some b) : b.1.length ≤ 100 := by
  unfold form at h
  split at h
  · rename_i hc
    have := fm_len s _ 0 [] ⟨#[]⟩ b (by omega) (by simp) h
    omega
  · cases h

/-- The text ahead of a hole. -/
def hd : List S108 → ByteArray → ByteArray
  | [], t => t
  | h :: _, _ => h.f0
def nx : List S108 → ByteArray → List (ByteArray × ByteArray)
  | [], _ => []
  | h :: r, t => (h.f1, hd r t) :: nx r t
/-- What stands at the holes, from a on. -/
def pm (s : ByteArray) : List (ByteArray × ByteArray) → Nat → Option (List S62 × Nat)
  | [], a => some ([], a)
  | (n, t) :: r, a =>
    if t.size = 0 then (if valueB (s.extract a s.size) = true then (pm s r s.size).map fun b => (⟨n, s.extract a s.size⟩ :: b.1, b.2) else none)
    else if fnd s t a < 0 then none
    else if valueB (s.extract a (a + (fnd s t a).toNat)) = true then (pm s r (a + (fnd s t a).toNat + t.size)).map fun b => (⟨n, s.extract a (a + (fnd s t a).toNat)⟩ :: b.1, b.2) else none
def imR (s : ByteArray) (acc : List S62) : Option (List S62 × Nat) → List S62 × Bool
  | some b => (sortLabs (acc ++ b.1), decide (b.2 = s.size))
  | none => ([], false)
def spR (s : ByteArray) (acc : List S62) : Option (List S62 × Nat) → List S62 × Bool
  | some b => (b.1.foldl (fun l x => ins x l) acc, decide (b.2 = s.size))
  | none => ([], false)
theorem rd_hole (pre suf : List S108) (x : S108) : rd_T108 (pre ++ x :: suf) (pre.length : Int) = x := by
  simp [rd_T108, List.getD_eq_getElem?_getD]
theorem rd_next (pre r : List S108) (h : S108) (t : ByteArray) : (rd_T108 (pre ++ h :: r ++ [⟨t, ⟨#[]⟩⟩]) ((pre.length : Int) + 1)).f0 = hd r t := by
  cases r with
  | nil =>
    have e := rd_hole (pre ++ [h]) [] ⟨t, ⟨#[]⟩⟩
    rw [show ((pre ++ [h]).length : Int) = (pre.length : Int) + 1 by simp] at e
    simp only [List.append_assoc, List.cons_append, List.nil_append] at e ⊢
    rw [e]; rfl
  | cons h2 r =>
    have e := rd_hole (pre ++ [h]) (r ++ [⟨t, ⟨#[]⟩⟩]) h2
    rw [show ((pre ++ [h]).length : Int) = (pre.length : Int) + 1 by simp] at e
    simp only [List.append_assoc, List.cons_append, List.nil_append] at e ⊢
    rw [e]; rfl
theorem sub_ext (s : ByteArray) (a n : Nat) (h : a + n ≤ s.size) : (s.extract a s.size).extract 0 n = s.extract a (a + n) := by
  rw [ByteArray.extract_extract, Nat.add_zero, Nat.min_eq_left h]
theorem sub_end (s : ByteArray) (a n : Nat) (h : a ≤ s.size) : (s.extract a s.size).extract n (s.extract a s.size).size = s.extract (a + n) s.size := by
  rw [ext_size s (Nat.le_refl _), ByteArray.extract_extract, show min (a + (s.size - a)) s.size = s.size by omega]
theorem fnd_le (s t : ByteArray) (h0 : 0 < t.size) (a : Nat) (ha : a ≤ s.size) (h : ¬ fnd s t a < 0) : a + (fnd s t a).toNat + t.size ≤ s.size ∧ s.extract (a + (fnd s t a).toNat) (a + (fnd s t a).toNat + t.size) = t :=
  fnd_at s t h0 a (fnd s t a).toNat ha (by omega)
theorem impl_parts_l (s : ByteArray) (hs : s.size ≤ 1000) (out : List S108) (ho : out.length ≤ 1000) (t : ByteArray) : ∀ (suf pre : List S108) (a : Nat) (acc : List S62) (k : Nat), out = pre ++ suf → a ≤ s.size → acc.length = pre.length → suf.length + 2000 ≤ k →
    (∀ h ∈ suf, (hd [h] t).size ≤ 1000) → t.size ≤ 1000 →
    impl_partsOf.l0 k (out ++ [⟨t, ⟨#[]⟩⟩]) (s.extract a s.size) acc out (out.length : Int) (pre.length : Int) = some (imR s acc (pm s (nx suf t) a)) := by
  intro suf
  induction suf with
  | nil =>
    intro pre a acc k h1 h2 h3 h4 h5 h6
    obtain ⟨k, rfl⟩ : ∃ m, k = m + 1 := ⟨k - 1, by omega⟩
    rw [List.append_nil] at h1
    subst h1
    simp only [impl_partsOf.l0, nx, pm]
    rw [if_neg (by omega)]
    unfold slices_SortFunc_Label.f
    rw [if_pos ⟨by omega, rfl⟩, Option.bind_some]
    have hz := ext_size s (a := a) (Nat.le_refl s.size)
    show some (sortLabs acc, (s.extract a s.size).toList == []) = some (sortLabs (acc ++ []), decide (a = s.size))
    rw [List.append_nil]
    congr 2
    rw [Bool.eq_iff_iff, beq_iff_eq, toList_nil, decide_eq_true_iff]
    omega
  | cons h r ih =>
    intro pre a acc k h1 h2 h3 h4 h5 h6
    simp only [List.length_cons] at h4
    obtain ⟨k, rfl⟩ : ∃ m, k = m + 1 := ⟨k - 1, by omega⟩
    have hl : pre.length < out.length := by rw [h1]; simp
    have hhd : (hd r t).size ≤ 1000 := by
      cases r with
      | nil => exact h6
      | cons h2' r' => exact h5 h2' (by simp)
    have e1 : rd_T108 out (pre.length : Int) = h := by rw [h1]; exact rd_hole pre r h
    have e2 : (rd_T108 (out ++ [⟨t, ⟨#[]⟩⟩]) ((pre.length : Int) + 1)).f0 = hd r t := by rw [h1]; exact rd_next pre r h t
    have hIH := fun (a' : Nat) (v : ByteArray) (ha : a' ≤ s.size) => ih (pre ++ [h]) a' (acc ++ [⟨h.f1, v⟩]) k (by rw [h1]; simp) ha (by simp [h3]) (by omega) (fun x hx => h5 x (List.mem_cons_of_mem _ hx)) h6
    rw [show ((pre ++ [h]).length : Int) = (pre.length : Int) + 1 by simp] at hIH
    simp only [impl_partsOf.l0, nx, pm]
    rw [wrap_in (i := (pre.length : Int) + 1) (by omega) (by omega), e1, e2]
    rw [if_pos (by omega), if_pos (by omega), if_pos (by omega), if_pos (by omega), if_pos (by simp; omega)]
    have hz := ext_size s (a := a) (Nat.le_refl s.size)
    by_cases c0 : (hd r t).size = 0
    · rw [if_pos (toList_nil.2 c0), if_pos c0, impl_value _ k (by omega) (by omega), Option.bind_some]
      by_cases c1 : valueB (s.extract a s.size) = true
      · have hE := hIH s.size (s.extract a s.size) (Nat.le_refl _)
        rw [← ext_self s s.size] at hE
        rw [if_pos c1, if_pos c1, if_pos (by omega), hE]
        cases pm s (nx r t) s.size with
        | none => rfl
        | some b => simp [imR]
      · rw [if_neg c1, if_neg c1]
        rfl
    · rw [if_neg (fun h => c0 (toList_nil.1 h)), if_neg c0, index_ok s _ a h2 (by omega), Option.bind_some]
      by_cases c1 : fnd s (hd r t) a < 0
      · rw [if_pos c1, if_pos c1]
        rfl
      · obtain ⟨f1, f2⟩ := fnd_le s (hd r t) (by omega) a h2 c1
        rw [if_neg c1, if_neg c1]
        generalize hN : (fnd s (hd r t) a).toNat = n at *
        have hn : fnd s (hd r t) a = (n : Int) := by omega
        rw [hn, wrap_in (i := (n : Int) + ((hd r t).size : Int)) (by omega) (by omega)]
        rw [if_pos (by omega), if_pos (by omega), if_pos (by omega), if_pos (by omega), show ((n : Int) + ((hd r t).size : Int)).toNat = n + (hd r t).size by omega]
        rw [sub_ext s a n (by omega), sub_end s a _ h2, impl_value _ k (by rw [ByteArray.size_extract]; omega) (by rw [ByteArray.size_extract]; omega), Option.bind_some, ← Nat.add_assoc]
        by_cases c2 : valueB (s.extract a (a + n)) = true
        · rw [if_pos c2, if_pos c2, if_pos (by omega), hIH _ _ f1]
          cases pm s (nx r t) (a + n + (hd r t).size) with
          | none => rfl
          | some b => simp [imR]
        · rw [if_neg c2, if_neg c2]
          rfl
end Go.Proofs.Ytllllfbnbndegaa.L
