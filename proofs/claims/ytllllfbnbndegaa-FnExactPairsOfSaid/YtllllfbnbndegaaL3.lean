/- Plain laws on texts in quotes and on pieces. -/
import Derived.Test.YtllllfbnbndegaaL1
namespace Go.Proofs.Ytllllfbnbndegaa.L
open Go.RowKit Go.Proofs.Ytllllfbnbndegaa.P Go.Proofs.YtllllfbnbndegaaW.PrintWords Go.Proofs.YtllllfbnbndegaaW.PrintLast
set_option linter.unusedVariables false

/-- What is read behind an opening quote: the bytes, and the closing quote's place. -/
def unqF (s : ByteArray) : Nat → Nat → List Int → Option (List Int × Nat)
  | 0, _, _ => none
  | k + 1, i, acc => if i < s.size then (if bt s (i : Int) = 34 then some (acc, i) else if bt s (i : Int) = 92 then
      (if i + 1 = s.size then none else if bt s ((i + 1 : Nat) : Int) = 34 ∨ bt s ((i + 1 : Nat) : Int) = 92 then unqF s k (i + 2) (acc ++ [bt s ((i + 1 : Nat) : Int)]) else none)
      else unqF s k (i + 1) (acc ++ [bt s (i : Int)])) else none
theorem unqF_fuel (s : ByteArray) : ∀ k k' i acc, s.size < i + k → s.size < i + k' → unqF s k i acc = unqF s k' i acc := by
  intro k
  induction k with
  | zero =>
    intro k' i acc h1 h2
    cases k' with
    | zero => rfl
    | succ k' => simp only [unqF]; rw [if_neg (by omega)]
  | succ k ih =>
    intro k' i acc h1 h2
    cases k' with
    | zero => simp only [unqF]; rw [if_neg (by omega)]
    | succ k' =>
      simp only [unqF]
      rw [ih k' (i + 2) _ (by omega) (by omega), ih k' (i + 1) _ (by omega) (by omega)]
theorem unqF_lt (s : ByteArray) : ∀ k i acc b j, unqF s k i acc = some (b, j) → j < s.size := by
  intro k
  induction k with
  | zero => intro i acc b j h; simp [unqF] at h
  | succ k ih =>
    intro i acc b j h
    simp only [unqF] at h
    split at h
    · split at h
      · injection h with h; injection h with h1 h2; omega
      · split at h
        · split at h
          · cases h
          · split at h
            · exact ih _ _ _ _ h
            · cases h
        · exact ih _ _ _ _ h
    · cases h
def unqI (s : ByteArray) : Option (List Int × Nat) → ByteArray × ByteArray × Bool
  | some (b, j) => (strOfNums b, s.extract (j + 1) s.size, true)
  | none => (⟨#[]⟩, ⟨#[]⟩, false)
def unqS : Option (List Int × Nat) → ByteArray × Int
  | some (b, j) => (strOfNums b, (j : Int) + 1)
  | none => (⟨#[]⟩, -1)
theorem impl_unquote_l (s : ByteArray) (hs : s.size ≤ 1000000000) : ∀ k i acc, s.size < i + k → i ≤ s.size → acc.length ≤ i → impl_unquote.l0 k s acc (i : Int) = some (unqI s (unqF s k i acc)) := by
  intro k
  induction k with
  | zero => intro i acc h1 h2; omega
  | succ k ih =>
    intro i acc h1 h2 h3
    simp only [impl_unquote.l0, unqF]
    rw [wrap_in (i := (i : Int) + 1) (by omega) (by omega)]
    by_cases c0 : i < s.size
    · rw [if_pos (by omega), if_pos (by omega), if_pos c0]
      by_cases c1 : bt s (i : Int) = 34
      · rw [if_pos c1, if_pos (by omega), if_pos (by omega), if_pos c1]
        rfl
      · rw [if_neg c1, if_neg c1]
        by_cases c2 : bt s (i : Int) = 92
        · rw [if_pos c2, if_pos c2]
          by_cases c3 : i + 1 = s.size
          · rw [if_pos (by omega), if_pos c3]; rfl
          · rw [if_neg (by omega), if_neg c3, if_pos (by omega), if_pos (by omega)]
            rw [show ((i : Int) + 1) = ((i + 1 : Nat) : Int) from rfl]
            rw [wrap_in (i := ((i + 1 : Nat) : Int) + 1) (by omega) (by omega), show ((i + 1 : Nat) : Int) + 1 = ((i + 2 : Nat) : Int) from rfl]
            by_cases c4 : bt s ((i + 1 : Nat) : Int) = 34
            · rw [if_pos c4, if_pos (by omega), if_pos (Or.inl c4)]
              by_cases c6 : i + 2 ≤ s.size
              · exact ih (i + 2) _ (by omega) c6 (by simp; omega)
              · omega
            · rw [if_neg c4]
              by_cases c5 : bt s ((i + 1 : Nat) : Int) = 92
              · rw [if_pos c5, if_pos (by omega), if_pos (Or.inr c5)]
                exact ih (i + 2) _ (by omega) (by omega) (by simp; omega)
              · rw [if_neg c5, if_neg (by rintro (h | h); exact c4 h; exact c5 h)]; rfl
        · rw [if_neg c2, if_neg c2, if_pos (by omega), show ((i : Int) + 1) = ((i + 1 : Nat) : Int) from rfl]
          exact ih (i + 1) _ (by omega) (by omega) (by simp; omega)
    · rw [if_neg (by omega), if_neg c0]; rfl
theorem spec_unquote_l (s : ByteArray) (hs : s.size ≤ 1000000000) : ∀ k i acc, s.size < i + k → i ≤ s.size → acc.length ≤ i → spec_l2Unquote.l0 k s acc (i : Int) = some (unqS (unqF s k i acc)) := by
  intro k
  induction k with
  | zero => intro i acc h1 h2; omega
  | succ k ih =>
    intro i acc h1 h2 h3
    simp only [spec_l2Unquote.l0, unqF]
    rw [wrap_in (i := (i : Int) + 1) (by omega) (by omega)]
    by_cases c0 : i < s.size
    · rw [if_pos (by omega), if_pos (by omega), if_pos c0]
      by_cases c1 : bt s (i : Int) = 34
      · rw [if_pos c1, if_pos c1]
        rfl
      · rw [if_neg c1, if_neg c1]
        by_cases c2 : bt s (i : Int) = 92
        · rw [if_pos c2, if_pos c2]
          by_cases c3 : i + 1 = s.size
          · rw [if_pos (by omega), if_pos c3]; rfl
          · rw [if_neg (by omega), if_neg c3, if_pos (by omega), if_pos (by omega)]
            rw [show ((i : Int) + 1) = ((i + 1 : Nat) : Int) from rfl]
            rw [wrap_in (i := ((i + 1 : Nat) : Int) + 1) (by omega) (by omega), show ((i + 1 : Nat) : Int) + 1 = ((i + 2 : Nat) : Int) from rfl]
            by_cases c4 : bt s ((i + 1 : Nat) : Int) = 34
            · rw [if_pos c4, if_pos (by omega), if_pos (Or.inl c4)]
              exact ih (i + 2) _ (by omega) (by omega) (by simp; omega)
            · rw [if_neg c4]
              by_cases c5 : bt s ((i + 1 : Nat) : Int) = 92
              · rw [if_pos c5, if_pos (by omega), if_pos (Or.inr c5)]
                exact ih (i + 2) _ (by omega) (by omega) (by simp; omega)
              · rw [if_neg c5, if_neg (by rintro (h | h); exact c4 h; exact c5 h)]; rfl
        · rw [if_neg c2, if_neg c2, if_pos (by omega), show ((i : Int) + 1) = ((i + 1 : Nat) : Int) from rfl]
          exact ih (i + 1) _ (by omega) (by omega) (by simp; omega)
    · rw [if_neg (by omega), if_neg c0]; rfl
/-- What stands in quotes at the front of s. -/
def unq (s : ByteArray) : Option (List Int × Nat) := if bt s 0 = 34 then unqF s (s.size + 1) 1 [] else none
theorem bt_out (s : ByteArray) (i : Int) (h : s.size ≤ i.toNat) : bt s i = 0 := by
  unfold bt
  rw [dif_neg (by omega)]
theorem impl_unq (s : ByteArray) (hs : s.size ≤ 1000000000) (k : Nat) (hk : s.size + 3 ≤ k) : impl_unquote.f k s = some (unqI s (unq s)) := by
  obtain ⟨k, rfl⟩ : ∃ m, k = m + 1 := ⟨k - 1, by omega⟩
  unfold impl_unquote.f unq
  by_cases h0 : s.size = 0
  · rw [if_pos (toList_nil.2 h0)]
    simp only [impl_unquote.j0]
    rw [if_pos trivial, if_neg (by rw [bt_out s 0 (by simp [h0])]; decide)]
    rfl
  · rw [if_neg (fun h => h0 (toList_nil.1 h)), if_pos (by omega)]
    simp only [impl_unquote.j0]
    by_cases h1 : bt s 0 = 34
    · rw [if_neg (by simp [h1]), if_pos h1, show (1 : Int) = ((1 : Nat) : Int) from rfl, impl_unquote_l s hs k 1 [] (by omega) (by omega) (by simp), unqF_fuel s k (s.size + 1) 1 [] (by omega) (by omega)]
    · rw [if_pos (by simp [h1]), if_neg h1]
      rfl
theorem spec_unq (s : ByteArray) (hs : s.size ≤ 1000000000) (k : Nat) (hk : s.size + 3 ≤ k) : spec_l2Unquote.f k s 0 = some (unqS (unq s)) := by
  obtain ⟨k, rfl⟩ : ∃ m, k = m + 1 := ⟨k - 1, by omega⟩
  unfold spec_l2Unquote.f unq
  by_cases h0 : s.size = 0
  · rw [if_pos (by omega)]
    simp only [spec_l2Unquote.j0]
    rw [if_pos trivial, if_neg (by rw [bt_out s 0 (by simp [h0])]; decide)]
    rfl
  · rw [if_neg (by omega), if_pos (by omega), if_pos (by omega)]
    simp only [spec_l2Unquote.j0]
    by_cases h1 : bt s 0 = 34
    · rw [if_neg (by simp [h1]), if_pos h1, wrap_in (by omega) (by omega), show (0 : Int) + 1 = ((1 : Nat) : Int) from rfl, spec_unquote_l s hs k 1 [] (by omega) (by omega) (by simp), unqF_fuel s k (s.size + 1) 1 [] (by omega) (by omega)]
    · rw [if_pos (by simp [h1]), if_neg h1]
      rfl

/-- The pieces of a text, the empty ones too. -/
def pcF (s : ByteArray) : Nat → Nat → Nat → Bool → List ByteArray
  | 0, _, _, _ => []
  | k + 1, i, fr, q => if i < s.size then
      (if bt s (i : Int) = 32 ∧ q = false then s.extract fr i :: pcF s k (i + 1) (i + 1) q
       else if q = true ∧ bt s (i : Int) = 92 ∧ i + 1 < s.size then pcF s k (i + 2) fr q
       else if bt s (i : Int) = 34 then pcF s k (i + 1) fr (!q)
       else pcF s k (i + 1) fr q)
    else [s.extract fr s.size]
theorem pcF_fuel (s : ByteArray) : ∀ k k' i fr q, i ≤ s.size → s.size < i + k → s.size < i + k' → pcF s k i fr q = pcF s k' i fr q := by
  intro k
  induction k with
  | zero => intro k' i fr q h0 h1 h2; omega
  | succ k ih =>
    intro k' i fr q h0 h1 h2
    cases k' with
    | zero => omega
    | succ k' =>
      simp only [pcF]
      by_cases c : i < s.size
      · rw [if_pos c, if_pos c]
        rw [ih k' (i + 1) (i + 1) q (by omega) (by omega) (by omega), ih k' (i + 1) fr (!q) (by omega) (by omega) (by omega), ih k' (i + 1) fr q (by omega) (by omega) (by omega)]
        by_cases c2 : q = true ∧ bt s (i : Int) = 92 ∧ i + 1 < s.size
        · rw [ih k' (i + 2) fr q (by omega) (by omega) (by omega)]
        · rw [if_neg c2, if_neg c2]
      · rw [if_neg c, if_neg c]
end Go.Proofs.Ytllllfbnbndegaa.L
