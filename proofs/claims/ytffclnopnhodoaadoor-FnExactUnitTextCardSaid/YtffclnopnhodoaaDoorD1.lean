/- Plain laws on printed functions: numbers in digits. -/
import Derived.Test.YtffclnopnhodoaaDoorPx
namespace Go.Proofs.YtffclnopnhodoaaDoor.L
open Go.RowKit Go.Proofs.YtffclnopnhodoaaDoor.P Go.Proofs.YtffclnopnhodoaaDoorW.PrintWords Go.Proofs.YtffclnopnhodoaaDoorW.PrintLast
set_option linter.unusedVariables false

theorem wrap_in' {i : Int} (h0 : -9223372036854775808 ≤ i) (h1 : i ≤ 9223372036854775807) : wrap64 i = i := by
  unfold wrap64
  omega
theorem u64_in' {i : Int} (h0 : 0 ≤ i) (h1 : i < 18446744073709551616) : IntKind.u64.wrap i = i := IntWalk.u64_in i ⟨h0, by omega⟩
/-- A natural number in digits. -/
def decB (u : Nat) : ByteArray := ⟨(Lib.decDigits u).toArray⟩
/-- A whole number in digits. -/
def numB (x : Int) : ByteArray := ⟨(Lib.itoa x).toArray⟩
theorem ba_app (a b : List UInt8) : (⟨a.toArray⟩ : ByteArray) ++ ⟨b.toArray⟩ = ⟨(a ++ b).toArray⟩ := by
  apply ByteArray.ext
  simp
theorem decB_small {u : Nat} (h : u < 10) : decB u = ⟨#[UInt8.ofNat (48 + u)]⟩ := by
  unfold decB
  rw [Lib.decDigits, dif_pos h]
theorem decB_big {u : Nat} (h : ¬ u < 10) : decB u = decB (u / 10) ++ ⟨#[UInt8.ofNat (48 + u % 10)]⟩ := by
  unfold decB
  rw [Lib.decDigits, dif_neg h, ← ba_app]
theorem numB_nat (u : Nat) : numB (u : Int) = decB u := by
  unfold numB decB
  rw [Lib.itoa_nonneg]
theorem numB_neg (u : Nat) (h : 1 ≤ u) : numB (-(u : Int)) = ⟨#[45]⟩ ++ decB u := by
  unfold numB decB
  rw [Lib.itoa_neg u h, show (45 :: Lib.decDigits u) = [45] ++ Lib.decDigits u from rfl, ← ba_app]
theorem nDigits_le : ∀ (j u : Nat), u < 10 ^ (j + 1) → Lib.nDigits u ≤ j + 1
  | 0, u, h => by rw [Lib.nDigits_small (by simpa using h)]; omega
  | j + 1, u, h => by
    by_cases h9 : u < 10
    · rw [Lib.nDigits_small h9]; omega
    · rw [Lib.nDigits_big h9]
      have := nDigits_le j (u / 10) (by rw [Nat.pow_succ] at h; omega)
      omega
theorem decB_size {u : Nat} (h : u < 18446744073709551616) : (decB u).size ≤ 20 := by
  have h1 : (decB u).size = Lib.nDigits u := by
    unfold decB
    rw [← Lib.decDigits_length]
    simp [ByteArray.size]
  rw [h1]
  exact nDigits_le 19 u (by omega)

theorem num_l : ∀ (j u : Nat) (x0 : Int) (x3 : ByteArray) (neg : Bool) (k : Nat), (x0 = u ∨ x0 = -(u : Int)) → u < 10 ^ j → u < 9223372036854775809 → x3.size + j ≤ 1000 → j < k →
    spec_l2Num.l0 k x0 x3 neg = some (if neg = true then ⟨#[45]⟩ ++ (if u = 0 then x3 else decB u ++ x3) else (if u = 0 then x3 else decB u ++ x3)) := by
  intro j
  induction j with
  | zero =>
    intro u x0 x3 neg k hx hu _ hs hk
    obtain ⟨k, rfl⟩ : ∃ m, k = m + 1 := ⟨k - 1, by omega⟩
    have h0 : u = 0 := by simpa using hu
    subst h0
    have hx0 : x0 = 0 := by omega
    simp only [spec_l2Num.l0]
    rw [if_pos hx0]
    by_cases hn : neg = true
    · rw [if_pos hn, if_pos hn, if_pos (by omega), if_pos trivial]
    · rw [if_neg hn, if_neg hn, if_pos trivial]
  | succ j ih =>
    intro u x0 x3 neg k hx hu hb hs hk
    obtain ⟨k, rfl⟩ : ∃ m, k = m + 1 := ⟨k - 1, by omega⟩
    by_cases h0 : u = 0
    · subst h0
      have hx0 : x0 = 0 := by omega
      simp only [spec_l2Num.l0]
      rw [if_pos hx0]
      by_cases hn : neg = true
      · rw [if_pos hn, if_pos hn, if_pos (by omega), if_pos trivial]
      · rw [if_neg hn, if_neg hn, if_pos trivial]
    · have hx0 : ¬ x0 = 0 := by omega
      have hu10 : u / 10 < 10 ^ j := by rw [Nat.pow_succ] at hu; omega
      have key : ∀ q : ByteArray, q = ⟨#[UInt8.ofNat (48 + u % 10)]⟩ → (if u / 10 = 0 then q ++ x3 else decB (u / 10) ++ (q ++ x3)) = decB u ++ x3 := by
        intro q hq
        subst hq
        by_cases h9 : u < 10
        · rw [if_pos (by omega), decB_small h9, Nat.mod_eq_of_lt h9]
        · rw [if_neg (by omega), decB_big h9, ByteArray.append_assoc]
      have hq1 : ∀ z : Int, z = 48 + ((u % 10 : Nat) : Int) → strOfNums [z] = ⟨#[UInt8.ofNat (48 + u % 10)]⟩ := by
        intro z hz
        subst hz
        simp only [strOfNums, List.map_cons, List.map_nil]
        congr 3
      have hqs : ∀ q : ByteArray, q = ⟨#[UInt8.ofNat (48 + u % 10)]⟩ → q.size = 1 := by
        intro q hq
        rw [hq]
        rfl
      have hrec : ∀ y : Int, ∀ q : ByteArray, (y = ((u / 10 : Nat) : Int) ∨ y = -((u / 10 : Nat) : Int)) → q = ⟨#[UInt8.ofNat (48 + u % 10)]⟩ →
          spec_l2Num.l0 k y (q ++ x3) neg = some (if neg = true then ⟨#[45]⟩ ++ (decB u ++ x3) else (decB u ++ x3)) := by
        intro y q hy hq
        rw [ih (u / 10) y (q ++ x3) neg k hy hu10 (by omega) (by rw [ByteArray.size_append, hqs q hq]; omega) (by omega), key q hq]
      rw [if_neg h0]
      simp only [spec_l2Num.l0]
      rw [if_neg hx0]
      rcases hx with hx | hx
      · have ht : Int.tmod x0 10 = ((u % 10 : Nat) : Int) := by rw [hx]; rfl
        have hd : Int.tdiv x0 10 = ((u / 10 : Nat) : Int) := by rw [hx]; rfl
        rw [ht, hd, if_neg (by omega), Option.bind_some, wrap_in' (by omega) (by omega), wrap_in' (by omega) (by omega)]
        have hz : (48 + ((u % 10 : Nat) : Int)) % 256 = 48 + ((u % 10 : Nat) : Int) := by omega
        rw [hz, if_pos (by rw [hqs _ (hq1 _ rfl)]; omega)]
        exact hrec _ _ (Or.inl rfl) (hq1 _ rfl)
      · have ht : Int.tmod x0 10 = -((u % 10 : Nat) : Int) := by rw [hx, Int.neg_tmod]; rfl
        have hd : Int.tdiv x0 10 = -((u / 10 : Nat) : Int) := by rw [hx, Int.neg_tdiv]; rfl
        rw [ht, hd]
        by_cases hm : u % 10 = 0
        · rw [if_neg (by omega), Option.bind_some, wrap_in' (by omega) (by omega), wrap_in' (by omega) (by omega)]
          have hz : (48 + -((u % 10 : Nat) : Int)) % 256 = 48 + ((u % 10 : Nat) : Int) := by omega
          rw [hz, if_pos (by rw [hqs _ (hq1 _ rfl)]; omega)]
          exact hrec _ _ (Or.inr rfl) (hq1 _ rfl)
        · rw [if_pos (by omega), Option.bind_some, wrap_in' (i := - -((u % 10 : Nat) : Int)) (by omega) (by omega), wrap_in' (by omega) (by omega), wrap_in' (by omega) (by omega)]
          have hz : (48 + - -((u % 10 : Nat) : Int)) % 256 = 48 + ((u % 10 : Nat) : Int) := by omega
          rw [hz, if_pos (by rw [hqs _ (hq1 _ rfl)]; omega)]
          exact hrec _ _ (Or.inr rfl) (hq1 _ rfl)
theorem l2Num_ok (x : Int) (h0 : -9223372036854775808 ≤ x) (h1 : x ≤ 9223372036854775807) (k : Nat) (hk : 21 ≤ k) : spec_l2Num.f k x = some (numB x) := by
  unfold spec_l2Num.f
  by_cases hx : x = 0
  · subst hx
    rw [if_pos rfl]
    have : numB 0 = decB 0 := numB_nat 0
    rw [this, decB_small (by omega)]
    rfl
  · rw [if_neg hx]
    obtain ⟨u, hu⟩ : ∃ u : Nat, x = u ∨ x = -(u : Int) := ⟨x.natAbs, by omega⟩
    have hu0 : u ≠ 0 := by omega
    rw [num_l 20 u x ⟨#[]⟩ (decide (x < 0)) k hu (by omega) (by omega) (by decide) (by omega), if_neg hu0]
    have he : decB u ++ (⟨#[]⟩ : ByteArray) = decB u := by
      show decB u ++ ⟨([] : List UInt8).toArray⟩ = decB u
      unfold decB
      rw [ba_app, List.append_nil]
    rw [he]
    rcases hu with rfl | rfl
    · rw [if_neg (by simp), numB_nat]
    · rw [if_pos (by simp; omega), numB_neg u (by omega)]
theorem numB_size (x : Int) (h0 : -9223372036854775808 ≤ x) (h1 : x ≤ 9223372036854775807) : (numB x).size ≤ 21 := by
  obtain ⟨u, hu⟩ : ∃ u : Nat, x = u ∨ x = -(u : Int) := ⟨x.natAbs, by omega⟩
  by_cases hx : x = 0
  · subst hx
    have : numB 0 = decB 0 := numB_nat 0
    rw [this]
    have := decB_size (u := 0) (by omega)
    omega
  · rcases hu with rfl | rfl
    · rw [numB_nat]
      have := decB_size (u := u) (by omega)
      omega
    · rw [numB_neg u (by omega), ByteArray.size_append]
      have := decB_size (u := u) (by omega)
      have h1 : (⟨#[45]⟩ : ByteArray).size = 1 := rfl
      omega
end Go.Proofs.YtffclnopnhodoaaDoor.L
