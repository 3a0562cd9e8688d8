/- Plain words of my own on bytes and strings: no program in sight. -/
import Derived.Test.YtllllfbnbndegaaWWords
import Derived.Lib.Bytealg
import Derived.Sort.Statements
namespace Go.Proofs.YtllllfbnbndegaaU
open Go.RowKit Go.Proofs.YtllllfbnbndegaaW.PrintWords Go.Lib
set_option linter.unusedVariables false

theorem cb_self : ∀ x : List UInt8, compareBytes x x = 0
  | [] => rfl
  | a :: x => by simp [compareBytes, UInt8.lt_irrefl, cb_self x]
theorem cb_zero : ∀ {x y : List UInt8}, compareBytes x y = 0 → x = y
  | [], [], _ => rfl
  | [], _ :: _, h => by simp [compareBytes] at h
  | _ :: _, [], h => by simp [compareBytes] at h
  | a :: x, b :: y, h => by
    unfold compareBytes at h
    split at h
    · simp at h
    · rename_i h1
      split at h
      · simp at h
      · rename_i h2
        have : a = b := by
          rw [UInt8.lt_iff_toNat_lt] at h1 h2
          exact UInt8.toNat_inj.1 (by omega)
        rw [this, cb_zero h]
theorem cb_swap : ∀ x y : List UInt8, compareBytes y x = - compareBytes x y
  | [], [] => rfl
  | [], _ :: _ => rfl
  | _ :: _, [] => rfl
  | a :: x, b :: y => by
    unfold compareBytes
    by_cases h1 : a < b
    · have h2 : ¬ b < a := by rw [UInt8.lt_iff_toNat_lt] at h1 ⊢; omega
      rw [if_neg h2, if_pos h1, if_pos h1]; rfl
    · by_cases h2 : b < a
      · rw [if_pos h2, if_neg h1, if_pos h2]
      · rw [if_neg h2, if_neg h1, if_neg h1, if_neg h2, cb_swap x y]
theorem cb_cases : ∀ x y : List UInt8, compareBytes x y = -1 ∨ compareBytes x y = 0 ∨ compareBytes x y = 1
  | [], [] => .inr (.inl rfl)
  | [], _ :: _ => .inl rfl
  | _ :: _, [] => .inr (.inr rfl)
  | a :: x, b :: y => by
    unfold compareBytes
    split
    · exact .inl rfl
    · split
      · exact .inr (.inr rfl)
      · exact cb_cases x y
theorem cb_trans : ∀ {x y z : List UInt8}, compareBytes x y < 0 → compareBytes y z < 0 → compareBytes x z < 0
  | [], [], z, h, _ => by simp [compareBytes] at h
  | [], _ :: _, [], _, h => by simp [compareBytes] at h
  | [], _ :: _, _ :: _, _, _ => by simp [compareBytes]
  | _ :: _, [], _, h, _ => by simp [compareBytes] at h
  | _ :: _, _ :: _, [], _, h => by simp [compareBytes] at h
  | a :: x, b :: y, c :: z, h1, h2 => by
    unfold compareBytes at h1 h2 ⊢
    simp only [UInt8.lt_iff_toNat_lt] at *
    split at h1
    · split at h2
      · rw [if_pos (by omega)]; omega
      · split at h2
        · omega
        · rw [if_pos (by omega)]; omega
    · split at h1
      · omega
      · split at h2
        · rw [if_pos (by omega)]; omega
        · split at h2
          · omega
          · rw [if_neg (by omega), if_neg (by omega)]
            exact cb_trans h1 h2
theorem cb_ntrans {x y z : List UInt8} (h1 : ¬ compareBytes x y < 0) (h2 : ¬ compareBytes y z < 0) : ¬ compareBytes x z < 0 := by
  have s1 := cb_swap x y
  have s2 := cb_swap y z
  have s3 := cb_swap x z
  intro h
  rcases cb_cases x y with e | e | e
  · omega
  · have := cb_zero e; subst this; exact h2 h
  · rcases cb_cases y z with e' | e' | e'
    · omega
    · have := cb_zero e'; subst this; exact h1 h
    · have := cb_trans (x := z) (y := y) (z := x) (by omega) (by omega)
      omega

/-- To sort by a text is to sort by a strict weak order. -/
theorem swo_text {α : Type} [Inhabited α] (f : α → List UInt8) : Sort.SWO (fun x y : α => decide (compareBytes (f x) (f y) < 0)) where
  irrefl x := by simp [cb_self]
  trans x y z h1 h2 := by
    simp only [decide_eq_true_eq] at *
    exact cb_trans h1 h2
  ntrans x y z h1 h2 := by
    simp only [decide_eq_false_iff_not] at *
    exact cb_ntrans h1 h2
end Go.Proofs.YtllllfbnbndegaaU
