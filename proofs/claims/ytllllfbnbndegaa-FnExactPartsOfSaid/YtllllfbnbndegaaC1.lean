/- Plain laws on bytes, cuts and words. -/
import Derived.Test.YtllllfbnbndegaaL1
import Derived.Test.YtllllfbnbndegaaL2
import Derived.Lib.IndexLaws
namespace Go.Proofs.Ytllllfbnbndegaa.L
open Go.RowKit Go.Proofs.Ytllllfbnbndegaa.Q Go.Proofs.YtllllfbnbndegaaW.PrintWords Go.Proofs.YtllllfbnbndegaaW.PrintLast
set_option linter.unusedVariables false

theorem bt_out (s : ByteArray) (i : Int) (h : s.size ≤ i.toNat) : bt s i = 0 := by
  unfold bt
  rw [dif_neg (by omega)]
theorem ext_app (s : ByteArray) {a b c : Nat} (h1 : a ≤ b) (h2 : b ≤ c) : s.extract a b ++ s.extract b c = s.extract a c := by
  rw [ByteArray.extract_append_extract, Nat.min_eq_left h1, Nat.max_eq_right h2]
theorem ext_self (s : ByteArray) (a : Nat) : (⟨#[]⟩ : ByteArray) = s.extract a a := by
  apply ba_ext
  rw [toList_eq, toList_eq]
  simp
theorem ext_size (s : ByteArray) {a b : Nat} (h : b ≤ s.size) : (s.extract a b).size = b - a := by
  rw [ByteArray.size_extract, Nat.min_eq_left h]
theorem bt_get (s : ByteArray) (i : Nat) (h : i < s.size) : bt s (i : Int) = ((s[i]'h).toNat : Int) := by
  unfold bt
  rw [dif_pos (by simpa using h)]
  rfl
theorem bt_opt (s : ByteArray) (i : Nat) (c : UInt8) (h : i < s.size) : s.data.toList[i]? = some c ↔ bt s (i : Int) = (c.toNat : Int) := by
  rw [bt_get s i h, List.getElem?_eq_getElem (by simpa using h)]
  constructor
  · intro e
    injection e with e
    rw [← e]; rfl
  · intro e
    congr 1
    exact UInt8.toNat.inj (by have : ((s[i]'h).toNat : Int) = c.toNat := e; exact Int.ofNat.inj this)
theorem bt_ext (s : ByteArray) (e i : Nat) (h : i < e) (he : e ≤ s.size) : bt (s.extract 0 e) (i : Int) = bt s (i : Int) := by
  have hz := ext_size s (a := 0) he
  rw [bt_get s i (by omega), bt_get _ i (by omega)]
  congr 2
  simp [ByteArray.getElem_extract]
/-- The end of the letters, digits and bars from i on. -/
def weF (s : ByteArray) : Nat → Nat → Nat
  | 0, i => i
  | d + 1, i => if wordB (bt s (i : Int)) = true then weF s d (i + 1) else i
theorem weF_ge (s : ByteArray) : ∀ d i, i ≤ weF s d i ∧ weF s d i ≤ i + d := by
  intro d
  induction d with
  | zero => intro i; simp [weF]
  | succ d ih =>
    intro i
    simp only [weF]
    split
    · have := ih (i + 1); omega
    · omega
theorem weF_word (s : ByteArray) : ∀ d i j, i ≤ j → j < weF s d i → wordB (bt s (j : Int)) = true := by
  intro d
  induction d with
  | zero => intro i j h1 h2; simp [weF] at h2; omega
  | succ d ih =>
    intro i j h1 h2
    simp only [weF] at h2
    split at h2
    · rename_i h
      rcases Nat.eq_or_lt_of_le h1 with e | e
      · rw [← e]; exact h
      · exact ih (i + 1) j e h2
    · omega
theorem weF_stop (s : ByteArray) : ∀ d i, weF s d i < i + d → wordB (bt s ((weF s d i : Nat) : Int)) = false := by
  intro d
  induction d with
  | zero => intro i h; simp [weF] at h
  | succ d ih =>
    intro i h
    simp only [weF] at h ⊢
    split
    · rename_i hw
      rw [if_pos hw] at h
      exact ih (i + 1) (by omega)
    · rename_i hw
      simpa using hw
theorem nameAt_l (s : ByteArray) (hs : s.size ≤ 1000) : ∀ d k (i : Nat), s.size - i = d → i ≤ s.size → d < k → spec_l2NameAt.l0 k s (i : Int) = some ((weF s d i : Nat) : Int) := by
  intro d
  induction d with
  | zero =>
    intro k i hd hi hk
    obtain ⟨k, rfl⟩ : ∃ m, k = m + 1 := ⟨k - 1, by omega⟩
    simp only [spec_l2NameAt.l0, weF]
    rw [if_neg (by omega)]
  | succ d ih =>
    intro k i hd hi hk
    obtain ⟨k, rfl⟩ : ∃ m, k = m + 1 := ⟨k - 1, by omega⟩
    simp only [spec_l2NameAt.l0, weF]
    rw [if_pos (by omega), if_pos (by omega), spec_letter, Option.bind_some, spec_digit, Option.bind_some, wrap_in (by omega) (by omega)]
    have hi := ih k (i + 1) (by omega) (by omega) (by omega)
    rw [show ((i + 1 : Nat) : Int) = ((i : Int) + 1) from rfl] at hi
    simp only [wordB, hi]
    by_cases h1 : letterB (bt s (i : Int)) = true <;> by_cases h2 : digitB (bt s (i : Int)) = true <;> by_cases h3 : bt s (i : Int) = 95 <;> simp [h1, h2, h3]
end Go.Proofs.Ytllllfbnbndegaa.L
