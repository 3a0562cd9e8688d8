/- Plain laws on printed functions: names, values, printed texts. -/
import Derived.Test.YtllllfbnbndegaaQx
namespace Go.Proofs.Ytllllfbnbndegaa.L
open Go.RowKit Go.Proofs.Ytllllfbnbndegaa.Q Go.Proofs.YtllllfbnbndegaaW.PrintWords Go.Proofs.YtllllfbnbndegaaW.PrintLast
set_option linter.unusedVariables false

theorem wrap_in {i : Int} (h0 : -9223372036854775808 ≤ i) (h1 : i ≤ 9223372036854775807) : wrap64 i = i := by
  unfold wrap64
  omega
theorem Ev.from {α : Type} {g : Nat → Option α} {r : α} (K : Nat) (h : ∀ k, K ≤ k → g k = some r) : Ev g r := ⟨K, h⟩
theorem toList_eq (s : ByteArray) : s.toList = s.data.toList := ByteArray.toList_eq s
theorem ba_ext {s t : ByteArray} (h : s.toList = t.toList) : s = t := by
  rw [toList_eq, toList_eq] at h
  obtain ⟨⟨s⟩⟩ := s
  obtain ⟨⟨t⟩⟩ := t
  simp at h
  rw [h]
theorem toList_inj {s t : ByteArray} : s.toList = t.toList ↔ s = t := ⟨ba_ext, fun h => by rw [h]⟩
theorem toList_nil {s : ByteArray} : s.toList = [] ↔ s.size = 0 := by
  rw [toList_eq]
  constructor
  · intro h
    have := congrArg List.length h
    simpa using this
  · intro h
    exact List.eq_nil_of_length_eq_zero (by simpa using h)

def letterB (c : Int) : Bool := (decide (97 ≤ c) && decide (c ≤ 122)) || (decide (65 ≤ c) && decide (c ≤ 90))
def digitB (c : Int) : Bool := decide (48 ≤ c) && decide (c ≤ 57)
def wordB (c : Int) : Bool := letterB c || digitB c || decide (c = 95)
def printB (c : Int) : Bool := decide (32 ≤ c) && decide (c ≤ 126)
def allB (p : Int → Bool) (s : ByteArray) : Nat → Nat → Bool
  | 0, _ => true
  | d + 1, i => p (bt s (i : Int)) && allB p s d (i + 1)
theorem allB_iff (p : Int → Bool) (s : ByteArray) : ∀ d i, allB p s d i = true ↔ ∀ j : Nat, i ≤ j → j < i + d → p (bt s (j : Int)) = true := by
  intro d
  induction d with
  | zero => intro i; exact ⟨fun _ j h1 h2 => by omega, fun _ => rfl⟩
  | succ d ih =>
    intro i
    simp only [allB, Bool.and_eq_true, ih]
    constructor
    · rintro ⟨h1, h2⟩ j h3 h4
      rcases Nat.eq_or_lt_of_le h3 with e | e
      · rw [← e]; exact h1
      · exact h2 j e (by omega)
    · intro h
      exact ⟨h i (Nat.le_refl _) (by omega), fun j h1 h2 => h j (by omega) (by omega)⟩
def nameB (s : ByteArray) : Bool := decide (1 ≤ s.size) && decide (s.size ≤ 40) && !digitB (bt s 0) && allB wordB s s.size 0
def printedB (s : ByteArray) : Bool := allB printB s s.size 0
def valueB (s : ByteArray) : Bool := decide (1 ≤ s.size) && decide (s.size ≤ 100) && printedB s

theorem impl_letter (c : Int) : impl_letterByte.f c = some (letterB c) := by
  unfold impl_letterByte.f letterB
  by_cases h1 : 97 ≤ c <;> by_cases h2 : c ≤ 122 <;> by_cases h3 : 65 ≤ c <;> by_cases h4 : c ≤ 90 <;> simp [h1, h2, h3, h4] <;> omega
theorem impl_digit (c : Int) : impl_digitByte.f c = some (digitB c) := by
  unfold impl_digitByte.f digitB
  split <;> simp <;> omega
theorem impl_word (c : Int) : impl_wordByte.f c = some (wordB c) := by
  unfold impl_wordByte.f wordB
  rw [impl_letter, Option.bind_some, impl_digit, Option.bind_some]
  cases letterB c <;> cases digitB c <;> simp
  rw [Bool.eq_iff_iff]; simp
theorem spec_letter (c : Int) : spec_l2Letter.f c = some (letterB c) := by
  unfold spec_l2Letter.f letterB
  by_cases h1 : 97 ≤ c <;> by_cases h2 : c ≤ 122 <;> by_cases h3 : 65 ≤ c <;> by_cases h4 : c ≤ 90 <;> simp [h1, h2, h3, h4] <;> omega
theorem spec_digit (c : Int) : spec_l2Digit.f c = some (digitB c) := by
  unfold spec_l2Digit.f digitB
  split <;> simp <;> omega

theorem impl_isName_l (s : ByteArray) (hs : s.size ≤ 40) : ∀ d k (i : Nat), s.size - i = d → i ≤ s.size → d < k → impl_isName.l0 k s (s.size : Int) (i : Int) = some (allB wordB s d i) := by
  intro d
  induction d with
  | zero =>
    intro k i hd hi hk
    obtain ⟨k, rfl⟩ : ∃ m, k = m + 1 := ⟨k - 1, by omega⟩
    simp only [impl_isName.l0]
    rw [if_neg (by omega)]
    rfl
  | succ d ih =>
    intro k i hd hi hk
    obtain ⟨k, rfl⟩ : ∃ m, k = m + 1 := ⟨k - 1, by omega⟩
    simp only [impl_isName.l0]
    rw [if_pos (by omega), if_pos (by omega), if_pos (by omega), impl_word, Option.bind_some]
    rw [wrap_in (by omega) (by omega)]
    simp only [allB]
    cases wordB (bt s (i : Int)) with
    | false => rfl
    | true => rw [if_pos rfl, show ((i : Int) + 1) = ((i + 1 : Nat) : Int) from rfl, ih k (i + 1) (by omega) (by omega) (by omega)]; rfl
theorem impl_name (s : ByteArray) (k : Nat) (hk : s.size + 3 ≤ k) : impl_isName.f k s = some (nameB s) := by
  obtain ⟨k, rfl⟩ : ∃ m, k = m + 1 := ⟨k - 1, by omega⟩
  unfold impl_isName.f nameB
  by_cases h0 : s.size = 0
  · rw [if_pos (toList_nil.2 h0)]
    simp only [impl_isName.j0]
    simp [h0]
  · rw [if_neg (fun h => h0 (toList_nil.1 h))]
    by_cases h1 : s.size ≤ 40
    · rw [if_neg (by omega), if_pos (by omega), impl_digit, Option.bind_some]
      simp only [impl_isName.j0]
      have e1 : decide (1 ≤ s.size) = true := decide_eq_true (by omega)
      have e2 : decide (s.size ≤ 40) = true := decide_eq_true h1
      rw [e1, e2]
      cases digitB (bt s 0) with
      | true => rfl
      | false => rw [if_neg (by simp), show (0 : Int) = ((0 : Nat) : Int) from rfl, impl_isName_l s h1 s.size k 0 (by omega) (by omega) (by omega)]; rfl
    · rw [if_pos (by omega)]
      simp only [impl_isName.j0]
      simp [h1]

theorem spec_l2Name_l (s : ByteArray) (hs : s.size ≤ 40) : ∀ d k (i : Nat), s.size - i = d → i ≤ s.size → d < k → spec_l2Name.l0 k s (i : Int) = some (allB wordB s d i) := by
  intro d
  induction d with
  | zero =>
    intro k i hd hi hk
    obtain ⟨k, rfl⟩ : ∃ m, k = m + 1 := ⟨k - 1, by omega⟩
    simp only [spec_l2Name.l0]
    rw [if_neg (by omega)]
    rfl
  | succ d ih =>
    intro k i hd hi hk
    obtain ⟨k, rfl⟩ : ∃ m, k = m + 1 := ⟨k - 1, by omega⟩
    simp only [spec_l2Name.l0]
    rw [if_pos (by omega), if_pos (by omega), spec_letter, Option.bind_some, spec_digit, Option.bind_some]
    rw [wrap_in (by omega) (by omega)]
    have hi := ih k (i + 1) (by omega) (by omega) (by omega)
    rw [show ((i + 1 : Nat) : Int) = ((i : Int) + 1) from rfl] at hi
    simp only [allB, wordB, hi]
    cases letterB (bt s (i : Int)) with
    | true => simp
    | false =>
      cases digitB (bt s (i : Int)) with
      | true => simp
      | false => by_cases h : bt s (i : Int) = 95 <;> simp [h]
theorem spec_name (s : ByteArray) (k : Nat) (hk : s.size + 3 ≤ k) : spec_l2Name.f k s = some (nameB s) := by
  obtain ⟨k, rfl⟩ : ∃ m, k = m + 1 := ⟨k - 1, by omega⟩
  unfold spec_l2Name.f nameB
  by_cases h0 : s.size = 0
  · rw [if_pos (by omega)]
    simp only [spec_l2Name.j0]
    simp [h0]
  · rw [if_neg (by omega)]
    by_cases h1 : s.size ≤ 40
    · rw [if_neg (by omega), if_pos (by omega), spec_digit, Option.bind_some]
      simp only [spec_l2Name.j0]
      have e1 : decide (1 ≤ s.size) = true := decide_eq_true (by omega)
      have e2 : decide (s.size ≤ 40) = true := decide_eq_true h1
      rw [e1, e2]
      cases digitB (bt s 0) with
      | true => rfl
      | false => rw [if_neg (by simp), show (0 : Int) = ((0 : Nat) : Int) from rfl, spec_l2Name_l s h1 s.size k 0 (by omega) (by omega) (by omega)]; rfl
    · rw [if_pos (by omega)]
      simp only [spec_l2Name.j0]
      simp [h1]

theorem impl_printed_l (s : ByteArray) (hs : s.size ≤ 9000000000000000000) : ∀ d k (i : Nat), s.size - i = d → i ≤ s.size → d < k → impl_printed.l0 k s (s.size : Int) (i : Int) = some (allB printB s d i) := by
  intro d
  induction d with
  | zero =>
    intro k i hd hi hk
    obtain ⟨k, rfl⟩ : ∃ m, k = m + 1 := ⟨k - 1, by omega⟩
    simp only [impl_printed.l0]
    rw [if_neg (by omega)]
    rfl
  | succ d ih =>
    intro k i hd hi hk
    obtain ⟨k, rfl⟩ : ∃ m, k = m + 1 := ⟨k - 1, by omega⟩
    simp only [impl_printed.l0]
    rw [if_pos (by omega), if_pos (by omega), if_pos (by omega)]
    rw [wrap_in (by omega) (by omega)]
    have hi := ih k (i + 1) (by omega) (by omega) (by omega)
    rw [show ((i + 1 : Nat) : Int) = ((i : Int) + 1) from rfl] at hi
    simp only [allB, printB, hi]
    by_cases h1 : bt s (i : Int) < 32
    · rw [if_pos h1, decide_eq_false (by omega)]; rfl
    · rw [if_neg h1]
      by_cases h2 : bt s (i : Int) > 126
      · rw [if_pos h2, decide_eq_true (by omega : (32 : Int) ≤ bt s (i : Int)), decide_eq_false (by omega)]; rfl
      · rw [if_neg h2, decide_eq_true (by omega : (32 : Int) ≤ bt s (i : Int)), decide_eq_true (by omega)]; rfl
theorem impl_print (s : ByteArray) (n : Int) (k : Nat) (hs : s.size ≤ 9000000000000000000) (hk : s.size + 3 ≤ k) : impl_printed.f k s n = some (decide ((s.size : Int) ≤ n) && printedB s) := by
  unfold impl_printed.f printedB
  by_cases h : (s.size : Int) > n
  · rw [if_pos h, decide_eq_false (by omega)]; rfl
  · rw [if_neg h, decide_eq_true (by omega), show (0 : Int) = ((0 : Nat) : Int) from rfl, impl_printed_l s hs s.size k 0 (by omega) (by omega) (by omega)]; rfl
theorem spec_printed_l (s : ByteArray) (hs : s.size ≤ 9000000000000000000) : ∀ d k (i : Nat), s.size - i = d → i ≤ s.size → d < k → spec_l2Printed.l0 k s (i : Int) = some (allB printB s d i) := by
  intro d
  induction d with
  | zero =>
    intro k i hd hi hk
    obtain ⟨k, rfl⟩ : ∃ m, k = m + 1 := ⟨k - 1, by omega⟩
    simp only [spec_l2Printed.l0]
    rw [if_neg (by omega)]
    rfl
  | succ d ih =>
    intro k i hd hi hk
    obtain ⟨k, rfl⟩ : ∃ m, k = m + 1 := ⟨k - 1, by omega⟩
    simp only [spec_l2Printed.l0]
    rw [if_pos (by omega), if_pos (by omega)]
    rw [wrap_in (by omega) (by omega)]
    have hi := ih k (i + 1) (by omega) (by omega) (by omega)
    rw [show ((i + 1 : Nat) : Int) = ((i : Int) + 1) from rfl] at hi
    simp only [allB, printB, hi]
    by_cases h1 : bt s (i : Int) < 32
    · rw [if_pos h1, decide_eq_false (by omega)]; rfl
    · rw [if_neg h1]
      by_cases h2 : bt s (i : Int) > 126
      · rw [if_pos h2, decide_eq_true (by omega : (32 : Int) ≤ bt s (i : Int)), decide_eq_false (by omega)]; rfl
      · rw [if_neg h2, decide_eq_true (by omega : (32 : Int) ≤ bt s (i : Int)), decide_eq_true (by omega)]; rfl
theorem spec_print (s : ByteArray) (k : Nat) (hs : s.size ≤ 9000000000000000000) (hk : s.size + 3 ≤ k) : spec_l2Printed.f k s = some (printedB s) := by
  unfold spec_l2Printed.f printedB
  rw [show (0 : Int) = ((0 : Nat) : Int) from rfl, spec_printed_l s hs s.size k 0 (by omega) (by omega) (by omega)]
theorem impl_value (s : ByteArray) (k : Nat) (hs : s.size ≤ 9000000000000000000) (hk : s.size + 3 ≤ k) : impl_isValue.f k s = some (valueB s) := by
  unfold impl_isValue.f valueB
  by_cases h0 : s.size = 0
  · rw [if_pos (toList_nil.2 h0)]
    simp [h0]
  · rw [if_neg (fun h => h0 (toList_nil.1 h)), impl_print s 100 k hs hk, Option.bind_some, decide_eq_true (by omega : 1 ≤ s.size)]
    congr 1
    rw [Bool.true_and]
    congr 1
    rw [decide_eq_decide]
    omega
theorem spec_value (s : ByteArray) (k : Nat) (hs : s.size ≤ 9000000000000000000) (hk : s.size + 3 ≤ k) : spec_l2Value.f k s = some (valueB s) := by
  unfold spec_l2Value.f valueB
  by_cases h0 : s.size = 0
  · rw [if_neg (by omega)]
    simp [h0]
  · rw [if_pos (by omega), decide_eq_true (by omega : 1 ≤ s.size)]
    by_cases h1 : s.size ≤ 100
    · rw [if_pos (by omega), spec_print s k hs hk, Option.bind_some, decide_eq_true h1]; rfl
    · rw [if_neg (by omega), decide_eq_false h1]; rfl
end Go.Proofs.Ytllllfbnbndegaa.L
