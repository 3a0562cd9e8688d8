/- Plain laws on one piece: its name, its value; the order of names. -/
import Derived.Test.YtllllfbnbndegaaL4
import Derived.Test.YtllllfbnbndegaaL2
import Derived.Lib.IndexLaws
namespace Go.Proofs.Ytllllfbnbndegaa.L
open Go.RowKit Go.Proofs.Ytllllfbnbndegaa.P Go.Proofs.YtllllfbnbndegaaW.PrintWords Go.Proofs.YtllllfbnbndegaaW.PrintLast
set_option linter.unusedVariables false

theorem bt_get (s : ByteArray) (i : Nat) (h : i < s.size) : bt s (i : Int) = ((s[i]'h).toNat : Int) := by
  unfold bt
  rw [dif_pos (by simpa using h)]
  rfl
theorem bt_opt (s : ByteArray) (i : Nat) (c : UInt8) (h : i < s.size) : s.data.toList[i]? = some c ↔ bt s (i : Int) = (c.toNat : Int) := by
  rw [bt_get s i h, List.getElem?_eq_getElem (by simpa using h)]
  constructor
  · intro e
    injection e with e
    rw [← e]; rfl
  · intro e
    congr 1
    exact UInt8.toNat.inj (by have : ((s[i]'h).toNat : Int) = c.toNat := e; exact Int.ofNat.inj this)
theorem bt_ext (s : ByteArray) (e i : Nat) (h : i < e) (he : e ≤ s.size) : bt (s.extract 0 e) (i : Int) = bt s (i : Int) := by
  have hz := ext_size s (a := 0) he
  rw [bt_get s i (by omega), bt_get _ i (by omega)]
  congr 2
  simp [ByteArray.getElem_extract]

/-- The end of the letters, digits and bars from i on. -/
def weF (s : ByteArray) : Nat → Nat → Nat
  | 0, i => i
  | d + 1, i => if wordB (bt s (i : Int)) = true then weF s d (i + 1) else i
theorem weF_ge (s : ByteArray) : ∀ d i, i ≤ weF s d i ∧ weF s d i ≤ i + d := by
  intro d
  induction d with
  | zero => intro i; simp [weF]
  | succ d ih =>
    intro i
    simp only [weF]
    split
    · have := ih (i + 1); omega
    · omega
theorem weF_word (s : ByteArray) : ∀ d i j, i ≤ j → j < weF s d i → wordB (bt s (j : Int)) = true := by
  intro d
  induction d with
  | zero => intro i j h1 h2; simp [weF] at h2; omega
  | succ d ih =>
    intro i j h1 h2
    simp only [weF] at h2
    split at h2
    · rename_i h
      rcases Nat.eq_or_lt_of_le h1 with e | e
      · rw [← e]; exact h
      · exact ih (i + 1) j e h2
    · omega
theorem weF_stop (s : ByteArray) : ∀ d i, weF s d i < i + d → wordB (bt s ((weF s d i : Nat) : Int)) = false := by
  intro d
  induction d with
  | zero => intro i h; simp [weF] at h
  | succ d ih =>
    intro i h
    simp only [weF] at h ⊢
    split
    · rename_i hw
      rw [if_pos hw] at h
      exact ih (i + 1) (by omega)
    · rename_i hw
      simpa using hw
theorem nameAt_l (s : ByteArray) (hs : s.size ≤ 1000) : ∀ d k (i : Nat), s.size - i = d → i ≤ s.size → d < k → spec_l2NameAt.l0 k s (i : Int) = some ((weF s d i : Nat) : Int) := by
  intro d
  induction d with
  | zero =>
    intro k i hd hi hk
    obtain ⟨k, rfl⟩ : ∃ m, k = m + 1 := ⟨k - 1, by omega⟩
    simp only [spec_l2NameAt.l0, weF]
    rw [if_neg (by omega)]
  | succ d ih =>
    intro k i hd hi hk
    obtain ⟨k, rfl⟩ : ∃ m, k = m + 1 := ⟨k - 1, by omega⟩
    simp only [spec_l2NameAt.l0, weF]
    rw [if_pos (by omega), if_pos (by omega), spec_letter, Option.bind_some, spec_digit, Option.bind_some, wrap_in (by omega) (by omega)]
    have hi := ih k (i + 1) (by omega) (by omega) (by omega)
    rw [show ((i + 1 : Nat) : Int) = ((i : Int) + 1) from rfl] at hi
    simp only [wordB, hi]
    by_cases h1 : letterB (bt s (i : Int)) = true <;> by_cases h2 : digitB (bt s (i : Int)) = true <;> by_cases h3 : bt s (i : Int) = 95 <;> simp [h1, h2, h3]
def we (s : ByteArray) : Nat := weF s s.size 0
theorem nameAt_ok (s : ByteArray) (hs : s.size ≤ 1000) (k : Nat) (hk : s.size + 3 ≤ k) : spec_l2NameAt.f k s 0 = some ((we s : Nat) : Int) :=
  nameAt_l s hs s.size k 0 (by omega) (by omega) (by omega)
theorem we_le (s : ByteArray) : we s ≤ s.size := by have := weF_ge s s.size 0; unfold we; omega

/-- The name and the rest of a piece. -/
def pairOf (p : ByteArray) : Option (ByteArray × ByteArray) :=
  if we p < p.size ∧ bt p ((we p : Nat) : Int) = 61 ∧ nameB (p.extract 0 (we p)) = true then some (p.extract 0 (we p), p.extract (we p + 1) p.size) else none
theorem word61 : wordB 61 = false := by decide
theorem nameB_word {s : ByteArray} (h : nameB s = true) (j : Nat) (hj : j < s.size) : wordB (bt s (j : Int)) = true := by
  unfold nameB at h
  simp only [Bool.and_eq_true] at h
  exact (allB_iff wordB s s.size 0).1 h.2 j (Nat.zero_le _) (by omega)
theorem cutB_pair (p : ByteArray) : (if (cutB p 61).2.2 = true ∧ nameB (cutB p 61).1 = true then some ((cutB p 61).1, (cutB p 61).2.1) else none) = pairOf p := by
  unfold pairOf cutB
  by_cases h0 : 0 ≤ Lib.indexByte p.data.toList 61
  · obtain ⟨i, hi⟩ : ∃ i : Nat, Lib.indexByte p.data.toList 61 = i := ⟨_, (Int.toNat_of_nonneg h0).symm⟩
    obtain ⟨h1, h2⟩ := Lib.indexByte_some hi
    have hlt : i < p.size := by
      rcases Nat.lt_or_ge i p.size with h | h
      · exact h
      · rw [List.getElem?_eq_none (by simpa using h)] at h1; cases h1
    have hb : bt p (i : Int) = 61 := (bt_opt p i 61 hlt).1 h1
    have e0 : (0 : Int) ≤ (i : Int) := by omega
    simp only [hi, e0, if_true, Int.toNat_natCast, true_and]
    by_cases h3 : nameB (p.extract 0 i) = true
    · have he : we p = i := by
        have hge := weF_ge p p.size 0
        rcases Nat.lt_trichotomy (we p) i with h | h | h
        · have hs := weF_stop p p.size 0 (by unfold we at h; omega)
          have hw := nameB_word h3 (we p) (by rw [ext_size p (by omega)]; omega)
          rw [bt_ext p i (we p) h (by omega)] at hw
          unfold we at hw
          rw [hs] at hw; cases hw
        · exact h
        · have hw := weF_word p p.size 0 i (by omega) h
          rw [hb, word61] at hw; cases hw
      rw [he, if_pos h3, if_pos ⟨hlt, hb, h3⟩]
    · rw [if_neg h3, if_neg]
      rintro ⟨h4, h5, h6⟩
      have hle := we_le p
      have : we p = i := by
        rcases Nat.lt_trichotomy (we p) i with h | h | h
        · exact absurd ((bt_opt p (we p) 61 h4).2 h5) (h2 _ h)
        · exact h
        · have hw := weF_word p p.size 0 i (by omega) h
          rw [hb, word61] at hw; cases hw
      rw [this] at h6
      exact h3 h6
  · simp only [h0, if_false, Bool.false_eq_true, false_and]
    rw [if_neg]
    rintro ⟨h4, h5, h6⟩
    have hge := Lib.indexByte_ge p.data.toList 61
    exact Lib.indexByte_none (by omega) _ ((bt_opt p (we p) 61 h4).2 h5)

theorem quote_data (s : ByteArray) : (s.extract 0 1).toList = (⟨#[34]⟩ : ByteArray).toList ↔ bt s 0 = 34 := by
  rw [toList_eq, toList_eq, ByteArray.data_extract, Array.toList_extract]
  by_cases h : 0 < s.size
  · have h1 := bt_opt s 0 34 h
    rw [show ((0 : Nat) : Int) = 0 from rfl, show ((34 : UInt8).toNat : Int) = 34 from rfl] at h1
    rw [← h1]
    cases e : s.data.toList with
    | nil => simp [List.extract]
    | cons a l => simp [List.extract]
  · have h2 : s.data.toList = [] := List.eq_nil_of_length_eq_zero (by simpa using (by omega : s.size = 0))
    rw [h2, bt_out s 0 (by omega)]
    simp
theorem head_ok (s : ByteArray) : spec_l2Head.f s ⟨#[34]⟩ = some (decide (bt s 0 = 34)) := by
  unfold spec_l2Head.f
  rw [show ((⟨#[34]⟩ : ByteArray).size : Int) = 1 from rfl]
  by_cases h : (s.size : Int) ≥ 1
  · rw [if_pos h, if_pos (by omega), if_pos (by omega)]
    congr 1
    rw [show (1 : Int).toNat = 1 from rfl, Bool.eq_iff_iff, beq_iff_eq, quote_data, decide_eq_true_iff]
  · rw [if_neg h, bt_out s 0 (by omega)]
    rfl
theorem prefix_ok (s : ByteArray) : strings_HasPrefix.f s ⟨#[34]⟩ = some (decide (bt s 0 = 34)) := by
  have h := head_ok s
  unfold spec_l2Head.f at h
  unfold strings_HasPrefix.f stringslite_HasPrefix.f
  rw [h]
  rfl

/-- The value that stands behind a name. -/
def valOf (v : ByteArray) : Option ByteArray :=
  if bt v 0 = 34 then (unq v).bind fun b => if b.2 + 1 = v.size then some (strOfNums b.1) else none else some v
theorem unq_lt {v : ByteArray} {b : List Int} {j : Nat} (h : unq v = some (b, j)) : j < v.size := by
  unfold unq at h
  split at h
  · exact unqF_lt v _ _ _ _ _ h
  · cases h
theorem unqF_len (s : ByteArray) : ∀ k i acc b j, unqF s k i acc = some (b, j) → b.length ≤ acc.length + k := by
  intro k
  induction k with
  | zero => intro i acc b j h; simp [unqF] at h
  | succ k ih =>
    intro i acc b j h
    simp only [unqF] at h
    split at h
    · split at h
      · injection h with h; injection h with h1 h2; subst h1; omega
      · split at h
        · split at h
          · cases h
          · split at h
            · have := ih _ _ _ _ h; simp at this; omega
            · cases h
        · have := ih _ _ _ _ h; simp at this; omega
    · cases h
theorem strOfNums_size (l : List Int) : (strOfNums l).size = l.length := by
  show (l.map fun n => UInt8.ofNat n.toNat).toArray.size = l.length
  simp
theorem unq_len {v : ByteArray} {b : List Int × Nat} (h : unq v = some b) : b.1.length ≤ v.size + 1 := by
  unfold unq at h
  by_cases c : bt v 0 = 34
  · rw [if_pos c] at h
    have := unqF_len v _ _ _ b.1 b.2 h
    simpa using this
  · rw [if_neg c] at h; cases h
theorem valOf_size {v x : ByteArray} (h : valOf v = some x) : x.size ≤ v.size + 1 := by
  unfold valOf at h
  by_cases c : bt v 0 = 34
  · rw [if_pos c] at h
    cases e : unq v with
    | none => rw [e] at h; cases h
    | some b =>
      rw [e, Option.bind_some] at h
      by_cases c2 : b.2 + 1 = v.size
      · rw [if_pos c2] at h
        injection h with h
        subst h
        rw [strOfNums_size]
        exact unq_len e
      · rw [if_neg c2] at h; cases h
  · rw [if_neg c] at h
    injection h with h; subst h; omega
/-- Name and value of a piece. -/
def pv (p : ByteArray) : Option (ByteArray × ByteArray) :=
  (pairOf p).bind fun b => (valOf b.2).bind fun v => if valueB v = true then some (b.1, v) else none
theorem pairOf_size {p : ByteArray} {b : ByteArray × ByteArray} (h : pairOf p = some b) : b.2.size + 1 ≤ p.size := by
  unfold pairOf at h
  split at h
  · rename_i hc
    injection h with h
    subst h
    rw [ext_size p (Nat.le_refl _)]; omega
  · cases h
theorem pairOf_empty {p : ByteArray} (h : ¬ 0 < p.size) : pairOf p = none := by
  unfold pairOf
  rw [if_neg (by omega)]
end Go.Proofs.Ytllllfbnbndegaa.L
