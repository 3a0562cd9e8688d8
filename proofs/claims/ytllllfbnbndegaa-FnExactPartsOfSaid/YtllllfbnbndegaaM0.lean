/- Plain laws on finding a text in a text, and on the front of a text. -/
import Derived.Test.YtllllfbnbndegaaC2
import Derived.Lib.IndexMore
namespace Go.Proofs.Ytllllfbnbndegaa.L
open Go.RowKit Go.Proofs.Ytllllfbnbndegaa.Q Go.Proofs.YtllllfbnbndegaaW.PrintWords Go.Proofs.YtllllfbnbndegaaW.PrintLast
set_option linter.unusedVariables false

theorem ext_list (s : ByteArray) (a b : Nat) : (s.extract a b).data.toList = (s.data.toList.drop a).take (b - a) := by
  rw [ByteArray.data_extract, Array.toList_extract]
theorem data_ne {s : ByteArray} (h : 0 < s.size) : s.data.toList ≠ [] := fun e => by have := toList_nil.1 ((toList_eq s).trans e); omega
theorem occ_iff (s sub : ByteArray) (a i : Nat) (ha : a ≤ i) : Lib.occAt (s.data.toList.drop a) sub.data.toList (i - a) = true ↔ s.extract i (i + sub.size) = sub := by
  unfold Lib.occAt
  rw [List.isPrefixOf_iff_prefix, List.prefix_iff_eq_take, List.drop_drop, show a + (i - a) = i by omega]
  constructor
  · intro h
    apply ba_ext
    rw [toList_eq, toList_eq, ext_list, show i + sub.size - i = sub.data.toList.length by simp]
    exact h.symm
  · intro h
    have h2 := congrArg (fun x : ByteArray => x.data.toList) h
    simp only [ext_list] at h2
    rw [show i + sub.size - i = sub.data.toList.length by simp] at h2
    exact h2.symm
/-- Where sub begins in s, from a on. -/
def fnd (s sub : ByteArray) (a : Nat) : Int := Lib.index (s.data.toList.drop a) sub.data.toList
theorem find_l (s sub : ByteArray) (hs : s.size ≤ 1000000) (hb : sub.size ≤ 1000000) (h0 : 0 < sub.size) (a : Nat) : ∀ d k i, a ≤ i → i ≤ s.size → s.size - i = d → d + 2 ≤ k → Lib.NoOcc (s.data.toList.drop a) sub.data.toList (i - a) →
    spec_l22Find.l0 k s sub (i : Int) = some (if fnd s sub a < 0 then -1 else fnd s sub a + a) := by
  intro d
  induction d with
  | zero =>
    intro k i h1 h2 h3 h4 h5
    obtain ⟨k, rfl⟩ : ∃ m, k = m + 1 := ⟨k - 1, by omega⟩
    simp only [spec_l22Find.l0]
    rw [wrap_in (by omega) (by omega), if_neg (by omega)]
    have h6 : fnd s sub a = -1 := Lib.index_past (data_ne h0) h5 (by simp; omega)
    rw [h6]; rfl
  | succ d ih =>
    intro k i h1 h2 h3 h4 h5
    obtain ⟨k, rfl⟩ : ∃ m, k = m + 1 := ⟨k - 1, by omega⟩
    simp only [spec_l22Find.l0]
    rw [wrap_in (i := (i : Int) + (sub.size : Int)) (by omega) (by omega)]
    by_cases c : i + sub.size ≤ s.size
    · rw [if_pos (by omega), if_pos (by omega), if_pos (by omega), wrap_in (i := (i : Int) + 1) (by omega) (by omega)]
      rw [show ((i : Int) + (sub.size : Int)).toNat = i + sub.size by omega, Int.toNat_natCast]
      by_cases c2 : s.extract i (i + sub.size) = sub
      · rw [if_pos (toList_inj.2 c2)]
        have h6 : fnd s sub a = ((i - a : Nat) : Int) := Lib.index_hit h5 (by simp; omega) ((occ_iff s sub a i h1).2 c2)
        rw [h6, if_neg (by omega)]
        congr 1; omega
      · rw [if_neg (fun h => c2 (toList_inj.1 h)), show (i : Int) + 1 = ((i + 1 : Nat) : Int) from rfl]
        refine ih k (i + 1) (by omega) (by omega) (by omega) (by omega) ?_
        rw [show i + 1 - a = (i - a) + 1 by omega]
        refine Lib.NoOcc.succ h5 ?_
        rw [← Bool.not_eq_true, occ_iff s sub a i h1]
        exact c2
    · rw [if_neg (by omega)]
      have h6 : fnd s sub a = -1 := Lib.index_past (data_ne h0) h5 (by simp; omega)
      rw [h6]; rfl
theorem find_ok (s sub : ByteArray) (hs : s.size ≤ 1000000) (hb : sub.size ≤ 1000000) (h0 : 0 < sub.size) (a : Nat) (ha : a ≤ s.size) (k : Nat) (hk : s.size + 3 ≤ k) :
    spec_l22Find.f k s sub (a : Int) = some (if fnd s sub a < 0 then -1 else fnd s sub a + a) := by
  unfold spec_l22Find.f
  exact find_l s sub hs hb h0 a (s.size - a) k a (Nat.le_refl _) ha rfl (by omega) (by rw [Nat.sub_self]; exact Lib.NoOcc.zero _ _)
/-- Where it is found, it stands. -/
theorem fnd_at (s sub : ByteArray) (h0 : 0 < sub.size) (a n : Nat) (ha : a ≤ s.size) (h : fnd s sub a = (n : Int)) : a + n + sub.size ≤ s.size ∧ s.extract (a + n) (a + n + sub.size) = sub := by
  have h1 : Lib.occAt (s.data.toList.drop a) sub.data.toList n = true := by
    rcases Lib.index_spec (s.data.toList.drop a) sub.data.toList with ⟨e, _⟩ | ⟨i, e, _, e2, _⟩
    · unfold fnd at h; omega
    · unfold fnd at h
      rw [show n = i by omega]
      exact e2
  have h2 : s.extract (a + n) (a + n + sub.size) = sub := (occ_iff s sub a (a + n) (by omega)).1 (by rw [show a + n - a = n by omega]; exact h1)
  refine ⟨?_, h2⟩
  have h3 := congrArg ByteArray.size h2
  rw [ByteArray.size_extract] at h3
  omega
theorem fnd_ge (s sub : ByteArray) (a : Nat) : -1 ≤ fnd s sub a := Lib.index_ge _ _
theorem index_ok (s sub : ByteArray) (a : Nat) (ha : a ≤ s.size) (hs : s.size ≤ 1000000) : strings_Index.f (s.extract a s.size) sub = some (fnd s sub a) := by
  unfold strings_Index.f
  rw [if_pos (by rw [ByteArray.size_extract]; omega), ext_list]
  unfold fnd
  rw [List.take_of_length_le (by simp)]

/-- The front of a text. -/
def fr (s p : ByteArray) : Bool := decide (s.extract 0 p.size = p)
theorem fr_le {s p : ByteArray} (h : fr s p = true) : p.size ≤ s.size := by
  unfold fr at h
  rw [decide_eq_true_iff] at h
  have h3 := congrArg ByteArray.size h
  rw [ByteArray.size_extract] at h3
  omega
theorem head_fr (s p : ByteArray) : spec_l2Head.f s p = some (fr s p) := by
  unfold spec_l2Head.f fr
  by_cases h : (s.size : Int) ≥ (p.size : Int)
  · rw [if_pos h, if_pos (by omega), if_pos (by omega), Int.toNat_natCast]
    congr 1
    rw [Bool.eq_iff_iff, beq_iff_eq, toList_inj, decide_eq_true_iff]
  · rw [if_neg h]
    congr 1
    rw [eq_comm, decide_eq_false_iff_not]
    intro e
    have h3 := congrArg ByteArray.size e
    rw [ByteArray.size_extract] at h3
    omega
theorem hasPrefix_fr (s p : ByteArray) : strings_HasPrefix.f s p = some (fr s p) := by
  have h := head_fr s p
  unfold spec_l2Head.f at h
  unfold strings_HasPrefix.f stringslite_HasPrefix.f
  rw [h]
  rfl
theorem fr_byte (s : ByteArray) (c : UInt8) (h0 : c ≠ 0) : fr s ⟨#[c]⟩ = decide (bt s 0 = (c.toNat : Int)) := by
  unfold fr
  rw [show (⟨#[c]⟩ : ByteArray).size = 1 from rfl, decide_eq_decide]
  by_cases h : 0 < s.size
  · have h1 := bt_opt s 0 c h
    rw [show ((0 : Nat) : Int) = 0 from rfl] at h1
    rw [← h1]
    constructor
    · intro e
      have e2 := congrArg (fun x : ByteArray => x.data.toList) e
      simp only [ext_list, List.drop_zero] at e2
      cases e3 : s.data.toList with
      | nil => rw [e3] at e2; simp at e2
      | cons a l => rw [e3] at e2; simp at e2; simp [e2]
    · intro e
      apply ba_ext
      rw [toList_eq, toList_eq, ext_list]
      cases e3 : s.data.toList with
      | nil => rw [e3] at e; simp at e
      | cons a l => rw [e3] at e; simp at e; simp [e]
  · rw [bt_out s 0 (by omega)]
    constructor
    · intro e
      have h3 := congrArg ByteArray.size e
      rw [ByteArray.size_extract] at h3
      have : (⟨#[c]⟩ : ByteArray).size = 1 := rfl
      omega
    · intro e
      exact absurd (UInt8.toNat.inj (show c.toNat = (0 : UInt8).toNat by have : (0 : UInt8).toNat = 0 := rfl; omega)) h0
theorem cutPrefix_ok (s p : ByteArray) : strings_CutPrefix.f s p = some (if fr s p = true then (s.extract p.size s.size, true) else (s, false)) := by
  unfold strings_CutPrefix.f stringslite_CutPrefix.f
  have h := head_fr s p
  unfold spec_l2Head.f at h
  unfold stringslite_HasPrefix.f
  rw [h, Option.bind_some]
  by_cases c : fr s p = true
  · have := fr_le c
    rw [if_pos c, if_pos (by omega), if_pos (by omega), if_pos c, Int.toNat_natCast]
    rfl
  · rw [if_neg c, if_neg c]
    rfl
end Go.Proofs.Ytllllfbnbndegaa.L
