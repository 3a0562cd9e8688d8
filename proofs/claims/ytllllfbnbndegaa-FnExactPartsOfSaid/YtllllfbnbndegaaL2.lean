/- Plain laws on the harness: what is marked is held; a list is itself. -/
import Derived.Test.YtllllfbnbndegaaL1
namespace Go.Proofs.Ytllllfbnbndegaa.L
open Go.RowKit Go.Proofs.Ytllllfbnbndegaa.Q Go.Proofs.YtllllfbnbndegaaW.PrintWords Go.Proofs.YtllllfbnbndegaaW.PrintLast
set_option linter.unusedVariables false

theorem strOfNums_one (x : Int) : (strOfNums [x]).size = 1 := rfl
theorem markText_l : ∀ d (n : Int) (x : ByteArray), 0 ≤ n → n < 10 ^ d → x.size + d ≤ 1000 → ∀ k, d < k → ∃ r, laws_markText.l0 k n x = some r := by
  intro d
  induction d with
  | zero =>
    intro n x h0 h1 hx k hk
    obtain ⟨k, rfl⟩ : ∃ m, k = m + 1 := ⟨k - 1, by omega⟩
    simp only [laws_markText.l0]
    rw [if_neg (by simp at h1; omega), if_pos (by omega)]
    exact ⟨_, rfl⟩
  | succ d ih =>
    intro n x h0 h1 hx k hk
    obtain ⟨k, rfl⟩ : ∃ m, k = m + 1 := ⟨k - 1, by omega⟩
    simp only [laws_markText.l0]
    by_cases hn : n > 0
    · rw [if_pos hn]
      simp only [Option.bind_some]
      rw [if_pos (by rw [strOfNums_one]; omega)]
      have hp : (10 : Int) ^ (d + 1) = 10 ^ d * 10 := by rw [Int.pow_succ]
      have h2 : Int.tdiv n 10 = n / 10 := Int.tdiv_eq_ediv_of_nonneg h0
      by_cases hb : n ≤ 9223372036854775807
      · rw [h2, wrap_in (by omega) (by omega)]
        refine ih (n / 10) _ (by omega) (by rw [hp] at h1; omega) ?_ k (by omega)
        rw [ByteArray.size_append, strOfNums_one]; omega
      · have hw : 0 ≤ wrap64 (Int.tdiv n 10) ∨ wrap64 (Int.tdiv n 10) ≤ 0 := by omega
        rw [h2]
        by_cases h3 : n / 10 ≤ 9223372036854775807
        · rw [wrap_in (by omega) h3]
          refine ih (n / 10) _ (by omega) (by rw [hp] at h1; omega) ?_ k (by omega)
          rw [ByteArray.size_append, strOfNums_one]; omega
        · have hlt : wrap64 (n / 10) < 10 ^ d := by
            have : wrap64 (n / 10) ≤ n / 10 := by unfold wrap64; omega
            rw [hp] at h1; omega
          by_cases h4 : 0 ≤ wrap64 (n / 10)
          · refine ih _ _ h4 hlt ?_ k (by omega)
            rw [ByteArray.size_append, strOfNums_one]; omega
          · obtain ⟨k, rfl⟩ : ∃ m, k = m + 1 := ⟨k - 1, by omega⟩
            simp only [laws_markText.l0]
            rw [if_neg (by omega), if_pos (by rw [ByteArray.size_append, strOfNums_one]; omega)]
            exact ⟨_, rfl⟩
    · rw [if_neg hn, if_pos (by omega)]
      exact ⟨_, rfl⟩
/-- The text of a mark. -/
def mt (n : Int) : ByteArray := (laws_markText.f 100 n).getD ⟨#[]⟩
theorem markText_ok (n : Int) (h0 : 0 ≤ n) (h1 : n ≤ 9223372036854775807) (k : Nat) (hk : 100 ≤ k) : laws_markText.f k n = some (mt n) := by
  have h : ∃ r, laws_markText.f 100 n = some r := by
    unfold laws_markText.f
    split
    · exact ⟨_, rfl⟩
    · exact markText_l 30 n _ h0 (by omega) (by decide) 100 (by decide)
  obtain ⟨r, hr⟩ := h
  have hm : mt n = r := by unfold mt; rw [hr]; rfl
  rw [hm]
  exact at_rounds (laws_markText.mono n) hk hr

theorem rd_label_app (pre suf : List S62) (x : S62) : rd_T62 (pre ++ x :: suf) (pre.length : Int) = x := by
  simp [rd_T62, List.getD_eq_getElem?_getD]
theorem set_app {α : Type} (pre suf : List α) (x y : α) : (pre ++ x :: suf).set ((pre.length : Int)).toNat y = pre ++ y :: suf := by
  simp

def markLabels : List S62 → Int → List S62
  | [], _ => []
  | _ :: r, n => ⟨mt n, mt (n + 1)⟩ :: markLabels r (n + 2)
theorem markLabels_length : ∀ (l : List S62) (n : Int), (markLabels l n).length = l.length
  | [], _ => rfl
  | _ :: r, n => by simp [markLabels, markLabels_length r]
theorem markLabelS_l : ∀ (suf pre : List S62) (n : Int) (k : Nat), 0 ≤ n → n + 2 * suf.length ≤ 4000000000000000000 → pre.length + suf.length ≤ 4000000000000000000 → suf.length + 100 < k →
    laws_markLabelS.l0 k (pre ++ suf) n (pre.length : Int) = some (n + 2 * suf.length, pre ++ markLabels suf n) := by
  intro suf
  induction suf with
  | nil =>
    intro pre n k h0 h1 h2 hk
    obtain ⟨k, rfl⟩ : ∃ m, k = m + 1 := ⟨k - 1, by omega⟩
    simp only [laws_markLabelS.l0]
    rw [if_neg (by simp)]
    simp [markLabels]
  | cons x r ih =>
    intro pre n k h0 h1 h2 hk
    simp only [List.length_cons] at h1 h2 hk
    obtain ⟨k, rfl⟩ : ∃ m, k = m + 1 := ⟨k - 1, by omega⟩
    simp only [laws_markLabelS.l0]
    rw [if_pos (by simp; omega), markText_ok n h0 (by omega) k (by omega), Option.bind_some, if_pos (by omega), Option.bind_some]
    rw [wrap_in (i := n + 1) (by omega) (by omega), markText_ok (n + 1) (by omega) (by omega) k (by omega), Option.bind_some]
    rw [wrap_in (i := n + 1 + 1) (by omega) (by omega), wrap_in (i := (pre.length : Int) + 1) (by omega) (by omega)]
    rw [set_app, set_app, rd_label_app]
    have h := ih (pre ++ [⟨mt n, mt (n + 1)⟩]) (n + 2) k (by omega) (by omega) (by simp; omega) (by omega)
    rw [List.append_assoc, List.length_append] at h
    simp only [List.length_cons, List.length_nil, List.cons_append, List.nil_append] at h
    rw [show ((pre.length : Int) + 1) = ((pre.length + 1 : Nat) : Int) from rfl, show n + 1 + 1 = n + 2 by omega]
    rw [show (0 + 1 : Nat) = 1 from rfl] at h
    rw [h]
    simp only [markLabels, List.length_cons, List.append_assoc, List.cons_append, List.nil_append]
    congr 2
    omega
theorem heldLabelS_l : ∀ (suf pre : List S62) (n : Int) (k : Nat), 0 ≤ n → n + 2 * suf.length ≤ 4000000000000000000 → pre.length + suf.length ≤ 4000000000000000000 → suf.length + 100 < k →
    laws_heldLabelS.l0 k (pre ++ markLabels suf n) n (pre.length : Int) = some (n + 2 * suf.length) := by
  intro suf
  induction suf with
  | nil =>
    intro pre n k h0 h1 h2 hk
    obtain ⟨k, rfl⟩ : ∃ m, k = m + 1 := ⟨k - 1, by omega⟩
    simp only [laws_heldLabelS.l0]
    rw [if_neg (by simp [markLabels])]
    simp
  | cons x r ih =>
    intro pre n k h0 h1 h2 hk
    simp only [List.length_cons] at h1 h2 hk
    obtain ⟨k, rfl⟩ : ∃ m, k = m + 1 := ⟨k - 1, by omega⟩
    rw [show markLabels (x :: r) n = ⟨mt n, mt (n + 1)⟩ :: markLabels r (n + 2) from rfl]
    simp only [laws_heldLabelS.l0]
    rw [if_pos (by simp [markLabels_length]; omega), if_pos (by omega), markText_ok n h0 (by omega) k (by omega), Option.bind_some, rd_label_app, if_pos rfl]
    rw [wrap_in (i := n + 1) (by omega) (by omega), markText_ok (n + 1) (by omega) (by omega) k (by omega), Option.bind_some, if_pos rfl]
    rw [wrap_in (i := n + 1 + 1) (by omega) (by omega), wrap_in (i := (pre.length : Int) + 1) (by omega) (by omega)]
    have h := ih (pre ++ [⟨mt n, mt (n + 1)⟩]) (n + 2) k (by omega) (by omega) (by simp; omega) (by omega)
    rw [List.append_assoc, List.length_append] at h
    simp only [List.length_cons, List.length_nil, List.cons_append, List.nil_append] at h
    rw [show ((pre.length : Int) + 1) = ((pre.length + 1 : Nat) : Int) from rfl, show n + 1 + 1 = n + 2 by omega]
    rw [show (0 + 1 : Nat) = 1 from rfl] at h
    rw [h]
    simp only [List.length_cons]
    congr 1
    omega
theorem eqLabelS_l (l : List S62) (hl : l.length ≤ 4000000000000000000) : ∀ d k (i : Nat), l.length - i = d → i ≤ l.length → d < k → laws_eqLabelS.l0 k l l (i : Int) = some true := by
  intro d
  induction d with
  | zero =>
    intro k i hd hi hk
    obtain ⟨k, rfl⟩ : ∃ m, k = m + 1 := ⟨k - 1, by omega⟩
    simp only [laws_eqLabelS.l0]
    rw [if_neg (by omega)]
  | succ d ih =>
    intro k i hd hi hk
    obtain ⟨k, rfl⟩ : ∃ m, k = m + 1 := ⟨k - 1, by omega⟩
    simp only [laws_eqLabelS.l0]
    rw [if_pos (by omega), if_pos (by omega), if_pos (by omega)]
    unfold laws_eqLabel.f
    rw [if_pos rfl, if_pos rfl, Option.bind_some, if_pos rfl, wrap_in (by omega) (by omega)]
    exact ih k (i + 1) (by omega) (by omega) (by omega)
theorem eqLabelS_self (l : List S62) (hl : l.length ≤ 4000000000000000000) (k : Nat) (hk : l.length + 3 ≤ k) : laws_eqLabelS.f k l l = some true := by
  unfold laws_eqLabelS.f
  rw [if_pos rfl]
  exact eqLabelS_l l hl l.length k 0 (by omega) (by omega) (by omega)
theorem markLabelS_ok (l : List S62) (hl : l.length ≤ 1000000000000000000) (k : Nat) (hk : l.length + 103 ≤ k) : laws_markLabelS.f k l 1 = some (1 + 2 * (l.length : Int), markLabels l 1) := by
  unfold laws_markLabelS.f
  have h := markLabelS_l l [] 1 k (by omega) (by omega) (by simp; omega) (by omega)
  simpa using h
theorem heldLabelS_ok (l : List S62) (hl : l.length ≤ 1000000000000000000) (k : Nat) (hk : l.length + 103 ≤ k) : laws_heldLabelS.f k (markLabels l 1) 1 = some (1 + 2 * (l.length : Int)) := by
  unfold laws_heldLabelS.f
  have h := heldLabelS_l l [] 1 k (by omega) (by omega) (by simp; omega) (by omega)
  simpa using h
end Go.Proofs.Ytllllfbnbndegaa.L
