/- Plain laws: what the two programs tell for a whole text. -/
import Derived.Test.YtllllfbnbndegaaL7
namespace Go.Proofs.Ytllllfbnbndegaa.L
open Go.RowKit Go.Proofs.Ytllllfbnbndegaa.P Go.Proofs.YtllllfbnbndegaaW.PrintWords Go.Proofs.YtllllfbnbndegaaW.PrintLast
open Go.Proofs.YtllllfbnbndegaaU
set_option linter.unusedVariables false

theorem pv_some {p n v : ByteArray} (h1 : pairOf p = some (n, v)) : pv p = (valOf v).bind fun x => if valueB x = true then some (n, x) else none := by
  unfold pv
  rw [h1]
  rfl
theorem stepS_none {l : List S62} {p : ByteArray} (h : pv p = none) : stepS l p = l := by unfold stepS; rw [h]
theorem stepS_some {l : List S62} {p n v : ByteArray} (h : pv p = some (n, v)) : stepS l p = if hasName l n = false ∧ l.length < 20 then ins ⟨n, v⟩ l else l := by unfold stepS; rw [h]
theorem stepI_none {l : List S62} {p : ByteArray} (h : pv p = none) : stepI l p = l := by unfold stepI; rw [h]
theorem stepI_some {l : List S62} {p n v : ByteArray} (h : pv p = some (n, v)) : stepI l p = if hasName l n = false ∧ l.length < 20 then l ++ [⟨n, v⟩] else l := by unfold stepI; rw [h]
theorem stepS_full {l : List S62} {p n v : ByteArray} (h : pairOf p = some (n, v)) (hb : ¬ (hasName l n = false ∧ l.length < 20)) : stepS l p = l := by
  cases e : pv p with
  | none => exact stepS_none e
  | some b =>
    have h2 := pv_some h
    rw [e] at h2
    have hb1 : b.1 = n := by
      cases e2 : valOf v with
      | none => rw [e2] at h2; cases h2
      | some x =>
        rw [e2, Option.bind_some] at h2
        by_cases c : valueB x = true
        · rw [if_pos c] at h2; injection h2 with h2; rw [h2]
        · rw [if_neg c] at h2; cases h2
    obtain ⟨b1, b2⟩ := b
    simp only at hb1
    subst hb1
    rw [stepS_some e, if_neg hb]
theorem valueB_pos {v : ByteArray} (h : valueB v = true) : 0 < v.size := by
  unfold valueB at h
  simp only [Bool.and_eq_true, decide_eq_true_iff] at h
  exact h.1.1
theorem nameB_le {v : ByteArray} (h : nameB v = true) : v.size ≤ 40 := by
  unfold nameB at h
  simp only [Bool.and_eq_true, decide_eq_true_iff] at h
  exact h.1.1.2

theorem spec_pairs_l : ∀ (suf pre : List ByteArray) (l : List S62) (k : Nat), (∀ p ∈ suf, p.size ≤ 500) → pre.length + suf.length ≤ 1000 → Good l → 3 * suf.length + 5000 ≤ k →
    spec_l22Pairs.l0 k l (pre ++ suf) ((pre ++ suf).length : Int) (pre.length : Int) = some (suf.foldl stepS l) := by
  intro suf
  induction suf with
  | nil =>
    intro pre l k h1 h2 h3 h4
    obtain ⟨k, rfl⟩ : ∃ m, k = m + 1 := ⟨k - 1, by omega⟩
    simp only [spec_l22Pairs.l0]
    rw [if_neg (by simp)]
    rfl
  | cons p r ih =>
    intro pre l k h1 h2 hg h4
    simp only [List.length_cons] at h2 h4
    obtain ⟨k, rfl⟩ : ∃ m, k = m + 3 := ⟨k - 3, by omega⟩
    have hp := h1 p List.mem_cons_self
    have hL := hg.len
    have hr : ∀ z ∈ r, z.size ≤ 500 := fun z hz => h1 z (List.mem_cons_of_mem _ hz)
    have hIH : ∀ (l' : List S62) (k' : Nat), Good l' → k ≤ k' → spec_l22Pairs.l0 k' l' (pre ++ p :: r) ((pre ++ p :: r).length : Int) ((pre.length : Int) + 1) = some (r.foldl stepS l') := by
      intro l' k' hg' hk'
      have hh := ih (pre ++ [p]) l' k' hr (by simp; omega) hg' (by omega)
      have e1 : (pre ++ [p]) ++ r = pre ++ p :: r := by simp
      have e2 : ((pre ++ [p]).length : Int) = (pre.length : Int) + 1 := by simp
      rw [e1, e2] at hh
      exact hh
    rw [List.foldl_cons]
    have hJT : ∀ e : Int, stepS l p = l → spec_l22Pairs.j1 (k + 2) l p e (pre ++ p :: r) ((pre ++ p :: r).length : Int) (pre.length : Int) true = some (r.foldl stepS (stepS l p)) := by
      intro e he
      simp only [spec_l22Pairs.j1]
      rw [if_pos trivial, wrap_in (i := (pre.length : Int) + 1) (by omega) (by omega), he]
      exact hIH l (k + 1) hg (by omega)
    simp only [spec_l22Pairs.l0]
    rw [if_pos (by simp; omega), if_pos (by omega), if_pos (by simp; omega), rdOf_app, nameAt_ok p (by omega) (k + 2) (by omega), Option.bind_some]
    have hle := we_le p
    by_cases c0 : we p < p.size
    · rw [if_neg (by omega), if_pos (by omega), if_pos (by omega)]
      by_cases c1 : bt p ((we p : Nat) : Int) = 61
      · rw [if_pos c1, if_pos (by omega)]
        simp only [Int.toNat_natCast]
        have hz := ext_size p (a := 0) (b := we p) (by omega)
        rw [spec_name _ (k + 2) (by omega), Option.bind_some]
        by_cases c2 : nameB (p.extract 0 (we p)) = true
        · have hP : pairOf p = some (p.extract 0 (we p), p.extract (we p + 1) p.size) := by unfold pairOf; rw [if_pos ⟨c0, c1, c2⟩]
          rw [if_pos c2]
          obtain ⟨t, ht, hi⟩ := of_ok (p.extract 0 (we p)) l hg (k + 2) (by omega)
          rw [ht, Option.bind_some]
          have hn40 := nameB_le c2
          have hvz := ext_size p (a := we p + 1) (Nat.le_refl _)
          generalize hN : p.extract 0 (we p) = n at *
          generalize hV : p.extract (we p + 1) p.size = v at *
          by_cases c3 : hasName l n = false
          · rw [if_pos (hi.2 c3)]
            by_cases c4 : l.length < 20
            · rw [decide_eq_false (by omega)]
              simp only [spec_l22Pairs.j1]
              rw [if_neg (by simp), wrap_in (i := ((we p : Nat) : Int) + 1) (by omega) (by omega), wrap_in (i := (pre.length : Int) + 1) (by omega) (by omega), show ((we p : Nat) : Int) + 1 = ((we p + 1 : Nat) : Int) from rfl]
              simp only [Int.toNat_natCast, hV]
              rw [if_pos (by omega), if_pos (by omega), head_ok, Option.bind_some, spec_unq v (by omega) (k + 1) (by omega), Option.bind_some]
              have hJ2 : ∀ x : ByteArray, x.size ≤ 1000 → valOf v = some x → spec_l22Pairs.j2 (k + 1) l p ((we p : Nat) : Int) x (pre ++ p :: r) ((pre ++ p :: r).length : Int) (pre.length : Int) = some (r.foldl stepS (stepS l p)) := by
                intro x hx hxv
                have hpv := pv_some hP
                rw [hxv, Option.bind_some] at hpv
                simp only [spec_l22Pairs.j2]
                rw [spec_value x k (by omega) (by omega), Option.bind_some, wrap_in (i := (pre.length : Int) + 1) (by omega) (by omega)]
                by_cases c5 : valueB x = true
                · rw [if_pos c5] at hpv
                  rw [if_pos c5, if_pos (by omega), if_pos (by omega)]
                  simp only [Int.toNat_natCast]
                  rw [hN, with_ok l n x hg c3 hn40 (valueB_pos c5) k (by omega), Option.bind_some]
                  have hs := stepS_some (l := l) hpv
                  rw [if_pos ⟨c3, c4⟩] at hs
                  have hg2 := (step_inv p (List.Perm.refl l) hg).2
                  rw [hs] at hg2 ⊢
                  exact hIH _ k hg2 (by omega)
                · rw [if_neg c5] at hpv
                  rw [if_neg c5, stepS_none hpv]
                  exact hIH l k hg (by omega)
              have hJ0 : valOf v = none → spec_l22Pairs.l0 (k + 1) l (pre ++ p :: r) ((pre ++ p :: r).length : Int) ((pre.length : Int) + 1) = some (r.foldl stepS (stepS l p)) := by
                intro hxv
                have hpv := pv_some hP
                rw [hxv, Option.bind_none] at hpv
                rw [stepS_none hpv]
                exact hIH l (k + 1) hg (by omega)
              by_cases c5 : bt v 0 = 34
              · rw [if_pos (decide_eq_true c5)]
                cases e : unq v with
                | none =>
                  rw [if_neg (by simp only [unqS]; omega)]
                  exact hJ0 (by unfold valOf; rw [if_pos c5, e]; rfl)
                | some b =>
                  obtain ⟨b, j⟩ := b
                  have hj := unq_lt e
                  have hbl := unq_len e
                  simp only at hbl
                  by_cases c6 : j + 1 = v.size
                  · rw [if_pos (show (unqS (some (b, j))).2 = (v.size : Int) by show (j : Int) + 1 = _; omega)]
                    exact hJ2 (strOfNums b) (by rw [strOfNums_size]; omega) (by unfold valOf; rw [if_pos c5, e, Option.bind_some, if_pos c6])
                  · rw [if_neg (show ¬ (unqS (some (b, j))).2 = (v.size : Int) by show ¬ (j : Int) + 1 = _; omega)]
                    exact hJ0 (by unfold valOf; rw [if_pos c5, e, Option.bind_some, if_neg c6])
              · rw [if_neg (by simpa using c5)]
                exact hJ2 v (by omega) (by unfold valOf; rw [if_neg c5])
            · rw [decide_eq_true (by omega)]
              exact hJT _ (stepS_full hP (fun h => c4 h.2))
          · rw [if_neg (fun h => c3 (hi.1 h))]
            exact hJT _ (stepS_full hP (fun h => c3 h.1))
        · rw [if_neg c2]
          exact hJT _ (stepS_none (by unfold pv pairOf; rw [if_neg (fun h => c2 h.2.2)]; rfl))
      · rw [if_neg c1]
        exact hJT _ (stepS_none (by unfold pv pairOf; rw [if_neg (fun h => c1 h.2.1)]; rfl))
    · rw [if_pos (by omega)]
      exact hJT _ (stepS_none (by unfold pv pairOf; rw [if_neg (fun h => c0 h.1)]; rfl))

theorem good_nil : Good [] := ⟨List.Pairwise.nil, fun y hy => by simp at hy, by simp⟩
theorem pcs_len (s : ByteArray) : (pcs s).length ≤ s.size + 1 := pcF_length s _ _ _ _
theorem pcs_size (s : ByteArray) (p : ByteArray) (h : p ∈ pcs s) : p.size ≤ s.size := pcF_size s _ _ _ _ p h
/-- What is told for a text. -/
def told (s : ByteArray) : List S62 := if s.size ≤ 500 ∧ printedB s = true then (pcs s).foldl stepS [] else []
theorem told_len (s : ByteArray) : (told s).length ≤ 20 := by
  unfold told
  split
  · exact (fold_inv (pcs s) [] [] (List.Perm.refl _) good_nil).2.len
  · simp
theorem spec_told (s : ByteArray) (hs : s.size ≤ 2000000) (k : Nat) (hk : 3000000 ≤ k) : spec_PairsOf.f k s = some (told s) := by
  unfold spec_PairsOf.f spec_l22Text.f told
  by_cases c : s.size ≤ 500
  · rw [if_pos (by omega), spec_print s k (by omega) (by omega), Option.bind_some, Option.bind_some]
    by_cases c2 : printedB s = true
    · rw [if_pos c2, if_pos ⟨c, c2⟩]
      unfold spec_l22Pairs.f
      rw [spec_pieces s (by omega) k (by omega), Option.bind_some]
      have hl := pcs_len s
      have h := spec_pairs_l (pcs s) [] [] k (fun p hp => by have := pcs_size s p hp; omega) (by simp; omega) good_nil (by omega)
      simp only [List.nil_append, List.length_nil] at h
      rw [show ((0 : Nat) : Int) = 0 from rfl] at h
      rw [h]
      rfl
    · rw [if_neg c2, if_neg (fun h => c2 h.2)]
  · rw [if_neg (by omega), Option.bind_some, if_neg (by simp), if_neg (fun h => c h.1)]

theorem put_ok (l : List S62) (n v : ByteArray) (hv : v.size ≤ 100000) : pairsPut l n v = some (if valueB v = true ∧ hasName l n = false ∧ l.length < 20 then l ++ [⟨n, v⟩] else l) := by
  unfold pairsPut
  rw [impl_value v _ (by omega) (by omega), Option.bind_some]
theorem cut_ok (p : ByteArray) (hp : p.size ≤ 100000) : strings_Cut.f p ⟨#[61]⟩ = some (cutB p 61) := by
  unfold strings_Cut.f
  rw [dif_pos (by rfl), if_pos (by omega)]
  rfl
theorem round_ok (l : List S62) (p : ByteArray) (hp : p.size ≤ 1000) : pairsRound l p = some (stepI l p) := by
  unfold pairsRound
  rw [cut_ok p (by omega), Option.bind_some]
  have hc := cutB_pair p
  by_cases c1 : (cutB p 61).2.2 = true
  · rw [if_neg (by simp [c1])]
    have hz := cutB_size p 61
    rw [impl_name _ _ (by omega), Option.bind_some]
    by_cases c2 : nameB (cutB p 61).1 = true
    · rw [if_neg (by simp [c2]), prefix_ok, Option.bind_some]
      rw [if_pos ⟨c1, c2⟩] at hc
      have hpv := pv_some hc.symm
      have hvz := pairOf_size hc.symm
      simp only at hvz
      generalize (cutB p 61).1 = n at *
      generalize (cutB p 61).2.1 = v at *
      have hput : ∀ x, x.size ≤ 100000 → valOf v = some x → pairsPut l n x = some (stepI l p) := by
        intro x hx hxv
        rw [hxv, Option.bind_some] at hpv
        rw [put_ok l n x hx]
        by_cases c3 : valueB x = true
        · rw [if_pos c3] at hpv
          rw [stepI_some hpv]
          simp [c3]
        · rw [if_neg c3] at hpv
          rw [stepI_none hpv, if_neg (fun h => c3 h.1)]
      have hno : valOf v = none → some l = some (stepI l p) := by
        intro hxv
        rw [hxv, Option.bind_none] at hpv
        rw [stepI_none hpv]
      by_cases c3 : bt v 0 = 34
      · rw [if_pos (decide_eq_true c3), impl_unq v (by omega) _ (by omega), Option.bind_some]
        cases e : unq v with
        | none =>
          simp only [unqI]
          rw [if_pos trivial]
          exact hno (by unfold valOf; rw [if_pos c3, e]; rfl)
        | some b =>
          obtain ⟨b, j⟩ := b
          have hj := unq_lt e
          have hbl := unq_len e
          simp only at hbl
          have hx := ext_size v (a := j + 1) (Nat.le_refl _)
          rw [if_neg (show ¬ (unqI v (some (b, j))).2.2 = false by show ¬ (true = false); simp)]
          by_cases c6 : j + 1 = v.size
          · rw [if_pos (show (unqI v (some (b, j))).2.1.toList = [] from toList_nil.2 (by show (v.extract (j + 1) v.size).size = 0; omega))]
            exact hput (strOfNums b) (by rw [strOfNums_size]; omega) (by unfold valOf; rw [if_pos c3, e, Option.bind_some, if_pos c6])
          · rw [if_neg (show ¬ (unqI v (some (b, j))).2.1.toList = [] from fun h => by have : (v.extract (j + 1) v.size).size = 0 := toList_nil.1 h; omega)]
            exact hno (by unfold valOf; rw [if_pos c3, e, Option.bind_some, if_neg c6])
      · rw [if_neg (by simpa using c3)]
        exact hput v (by omega) (by unfold valOf; rw [if_neg c3])
    · rw [if_neg (fun h => c2 h.2)] at hc
      rw [if_pos (by simpa using c2), stepI_none (by unfold pv; rw [← hc]; rfl)]
  · rw [if_neg (fun h => c1 h.1)] at hc
    rw [if_pos (by simpa using c1), stepI_none (by unfold pv; rw [← hc]; rfl)]
theorem stepI_len (l : List S62) (p : ByteArray) (h : l.length ≤ 20) : (stepI l p).length ≤ 20 := by
  unfold stepI
  split
  · split
    · simp; omega
    · exact h
  · exact h
theorem fold_ok : ∀ (ps : List ByteArray) (l : List S62), l.length ≤ 20 → (∀ p ∈ ps, p.size ≤ 1000) → pairsFold ps l = some (ps.foldl stepI l)
  | [], _, _, _ => rfl
  | p :: ps, l, hl, h => by
    have hp := h p List.mem_cons_self
    unfold pairsFold
    rw [if_pos ⟨hl, by omega⟩, round_ok l p hp, Option.bind_some]
    exact fold_ok ps _ (stepI_len l p hl) (fun q hq => h q (List.mem_cons_of_mem _ hq))
theorem impl_pairs (s : ByteArray) (hs : s.size ≤ 500) : impl_pairsOf.f s = some ((pcs s).foldl stepS []) := by
  unfold impl_pairsOf.f
  rw [impl_pcs s (by omega) _ (by omega), Option.bind_some]
  have hl := pcs_len s
  have hf := List.length_filter_le (fun p : ByteArray => decide (0 < p.size)) (pcs s)
  rw [if_pos (by omega), fold_ok _ _ (by simp) (fun p hp => by have := pcs_size s p (List.mem_filter.1 hp).1; omega), Option.bind_some, fold_filter]
  obtain ⟨h1, h2⟩ := fold_inv (pcs s) [] [] (List.Perm.refl _) good_nil
  rw [if_pos (by rw [h1.length_eq]; exact h2.len), sort_eq h1 h2]
theorem impl_told (s : ByteArray) (hs : s.size ≤ 2000000) (k : Nat) (hk : 3000000 ≤ k) : impl_PairsOf.f k s = some (told s) := by
  unfold impl_PairsOf.f told
  rw [impl_print s 500 k (by omega) (by omega), Option.bind_some]
  by_cases c : s.size ≤ 500
  · rw [decide_eq_true (by omega), Bool.true_and]
    by_cases c2 : printedB s = true
    · rw [if_pos c2, if_pos ⟨c, c2⟩, impl_pairs s c]
      rfl
    · rw [if_neg c2, if_neg (fun h => c2 h.2)]
  · rw [decide_eq_false (by omega), Bool.false_and, if_neg (by simp), if_neg (fun h => c h.1)]
theorem law_ok (s : ByteArray) : ∃ k, laws_FnExactPairsOf.f k s = some true := by
  refine ⟨3000000, ?_⟩
  unfold laws_FnExactPairsOf.f
  by_cases c : (s.size : Int) > 1048576
  · rw [if_pos c]
  · have hl := told_len s
    rw [if_neg c, spec_told s (by omega) _ (Nat.le_refl _), Option.bind_some, impl_told s (by omega) _ (Nat.le_refl _), Option.bind_some, eqLabelS_self _ (by omega) _ (by omega), Option.bind_some, if_pos rfl]
    rw [markLabelS_ok _ (by omega) _ (by omega), Option.bind_some, heldLabelS_ok _ (by omega) _ (by omega), Option.bind_some, if_neg (by omega), if_pos rfl, Option.bind_some, eqLabelS_self _ (by omega) _ (by omega), Option.bind_some, if_pos rfl, Option.bind_some, if_neg (by omega), if_pos rfl]
end Go.Proofs.Ytllllfbnbndegaa.L
