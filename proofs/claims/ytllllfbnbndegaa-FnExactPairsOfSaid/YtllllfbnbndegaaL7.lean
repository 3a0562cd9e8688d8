/- Plain laws on the rounds of the two programs over the pieces. -/
import Derived.Test.YtllllfbnbndegaaL6
namespace Go.Proofs.Ytllllfbnbndegaa.L
open Go.RowKit Go.Proofs.Ytllllfbnbndegaa.P Go.Proofs.YtllllfbnbndegaaW.PrintWords Go.Proofs.YtllllfbnbndegaaW.PrintLast
open Go.Proofs.YtllllfbnbndegaaU
set_option linter.unusedVariables false

def lt2 (x y : S62) : Prop := Lib.compareBytes x.f0.data.toList y.f0.data.toList < 0
theorem ne_list {a b : ByteArray} (h : a ≠ b) : a.data.toList ≠ b.data.toList := fun e => h (ba_ext (by rw [toList_eq, toList_eq, e]))
theorem ins_sorted (x : S62) : ∀ l, (∀ y ∈ l, y.f0 ≠ x.f0) → l.Pairwise lt2 → (ins x l).Pairwise lt2
  | [], _, _ => by simp [ins]
  | y :: r, hn, h => by
    obtain ⟨h1, h2⟩ := List.pairwise_cons.1 h
    have hy := hn y List.mem_cons_self
    have h0 : Lib.compareBytes x.f0.data.toList y.f0.data.toList ≠ 0 := fun e => ne_list hy (cb_zero e).symm
    unfold ins
    split
    · rename_i c
      have c1 : lt2 x y := by unfold lt2; omega
      refine List.pairwise_cons.2 ⟨fun z hz => ?_, h⟩
      rcases List.mem_cons.1 hz with rfl | hz
      · exact c1
      · exact cb_trans c1 (h1 z hz)
    · rename_i c
      refine List.pairwise_cons.2 ⟨fun z hz => ?_, ins_sorted x r (fun z hz => hn z (List.mem_cons_of_mem _ hz)) h2⟩
      rcases List.mem_cons.1 ((ins_perm x r).mem_iff.1 hz) with rfl | hz
      · have := cb_swap z.f0.data.toList y.f0.data.toList
        unfold lt2; omega
      · exact h1 z hz

/-- The list that the reference keeps. -/
structure Good (l : List S62) : Prop where
  sorted : l.Pairwise lt2
  each : ∀ y ∈ l, 0 < y.f1.size ∧ y.f0.size ≤ 40
  len : l.length ≤ 20
theorem hasName_false {l : List S62} {n : ByteArray} : hasName l n = false ↔ ∀ y ∈ l, y.f0 ≠ n := by
  unfold hasName
  rw [List.any_eq_false]
  simp
def stepS (l : List S62) (p : ByteArray) : List S62 :=
  match pv p with
  | some b => if hasName l b.1 = false ∧ l.length < 20 then ins ⟨b.1, b.2⟩ l else l
  | none => l
def stepI (l : List S62) (p : ByteArray) : List S62 :=
  match pv p with
  | some b => if hasName l b.1 = false ∧ l.length < 20 then l ++ [⟨b.1, b.2⟩] else l
  | none => l
theorem pv_good {p : ByteArray} {b : ByteArray × ByteArray} (h : pv p = some b) : 0 < b.2.size ∧ b.1.size ≤ 40 := by
  unfold pv at h
  cases e : pairOf p with
  | none => rw [e] at h; cases h
  | some c =>
    rw [e, Option.bind_some] at h
    cases e2 : valOf c.2 with
    | none => rw [e2] at h; cases h
    | some v =>
      rw [e2, Option.bind_some] at h
      by_cases c3 : valueB v = true
      · rw [if_pos c3] at h
        injection h with h
        subst h
        refine ⟨?_, ?_⟩
        · unfold valueB at c3
          simp only [Bool.and_eq_true, decide_eq_true_iff] at c3
          exact c3.1.1
        · unfold pairOf at e
          split at e
          · rename_i hc
            injection e with e
            subst e
            have := hc.2.2
            unfold nameB at this
            simp only [Bool.and_eq_true, decide_eq_true_iff] at this
            exact this.1.1.2
          · cases e
      · rw [if_neg c3] at h; cases h
theorem step_inv {l m : List S62} (p : ByteArray) (hp : l.Perm m) (hg : Good m) : (stepI l p).Perm (stepS m p) ∧ Good (stepS m p) := by
  unfold stepI stepS
  cases e : pv p with
  | none => exact ⟨hp, hg⟩
  | some b =>
    have hh : hasName l b.1 = hasName m b.1 := hp.any_eq
    obtain ⟨g1, g2⟩ := pv_good e
    simp only
    rw [hh, hp.length_eq]
    by_cases c : hasName m b.1 = false ∧ m.length < 20
    · rw [if_pos c, if_pos c]
      refine ⟨(List.perm_append_comm.trans (List.Perm.cons _ hp)).trans (ins_perm _ _).symm, ins_sorted _ _ (hasName_false.1 c.1) hg.sorted, fun y hy => ?_, ?_⟩
      · rcases List.mem_cons.1 ((ins_perm _ _).mem_iff.1 hy) with rfl | hy
        · exact ⟨g1, g2⟩
        · exact hg.each y hy
      · rw [(ins_perm _ _).length_eq]; simp; omega
    · rw [if_neg c, if_neg c]
      exact ⟨hp, hg⟩
theorem fold_inv : ∀ (ps : List ByteArray) (l m : List S62), l.Perm m → Good m → (ps.foldl stepI l).Perm (ps.foldl stepS m) ∧ Good (ps.foldl stepS m)
  | [], _, _, hp, hg => ⟨hp, hg⟩
  | p :: ps, l, m, hp, hg => by
    obtain ⟨h1, h2⟩ := step_inv p hp hg
    exact fold_inv ps _ _ h1 h2
theorem fold_filter : ∀ (ps : List ByteArray) (l : List S62), (ps.filter fun p => decide (0 < p.size)).foldl stepI l = ps.foldl stepI l
  | [], _ => rfl
  | p :: ps, l => by
    by_cases c : 0 < p.size
    · rw [List.filter_cons_of_pos (by simpa using c)]
      exact fold_filter ps _
    · rw [List.filter_cons_of_neg (by simpa using c), List.foldl_cons]
      have : stepI l p = l := by
        unfold stepI pv
        rw [pairOf_empty c]
        rfl
      rw [this]
      exact fold_filter ps l
theorem sort_eq {l m : List S62} (hp : l.Perm m) (hg : Good m) : sortLabels l = m := by
  have hp2 : (sortLabels l).Perm m := (sortBy_perm cmpName swoName l).trans hp
  refine List.Perm.eq_of_pairwise (le := fun a b => ¬ cmpName b a < 0) ?_ (sortBy_sorted cmpName swoName l) (hg.sorted.imp fun {a b} h h2 => ?_) hp2
  · intro a b ha hb h1 h2
    have ha' := hp2.mem_iff.1 ha
    obtain ⟨i, hi, rfl⟩ := List.getElem_of_mem ha'
    obtain ⟨j, hj, rfl⟩ := List.getElem_of_mem hb
    have hs := List.pairwise_iff_getElem.1 hg.sorted
    rcases Nat.lt_trichotomy i j with h | h | h
    · exact absurd (hs i j hi hj h) h2
    · subst h; rfl
    · exact absurd (hs j i hj hi h) h1
  · have := cb_swap a.f0.data.toList b.f0.data.toList
    unfold lt2 at h
    unfold cmpName at h2
    omega

theorem rdOf_app (pre suf : List ByteArray) (x : ByteArray) : rdOf ByteArray.empty (pre ++ x :: suf) (pre.length : Int) = x := by
  simp [rdOf, List.getD_eq_getElem?_getD]
theorem of_l (n : ByteArray) : ∀ (suf pre : List S62) (k : Nat), pre.length + suf.length ≤ 1000 → suf.length < k → (∀ y ∈ suf, 0 < y.f1.size) →
    ∃ t, spec_l2Of.l0 k n (pre ++ suf) ((pre ++ suf).length : Int) (pre.length : Int) = some t ∧ (t.toList = [] ↔ hasName suf n = false) := by
  intro suf
  induction suf with
  | nil =>
    intro pre k h1 h2 h3
    obtain ⟨k, rfl⟩ : ∃ m, k = m + 1 := ⟨k - 1, by omega⟩
    simp only [spec_l2Of.l0]
    rw [if_neg (by simp)]
    exact ⟨_, rfl, by simp [hasName, toList_eq]⟩
  | cons y r ih =>
    intro pre k h1 h2 h3
    simp only [List.length_cons] at h1 h2
    obtain ⟨k, rfl⟩ : ∃ m, k = m + 1 := ⟨k - 1, by omega⟩
    simp only [spec_l2Of.l0]
    rw [if_pos (by simp; omega), if_pos (by omega), if_pos (by simp; omega), rd_label_app]
    by_cases c : y.f0 = n
    · rw [if_pos (toList_inj.2 c)]
      refine ⟨_, rfl, ?_⟩
      have := h3 y List.mem_cons_self
      rw [toList_nil, hasName_false]
      exact ⟨fun h => absurd h (by omega), fun h => absurd c (h y List.mem_cons_self)⟩
    · rw [if_neg (fun h => c (toList_inj.1 h)), wrap_in (by omega) (by omega)]
      obtain ⟨t, ht, hi⟩ := ih (pre ++ [y]) k (by simp; omega) (by omega) (fun z hz => h3 z (List.mem_cons_of_mem _ hz))
      have e1 : (pre ++ [y]) ++ r = pre ++ y :: r := by simp
      have e2 : ((pre ++ [y]).length : Int) = (pre.length : Int) + 1 := by simp
      rw [e1, e2] at ht
      refine ⟨t, ht, hi.trans ?_⟩
      rw [hasName_false, hasName_false]
      exact ⟨fun h z hz => by rcases List.mem_cons.1 hz with rfl | hz; exact c; exact h z hz, fun h z hz => h z (List.mem_cons_of_mem _ hz)⟩
theorem of_ok (n : ByteArray) (l : List S62) (hg : Good l) (k : Nat) (hk : 30 ≤ k) : ∃ t, spec_l2Of.f k l n = some t ∧ (t.toList = [] ↔ hasName l n = false) :=
  of_l n l [] k (by have := hg.len; simp; omega) (by have := hg.len; omega) (fun y hy => (hg.each y hy).1)
theorem with_ok (l : List S62) (n v : ByteArray) (hg : Good l) (hn : hasName l n = false) (hz : n.size ≤ 40) (hv : 0 < v.size) (k : Nat) (hk : 2100 ≤ k) : spec_l2With.f k l n v = some (ins ⟨n, v⟩ l) := by
  unfold spec_l2With.f
  have hl := hg.len
  have h := with_l ⟨n, v⟩ (by simp; omega) l [] [] false k (fun y hy => ⟨hasName_false.1 hn y hy, by have := (hg.each y hy).2; omega⟩) (by simp; omega) (by simp) (by omega)
  have e : (v.toList == ([] : List UInt8)) = false := by
    rw [beq_eq_false_iff_ne]
    intro h
    have := toList_nil.1 h
    omega
  rw [e]
  exact h
end Go.Proofs.Ytllllfbnbndegaa.L
