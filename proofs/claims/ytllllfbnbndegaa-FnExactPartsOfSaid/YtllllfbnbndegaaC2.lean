/- Plain laws on lists of labels by name: the order of names, putting one in its place, sorting. -/
import Derived.Test.YtllllfbnbndegaaC1
import Derived.Test.YtllllfbnbndegaaU1
import Derived.Test.YtllllfbnbndegaaU3
namespace Go.Proofs.Ytllllfbnbndegaa.L
open Go.RowKit Go.Proofs.Ytllllfbnbndegaa.Q Go.Proofs.YtllllfbnbndegaaW.PrintWords Go.Proofs.YtllllfbnbndegaaW.PrintLast
open Go.Proofs.YtllllfbnbndegaaU
set_option linter.unusedVariables false

theorem drop_bt (s : ByteArray) (i : Nat) (h : i < s.size) : ∃ a, s.data.toList.drop i = a :: s.data.toList.drop (i + 1) ∧ bt s (i : Int) = (a.toNat : Int) :=
  ⟨s.data.toList[i]'(by simpa using h), List.drop_eq_getElem_cons (by simpa using h), (bt_get s i h).trans rfl⟩
theorem drop_end (s : ByteArray) (i : Nat) (h : s.size ≤ i) : s.data.toList.drop i = [] := List.drop_eq_nil_of_le (by simpa using h)
theorem u8_lt (a : UInt8) : (a.toNat : Int) < 256 := by have := UInt8.toNat_lt a; omega
theorem cmpNum_ok (a b : Int) : spec_l2CmpNum.f a b = some (if a < b then -1 else if a > b then 1 else 0) := by
  unfold spec_l2CmpNum.f
  split
  · rfl
  · split <;> rfl
theorem cmpText_l (a b : ByteArray) (ha : a.size ≤ 1000000000) (hb : b.size ≤ 1000000000) : ∀ d k (i : Nat), a.size - i = d → i ≤ a.size → i ≤ b.size → a.data.toList.take i = b.data.toList.take i → 2 * d + 1 < k →
    spec_l2CmpText.l0 k a b (i : Int) = some (Lib.compareBytes (a.data.toList.drop i) (b.data.toList.drop i)) := by
  intro d
  induction d with
  | zero =>
    intro k i hd hi hj ht hk
    obtain ⟨k, rfl⟩ : ∃ m, k = m + 2 := ⟨k - 2, by omega⟩
    simp only [spec_l2CmpText.l0]
    rw [if_neg (by omega)]
    simp only [spec_l2CmpText.j1]
    rw [if_neg (by simp), cmpNum_ok, Option.bind_some, drop_end a i (by omega)]
    by_cases c : i < b.size
    · obtain ⟨y, hy, _⟩ := drop_bt b i c
      rw [hy, if_pos (by omega)]; rfl
    · rw [drop_end b i (by omega), if_neg (by omega), if_neg (by omega)]; rfl
  | succ d ih =>
    intro k i hd hi hj ht hk
    obtain ⟨k, rfl⟩ : ∃ m, k = m + 2 := ⟨k - 2, by omega⟩
    simp only [spec_l2CmpText.l0]
    rw [if_pos (by omega)]
    simp only [spec_l2CmpText.j1]
    obtain ⟨x, hx, ex⟩ := drop_bt a i (by omega)
    by_cases c : i < b.size
    · obtain ⟨y, hy, ey⟩ := drop_bt b i c
      rw [if_pos (decide_eq_true (by omega)), if_pos (by omega), if_pos (by omega), if_pos (by omega), ex, ey, hx, hy]
      have h1 := u8_lt x
      have h2 := u8_lt y
      rw [wrap_in (i := (x.toNat : Int)) (by omega) (by omega), wrap_in (i := (y.toNat : Int)) (by omega) (by omega)]
      by_cases c1 : (x.toNat : Int) = (y.toNat : Int)
      · have c2 : x = y := UInt8.toNat.inj (by omega)
        subst c2
        rw [if_pos rfl, wrap_in (by omega) (by omega), show (i : Int) + 1 = ((i + 1 : Nat) : Int) from rfl]
        have h3 : a.data.toList.take (i + 1) = b.data.toList.take (i + 1) := by
          have e1 := List.take_append_drop i a.data.toList
          have e2 := List.take_append_drop i b.data.toList
          rw [hx] at e1
          rw [hy] at e2
          have l1 : (a.data.toList.take i).length = i := by rw [List.length_take]; simp; omega
          have l2 : (b.data.toList.take i).length = i := by rw [List.length_take]; simp; omega
          have f1 : a.data.toList.take (i + 1) = a.data.toList.take i ++ [x] := by
            conv => lhs; rw [← e1]
            rw [List.take_append, l1, List.take_of_length_le (by omega)]
            simp
          have f2 : b.data.toList.take (i + 1) = b.data.toList.take i ++ [x] := by
            conv => lhs; rw [← e2]
            rw [List.take_append, l2, List.take_of_length_le (by omega)]
            simp
          rw [f1, f2, ht]
        rw [ih k (i + 1) (by omega) (by omega) (by omega) h3 (by omega)]
        congr 1
        show _ = if x < x then _ else _
        rw [if_neg (by simp), if_neg (by simp)]
      · rw [if_neg c1, cmpNum_ok, Option.bind_some]
        congr 1
        show _ = if x < y then _ else _
        simp only [UInt8.lt_iff_toNat_lt]
        by_cases c3 : x.toNat < y.toNat
        · rw [if_pos (by omega), if_pos c3]
        · rw [if_neg (by omega), if_pos (by omega), if_neg c3, if_pos (by omega)]
    · rw [if_neg (by simp; omega), cmpNum_ok, Option.bind_some, drop_end b i (by omega), hx, if_neg (by omega), if_pos (by omega)]
      rfl
theorem cmpText_ok (a b : ByteArray) (ha : a.size ≤ 1000000000) (hb : b.size ≤ 1000000000) (k : Nat) (hk : 2 * a.size + 3 ≤ k) : spec_l2CmpText.f k a b = some (Lib.compareBytes a.data.toList b.data.toList) :=
  cmpText_l a b ha hb a.size k 0 (by omega) (by omega) (by omega) rfl (by omega)
/-- x put in its place. -/
def ins (x : S62) : List S62 → List S62
  | [] => [x]
  | y :: r => if Lib.compareBytes x.f0.data.toList y.f0.data.toList ≤ 0 then x :: y :: r else y :: ins x r
theorem ins_perm (x : S62) : ∀ l, (ins x l).Perm (x :: l)
  | [] => List.Perm.refl _
  | y :: r => by
    unfold ins
    split
    · exact List.Perm.refl _
    · exact (List.Perm.cons y (ins_perm x r)).trans (List.Perm.swap x y r)
theorem with_l (x : S62) (hx : x.f0.size ≤ 1000) : ∀ (suf pre acc : List S62) (b : Bool) (k : Nat), (∀ y ∈ suf, y.f0 ≠ x.f0 ∧ y.f0.size ≤ 1000) → pre.length + suf.length ≤ 1000 → acc.length ≤ 2 * pre.length → 2 * suf.length + 2010 ≤ k →
    spec_l2With.l0 k x.f0 x.f1 acc b (pre ++ suf) ((pre ++ suf).length : Int) (pre.length : Int) = some (acc ++ if b = true then suf else ins x suf) := by
  intro suf
  induction suf with
  | nil =>
    intro pre acc b k h1 h2 h3 h4
    obtain ⟨k, rfl⟩ : ∃ m, k = m + 1 := ⟨k - 1, by omega⟩
    simp only [spec_l2With.l0]
    rw [if_neg (by simp)]
    cases b with
    | true => rw [if_pos rfl, if_pos rfl, List.append_nil]
    | false =>
      simp only [List.length_nil] at h2
      rw [if_neg (by simp), if_pos (by omega), if_neg (by simp)]
      rfl
  | cons y r ih =>
    intro pre acc b k h1 h2 h3 h4
    simp only [List.length_cons] at h2 h4
    obtain ⟨k, rfl⟩ : ∃ m, k = m + 2 := ⟨k - 2, by omega⟩
    obtain ⟨hne, hy⟩ := h1 y (List.mem_cons_self)
    have hr : ∀ z ∈ r, z.f0 ≠ x.f0 ∧ z.f0.size ≤ 1000 := fun z hz => h1 z (List.mem_cons_of_mem _ hz)
    have hIH : ∀ (acc : List S62) (b : Bool), acc.length ≤ 2 * pre.length + 2 → spec_l2With.l0 k x.f0 x.f1 acc b (pre ++ y :: r) ((pre ++ y :: r).length : Int) ((pre.length : Int) + 1) = some (acc ++ if b = true then r else ins x r) := by
      intro acc b h
      have hh := ih (pre ++ [y]) acc b k hr (by simp; omega) (by simp; omega) (by omega)
      have e1 : (pre ++ [y]) ++ r = pre ++ y :: r := by simp
      have e2 : ((pre ++ [y]).length : Int) = (pre.length : Int) + 1 := by simp
      rw [e1, e2] at hh
      exact hh
    simp only [spec_l2With.l0]
    rw [if_pos (by simp; omega), if_pos (by omega), if_pos (by simp; omega), rd_label_app]
    have hJ : ∀ c : Bool, spec_l2With.j1 (k + 1) x.f0 x.f1 acc b (pre ++ y :: r) ((pre ++ y :: r).length : Int) (pre.length : Int) c y.f0 y.f1 = some (acc ++ if c = true then x :: y :: r else y :: (if b = true then r else ins x r)) := by
      intro c
      simp only [spec_l2With.j1]
      rw [wrap_in (by omega) (by omega)]
      cases c with
      | true =>
        rw [if_pos rfl, if_pos (by omega), Option.bind_some, if_neg (fun h => hne (toList_inj.1 h)), if_pos (by simp; omega), if_pos rfl]
        have h := hIH (acc ++ [x] ++ [y]) true (by simp; omega)
        rw [if_pos rfl] at h
        simp only [List.append_assoc, List.cons_append, List.nil_append] at h ⊢
        exact h
      | false =>
        rw [if_neg (by simp), if_neg (fun h => hne (toList_inj.1 h)), if_pos (by omega), if_neg (by simp)]
        have h := hIH (acc ++ [y]) b (by simp; omega)
        simp only [List.append_assoc, List.cons_append, List.nil_append] at h ⊢
        exact h
    cases b with
    | true => rw [if_pos rfl, hJ false]; simp
    | false =>
      rw [if_neg (by simp), cmpText_ok x.f0 y.f0 (by omega) (by omega) (k + 1) (by omega), Option.bind_some, hJ]
      simp only [ins]
      by_cases c : Lib.compareBytes x.f0.data.toList y.f0.data.toList ≤ 0 <;> simp [c]
def lt2 (x y : S62) : Prop := Lib.compareBytes x.f0.data.toList y.f0.data.toList < 0
theorem ne_list {a b : ByteArray} (h : a ≠ b) : a.data.toList ≠ b.data.toList := fun e => h (ba_ext (by rw [toList_eq, toList_eq, e]))
theorem ins_sorted (x : S62) : ∀ l, (∀ y ∈ l, y.f0 ≠ x.f0) → l.Pairwise lt2 → (ins x l).Pairwise lt2
  | [], _, _ => by simp [ins]
  | y :: r, hn, h => by
    obtain ⟨h1, h2⟩ := List.pairwise_cons.1 h
    have hy := hn y List.mem_cons_self
    have h0 : Lib.compareBytes x.f0.data.toList y.f0.data.toList ≠ 0 := fun e => ne_list hy (cb_zero e).symm
    unfold ins
    split
    · rename_i c
      have c1 : lt2 x y := by unfold lt2; omega
      refine List.pairwise_cons.2 ⟨fun z hz => ?_, h⟩
      rcases List.mem_cons.1 hz with rfl | hz
      · exact c1
      · exact cb_trans c1 (h1 z hz)
    · rename_i c
      refine List.pairwise_cons.2 ⟨fun z hz => ?_, ins_sorted x r (fun z hz => hn z (List.mem_cons_of_mem _ hz)) h2⟩
      rcases List.mem_cons.1 ((ins_perm x r).mem_iff.1 hz) with rfl | hz
      · have := cb_swap z.f0.data.toList y.f0.data.toList
        unfold lt2; omega
      · exact h1 z hz
theorem sort_lab {l m : List S62} (hp : l.Perm m) (hg : m.Pairwise lt2) : sortLabs l = m := by
  have hp2 : (sortLabs l).Perm m := (sortBy_perm cmpLab swoLab l).trans hp
  refine List.Perm.eq_of_pairwise (le := fun a b => ¬ cmpLab b a < 0) ?_ (sortBy_sorted cmpLab swoLab l) (hg.imp fun {a b} h h2 => ?_) hp2
  · intro a b ha hb h1 h2
    have ha' := hp2.mem_iff.1 ha
    obtain ⟨i, hi, rfl⟩ := List.getElem_of_mem ha'
    obtain ⟨j, hj, rfl⟩ := List.getElem_of_mem hb
    have hs := List.pairwise_iff_getElem.1 hg
    rcases Nat.lt_trichotomy i j with h | h | h
    · exact absurd (hs i j hi hj h) h2
    · subst h; rfl
    · exact absurd (hs j i hj hi h) h1
  · have := cb_swap a.f0.data.toList b.f0.data.toList
    unfold lt2 at h
    unfold cmpLab at h2
    omega
theorem with_new (l : List S62) (n v : ByteArray) (hl : l.length ≤ 500) (hs : ∀ y ∈ l, y.f0 ≠ n ∧ y.f0.size ≤ 1000) (hz : n.size ≤ 1000) (hv : 0 < v.size) (k : Nat) (hk : 4000 ≤ k) : spec_l2With.f k l n v = some (ins ⟨n, v⟩ l) := by
  unfold spec_l2With.f
  have h := with_l ⟨n, v⟩ (by simp; omega) l [] [] false k (fun y hy => hs y hy) (by simp; omega) (by simp) (by omega)
  have e : (v.toList == ([] : List UInt8)) = false := by
    rw [beq_eq_false_iff_ne]
    intro h
    have := toList_nil.1 h
    omega
  rw [e]
  exact h
end Go.Proofs.Ytllllfbnbndegaa.L
