/- Words of my own over the printed ones: a row of flat structs under the shelf's sort. -/
import Derived.Test.YtllllfbnbndegaaWWords
import Derived.Shelf.SlSortCmp.WholeK
import Derived.Shelf.SlSortCmp.NoneTotal
namespace Go.Proofs.YtllllfbnbndegaaU
open Go.RowKit Go.Proofs.YtllllfbnbndegaaW.PrintWords Go.Sort
set_option linter.unusedVariables false

/-- A kind whose elements are their own cells: no row inside. -/
structure Flat {α : Type} (d : Kd α) (enc : α → List Value) : Prop where
  out : ∀ {w base ok x cs}, d.M w base ok x cs → cs = enc x
  made : ∀ w base ok x, d.M w base ok x (enc x)
  len : ∀ x, (enc x).length = d.sz
  one : ∀ x, ∀ v ∈ enc x, v.oneCell' = true
  pos : 0 < d.sz

variable {α : Type} [Inhabited α] {d : Kd α} {enc : α → List Value}

theorem div_add_mod_lt {t k n : Nat} (hk : 0 < k) (h : t < n * k) : t / k < n ∧ t % k < k := ⟨Nat.div_lt_of_lt_mul (by rw [Nat.mul_comm]; exact h), Nat.mod_lt _ hk⟩

/-- An owned row of a flat kind holds its elements in the sort's words. -/
theorem holds_of_R (F : Flat d enc) {e : Nat} {w : World} {base : Nat} {ok : Nat → Prop} {xs : List α} {g cap : Nat}
    (h : d.R e w base ok (.slice (some ⟨g, 0, none⟩) xs.length cap) xs) : HoldsK enc d.sz w g 0 xs.toArray ∧ g < w.heap.size := by
  obtain ⟨hok, inner, ho, hl, hr⟩ := h
  rcases ho.2 with ⟨e0, _⟩ | ⟨g', cap', cur, e0, hb, hg, hn, hm, hs, ht⟩
  · cases e0
  · injection e0 with e1 _ e3
    injection e1 with e1
    injection e1 with e1
    subst e1; subst e3
    have hlt : g < w.heap.size := by
      rcases Nat.lt_or_ge g w.heap.size with h' | h'
      · exact h'
      · rw [Array.getElem?_eq_none h'] at hg; cases hg
    refine ⟨fun t ht' => ?_, hlt⟩
    have ht2 : t < xs.length * d.sz := by simpa using ht'
    obtain ⟨hq, hr'⟩ := div_add_mod_lt F.pos ht2
    refine ⟨?_, by simp [World.frozen?, hg]⟩
    have hx := F.out (hr (t / d.sz) _ (List.getElem?_eq_getElem hq))
    have e1 : inner[t]? = (enc (xs[t / d.sz]'hq))[t % d.sz]? := by
      rw [← hx, List.getElem?_take, if_pos hr', List.getElem?_drop]
      congr 1
      rw [Nat.mul_comm]; exact (Nat.div_add_mod t d.sz).symm
    have e2 : (cur.toList.take (xs.length * d.sz))[t]? = inner[t]? := by rw [ht]
    rw [List.getElem?_take, if_pos ht2, Array.getElem?_toList] at e2
    simp only [World.cell?, hg, Nat.zero_add]
    simp only [Option.isSome_none, Bool.false_eq_true, if_false]
    rw [e2, e1, get_flatK enc d.sz xs.toArray t (by simpa using ht2)]
    have hlen := F.len (xs[t / d.sz]'hq)
    rw [getElem!_pos xs.toArray (t / d.sz) (by simpa using hq)]
    simp only [List.getElem_toArray, id]
    rw [getElem!_pos _ (t % d.sz) (by rw [hlen]; exact hr'), List.getElem?_eq_getElem (by rw [hlen]; exact hr')]

/-- Behind the sort the row owns the new elements. -/
theorem R_sortWorldK (F : Flat d enc) {e : Nat} {w : World} {base : Nat} {ok : Nat → Prop} {xs ys : List α} {g cap n : Nat} {os : Array Obj}
    (h : d.R e w base ok (.slice (some ⟨g, 0, none⟩) xs.length cap) xs) (hy : ys.length = xs.length) :
    d.R e (sortWorldK enc d.sz w g 0 n ys.toArray os) base ok (.slice (some ⟨g, 0, none⟩) ys.length cap) ys := by
  obtain ⟨hok, inner, ho, hl, hr⟩ := h
  have hf : (flatK enc d.sz ys.toArray).size = ys.length * d.sz := by simp
  refine ⟨hok, (flatK enc d.sz ys.toArray).toList, ?_, by rw [Array.length_toList, hf], fun j p hj => ?_⟩
  · rcases ho.2 with ⟨e0, _⟩ | ⟨g', cap', cur, e0, hb, hg, hn, hm, hs, ht⟩
    · cases e0
    · injection e0 with e1 _ e3
      injection e1 with e1
      injection e1 with e1
      subst e1; subst e3
      have hlt : g < w.heap.size := by
        rcases Nat.lt_or_ge g w.heap.size with h' | h'
        · exact h'
        · rw [Array.getElem?_eq_none h'] at hg; cases hg
      have hcs : ys.length * d.sz ≤ cur.size := by rw [hs, hy]; exact Nat.mul_le_mul_right _ hn
      refine ⟨by rw [Array.length_toList, hf], .inr ⟨g, cap, putCells id 0 (flatK enc d.sz ys.toArray) cur, rfl, hb, ?_, by omega, hm, by simpa [putCells] using hs, ?_⟩⟩
      · simp only [sortWorldK, grow, putRowK, putRow, mapBlock, Sort.ahead]
        rw [Array.getElem?_append_left (by simpa using hlt)]
        simp [Array.getElem?_modify, hg, onCells]
      · apply List.ext_getElem?
        intro j
        rw [List.getElem?_take, Array.getElem?_toList, Array.getElem?_toList]
        by_cases hj : j < ys.length * d.sz
        · have hjc : j < cur.size := by omega
          simp only [if_pos hj, putCells, Array.getElem?_mapIdx, Array.getElem?_eq_getElem hjc, Option.map_some]
          rw [if_pos ⟨Nat.zero_le _, by rw [hf]; omega⟩, Nat.sub_zero, getElem!_pos _ j (by rw [hf]; exact hj), Array.getElem?_eq_getElem (by rw [hf]; exact hj)]
          rfl
        · rw [if_neg hj, Array.getElem?_eq_none (by rw [hf]; omega)]
  · have hq : j < ys.length := (List.getElem?_eq_some_iff.1 hj).1
    have hp : ys[j]'hq = p := (List.getElem?_eq_some_iff.1 hj).2
    have e1 : ((flatK enc d.sz ys.toArray).toList.drop (j * d.sz)).take d.sz = enc p := by
      apply List.ext_getElem?
      intro t
      rw [List.getElem?_take]
      by_cases ht : t < d.sz
      · have h1 : j * d.sz + t < ys.length * d.sz := by
          have : (j + 1) * d.sz ≤ ys.length * d.sz := Nat.mul_le_mul_right _ hq
          rw [Nat.add_mul] at this
          omega
        rw [if_pos ht, List.getElem?_drop, Array.getElem?_toList, Array.getElem?_eq_getElem (by rw [hf]; exact h1)]
        have hg := get_flatK enc d.sz ys.toArray (j * d.sz + t) (by simpa using h1)
        rw [getElem!_pos _ _ (by rw [hf]; exact h1)] at hg
        rw [hg]
        have hd : (j * d.sz + t) / d.sz = j := by rw [Nat.mul_comm, Nat.mul_add_div F.pos, Nat.div_eq_of_lt ht]; rfl
        have hmod : (j * d.sz + t) % d.sz = t := by rw [Nat.mul_comm, Nat.mul_add_mod, Nat.mod_eq_of_lt ht]
        rw [hd, hmod, getElem!_pos ys.toArray j (by simpa using hq)]
        simp only [List.getElem_toArray]
        rw [hp, getElem!_pos _ t (by rw [F.len p]; exact ht), List.getElem?_eq_getElem (by rw [F.len p]; exact ht)]
      · rw [if_neg ht, List.getElem?_eq_none (by rw [F.len p]; omega)]
    rw [e1]
    exact F.made _ _ _ _

/-- What the sort has turned is the row alone. -/
theorem grownBy_sortWorldK (w : World) (k g n : Nat) (ys : Array α) (os : Array Obj) (hg : g < w.heap.size) : w.grownBy (sortWorldK enc k w g 0 n ys os) (some g) := by
  refine ⟨rfl, rfl, rfl, ?_, fun i hi hne => ?_⟩
  · simp [sortWorldK, grow, putRowK, putRow, mapBlock, Sort.ahead]
  · have hne' : g ≠ i := fun h => hne (by rw [h])
    simp only [sortWorldK, grow, putRowK, putRow, mapBlock, Sort.ahead]
    rw [Array.getElem?_append_left (by simpa using hi), Array.getElem?_modify, if_neg hne']

/-- What slices.SortFunc makes of a list, to the element. -/
def sortBy (cf : α → α → Int) (xs : List α) : List α := (pdq (ltOf cf) xs.toArray 0 xs.length (Lib.bitLen xs.length) true true).toList

theorem sortBy_size (cf : α → α → Int) (hO : SWO (ltOf cf)) (xs : List α) : (pdq (ltOf cf) xs.toArray 0 xs.length (Lib.bitLen xs.length) true true).size = xs.length := by
  have h := (pdq_sorts (ltOf cf) hO xs.toArray 0 xs.length (Lib.bitLen xs.length) true true (Nat.zero_le _) (by simp) (Or.inl rfl)).1.1
  simpa using h
theorem sortBy_length (cf : α → α → Int) (hO : SWO (ltOf cf)) (xs : List α) : (sortBy cf xs).length = xs.length := by
  unfold sortBy
  rw [Array.length_toList]
  exact sortBy_size cf hO xs
theorem sortBy_perm (cf : α → α → Int) (hO : SWO (ltOf cf)) (xs : List α) : (sortBy cf xs).Perm xs := by
  have h := (pdq_sorts (ltOf cf) hO xs.toArray 0 xs.length (Lib.bitLen xs.length) true true (Nat.zero_le _) (by simp) (Or.inl rfl)).1
  obtain ⟨h1, _, h3⟩ := h
  have e1 : xs.toArray.extract 0 xs.length = xs.toArray := by simp
  have e2 : (pdq (ltOf cf) xs.toArray 0 xs.length (Lib.bitLen xs.length) true true).extract 0 xs.length = pdq (ltOf cf) xs.toArray 0 xs.length (Lib.bitLen xs.length) true true := by
    rw [Array.extract_eq_self_of_le (by rw [sortBy_size cf hO xs]; exact Nat.le_refl _)]
  rw [e1, e2] at h3
  exact h3
theorem sortBy_sorted (cf : α → α → Int) (hO : SWO (ltOf cf)) (xs : List α) : (sortBy cf xs).Pairwise (fun a b => ¬ cf b a < 0) := by
  have h := (pdq_sorts (ltOf cf) hO xs.toArray 0 xs.length (Lib.bitLen xs.length) true true (Nat.zero_le _) (by simp) (Or.inl rfl)).2
  have hs := sortBy_size cf hO xs
  rw [List.pairwise_iff_getElem]
  intro i j hi hj hij
  have hi' : i < xs.length := by rw [← sortBy_length cf hO xs]; exact hi
  have hj' : j < xs.length := by rw [← sortBy_length cf hO xs]; exact hj
  have := h i j (Nat.zero_le _) hij hj'
  rw [getElem!_pos _ j (by rw [hs]; exact hj'), getElem!_pos _ i (by rw [hs]; exact hi')] at this
  have h2 : ¬ cf (pdq (ltOf cf) xs.toArray 0 xs.length (Lib.bitLen xs.length) true true)[j] (pdq (ltOf cf) xs.toArray 0 xs.length (Lib.bitLen xs.length) true true)[i] < 0 := of_decide_eq_false this
  exact h2

section
variable {P : Program} {ρ : Go.Shelf.Ren}
/-- slices.SortFunc over a row of flat structs that the call owns. -/
theorem sortFunc_R (L : Go.Proofs.SlLaysF0.n6 P ρ) (F : Flat d enc) (aE : ∀ w, (isAgg (ρ.t 24)).run P w = .ok true w) (zE : ∀ w, (Go.sizeOf (ρ.t 24)).run P w = .ok d.sz w)
    (cf : α → α → Int) (hO : SWO (ltOf cf)) (g : Nat) (cb : Array Value) (eg : ∀ args w, (callFunc g args).run P w = .ok (.enter g args) w)
    (hcmp : ∀ (x y : α) (W : World), Calls P g (#[.agg (enc x).toArray, .agg (enc y).toArray] ++ cb) W fun e w' => e = .returned (.int .i64 (cf x y)) ∧ ∃ q os', w' = grow (W.drewN q) os')
    {e : Nat} {w : World} {base : Nat} {ok : Nat → Prop} {v : Value} {xs : List α} (h : d.R e w base ok v xs) (hsz : xs.length < 4611686018427387904) :
    Calls P (ρ.f 6) #[v, .func (.func g) #[] cb] w fun e' w' => e' = .returned (.tuple #[]) ∧ d.R e w' base ok v (sortBy cf xs) ∧ w.grownBy w' v.ownBlock := by
  obtain ⟨A, c, hv⟩ := Kd.R_slice h
  rcases Nat.eq_zero_or_pos xs.length with h0 | h0
  · obtain rfl : xs = [] := List.length_eq_zero_iff.1 h0
    have e1 : sortBy cf ([] : List α) = [] := List.length_eq_zero_iff.1 (by rw [sortBy_length cf hO]; rfl)
    rw [e1]
    rw [hv] at h ⊢
    refine (AnyF.slices_SortFunc_none L A c _ w).mono ?_
    rintro e' w' ⟨rfl, rfl⟩
    exact ⟨rfl, h, ⟨rfl, rfl, rfl, Nat.le_refl _, fun _ _ _ => rfl⟩⟩
  · obtain ⟨inner, ho⟩ := Kd.R_own h
    obtain ⟨gg, cap, hv2, _, _⟩ := ho.form h0
    rw [hv2] at h ⊢
    obtain ⟨hH, hlt⟩ := holds_of_R F h
    have hk := AnyQ.slices_SortFunc_eq L d.sz aE zE enc F.len F.one cf hO g cb gg 0 cap xs.toArray w eg (fun m os dk _ x y => hcmp x y _) hH hlt (by simpa using hsz)
    rw [List.size_toArray] at hk
    refine hk.mono ?_
    rintro e' w' ⟨rfl, n, os, rfl⟩
    have e2 : pdq (ltOf cf) xs.toArray 0 xs.length (Lib.bitLen xs.length) true true = (sortBy cf xs).toArray := by simp [sortBy]
    rw [e2]
    have hr := R_sortWorldK (n := n) (os := os) F h (sortBy_length cf hO xs)
    rw [sortBy_length cf hO xs] at hr
    exact ⟨rfl, hr, grownBy_sortWorldK _ _ _ _ _ _ hlt⟩
end
end Go.Proofs.YtllllfbnbndegaaU
