-- Written by pp.py, a program of this session, out of the translation: not trusted, Lean checks it.
import Derived.Test.YtffclnopnhodoaaDoorPx0
import Derived.Test.YtffclnopnhodoaaDoorPx1
import Derived.Test.YtffclnopnhodoaaDoorShelf
import Derived.Lib.ItoaMem
namespace Go.Proofs.YtffclnopnhodoaaDoor.P
open Go.RowKit Go.Proofs.YtffclnopnhodoaaDoorW.PrintWords Go.Proofs.YtffclnopnhodoaaDoorW.PrintLast Go.Proofs.YtffclnopnhodoaaDoorW.PrintMore
attribute [local go_sem] max2_int min2_int max_two min_two max_three min_three max_four min_four   -- for this text's walks alone
set_option linter.unusedVariables false
set_option linter.unusedSimpArgs false

/-! ### spec_UnitText: function 4 -/
mutual
def spec_UnitText.j0 : Nat → Int → Int → ByteArray → Int → Option (ByteArray)
  | 0, _, _, _, _ => none
  | k + 1, x0, x1, x5, x6 => if x1 = 1 then ((spec_l2Num.f k x0).bind fun t116 => (some t116)) else (if x1 = 4 then ((spec_l2Num.f k (wrap64 (Int.tdiv x6 10))).bind fun t117 => (if x5.size + t117.size ≤ 9223372036854775807 then (if (x5 ++ t117).size + 1 ≤ 9223372036854775807 then ((spec_l2Num.f k (Int.tmod x6 10)).bind fun t118 => (if ((x5 ++ t117) ++ (⟨#[46]⟩ : ByteArray)).size + t118.size ≤ 9223372036854775807 then (if (((x5 ++ t117) ++ (⟨#[46]⟩ : ByteArray)) ++ t118).size + 1 ≤ 9223372036854775807 then (some ((((x5 ++ t117) ++ (⟨#[46]⟩ : ByteArray)) ++ t118) ++ (⟨#[37]⟩ : ByteArray))) else (none)) else (none))) else (none)) else (none))) else (if x1 = 5 then ((spec_l25Scaled.f k x0 1000 (([(⟨#[107]⟩ : ByteArray), (⟨#[77]⟩ : ByteArray), (⟨#[71]⟩ : ByteArray), (⟨#[84]⟩ : ByteArray), (⟨#[80]⟩ : ByteArray), (⟨#[69]⟩ : ByteArray)] : List ByteArray))).bind fun t122 => (some t122)) else (if x1 = 2 then ((spec_l25Scaled.f k x0 1024 (([(⟨#[75, 105]⟩ : ByteArray), (⟨#[77, 105]⟩ : ByteArray), (⟨#[71, 105]⟩ : ByteArray), (⟨#[84, 105]⟩ : ByteArray), (⟨#[80, 105]⟩ : ByteArray), (⟨#[69, 105]⟩ : ByteArray)] : List ByteArray))).bind fun t126 => (some t126)) else (if x1 = 3 then ((some (([wrap64 (Int.tdiv x6 86400), Int.tmod (wrap64 (Int.tdiv x6 3600)) 24, Int.tmod (wrap64 (Int.tdiv x6 60)) 60, Int.tmod x6 60] : List Int) : List Int)).bind fun y127 => (spec_UnitText.l0 k x5 y127 y127 (y127.length : Int) 0)) else (some (⟨#[]⟩ : ByteArray))))))
def spec_UnitText.l0 : Nat → ByteArray → List Int → List Int → Int → Int → Option (ByteArray)
  | 0, _, _, _, _, _ => none
  | k + 1, x5, x7, x59, x60, x61 => if x61 < x60 then (if 0 ≤ x61 then (if x61 < (x59.length : Int) then (if (rd x59 x61) = 0 then (spec_UnitText.l0 k x5 x7 x59 x60 (wrap64 (x61 + 1))) else ((spec_l2Num.f k (rd x59 x61)).bind fun t131 => (if x5.size + t131.size ≤ 9223372036854775807 then ((some (([(⟨#[100]⟩ : ByteArray), (⟨#[104]⟩ : ByteArray), (⟨#[109]⟩ : ByteArray), (⟨#[115]⟩ : ByteArray)] : List ByteArray) : List ByteArray)).bind fun y132 => (if x61 < (y132.length : Int) then (if (x5 ++ t131).size + (rdOf ByteArray.empty y132 x61).size ≤ 9223372036854775807 then (if x61 < 3 then (if 0 ≤ (wrap64 (x61 + 1)) then (if (wrap64 (x61 + 1)) < (x7.length : Int) then (if (rd x7 (wrap64 (x61 + 1))) = 0 then (some ((x5 ++ t131) ++ (rdOf ByteArray.empty y132 x61))) else ((spec_l2Num.f k (rd x7 (wrap64 (x61 + 1)))).bind fun t138 => ((some (([(⟨#[100]⟩ : ByteArray), (⟨#[104]⟩ : ByteArray), (⟨#[109]⟩ : ByteArray), (⟨#[115]⟩ : ByteArray)] : List ByteArray) : List ByteArray)).bind fun y139 => (if (wrap64 (x61 + 1)) < (y139.length : Int) then (if t138.size + (rdOf ByteArray.empty y139 (wrap64 (x61 + 1))).size ≤ 9223372036854775807 then (if ((x5 ++ t131) ++ (rdOf ByteArray.empty y132 x61)).size + (t138 ++ (rdOf ByteArray.empty y139 (wrap64 (x61 + 1)))).size ≤ 9223372036854775807 then (some (((x5 ++ t131) ++ (rdOf ByteArray.empty y132 x61)) ++ (t138 ++ (rdOf ByteArray.empty y139 (wrap64 (x61 + 1)))))) else (none)) else (none)) else (none))))) else (none)) else (none)) else (some ((x5 ++ t131) ++ (rdOf ByteArray.empty y132 x61)))) else (none)) else (none))) else (none)))) else (none)) else (none)) else (some (⟨#[48, 115]⟩ : ByteArray))
end
def spec_UnitText.f (k : Nat) (a0 : Int) (a1 : Int) : Option (ByteArray) := if a0 = (-9223372036854775808) then (some (⟨#[]⟩ : ByteArray)) else (if a0 < 0 then (spec_UnitText.j0 k a0 a1 (⟨#[45]⟩ : ByteArray) (wrap64 (-a0))) else (spec_UnitText.j0 k a0 a1 (⟨#[]⟩ : ByteArray) a0))
theorem spec_UnitText.mono_l : ∀ k, (∀ y0 y1 y2 y3, LeO (spec_UnitText.j0 k y0 y1 y2 y3) (spec_UnitText.j0 (k + 1) y0 y1 y2 y3)) ∧ (∀ y0 y1 y2 y3 y4, LeO (spec_UnitText.l0 k y0 y1 y2 y3 y4) (spec_UnitText.l0 (k + 1) y0 y1 y2 y3 y4))
  | 0 => ⟨fun _ _ _ _ r h => by simp [spec_UnitText.j0] at h, fun _ _ _ _ _ r h => by simp [spec_UnitText.l0] at h⟩
  | k + 1 => by
    obtain ⟨ih0, ih1⟩ := spec_UnitText.mono_l k
    refine ⟨?_, ?_⟩
    · intro y0 y1 y2 y3
      unfold spec_UnitText.j0
      repeat' first
      | (with_reducible exact ih0 _ _ _ _)
      | (with_reducible exact ih1 _ _ _ _ _)
      | (with_reducible exact spec_l25Scaled.mono _ _ _ _)
      | (with_reducible exact spec_l2Num.mono _ _)
      | (with_reducible exact LeO.refl _)
      | (with_reducible exact LeO.none _)
      | (with_reducible refine LeO.ite ?_ ?_)
      | (with_reducible refine LeO.bind ?_ (fun _ => ?_))
      | exact ih0 _ _ _ _
      | exact ih1 _ _ _ _ _
      | exact spec_l25Scaled.mono _ _ _ _
      | exact spec_l2Num.mono _ _
      | exact LeO.none _
      | refine LeO.ite ?_ ?_
      | refine LeO.bind ?_ (fun _ => ?_)
    · intro y0 y1 y2 y3 y4
      unfold spec_UnitText.l0
      repeat' first
      | (with_reducible exact ih0 _ _ _ _)
      | (with_reducible exact ih1 _ _ _ _ _)
      | (with_reducible exact spec_l25Scaled.mono _ _ _ _)
      | (with_reducible exact spec_l2Num.mono _ _)
      | (with_reducible exact LeO.refl _)
      | (with_reducible exact LeO.none _)
      | (with_reducible refine LeO.ite ?_ ?_)
      | (with_reducible refine LeO.bind ?_ (fun _ => ?_))
      | exact ih0 _ _ _ _
      | exact ih1 _ _ _ _ _
      | exact spec_l25Scaled.mono _ _ _ _
      | exact spec_l2Num.mono _ _
      | exact LeO.none _
      | refine LeO.ite ?_ ?_
      | refine LeO.bind ?_ (fun _ => ?_)
theorem spec_UnitText.mono : ∀ a0 a1 k, LeO (spec_UnitText.f k a0 a1) (spec_UnitText.f (k + 1) a0 a1) := by
  intro a0 a1 k
  obtain ⟨ih0, ih1⟩ := spec_UnitText.mono_l k
  unfold spec_UnitText.f
  repeat' first
      | (with_reducible exact ih0 _ _ _ _)
      | (with_reducible exact ih1 _ _ _ _ _)
      | (with_reducible exact spec_l25Scaled.mono _ _ _ _)
      | (with_reducible exact spec_l2Num.mono _ _)
      | (with_reducible exact LeO.refl _)
      | (with_reducible exact LeO.none _)
      | (with_reducible refine LeO.ite ?_ ?_)
      | (with_reducible refine LeO.bind ?_ (fun _ => ?_))
      | exact ih0 _ _ _ _
      | exact ih1 _ _ _ _ _
      | exact spec_l25Scaled.mono _ _ _ _
      | exact spec_l2Num.mono _ _
      | exact LeO.none _
      | refine LeO.ite ?_ ?_
      | refine LeO.bind ?_ (fun _ => ?_)
def spec_UnitText.T23 : Bool × List (List Nat × List Nat) := (true, [([], []), ([], []), ([1], [1]), ([0, 2], [0, 2]), ([], []), ([], []), ([4, 5], [4, 5]), ([6], [6]), ([3, 7], [3, 7]), ([8, 2, 0, 1, 2, 3, 4, 5, 6, 7, 8], [8])])
def spec_UnitText.B23 : List Nat := [0, 0, 2, 7, 0, 0, 48, 112, 255, 511]
theorem spec_UnitText.tab23 : rtab .any (opsOf Tryd.f4 23) = spec_UnitText.T23 := by kernel_rfl
theorem spec_UnitText.bits23 : waitsOk spec_UnitText.T23.2 spec_UnitText.B23 = true := by kernel_rfl
def spec_UnitText.T25 : Bool × List (List Nat × List Nat) := (true, [([], []), ([], []), ([], []), ([2], [2]), ([1, 3], [1, 3]), ([4], [4]), ([5], [5]), ([], []), ([], []), ([8], [8]), ([7, 9], [7, 9]), ([10], [10]), ([6, 11], [6, 11]), ([0, 12], [0, 12]), ([13, 6, 0, 1, 2, 3, 4, 5, 6, 7, 8, 9, 10, 11, 12, 13], [0, 13])])
def spec_UnitText.B25 : List Nat := [0, 0, 0, 4, 14, 30, 62, 0, 0, 256, 896, 1920, 4094, 8191, 16383]
theorem spec_UnitText.tab25 : rtab .any (opsOf Tryd.f4 25) = spec_UnitText.T25 := by kernel_rfl
theorem spec_UnitText.bits25 : waitsOk spec_UnitText.T25.2 spec_UnitText.B25 = true := by kernel_rfl
set_option maxHeartbeats 8000000 in
set_option maxRecDepth 100000 in
theorem spec_UnitText.calls (k : Nat) (a0 : Int) (a1 : Int) (r : ByteArray) (w : World) (h : spec_UnitText.f k a0 a1 = some r) :
    Calls Tryd.prog 4 #[.int .i64 a0, .int .i64 a1] w fun e w' => e = .returned (.string r) ∧ Below w.heap.size w w' := by
  have HB := Aside0.mk (Below.refl w.heap.size w)
  have H : (if a0 = (-9223372036854775808) then (some (⟨#[]⟩ : ByteArray)) else (if a0 < 0 then (spec_UnitText.j0 k a0 a1 (⟨#[45]⟩ : ByteArray) (wrap64 (-a0))) else (spec_UnitText.j0 k a0 a1 (⟨#[]⟩ : ByteArray) a0))) = some r := h
  clear h
  by_cases c3 : a0 = (-9223372036854775808)
  · rw [if_pos c3] at H
    have c3b0 : (a0 == (-9223372036854775808)) = true := beq_iff_eq.mpr c3
    have c3b1 : (a0 != (-9223372036854775808)) = false := bne_eq_false_iff_eq.mpr c3
    clear c3
    obtain rfl := Option.some.inj H
    go_enter Tryd.func4, Tryd.ntmps4
    go_wp2
    go_ret
    exact ⟨by first | rfl | (simp [errW_none, errW_some] <;> rfl) | (simp [*, errW_none, errW_some] <;> rfl), by repeat (first | (with_reducible first | exact HB.out | apply below_alloc | apply pw_below_drewN | apply below_drew1) | exact HB.out)⟩
  · rw [if_neg c3] at H
    have c3b0 : (a0 == (-9223372036854775808)) = false := beq_eq_false_iff_ne.mpr c3
    have c3b1 : (a0 != (-9223372036854775808)) = true := bne_iff_ne.mpr c3
    have HC4 := Aside0.mk H
    clear H
    go_enter Tryd.func4, Tryd.ntmps4
    go_upto_if 15 with (fail)
    go_cut [5, 6] (fun v5 v6 wc => ∃ (kq : Nat) (x5_3 : ByteArray) (x6_3 : Int), v5 = .string x5_3 ∧ v6 = .int .i64 x6_3 ∧ Aside0 (spec_UnitText.j0 kq a0 a1 x5_3 x6_3 = some r) ∧ Aside0 (kq ≤ k) ∧ Aside0 (Below w.heap.size w wc))
    case first =>
      have H := HC4.out
      clear HC4
      by_cases c5 : a0 < 0
      · rw [if_pos c5] at H
        have c5b0 : decide (a0 < 0) = true := decide_eq_true c5
        clear c5
        (first | rw [c5b0] | (simp only [i64_w, i32_w]; rw [c5b0]) | rw [c5b2] | skip)
        have H' := Aside0.mk H
        clear H
        go_wp2
        go_meet
        case rel => exact ⟨_, ((⟨#[45]⟩ : ByteArray)), (wrap64 (-a0)), (by first | rfl | (simp; done) | (simp [*]; done)), (by first | rfl | (simp; done) | (simp [*]; done)), H', ⟨by first | omega | exact Nat.le_refl _⟩, ⟨by repeat (first | (with_reducible first | exact HB.out | apply below_alloc | apply pw_below_drewN | apply below_drew1) | exact HB.out)⟩⟩
      · rw [if_neg c5] at H
        have c5b0 : decide (a0 < 0) = false := decide_eq_false c5
        clear c5
        (first | rw [c5b0] | (simp only [i64_w, i32_w]; rw [c5b0]) | rw [c5b2] | skip)
        have H' := Aside0.mk H
        clear H
        go_wp2
        go_meet
        case rel => exact ⟨_, ((⟨#[]⟩ : ByteArray)), (a0), (by first | rfl | (simp; done) | (simp [*]; done)), (by first | rfl | (simp; done) | (simp [*]; done)), H', ⟨by first | omega | exact Nat.le_refl _⟩, ⟨by repeat (first | (with_reducible first | exact HB.out | apply below_alloc | apply pw_below_drewN | apply below_drew1) | exact HB.out)⟩⟩
    case rest =>
      clear HC4
      try clear p2
      try clear c3
      try clear c3b0
      try clear c3b1
      try clear c4
      try clear c5
      try clear c5b0
      try clear c5b2
      obtain ⟨kq, x5_3, x6_3, rfl, rfl, HA, HJ3, HB⟩ := hcut
      cases kq with
      | zero => exact absurd HA.out (by simp [spec_UnitText.j0])
      | succ kj3 =>
        have H := HA.out
        clear HA
        simp only [spec_UnitText.j0] at H
        by_cases c6 : a1 = 1
        · rw [if_pos c6] at H
          have c6b0 : (a1 == 1) = true := beq_iff_eq.mpr c6
          have c6b1 : (a1 != 1) = false := bne_eq_false_iff_eq.mpr c6
          clear c6
          replace H := Option.bind_eq_some_iff.mp H
          obtain ⟨t116, A70, H⟩ := H
          replace H : (some t116) = some r := H
          have A7 := Aside0.mk A70
          clear A70
          obtain rfl := Option.some.inj H
          go_wp2_with (first | ((with_reducible refine gate_callee (f := 6) rfl ?_); refine goesL_ (some 22) rfl rfl Tryd.func6 (by kernel_rfl) rfl #[.int .i64 a0] rfl (by (try simp only [List.map_toArray, List.map_cons, List.map_nil]); first | done | rfl | (simp only [List.length_drop, List.length_take]; rfl)) ?_; (with_reducible refine (spec_l2Num.calls kj3 a0 t116 _ A7.out).mono ?_); rintro e w8 ⟨rfl, hb⟩; refine ⟨_, rfl, ?_⟩; have n0_ := Aside0.mk (below_step (by repeat (first | (with_reducible first | exact HB.out | apply below_alloc | apply pw_below_drewN | apply below_drew1) | exact HB.out)) hb); clear HB; have HB := n0_; clear n0_; (try clear hb); (try clear hb2); (try clear hk); (try clear hi)))
          go_ret
          exact ⟨by first | rfl | (simp [errW_none, errW_some] <;> rfl) | (simp [*, errW_none, errW_some] <;> rfl), by repeat (first | (with_reducible first | exact HB.out | apply below_alloc | apply pw_below_drewN | apply below_drew1) | exact HB.out)⟩
        · rw [if_neg c6] at H
          have c6b0 : (a1 == 1) = false := beq_eq_false_iff_ne.mpr c6
          have c6b1 : (a1 != 1) = true := bne_iff_ne.mpr c6
          by_cases c9 : a1 = 4
          · rw [if_pos c9] at H
            have c9b0 : (a1 == 4) = true := beq_iff_eq.mpr c9
            have c9b1 : (a1 != 4) = false := bne_eq_false_iff_eq.mpr c9
            clear c9
            replace H := Option.bind_eq_some_iff.mp H
            obtain ⟨t117, A100, H⟩ := H
            replace H : (if x5_3.size + t117.size ≤ 9223372036854775807 then (if (x5_3 ++ t117).size + 1 ≤ 9223372036854775807 then ((spec_l2Num.f kj3 (Int.tmod x6_3 10)).bind fun t118 => (if ((x5_3 ++ t117) ++ (⟨#[46]⟩ : ByteArray)).size + t118.size ≤ 9223372036854775807 then (if (((x5_3 ++ t117) ++ (⟨#[46]⟩ : ByteArray)) ++ t118).size + 1 ≤ 9223372036854775807 then (some ((((x5_3 ++ t117) ++ (⟨#[46]⟩ : ByteArray)) ++ t118) ++ (⟨#[37]⟩ : ByteArray))) else (none)) else (none))) else (none)) else (none)) = some r := H
            have A10 := Aside0.mk A100
            clear A100
            by_cases c11 : x5_3.size + t117.size ≤ 9223372036854775807
            · rw [if_pos c11] at H
              have c11b0 := eq_true c11
              have c11b1 : decide (x5_3.size + t117.size ≤ 9223372036854775807) = true := decide_eq_true c11
              try have c11b2 : (9223372036854775807 < x5_3.size + t117.size) = False := eq_false (Nat.not_lt.2 c11)
              by_cases c12 : (x5_3 ++ t117).size + 1 ≤ 9223372036854775807
              · rw [if_pos c12] at H
                have c12b0 := eq_true c12
                have c12b1 : decide ((x5_3 ++ t117).size + 1 ≤ 9223372036854775807) = true := decide_eq_true c12
                try have c12b2 : (9223372036854775807 < (x5_3 ++ t117).size + 1) = False := eq_false (Nat.not_lt.2 c12)
                (try (obtain ⟨z_, hz_⟩ : ∃ z_ : Nat, z_ = (x5_3 ++ t117).size + 1 := ⟨_, rfl⟩; have c12b3 := c12b2; rw [← hz_] at c12b3; simp [go_sem] at hz_; rw [hz_] at c12b3; clear hz_ z_))
                replace H := Option.bind_eq_some_iff.mp H
                obtain ⟨t118, A130, H⟩ := H
                replace H : (if ((x5_3 ++ t117) ++ (⟨#[46]⟩ : ByteArray)).size + t118.size ≤ 9223372036854775807 then (if (((x5_3 ++ t117) ++ (⟨#[46]⟩ : ByteArray)) ++ t118).size + 1 ≤ 9223372036854775807 then (some ((((x5_3 ++ t117) ++ (⟨#[46]⟩ : ByteArray)) ++ t118) ++ (⟨#[37]⟩ : ByteArray))) else (none)) else (none)) = some r := H
                have A13 := Aside0.mk A130
                clear A130
                by_cases c14 : ((x5_3 ++ t117) ++ (⟨#[46]⟩ : ByteArray)).size + t118.size ≤ 9223372036854775807
                · rw [if_pos c14] at H
                  have c14b0 := eq_true c14
                  have c14b1 : decide (((x5_3 ++ t117) ++ (⟨#[46]⟩ : ByteArray)).size + t118.size ≤ 9223372036854775807) = true := decide_eq_true c14
                  try have c14b2 : (9223372036854775807 < ((x5_3 ++ t117) ++ (⟨#[46]⟩ : ByteArray)).size + t118.size) = False := eq_false (Nat.not_lt.2 c14)
                  (try (obtain ⟨z_, hz_⟩ : ∃ z_ : Nat, z_ = ((x5_3 ++ t117) ++ (⟨#[46]⟩ : ByteArray)).size + t118.size := ⟨_, rfl⟩; have c14b3 := c14b2; rw [← hz_] at c14b3; simp [go_sem] at hz_; rw [hz_] at c14b3; clear hz_ z_))
                  by_cases c15 : (((x5_3 ++ t117) ++ (⟨#[46]⟩ : ByteArray)) ++ t118).size + 1 ≤ 9223372036854775807
                  · rw [if_pos c15] at H
                    have c15b0 := eq_true c15
                    have c15b1 : decide ((((x5_3 ++ t117) ++ (⟨#[46]⟩ : ByteArray)) ++ t118).size + 1 ≤ 9223372036854775807) = true := decide_eq_true c15
                    try have c15b2 : (9223372036854775807 < (((x5_3 ++ t117) ++ (⟨#[46]⟩ : ByteArray)) ++ t118).size + 1) = False := eq_false (Nat.not_lt.2 c15)
                    (try (obtain ⟨z_, hz_⟩ : ∃ z_ : Nat, z_ = (((x5_3 ++ t117) ++ (⟨#[46]⟩ : ByteArray)) ++ t118).size + 1 := ⟨_, rfl⟩; have c15b3 := c15b2; rw [← hz_] at c15b3; simp [go_sem] at hz_; rw [hz_] at c15b3; clear hz_ z_))
                    obtain rfl := Option.some.inj H
                    go_wp2_with (first | ((with_reducible refine gate_callee (f := 6) rfl ?_); refine goesL_ (some 28) rfl rfl Tryd.func6 (by kernel_rfl) rfl #[.int .i64 (wrap64 (Int.tdiv x6_3 10))] rfl (by (try simp only [List.map_toArray, List.map_cons, List.map_nil]); first | done | rfl | (simp only [List.length_drop, List.length_take]; rfl)) ?_; (with_reducible refine (spec_l2Num.calls kj3 (wrap64 (Int.tdiv x6_3 10)) t117 _ A10.out).mono ?_); rintro e w16 ⟨rfl, hb⟩; refine ⟨_, rfl, ?_⟩; have n0_ := Aside0.mk (below_step (by repeat (first | (with_reducible first | exact HB.out | apply below_alloc | apply pw_below_drewN | apply below_drew1) | exact HB.out)) hb); clear HB; have HB := n0_; clear n0_; (try clear hb); (try clear hb2); (try clear hk); (try clear hi)) | ((with_reducible refine gate_callee (f := 6) rfl ?_); refine goesL_ (some 33) rfl rfl Tryd.func6 (by kernel_rfl) rfl #[.int .i64 (Int.tmod x6_3 10)] rfl (by (try simp only [List.map_toArray, List.map_cons, List.map_nil]); first | done | rfl | (simp only [List.length_drop, List.length_take]; rfl)) ?_; (with_reducible refine (spec_l2Num.calls kj3 (Int.tmod x6_3 10) t118 _ A13.out).mono ?_); rintro e w17 ⟨rfl, hb⟩; refine ⟨_, rfl, ?_⟩; have n0_ := Aside0.mk (below_step (by repeat (first | (with_reducible first | exact HB.out | apply below_alloc | apply pw_below_drewN | apply below_drew1) | exact HB.out)) hb); clear HB; have HB := n0_; clear n0_; (try clear hb); (try clear hb2); (try clear hk); (try clear hi)))
                    go_ret
                    exact ⟨by first | rfl | (simp [errW_none, errW_some] <;> rfl) | (simp [*, errW_none, errW_some] <;> rfl), by repeat (first | (with_reducible first | exact HB.out | apply below_alloc | apply pw_below_drewN | apply below_drew1) | exact HB.out)⟩
                  · rw [if_neg c15] at H
                    exact absurd H (by simp)
                · rw [if_neg c14] at H
                  exact absurd H (by simp)
              · rw [if_neg c12] at H
                exact absurd H (by simp)
            · rw [if_neg c11] at H
              exact absurd H (by simp)
          · rw [if_neg c9] at H
            have c9b0 : (a1 == 4) = false := beq_eq_false_iff_ne.mpr c9
            have c9b1 : (a1 != 4) = true := bne_iff_ne.mpr c9
            by_cases c18 : a1 = 5
            · rw [if_pos c18] at H
              have c18b0 : (a1 == 5) = true := beq_iff_eq.mpr c18
              have c18b1 : (a1 != 5) = false := bne_eq_false_iff_eq.mpr c18
              clear c18
              obtain ⟨y119, hy119⟩ : ∃ y_ : List ByteArray, y_ = (([(⟨#[107]⟩ : ByteArray), (⟨#[77]⟩ : ByteArray), (⟨#[71]⟩ : ByteArray), (⟨#[84]⟩ : ByteArray), (⟨#[80]⟩ : ByteArray), (⟨#[69]⟩ : ByteArray)] : List ByteArray)) := ⟨_, rfl⟩
              replace H : ((spec_l25Scaled.f kj3 a0 1000 y119).bind fun t122 => (some t122)) = some r := by first | (rw [hy119]; with_reducible exact H) | (have H2_ := (Option.bind_some _ _).symm.trans H; rw [hy119]; with_reducible exact H2_) | (have H2_ := (Option.bind_some _ _).symm.trans H; with_reducible exact H2_) | with_reducible exact H | (rw [hy119]; exact H) | exact H
              have Ny119 := Aside0.mk hy119
              clear hy119
              replace H := Option.bind_eq_some_iff.mp H
              obtain ⟨t122, A190, H⟩ := H
              replace H : (some t122) = some r := H
              have A19 := Aside0.mk A190
              clear A190
              obtain rfl := Option.some.inj H
              go_wp2_with (first | ((with_reducible refine gate_dst (N := 39) rfl ?_); refine Kd.R_lit Kd.string _ 9 ?hg (N := 39) ?hd (xs := ([(⟨#[107]⟩ : ByteArray), (⟨#[77]⟩ : ByteArray), (⟨#[71]⟩ : ByteArray), (⟨#[84]⟩ : ByteArray), (⟨#[80]⟩ : ByteArray), (⟨#[69]⟩ : ByteArray)] : List ByteArray)) (inner := [.string (⟨#[107]⟩ : ByteArray), .string (⟨#[77]⟩ : ByteArray), .string (⟨#[71]⟩ : ByteArray), .string (⟨#[84]⟩ : ByteArray), .string (⟨#[80]⟩ : ByteArray), .string (⟨#[69]⟩ : ByteArray)]) (ok := fun _ => True) (okp := fun _ => True) ?hr ?hp (fun _ hk => hk) trivial (Below.refl _ _) (Nat.le_refl _) (by simp) ?_; (case hd => rfl); (case hg => rfl); (case hr => first | (go_simp; done) | (go_simp; rfl)); (case hp => exact (Reps.one (show Kd.M Kd.string _ _ _ (⟨#[107]⟩ : ByteArray) [.string (⟨#[107]⟩ : ByteArray)] from rfl) (Reps.one (show Kd.M Kd.string _ _ _ (⟨#[77]⟩ : ByteArray) [.string (⟨#[77]⟩ : ByteArray)] from rfl) (Reps.one (show Kd.M Kd.string _ _ _ (⟨#[71]⟩ : ByteArray) [.string (⟨#[71]⟩ : ByteArray)] from rfl) (Reps.one (show Kd.M Kd.string _ _ _ (⟨#[84]⟩ : ByteArray) [.string (⟨#[84]⟩ : ByteArray)] from rfl) (Reps.one (show Kd.M Kd.string _ _ _ (⟨#[80]⟩ : ByteArray) [.string (⟨#[80]⟩ : ByteArray)] from rfl) (Reps.one (show Kd.M Kd.string _ _ _ (⟨#[69]⟩ : ByteArray) [.string (⟨#[69]⟩ : ByteArray)] from rfl) (Reps.none _ _)))))))); intro v120 w20 ho21 hb hg_ hnew_; clear hg_ hnew_; (first | rw [← Ny119.out] at ho21 | (simp only [Int.reduceToNat] at ho21; rw [← Ny119.out] at ho21)); have n0_ := Aside0.mk (Kd.R_lower ho21 (below_size (by repeat (first | (with_reducible first | exact HB.out | apply below_alloc | apply pw_below_drewN | apply below_drew1) | exact HB.out)))); have n1_ := Aside0.mk (below_step (by repeat (first | (with_reducible first | exact HB.out | apply below_alloc | apply pw_below_drewN | apply below_drew1) | exact HB.out)) hb); clear HB; have HO121 := n0_; have HB := n1_; clear n0_ n1_; clear hb ho21; obtain ⟨Ao22, co22, eo22⟩ := Kd.R_slice HO121.out; subst eo22) | ((with_reducible refine gate_callee (f := 7) rfl ?_); refine goesL_ (some 40) rfl rfl Tryd.func7 (by kernel_rfl) rfl #[.int .i64 a0, .int .i64 1000, .slice Ao22 y119.length co22] rfl (by (try simp only [List.map_toArray, List.map_cons, List.map_nil]); first | done | rfl | (simp only [List.length_drop, List.length_take]; rfl)) ?_; (with_reducible refine (spec_l25Scaled.calls kj3 a0 1000 _ _ y119 t122 _ ?side1 ?side2 A19.out).mono ?_); (case side1 => repeat (first | exact (Kd.R_reads' HO121.out).2.2 | (with_reducible refine Kd.C_alloc ?_ _) | (with_reducible refine Kd.C_drewN ?_ _) | (with_reducible refine Kd.C_drew ?_))); (case side2 => exact (Kd.R_reads' HO121.out).2.1); rintro e w23 ⟨rfl, hb⟩; refine ⟨_, rfl, ?_⟩; have n0_ := Aside0.mk (Kd.R_below (by (with_reducible repeat (first | apply Kd.R_alloc | apply Kd.R_drewN | apply Kd.R_drew)); exact HO121.out) hb); have n1_ := Aside0.mk (below_step (by repeat (first | (with_reducible first | exact HB.out | apply below_alloc | apply pw_below_drewN | apply below_drew1) | exact HB.out)) hb); clear HO121; clear HB; have HO121 := n0_; have HB := n1_; clear n0_ n1_; (try clear hb); (try clear hb2); (try clear hk); (try clear hi)))
              go_ret
              exact ⟨by first | rfl | (simp [errW_none, errW_some] <;> rfl) | (simp [*, errW_none, errW_some] <;> rfl), by repeat (first | (with_reducible first | exact HB.out | apply below_alloc | apply pw_below_drewN | apply below_drew1) | exact HB.out)⟩
            · rw [if_neg c18] at H
              have c18b0 : (a1 == 5) = false := beq_eq_false_iff_ne.mpr c18
              have c18b1 : (a1 != 5) = true := bne_iff_ne.mpr c18
              by_cases c24 : a1 = 2
              · rw [if_pos c24] at H
                have c24b0 : (a1 == 2) = true := beq_iff_eq.mpr c24
                have c24b1 : (a1 != 2) = false := bne_eq_false_iff_eq.mpr c24
                clear c24
                obtain ⟨y123, hy123⟩ : ∃ y_ : List ByteArray, y_ = (([(⟨#[75, 105]⟩ : ByteArray), (⟨#[77, 105]⟩ : ByteArray), (⟨#[71, 105]⟩ : ByteArray), (⟨#[84, 105]⟩ : ByteArray), (⟨#[80, 105]⟩ : ByteArray), (⟨#[69, 105]⟩ : ByteArray)] : List ByteArray)) := ⟨_, rfl⟩
                replace H : ((spec_l25Scaled.f kj3 a0 1024 y123).bind fun t126 => (some t126)) = some r := by first | (rw [hy123]; with_reducible exact H) | (have H2_ := (Option.bind_some _ _).symm.trans H; rw [hy123]; with_reducible exact H2_) | (have H2_ := (Option.bind_some _ _).symm.trans H; with_reducible exact H2_) | with_reducible exact H | (rw [hy123]; exact H) | exact H
                have Ny123 := Aside0.mk hy123
                clear hy123
                replace H := Option.bind_eq_some_iff.mp H
                obtain ⟨t126, A250, H⟩ := H
                replace H : (some t126) = some r := H
                have A25 := Aside0.mk A250
                clear A250
                obtain rfl := Option.some.inj H
                go_wp2_with (first | ((with_reducible refine gate_dst (N := 44) rfl ?_); refine Kd.R_lit Kd.string _ 9 ?hg (N := 44) ?hd (xs := ([(⟨#[75, 105]⟩ : ByteArray), (⟨#[77, 105]⟩ : ByteArray), (⟨#[71, 105]⟩ : ByteArray), (⟨#[84, 105]⟩ : ByteArray), (⟨#[80, 105]⟩ : ByteArray), (⟨#[69, 105]⟩ : ByteArray)] : List ByteArray)) (inner := [.string (⟨#[75, 105]⟩ : ByteArray), .string (⟨#[77, 105]⟩ : ByteArray), .string (⟨#[71, 105]⟩ : ByteArray), .string (⟨#[84, 105]⟩ : ByteArray), .string (⟨#[80, 105]⟩ : ByteArray), .string (⟨#[69, 105]⟩ : ByteArray)]) (ok := fun _ => True) (okp := fun _ => True) ?hr ?hp (fun _ hk => hk) trivial (Below.refl _ _) (Nat.le_refl _) (by simp) ?_; (case hd => rfl); (case hg => rfl); (case hr => first | (go_simp; done) | (go_simp; rfl)); (case hp => exact (Reps.one (show Kd.M Kd.string _ _ _ (⟨#[75, 105]⟩ : ByteArray) [.string (⟨#[75, 105]⟩ : ByteArray)] from rfl) (Reps.one (show Kd.M Kd.string _ _ _ (⟨#[77, 105]⟩ : ByteArray) [.string (⟨#[77, 105]⟩ : ByteArray)] from rfl) (Reps.one (show Kd.M Kd.string _ _ _ (⟨#[71, 105]⟩ : ByteArray) [.string (⟨#[71, 105]⟩ : ByteArray)] from rfl) (Reps.one (show Kd.M Kd.string _ _ _ (⟨#[84, 105]⟩ : ByteArray) [.string (⟨#[84, 105]⟩ : ByteArray)] from rfl) (Reps.one (show Kd.M Kd.string _ _ _ (⟨#[80, 105]⟩ : ByteArray) [.string (⟨#[80, 105]⟩ : ByteArray)] from rfl) (Reps.one (show Kd.M Kd.string _ _ _ (⟨#[69, 105]⟩ : ByteArray) [.string (⟨#[69, 105]⟩ : ByteArray)] from rfl) (Reps.none _ _)))))))); intro v124 w26 ho27 hb hg_ hnew_; clear hg_ hnew_; (first | rw [← Ny123.out] at ho27 | (simp only [Int.reduceToNat] at ho27; rw [← Ny123.out] at ho27)); have n0_ := Aside0.mk (Kd.R_lower ho27 (below_size (by repeat (first | (with_reducible first | exact HB.out | apply below_alloc | apply pw_below_drewN | apply below_drew1) | exact HB.out)))); have n1_ := Aside0.mk (below_step (by repeat (first | (with_reducible first | exact HB.out | apply below_alloc | apply pw_below_drewN | apply below_drew1) | exact HB.out)) hb); clear HB; have HO125 := n0_; have HB := n1_; clear n0_ n1_; clear hb ho27; obtain ⟨Ao28, co28, eo28⟩ := Kd.R_slice HO125.out; subst eo28) | ((with_reducible refine gate_callee (f := 7) rfl ?_); refine goesL_ (some 45) rfl rfl Tryd.func7 (by kernel_rfl) rfl #[.int .i64 a0, .int .i64 1024, .slice Ao28 y123.length co28] rfl (by (try simp only [List.map_toArray, List.map_cons, List.map_nil]); first | done | rfl | (simp only [List.length_drop, List.length_take]; rfl)) ?_; (with_reducible refine (spec_l25Scaled.calls kj3 a0 1024 _ _ y123 t126 _ ?side1 ?side2 A25.out).mono ?_); (case side1 => repeat (first | exact (Kd.R_reads' HO125.out).2.2 | (with_reducible refine Kd.C_alloc ?_ _) | (with_reducible refine Kd.C_drewN ?_ _) | (with_reducible refine Kd.C_drew ?_))); (case side2 => exact (Kd.R_reads' HO125.out).2.1); rintro e w29 ⟨rfl, hb⟩; refine ⟨_, rfl, ?_⟩; have n0_ := Aside0.mk (Kd.R_below (by (with_reducible repeat (first | apply Kd.R_alloc | apply Kd.R_drewN | apply Kd.R_drew)); exact HO125.out) hb); have n1_ := Aside0.mk (below_step (by repeat (first | (with_reducible first | exact HB.out | apply below_alloc | apply pw_below_drewN | apply below_drew1) | exact HB.out)) hb); clear HO125; clear HB; have HO125 := n0_; have HB := n1_; clear n0_ n1_; (try clear hb); (try clear hb2); (try clear hk); (try clear hi)))
                go_ret
                exact ⟨by first | rfl | (simp [errW_none, errW_some] <;> rfl) | (simp [*, errW_none, errW_some] <;> rfl), by repeat (first | (with_reducible first | exact HB.out | apply below_alloc | apply pw_below_drewN | apply below_drew1) | exact HB.out)⟩
              · rw [if_neg c24] at H
                have c24b0 : (a1 == 2) = false := beq_eq_false_iff_ne.mpr c24
                have c24b1 : (a1 != 2) = true := bne_iff_ne.mpr c24
                by_cases c30 : a1 = 3
                · rw [if_pos c30] at H
                  have c30b0 : (a1 == 3) = true := beq_iff_eq.mpr c30
                  have c30b1 : (a1 != 3) = false := bne_eq_false_iff_eq.mpr c30
                  clear c30
                  obtain ⟨y127, hy127⟩ : ∃ y_ : List Int, y_ = (([wrap64 (Int.tdiv x6_3 86400), Int.tmod (wrap64 (Int.tdiv x6_3 3600)) 24, Int.tmod (wrap64 (Int.tdiv x6_3 60)) 60, Int.tmod x6_3 60] : List Int)) := ⟨_, rfl⟩
                  replace H : (spec_UnitText.l0 kj3 x5_3 y127 y127 (y127.length : Int) 0) = some r := by first | (rw [hy127]; with_reducible exact H) | (have H2_ := (Option.bind_some _ _).symm.trans H; rw [hy127]; with_reducible exact H2_) | (have H2_ := (Option.bind_some _ _).symm.trans H; with_reducible exact H2_) | with_reducible exact H | (rw [hy127]; exact H) | exact H
                  have Ny127 := Aside0.mk hy127
                  clear hy127
                  have H' := Aside0.mk H
                  clear H
                  go_wp2_with (first | ((with_reducible refine gate_dst (N := 58) rfl ?_); refine Kd.R_lit (Kd.int .i64) _ 3 ?hg (N := 58) ?hd (xs := ([wrap64 (Int.tdiv x6_3 86400), Int.tmod (wrap64 (Int.tdiv x6_3 3600)) 24, Int.tmod (wrap64 (Int.tdiv x6_3 60)) 60, Int.tmod x6_3 60] : List Int)) (inner := [.int .i64 (wrap64 (Int.tdiv x6_3 86400)), .int .i64 (Int.tmod (wrap64 (Int.tdiv x6_3 3600)) 24), .int .i64 (Int.tmod (wrap64 (Int.tdiv x6_3 60)) 60), .int .i64 (Int.tmod x6_3 60)]) (ok := fun _ => True) (okp := fun _ => True) ?hr ?hp (fun _ hk => hk) trivial (Below.refl _ _) (Nat.le_refl _) (by simp) ?_; (case hd => rfl); (case hg => rfl); (case hr => first | (go_simp; done) | (go_simp; rfl)); (case hp => exact (Reps.one (show Kd.M (Kd.int .i64) _ _ _ (wrap64 (Int.tdiv x6_3 86400)) [.int .i64 (wrap64 (Int.tdiv x6_3 86400))] from rfl) (Reps.one (show Kd.M (Kd.int .i64) _ _ _ (Int.tmod (wrap64 (Int.tdiv x6_3 3600)) 24) [.int .i64 (Int.tmod (wrap64 (Int.tdiv x6_3 3600)) 24)] from rfl) (Reps.one (show Kd.M (Kd.int .i64) _ _ _ (Int.tmod (wrap64 (Int.tdiv x6_3 60)) 60) [.int .i64 (Int.tmod (wrap64 (Int.tdiv x6_3 60)) 60)] from rfl) (Reps.one (show Kd.M (Kd.int .i64) _ _ _ (Int.tmod x6_3 60) [.int .i64 (Int.tmod x6_3 60)] from rfl) (Reps.none _ _)))))); intro v128 w31 ho32 hb hg_ hnew_; clear hg_ hnew_; (first | rw [← Ny127.out] at ho32 | (simp only [Int.reduceToNat] at ho32; rw [← Ny127.out] at ho32)); have n0_ := Aside0.mk (Kd.R_lower ho32 (below_size (by repeat (first | (with_reducible first | exact HB.out | apply below_alloc | apply pw_below_drewN | apply below_drew1) | exact HB.out)))); have n1_ := Aside0.mk (below_step (by repeat (first | (with_reducible first | exact HB.out | apply below_alloc | apply pw_below_drewN | apply below_drew1) | exact HB.out)) hb); clear HB; have HO129 := n0_; have HB := n1_; clear n0_ n1_; clear hb ho32; obtain ⟨Ao33, co33, eo33⟩ := Kd.R_slice HO129.out; subst eo33))
                  go_loopg [61] kj3 (fun kq v61 w' => ∃ (x61_2 : Int), v61 = .int .i64 x61_2 ∧ Aside0 (spec_UnitText.l0 kq x5_3 y127 y127 (y127.length : Int) x61_2 = some r) ∧ Aside0 (kq ≤ kj3) ∧ Aside0 (Kd.R (Kd.int .i64) 3 w' w.heap.size (fun _ => True) (.slice Ao33 y127.length co33) y127) ∧ Aside0 (Kd.R (Kd.int .i64) 3 w' w.heap.size (fun _ => True) (.slice Ao33 y127.length co33) y127) ∧ Aside0 (Below w.heap.size w w'))
                  case atStart => exact ⟨(0), (by first | rfl | (simp; done) | (simp [*]; done)), H', ⟨Nat.le_refl _⟩, ⟨by (with_reducible repeat (first | apply Kd.R_alloc | apply Kd.R_drewN | apply Kd.R_drew)); exact HO129.out⟩, ⟨by (with_reducible repeat (first | apply Kd.R_alloc | apply Kd.R_drewN | apply Kd.R_drew)); exact HO129.out⟩, ⟨by repeat (first | (with_reducible first | exact HB.out | apply below_alloc | apply pw_below_drewN | apply below_drew1) | exact HB.out)⟩⟩
                  case round =>
                    clear H'
                    try clear c1
                    try clear c2
                    try clear p2
                    try clear c3
                    try clear c3b0
                    try clear c3b1
                    try clear c4
                    try clear c5
                    try clear c5b0
                    try clear c5b2
                    try clear c6
                    try clear c6b0
                    try clear c6b1
                    try clear p6
                    try clear c7
                    try clear c9
                    try clear c9b0
                    try clear c9b1
                    try clear c11
                    try clear c11b0
                    try clear c11b1
                    try clear c11b2
                    try clear c12
                    try clear c12b0
                    try clear c12b1
                    try clear c12b2
                    try clear c14
                    try clear c14b0
                    try clear c14b1
                    try clear c14b2
                    try clear c15
                    try clear c15b0
                    try clear c15b1
                    try clear c15b2
                    try clear c18
                    try clear c18b0
                    try clear c18b1
                    try clear c24
                    try clear c24b0
                    try clear c24b1
                    try clear c30
                    try clear c30b0
                    try clear c30b1
                    try clear p2
                    obtain ⟨x61_2, rfl, HA, HK2, HO_7, HO_59, HB⟩ := hrel
                    cases gk with
                    | zero => exact absurd HA.out (by simp [spec_UnitText.l0])
                    | succ k2 =>
                      have H := HA.out
                      clear HA
                      simp only [spec_UnitText.l0] at H
                      by_cases c34 : x61_2 < (y127.length : Int)
                      · rw [if_pos c34] at H
                        have c34b0 : decide (x61_2 < (y127.length : Int)) = true := decide_eq_true c34
                        clear c34
                        by_cases c35 : 0 ≤ x61_2
                        · rw [if_pos c35] at H
                          have c35b0 : decide (0 ≤ x61_2) = true := decide_eq_true c35
                          clear c35
                          by_cases c36 : x61_2 < (y127.length : Int)
                          · rw [if_pos c36] at H
                            have c36b0 : decide (x61_2 < (y127.length : Int)) = true := decide_eq_true c36
                            clear c36
                            by_cases c37 : (rd y127 x61_2) = 0
                            · rw [if_pos c37] at H
                              have c37b0 : ((rd y127 x61_2) == 0) = true := beq_iff_eq.mpr c37
                              have c37b1 : ((rd y127 x61_2) != 0) = false := bne_eq_false_iff_eq.mpr c37
                              clear c37
                              have H' := Aside0.mk H
                              clear H
                              have p130 : 0 ≤ (x61_2 : Int) := of_decide_eq_true (by first | (with_reducible assumption) | assumption)
                              have q130 : x61_2 < (y127.length : Int) := of_decide_eq_true (by first | (with_reducible assumption) | assumption)
                              obtain ⟨ad130, e130, hx130_0⟩ := Kd.at_int (Kd.R_reads' HO_59.out).2.2 x61_2 p130 q130
                              cases e130
                              replace p130 := eq_true p130
                              replace q130 := eq_true q130
                              go_wp2
                              go_roundg k2
                              case measure => have := HJ3.out; have := HK2.out; omega
                              case rel => exact ⟨(wrap64 (x61_2 + 1)), (by first | rfl | (simp; done) | (simp [*]; done)), H', ⟨by have := HJ3.out; have := HK2.out; omega⟩, ⟨by (with_reducible repeat (first | apply Kd.R_alloc | apply Kd.R_drewN | apply Kd.R_drew)); exact HO_7.out⟩, ⟨by (with_reducible repeat (first | apply Kd.R_alloc | apply Kd.R_drewN | apply Kd.R_drew)); exact HO_59.out⟩, ⟨by repeat (first | (with_reducible first | exact HB.out | apply below_alloc | apply pw_below_drewN | apply below_drew1) | exact HB.out)⟩⟩
                            · rw [if_neg c37] at H
                              have c37b0 : ((rd y127 x61_2) == 0) = false := beq_eq_false_iff_ne.mpr c37
                              have c37b1 : ((rd y127 x61_2) != 0) = true := bne_iff_ne.mpr c37
                              replace H := Option.bind_eq_some_iff.mp H
                              obtain ⟨t131, A380, H⟩ := H
                              replace H : (if x5_3.size + t131.size ≤ 9223372036854775807 then ((some (([(⟨#[100]⟩ : ByteArray), (⟨#[104]⟩ : ByteArray), (⟨#[109]⟩ : ByteArray), (⟨#[115]⟩ : ByteArray)] : List ByteArray) : List ByteArray)).bind fun y132 => (if x61_2 < (y132.length : Int) then (if (x5_3 ++ t131).size + (rdOf ByteArray.empty y132 x61_2).size ≤ 9223372036854775807 then (if x61_2 < 3 then (if 0 ≤ (wrap64 (x61_2 + 1)) then (if (wrap64 (x61_2 + 1)) < (y127.length : Int) then (if (rd y127 (wrap64 (x61_2 + 1))) = 0 then (some ((x5_3 ++ t131) ++ (rdOf ByteArray.empty y132 x61_2))) else ((spec_l2Num.f k2 (rd y127 (wrap64 (x61_2 + 1)))).bind fun t138 => ((some (([(⟨#[100]⟩ : ByteArray), (⟨#[104]⟩ : ByteArray), (⟨#[109]⟩ : ByteArray), (⟨#[115]⟩ : ByteArray)] : List ByteArray) : List ByteArray)).bind fun y139 => (if (wrap64 (x61_2 + 1)) < (y139.length : Int) then (if t138.size + (rdOf ByteArray.empty y139 (wrap64 (x61_2 + 1))).size ≤ 9223372036854775807 then (if ((x5_3 ++ t131) ++ (rdOf ByteArray.empty y132 x61_2)).size + (t138 ++ (rdOf ByteArray.empty y139 (wrap64 (x61_2 + 1)))).size ≤ 9223372036854775807 then (some (((x5_3 ++ t131) ++ (rdOf ByteArray.empty y132 x61_2)) ++ (t138 ++ (rdOf ByteArray.empty y139 (wrap64 (x61_2 + 1)))))) else (none)) else (none)) else (none))))) else (none)) else (none)) else (some ((x5_3 ++ t131) ++ (rdOf ByteArray.empty y132 x61_2)))) else (none)) else (none))) else (none)) = some r := H
                              have A38 := Aside0.mk A380
                              clear A380
                              by_cases c39 : x5_3.size + t131.size ≤ 9223372036854775807
                              · rw [if_pos c39] at H
                                have c39b0 := eq_true c39
                                have c39b1 : decide (x5_3.size + t131.size ≤ 9223372036854775807) = true := decide_eq_true c39
                                try have c39b2 : (9223372036854775807 < x5_3.size + t131.size) = False := eq_false (Nat.not_lt.2 c39)
                                obtain ⟨y132, hy132⟩ : ∃ y_ : List ByteArray, y_ = (([(⟨#[100]⟩ : ByteArray), (⟨#[104]⟩ : ByteArray), (⟨#[109]⟩ : ByteArray), (⟨#[115]⟩ : ByteArray)] : List ByteArray)) := ⟨_, rfl⟩
                                replace H : (if x61_2 < (y132.length : Int) then (if (x5_3 ++ t131).size + (rdOf ByteArray.empty y132 x61_2).size ≤ 9223372036854775807 then (if x61_2 < 3 then (if 0 ≤ (wrap64 (x61_2 + 1)) then (if (wrap64 (x61_2 + 1)) < (y127.length : Int) then (if (rd y127 (wrap64 (x61_2 + 1))) = 0 then (some ((x5_3 ++ t131) ++ (rdOf ByteArray.empty y132 x61_2))) else ((spec_l2Num.f k2 (rd y127 (wrap64 (x61_2 + 1)))).bind fun t138 => ((some (([(⟨#[100]⟩ : ByteArray), (⟨#[104]⟩ : ByteArray), (⟨#[109]⟩ : ByteArray), (⟨#[115]⟩ : ByteArray)] : List ByteArray) : List ByteArray)).bind fun y139 => (if (wrap64 (x61_2 + 1)) < (y139.length : Int) then (if t138.size + (rdOf ByteArray.empty y139 (wrap64 (x61_2 + 1))).size ≤ 9223372036854775807 then (if ((x5_3 ++ t131) ++ (rdOf ByteArray.empty y132 x61_2)).size + (t138 ++ (rdOf ByteArray.empty y139 (wrap64 (x61_2 + 1)))).size ≤ 9223372036854775807 then (some (((x5_3 ++ t131) ++ (rdOf ByteArray.empty y132 x61_2)) ++ (t138 ++ (rdOf ByteArray.empty y139 (wrap64 (x61_2 + 1)))))) else (none)) else (none)) else (none))))) else (none)) else (none)) else (some ((x5_3 ++ t131) ++ (rdOf ByteArray.empty y132 x61_2)))) else (none)) else (none)) = some r := by first | (rw [hy132]; with_reducible exact H) | (have H2_ := (Option.bind_some _ _).symm.trans H; rw [hy132]; with_reducible exact H2_) | (have H2_ := (Option.bind_some _ _).symm.trans H; with_reducible exact H2_) | with_reducible exact H | (rw [hy132]; exact H) | exact H
                                have Ny132 := Aside0.mk hy132
                                clear hy132
                                by_cases c40 : x61_2 < (y132.length : Int)
                                · rw [if_pos c40] at H
                                  have c40b0 : decide (x61_2 < (y132.length : Int)) = true := decide_eq_true c40
                                  clear c40
                                  by_cases c41 : (x5_3 ++ t131).size + (rdOf ByteArray.empty y132 x61_2).size ≤ 9223372036854775807
                                  · rw [if_pos c41] at H
                                    have c41b0 := eq_true c41
                                    have c41b1 : decide ((x5_3 ++ t131).size + (rdOf ByteArray.empty y132 x61_2).size ≤ 9223372036854775807) = true := decide_eq_true c41
                                    try have c41b2 : (9223372036854775807 < (x5_3 ++ t131).size + (rdOf ByteArray.empty y132 x61_2).size) = False := eq_false (Nat.not_lt.2 c41)
                                    (try (obtain ⟨z_, hz_⟩ : ∃ z_ : Nat, z_ = (x5_3 ++ t131).size + (rdOf ByteArray.empty y132 x61_2).size := ⟨_, rfl⟩; have c41b3 := c41b2; rw [← hz_] at c41b3; simp [go_sem] at hz_; rw [hz_] at c41b3; clear hz_ z_))
                                    by_cases c42 : x61_2 < 3
                                    · rw [if_pos c42] at H
                                      have c42b0 : decide (x61_2 < 3) = true := decide_eq_true c42
                                      clear c42
                                      obtain ⟨ji43, hji43⟩ : ∃ j_ : Int, (wrap64 (x61_2 + 1)) = j_ := ⟨_, rfl⟩
                                      replace H : (if 0 ≤ (ji43) then (if (ji43) < (y127.length : Int) then (if (rd y127 (ji43)) = 0 then (some ((x5_3 ++ t131) ++ (rdOf ByteArray.empty y132 x61_2))) else ((spec_l2Num.f k2 (rd y127 (ji43))).bind fun t138 => ((some (([(⟨#[100]⟩ : ByteArray), (⟨#[104]⟩ : ByteArray), (⟨#[109]⟩ : ByteArray), (⟨#[115]⟩ : ByteArray)] : List ByteArray) : List ByteArray)).bind fun y139 => (if (ji43) < (y139.length : Int) then (if t138.size + (rdOf ByteArray.empty y139 (ji43)).size ≤ 9223372036854775807 then (if ((x5_3 ++ t131) ++ (rdOf ByteArray.empty y132 x61_2)).size + (t138 ++ (rdOf ByteArray.empty y139 (ji43))).size ≤ 9223372036854775807 then (some (((x5_3 ++ t131) ++ (rdOf ByteArray.empty y132 x61_2)) ++ (t138 ++ (rdOf ByteArray.empty y139 (ji43))))) else (none)) else (none)) else (none))))) else (none)) else (none)) = some r := by first | (rw [hji43] at H; exact H) | (simp only [hji43] at H ⊢; exact H)
                                      (try rw [hji43] at A38)
                                      have hji43w : (IntKind.i64.wrap (x61_2 + 1)) = ji43 := (i64_w _).trans hji43
                                      by_cases c44 : 0 ≤ (ji43)
                                      · rw [if_pos c44] at H
                                        have c44b0 : decide (0 ≤ (ji43)) = true := decide_eq_true c44
                                        clear c44
                                        by_cases c45 : (ji43) < (y127.length : Int)
                                        · rw [if_pos c45] at H
                                          have c45b0 : decide ((ji43) < (y127.length : Int)) = true := decide_eq_true c45
                                          clear c45
                                          by_cases c46 : (rd y127 (ji43)) = 0
                                          · rw [if_pos c46] at H
                                            have c46b0 : ((rd y127 (ji43)) == 0) = true := beq_iff_eq.mpr c46
                                            have c46b1 : ((rd y127 (ji43)) != 0) = false := bne_eq_false_iff_eq.mpr c46
                                            clear c46
                                            obtain rfl := Option.some.inj H
                                            have p130 : 0 ≤ (x61_2 : Int) := of_decide_eq_true (by first | (with_reducible assumption) | assumption)
                                            have q130 : x61_2 < (y127.length : Int) := of_decide_eq_true (by first | (with_reducible assumption) | assumption)
                                            obtain ⟨ad130, e130, hx130_0⟩ := Kd.at_int (Kd.R_reads' HO_59.out).2.2 x61_2 p130 q130
                                            cases e130
                                            replace p130 := eq_true p130
                                            replace q130 := eq_true q130
                                            try go_wp2
                                            have pi135 : (0 ≤ (x61_2 : Int)) = True := eq_true (of_decide_eq_true (by first | (with_reducible assumption) | assumption))
                                            have qi135 : (x61_2 < (y132.length : Int)) = True := eq_true (of_decide_eq_true (by first | (with_reducible assumption) | assumption))
                                            have n0_ := Aside0.mk (Kd.R_drew HO_7.out)
                                            have n1_ := Aside0.mk (Kd.R_drew HO_59.out)
                                            have n2_ := Aside0.mk (below_drew1 HB.out)
                                            clear HO_7
                                            clear HO_59
                                            clear HB
                                            have HO_7 := n0_
                                            have HO_59 := n1_
                                            have HB := n2_
                                            clear n0_ n1_ n2_
                                            refine start_ (n := 10) (S := fun w' => True) (ds := []) #[false, false, false, false, false, false, false, false, false, false] (by kernel_rfl) rfl rfl trivial (fun hHeld => ?_); refine with_tabW spec_UnitText.tab23 spec_UnitText.bits23 (fun HT_ HW_ => ?_)
                                            generalize wr.drew = w47 at HO_7 HO_59 HB hHeld ⊢
                                            refine pure_ (i := 0) (N := some 68) (v := ?_) (a' := ?_) #[true, false, false, false, false, false, false, false, false, false] rfl rfl (any_of HT_.out (by kernel_rfl)) (fun _ _ _ h => h) (Or.inl ⟨by rfl, ?_⟩) ?_ ?_
                                            rotate_left
                                            · intro w'
                                              go_simp
                                              with_reducible rfl
                                            rotate_left
                                            · simp only [Act.put, List.setIfInBounds_toArray, List.set_cons_zero, List.set_cons_succ, i64_w, i32_w]
                                              rfl
                                            refine pure_ (i := 1) (N := some 69) (v := ?_) (a' := ?_) #[true, true, false, false, false, false, false, false, false, false] rfl rfl (any_of HT_.out (by kernel_rfl)) (fun _ _ _ h => h) (Or.inl ⟨by rfl, ?_⟩) ?_ ?_
                                            rotate_left
                                            · intro w'
                                              go_simp
                                              with_reducible rfl
                                            rotate_left
                                            · simp only [Act.put, List.setIfInBounds_toArray, List.set_cons_zero, List.set_cons_succ, i64_w, i32_w]
                                              rfl
                                            refine pure_ (i := 5) (N := some 73) (v := ?_) (a' := ?_) #[true, true, false, false, false, true, false, false, false, false] rfl rfl (any_of HT_.out (by kernel_rfl)) (fun _ _ _ h => h) (Or.inl ⟨by rfl, ?_⟩) ?_ ?_
                                            rotate_left
                                            · intro w'
                                              go_simp
                                              with_reducible rfl
                                            rotate_left
                                            · simp only [Act.put, List.setIfInBounds_toArray, List.set_cons_zero, List.set_cons_succ, i64_w, i32_w]
                                              rfl
                                            refine inv_at [2, 3, 4, 6, 7, 8, 9] (fun a0_ b a w' => ∃ (v133 : Value) (adz_v133 : Addr) (m6_ : Value), a = putSel a0_ b [(2, 70, .string t131), (3, 71, .string (x5_3 ++ t131)), (4, 72, v133), (6, 74, m6_), (7, 75, .string (rdOf ByteArray.empty y132 x61_2)), (8, 76, .string ((x5_3 ++ t131) ++ (rdOf ByteArray.empty y132 x61_2))), (9, 10, .string ((x5_3 ++ t131) ++ (rdOf ByteArray.empty y132 x61_2)))] ∧ (Kd.R (Kd.int .i64) 3 w' w.heap.size (fun _ => True) (.slice (some ad130) y127.length co33) y127) ∧ (Kd.R (Kd.int .i64) 3 w' w.heap.size (fun _ => True) (.slice (some ad130) y127.length co33) y127) ∧ (Below w.heap.size w w') ∧ (b 4 = true → Kd.R Kd.string 9 w' w.heap.size (fun _ => True) v133 y132) ∧ (b 4 = true → ∃ c_, (v133 : Value) = .slice (some adz_v133) y132.length c_) ∧ (b 6 = true → (m6_ : Value) = .pointer (some (adz_v133.add (x61_2).toNat)))) HT_.out HW_.out (by kernel_rfl) (by kernel_rfl) ?_ ?_ ?_
                                            · exact ⟨.bool false, ⟨0, 0, none⟩, .bool false, by simp only [putSel, Bool.false_eq_true, if_false], HO_59.out, HO_7.out, HB.out, fun h_ => absurd h_ (by decide), fun h_ => absurd h_ (by decide), fun h_ => absurd h_ (by decide)⟩
                                            · skip
                                              clear HB HO_59 HO_7
                                              refine steps_cons ?_ ?_
                                              · rintro b a w' ⟨v133, adz_v133, m6_, ha, Q_HO_59, Q_HO_7, Q_HB, Q_HO134, Q_HA_HO134, Q_X6_⟩ hb_ hon hoff
                                                refine ⟨_, rfl, fun K hK => ?_⟩
                                                have e69 : a.tmps[69]? = some (.int .i64 (rd y127 x61_2)) := by rw [ha]; exact (putSel_off rfl).trans rfl
                                                replace ha := Aside0.mk ha
                                                have HO_59 := Aside0.mk Q_HO_59
                                                have HO_7 := Aside0.mk Q_HO_7
                                                have HB := Aside0.mk Q_HB
                                                refine goes_ Tryd.func6 (by kernel_rfl) rfl #[.int .i64 (rd y127 x61_2)] (by rfl) rfl rfl (by first | (simp only [List.map_toArray, List.map_cons, List.map_nil, Act.eval, Array.getD_eq_getD_getElem?, Option.getD_some, e69]; done) | (simp only [List.map_toArray, List.map_cons, List.map_nil, Act.eval, Array.getD_eq_getD_getElem?, Option.getD_some, e69]; rfl)) ?_
                                                with_reducible refine (spec_l2Num.calls k2 (rd y127 x61_2) t131 _ A38.out).mono ?_
                                                rintro e w48 ⟨rfl, hb⟩
                                                refine ⟨_, rfl, ?_⟩
                                                have n0_ := Aside0.mk (Kd.R_below (by (with_reducible repeat (first | apply Kd.R_alloc | apply Kd.R_drewN | apply Kd.R_drew)); exact HO_7.out) hb)
                                                have n1_ := Aside0.mk (Kd.R_below (by (with_reducible repeat (first | apply Kd.R_alloc | apply Kd.R_drewN | apply Kd.R_drew)); exact HO_59.out) hb)
                                                have n2_ := Aside0.mk (below_step (by repeat (first | (with_reducible first | exact HB.out | apply below_alloc | apply pw_below_drewN | apply below_drew1) | exact HB.out)) hb)
                                                have z_HO134 := fun (h0_ : b 4 = true) => (show Kd.R Kd.string 9 w48 w.heap.size (fun _ => True) v133 y132 from by first | exact (Kd.R_below (by (with_reducible repeat (first | apply Kd.R_alloc | apply Kd.R_drewN | apply Kd.R_drew)); exact (Q_HO134 h0_)) hb) | exact Kd.R_mono (Kd.R_below (by (with_reducible repeat (first | apply Kd.R_alloc | apply Kd.R_drewN | apply Kd.R_drew)); exact (Q_HO134 h0_)) hb) (fun _ h_ => by first | trivial | exact h_ | exact h_.1))
                                                clear HO_7
                                                clear HO_59
                                                clear HB
                                                have HO_7 := n0_
                                                have HO_59 := n1_
                                                have HB := n2_
                                                clear n0_ n1_ n2_
                                                (try clear hb)
                                                (try clear hb2)
                                                (try clear hk)
                                                (try clear hi)
                                                refine hK.out _ _ ⟨v133, adz_v133, m6_, (by rw [ha.out]; exact putSel_upk 0 hb_ rfl rfl rfl), (by (with_reducible repeat (first | apply Kd.R_alloc | apply Kd.R_drewN | apply Kd.R_drew)); exact HO_59.out), (by (with_reducible repeat (first | apply Kd.R_alloc | apply Kd.R_drewN | apply Kd.R_drew)); exact HO_7.out), (by repeat (first | (with_reducible first | exact HB.out | apply below_alloc | apply pw_below_drewN | apply below_drew1) | exact HB.out)), z_HO134, Q_HA_HO134, Q_X6_⟩
                                              refine steps_cons ?_ ?_
                                              · rintro b a w' ⟨v133, adz_v133, m6_, ha, Q_HO_59, Q_HO_7, Q_HB, Q_HO134, Q_HA_HO134, Q_X6_⟩ hb_ hon hoff
                                                refine ⟨_, rfl, fun K hK => ?_⟩
                                                have e68 : a.tmps[68]? = some (.string x5_3) := by rw [ha]; exact (putSel_off rfl).trans rfl
                                                have e70 : a.tmps[70]? = some (.string t131) := by rw [ha]; exact putSel_on (e := (2, 70, .string t131)) 0 rfl rfl (hon 2 (by kernel_rfl)) rfl
                                                replace ha := Aside0.mk ha
                                                have HO_59 := Aside0.mk Q_HO_59
                                                have HO_7 := Aside0.mk Q_HO_7
                                                have HB := Aside0.mk Q_HB
                                                refine value_ (w1 := w') (v := .string (x5_3 ++ t131)) (by rfl) rfl ?_ ?_
                                                · go_simp
                                                  (try simp only [i64_w])
                                                  try rfl
                                                refine hK.out _ _ ⟨v133, adz_v133, m6_, (by rw [ha.out]; exact putSel_upk 1 hb_ rfl rfl rfl), Q_HO_59, Q_HO_7, Q_HB, Q_HO134, Q_HA_HO134, Q_X6_⟩
                                              refine steps_cons ?_ ?_
                                              · rintro b a w' ⟨v133, adz_v133, m6_, ha, Q_HO_59, Q_HO_7, Q_HB, Q_HO134, Q_HA_HO134, Q_X6_⟩ hb_ hon hoff
                                                refine ⟨_, rfl, fun K hK => ?_⟩
                                                replace ha := Aside0.mk ha
                                                have HO_59 := Aside0.mk Q_HO_59
                                                have HO_7 := Aside0.mk Q_HO_7
                                                have HB := Aside0.mk Q_HB
                                                refine Kd.R_lit_step Kd.string _ 9 ?hg (N := 72) ?hd (xs := ([(⟨#[100]⟩ : ByteArray), (⟨#[104]⟩ : ByteArray), (⟨#[109]⟩ : ByteArray), (⟨#[115]⟩ : ByteArray)] : List ByteArray)) (inner := [.string (⟨#[100]⟩ : ByteArray), .string (⟨#[104]⟩ : ByteArray), .string (⟨#[109]⟩ : ByteArray), .string (⟨#[115]⟩ : ByteArray)]) (ok := fun _ => True) (okp := fun _ => True) ?hr ?hp (fun _ hk => hk) trivial (Below.refl _ _) (Nat.le_refl _) (by simp) ?_; (case hd => rfl); (case hg => rfl); (case hr => first | (go_simp; done) | (go_simp; rfl)); (case hp => exact (Reps.one (show Kd.M Kd.string _ _ _ (⟨#[100]⟩ : ByteArray) [.string (⟨#[100]⟩ : ByteArray)] from rfl) (Reps.one (show Kd.M Kd.string _ _ _ (⟨#[104]⟩ : ByteArray) [.string (⟨#[104]⟩ : ByteArray)] from rfl) (Reps.one (show Kd.M Kd.string _ _ _ (⟨#[109]⟩ : ByteArray) [.string (⟨#[109]⟩ : ByteArray)] from rfl) (Reps.one (show Kd.M Kd.string _ _ _ (⟨#[115]⟩ : ByteArray) [.string (⟨#[115]⟩ : ByteArray)] from rfl) (Reps.none _ _))))))
                                                intro v133 w48 ho49 hb hg_ hnew_
                                                clear hg_ hnew_
                                                (first | rw [← Ny132.out] at ho49 | (simp only [Int.reduceToNat] at ho49; rw [← Ny132.out] at ho49))
                                                have n0_ := Aside0.mk (Kd.R_below (by (with_reducible repeat (first | apply Kd.R_alloc | apply Kd.R_drewN | apply Kd.R_drew)); exact HO_7.out) hb)
                                                have n1_ := Aside0.mk (Kd.R_below (by (with_reducible repeat (first | apply Kd.R_alloc | apply Kd.R_drewN | apply Kd.R_drew)); exact HO_59.out) hb)
                                                have n2_ := Aside0.mk (Kd.R_lower ho49 (below_size (by repeat (first | (with_reducible first | exact HB.out | apply below_alloc | apply pw_below_drewN | apply below_drew1) | exact HB.out))))
                                                have n3_ := Aside0.mk (below_step (by repeat (first | (with_reducible first | exact HB.out | apply below_alloc | apply pw_below_drewN | apply below_drew1) | exact HB.out)) hb)
                                                clear HO_7
                                                clear HO_59
                                                clear HB
                                                have HO_7 := n0_
                                                have HO_59 := n1_
                                                have HO134 := n2_
                                                have HB := n3_
                                                clear n0_ n1_ n2_ n3_
                                                clear hb ho49
                                                obtain ⟨Ao50, co50, eo50⟩ := Kd.R_slice HO134.out
                                                subst eo50
                                                obtain ⟨ado50, fo50, _⟩ := Kd.at_string (Kd.R_reads' HO134.out).2.2 0 (by decide) (by rw [Ny132.out]; simp)
                                                cases fo50
                                                refine hK.out _ _ ⟨.slice (some ado50) y132.length co50, ado50, m6_, (by rw [ha.out]; exact putSel_upk 2 hb_ rfl rfl rfl), (by (with_reducible repeat (first | apply Kd.R_alloc | apply Kd.R_drewN | apply Kd.R_drew)); exact HO_59.out), (by (with_reducible repeat (first | apply Kd.R_alloc | apply Kd.R_drewN | apply Kd.R_drew)); exact HO_7.out), (by repeat (first | (with_reducible first | exact HB.out | apply below_alloc | apply pw_below_drewN | apply below_drew1) | exact HB.out)), fun _ => (by (with_reducible repeat (first | apply Kd.R_alloc | apply Kd.R_drewN | apply Kd.R_drew)); exact HO134.out), fun _ => ⟨_, rfl⟩, fun h0_ => absurd ((hoff 6 (by kernel_rfl)).symm.trans h0_) (by decide)⟩
                                              refine steps_cons ?_ ?_
                                              · rintro b a w' ⟨v133, adz_v133, m6_, ha, Q_HO_59, Q_HO_7, Q_HB, Q_HO134, Q_HA_HO134, Q_X6_⟩ hb_ hon hoff
                                                refine ⟨_, rfl, fun K hK => ?_⟩
                                                have e72 : a.tmps[72]? = some (v133) := by rw [ha]; exact putSel_on (e := (4, 72, v133)) 2 rfl rfl (hon 4 (by kernel_rfl)) rfl
                                                have e73 : a.tmps[73]? = some (.int .i64 x61_2) := by rw [ha]; exact (putSel_off rfl).trans rfl
                                                replace ha := Aside0.mk ha
                                                have HO_59 := Aside0.mk Q_HO_59
                                                have HO_7 := Aside0.mk Q_HO_7
                                                have HB := Aside0.mk Q_HB
                                                have HO134 := Aside0.mk (Q_HO134 (hon 4 (by kernel_rfl)))
                                                have HA_HO134 := Aside0.mk (Q_HA_HO134 (hon 4 (by kernel_rfl)))
                                                obtain ⟨c_, hv_⟩ := HA_HO134.out
                                                rw [hv_] at e72
                                                refine value_ (w1 := w') (v := .pointer (some (adz_v133.add (x61_2).toNat))) (by rfl) rfl ?_ ?_
                                                · go_simp
                                                  (try simp only [i64_w])
                                                  try rfl
                                                refine hK.out _ _ ⟨v133, adz_v133, (.pointer (some (adz_v133.add (x61_2).toNat))), (by rw [ha.out]; exact putSel_upk 3 hb_ rfl rfl rfl), Q_HO_59, Q_HO_7, Q_HB, Q_HO134, Q_HA_HO134, fun _ => rfl⟩
                                              refine steps_cons ?_ ?_
                                              · rintro b a w' ⟨v133, adz_v133, m6_, ha, Q_HO_59, Q_HO_7, Q_HB, Q_HO134, Q_HA_HO134, Q_X6_⟩ hb_ hon hoff
                                                refine ⟨_, rfl, fun K hK => ?_⟩
                                                have e74 : a.tmps[74]? = some (m6_) := by rw [ha]; exact putSel_on (e := (6, 74, m6_)) 3 rfl rfl (hon 6 (by kernel_rfl)) rfl
                                                rw [Q_X6_ (hon 6 (by kernel_rfl))] at e74
                                                replace ha := Aside0.mk ha
                                                have HO_59 := Aside0.mk Q_HO_59
                                                have HO_7 := Aside0.mk Q_HO_7
                                                have HB := Aside0.mk Q_HB
                                                have HO134 := Aside0.mk (Q_HO134 (hon 4 (by kernel_rfl)))
                                                have HA_HO134 := Aside0.mk (Q_HA_HO134 (hon 4 (by kernel_rfl)))
                                                obtain ⟨c_, hv_⟩ := HA_HO134.out
                                                have hF_ := HO134.out
                                                rw [hv_] at hF_
                                                obtain ⟨ad_, ea_, hx_⟩ := Kd.at_string (Kd.R_reads' hF_).2.2 x61_2 (of_eq_true pi135) (of_eq_true qi135)
                                                cases ea_
                                                refine value_ (w1 := w') (v := .string (rdOf ByteArray.empty y132 x61_2)) (by rfl) rfl ?_ ?_
                                                · go_simp
                                                  (try simp only [i64_w])
                                                  try rfl
                                                refine hK.out _ _ ⟨v133, adz_v133, m6_, (by rw [ha.out]; exact putSel_upk 4 hb_ rfl rfl rfl), Q_HO_59, Q_HO_7, Q_HB, Q_HO134, Q_HA_HO134, Q_X6_⟩
                                              refine steps_cons ?_ ?_
                                              · rintro b a w' ⟨v133, adz_v133, m6_, ha, Q_HO_59, Q_HO_7, Q_HB, Q_HO134, Q_HA_HO134, Q_X6_⟩ hb_ hon hoff
                                                refine ⟨_, rfl, fun K hK => ?_⟩
                                                have e71 : a.tmps[71]? = some (.string (x5_3 ++ t131)) := by rw [ha]; exact putSel_on (e := (3, 71, .string (x5_3 ++ t131))) 1 rfl rfl (hon 3 (by kernel_rfl)) rfl
                                                have e75 : a.tmps[75]? = some (.string (rdOf ByteArray.empty y132 x61_2)) := by rw [ha]; exact putSel_on (e := (7, 75, .string (rdOf ByteArray.empty y132 x61_2))) 4 rfl rfl (hon 7 (by kernel_rfl)) rfl
                                                replace ha := Aside0.mk ha
                                                have HO_59 := Aside0.mk Q_HO_59
                                                have HO_7 := Aside0.mk Q_HO_7
                                                have HB := Aside0.mk Q_HB
                                                have HO134 := Aside0.mk (Q_HO134 (hon 4 (by kernel_rfl)))
                                                have HA_HO134 := Aside0.mk (Q_HA_HO134 (hon 4 (by kernel_rfl)))
                                                refine value_ (w1 := w') (v := .string ((x5_3 ++ t131) ++ (rdOf ByteArray.empty y132 x61_2))) (by rfl) rfl ?_ ?_
                                                · go_simp
                                                  (try simp only [i64_w])
                                                  try rfl
                                                refine hK.out _ _ ⟨v133, adz_v133, m6_, (by rw [ha.out]; exact putSel_upk 5 hb_ rfl rfl rfl), Q_HO_59, Q_HO_7, Q_HB, Q_HO134, Q_HA_HO134, Q_X6_⟩
                                              refine steps_cons ?_ ?_
                                              · rintro b a w' ⟨v133, adz_v133, m6_, ha, Q_HO_59, Q_HO_7, Q_HB, Q_HO134, Q_HA_HO134, Q_X6_⟩ hb_ hon hoff
                                                refine ⟨_, rfl, fun K hK => ?_⟩
                                                have e76 : a.tmps[76]? = some (.string ((x5_3 ++ t131) ++ (rdOf ByteArray.empty y132 x61_2))) := by rw [ha]; exact putSel_on (e := (8, 76, .string ((x5_3 ++ t131) ++ (rdOf ByteArray.empty y132 x61_2)))) 5 rfl rfl (hon 8 (by kernel_rfl)) rfl
                                                replace ha := Aside0.mk ha
                                                have HO_59 := Aside0.mk Q_HO_59
                                                have HO_7 := Aside0.mk Q_HO_7
                                                have HB := Aside0.mk Q_HB
                                                have HO134 := Aside0.mk (Q_HO134 (hon 4 (by kernel_rfl)))
                                                have HA_HO134 := Aside0.mk (Q_HA_HO134 (hon 4 (by kernel_rfl)))
                                                refine value_ (w1 := w') (v := .string ((x5_3 ++ t131) ++ (rdOf ByteArray.empty y132 x61_2))) (by rfl) rfl ?_ ?_
                                                · go_simp
                                                  (try simp only [i64_w])
                                                  try rfl
                                                refine hK.out _ _ ⟨v133, adz_v133, m6_, (by rw [ha.out]; exact putSel_upk 6 hb_ rfl rfl rfl), Q_HO_59, Q_HO_7, Q_HB, Q_HO134, Q_HA_HO134, Q_X6_⟩
                                              exact steps_nil
                                            rintro b a w52 hall ⟨v133, adz_v133, m6_, ha, Q_HO_59, Q_HO_7, Q_HB, Q_HO134, Q_HA_HO134, Q_X6_⟩
                                            clear HB HO_59 HO_7
                                            have hb2_ := hall 2 (by kernel_rfl)
                                            have hb3_ := hall 3 (by kernel_rfl)
                                            have hb4_ := hall 4 (by kernel_rfl)
                                            have hb6_ := hall 6 (by kernel_rfl)
                                            have hb7_ := hall 7 (by kernel_rfl)
                                            have hb8_ := hall 8 (by kernel_rfl)
                                            have hb9_ := hall 9 (by kernel_rfl)
                                            subst ha
                                            obtain rfl := Q_X6_ hb6_
                                            simp only [putSel, hb2_, hb3_, hb4_, hb6_, hb7_, hb8_, hb9_, if_true, Act.put, List.setIfInBounds_toArray, List.set_cons_zero, List.set_cons_succ]
                                            have HO_59 := Aside0.mk Q_HO_59
                                            clear Q_HO_59
                                            have HO_7 := Aside0.mk Q_HO_7
                                            clear Q_HO_7
                                            have HB := Aside0.mk Q_HB
                                            clear Q_HB
                                            have HO134 := Aside0.mk (Q_HO134 hb4_)
                                            clear Q_HO134
                                            have HA_HO134 := Aside0.mk (Q_HA_HO134 hb4_)
                                            clear Q_HA_HO134
                                            clear hall hb2_ hb3_ hb4_ hb6_ hb7_ hb8_ hb9_
                                            obtain ⟨co53, eo53⟩ := HA_HO134.out
                                            clear HA_HO134
                                            subst eo53
                                            have p136 : 0 ≤ ((ji43) : Int) := of_decide_eq_true (by first | (with_reducible assumption) | assumption)
                                            have q136 : (ji43) < (y127.length : Int) := of_decide_eq_true (by first | (with_reducible assumption) | assumption)
                                            obtain ⟨ad136, e136, hx136_0⟩ := Kd.at_int (Kd.R_reads' HO_7.out).2.2 (ji43) p136 q136
                                            obtain rfl : ad130 = ad136 := (by injection e136)
                                            replace p136 := eq_true p136
                                            replace q136 := eq_true q136
                                            try go_wp2
                                            go_ret
                                            exact ⟨by first | rfl | (simp [errW_none, errW_some] <;> rfl) | (simp only [← hji43]; first | rfl | (simp [errW_none, errW_some] <;> rfl)) | (simp [*, errW_none, errW_some] <;> rfl), by repeat (first | (with_reducible first | exact HB.out | apply below_alloc | apply pw_below_drewN | apply below_drew1) | exact HB.out)⟩
                                          · rw [if_neg c46] at H
                                            have c46b0 : ((rd y127 (ji43)) == 0) = false := beq_eq_false_iff_ne.mpr c46
                                            have c46b1 : ((rd y127 (ji43)) != 0) = true := bne_iff_ne.mpr c46
                                            replace H := Option.bind_eq_some_iff.mp H
                                            obtain ⟨t138, A540, H⟩ := H
                                            replace H : ((some (([(⟨#[100]⟩ : ByteArray), (⟨#[104]⟩ : ByteArray), (⟨#[109]⟩ : ByteArray), (⟨#[115]⟩ : ByteArray)] : List ByteArray) : List ByteArray)).bind fun y139 => (if (ji43) < (y139.length : Int) then (if t138.size + (rdOf ByteArray.empty y139 (ji43)).size ≤ 9223372036854775807 then (if ((x5_3 ++ t131) ++ (rdOf ByteArray.empty y132 x61_2)).size + (t138 ++ (rdOf ByteArray.empty y139 (ji43))).size ≤ 9223372036854775807 then (some (((x5_3 ++ t131) ++ (rdOf ByteArray.empty y132 x61_2)) ++ (t138 ++ (rdOf ByteArray.empty y139 (ji43))))) else (none)) else (none)) else (none))) = some r := H
                                            have A54 := Aside0.mk A540
                                            clear A540
                                            obtain ⟨y139, hy139⟩ : ∃ y_ : List ByteArray, y_ = (([(⟨#[100]⟩ : ByteArray), (⟨#[104]⟩ : ByteArray), (⟨#[109]⟩ : ByteArray), (⟨#[115]⟩ : ByteArray)] : List ByteArray)) := ⟨_, rfl⟩
                                            replace H : (if (ji43) < (y139.length : Int) then (if t138.size + (rdOf ByteArray.empty y139 (ji43)).size ≤ 9223372036854775807 then (if ((x5_3 ++ t131) ++ (rdOf ByteArray.empty y132 x61_2)).size + (t138 ++ (rdOf ByteArray.empty y139 (ji43))).size ≤ 9223372036854775807 then (some (((x5_3 ++ t131) ++ (rdOf ByteArray.empty y132 x61_2)) ++ (t138 ++ (rdOf ByteArray.empty y139 (ji43))))) else (none)) else (none)) else (none)) = some r := by first | (rw [hy139]; with_reducible exact H) | (have H2_ := (Option.bind_some _ _).symm.trans H; rw [hy139]; with_reducible exact H2_) | (have H2_ := (Option.bind_some _ _).symm.trans H; with_reducible exact H2_) | with_reducible exact H | (rw [hy139]; exact H) | exact H
                                            have Ny139 := Aside0.mk hy139
                                            clear hy139
                                            by_cases c55 : (ji43) < (y139.length : Int)
                                            · rw [if_pos c55] at H
                                              have c55b0 : decide ((ji43) < (y139.length : Int)) = true := decide_eq_true c55
                                              clear c55
                                              by_cases c56 : t138.size + (rdOf ByteArray.empty y139 (ji43)).size ≤ 9223372036854775807
                                              · rw [if_pos c56] at H
                                                have c56b0 := eq_true c56
                                                have c56b1 : decide (t138.size + (rdOf ByteArray.empty y139 (ji43)).size ≤ 9223372036854775807) = true := decide_eq_true c56
                                                try have c56b2 : (9223372036854775807 < t138.size + (rdOf ByteArray.empty y139 (ji43)).size) = False := eq_false (Nat.not_lt.2 c56)
                                                by_cases c57 : ((x5_3 ++ t131) ++ (rdOf ByteArray.empty y132 x61_2)).size + (t138 ++ (rdOf ByteArray.empty y139 (ji43))).size ≤ 9223372036854775807
                                                · rw [if_pos c57] at H
                                                  have c57b0 := eq_true c57
                                                  have c57b1 : decide (((x5_3 ++ t131) ++ (rdOf ByteArray.empty y132 x61_2)).size + (t138 ++ (rdOf ByteArray.empty y139 (ji43))).size ≤ 9223372036854775807) = true := decide_eq_true c57
                                                  try have c57b2 : (9223372036854775807 < ((x5_3 ++ t131) ++ (rdOf ByteArray.empty y132 x61_2)).size + (t138 ++ (rdOf ByteArray.empty y139 (ji43))).size) = False := eq_false (Nat.not_lt.2 c57)
                                                  (try (obtain ⟨z_, hz_⟩ : ∃ z_ : Nat, z_ = ((x5_3 ++ t131) ++ (rdOf ByteArray.empty y132 x61_2)).size + (t138 ++ (rdOf ByteArray.empty y139 (ji43))).size := ⟨_, rfl⟩; have c57b3 := c57b2; rw [← hz_] at c57b3; simp [go_sem] at hz_; rw [hz_] at c57b3; clear hz_ z_))
                                                  obtain rfl := Option.some.inj H
                                                  have p130 : 0 ≤ (x61_2 : Int) := of_decide_eq_true (by first | (with_reducible assumption) | assumption)
                                                  have q130 : x61_2 < (y127.length : Int) := of_decide_eq_true (by first | (with_reducible assumption) | assumption)
                                                  obtain ⟨ad130, e130, hx130_0⟩ := Kd.at_int (Kd.R_reads' HO_59.out).2.2 x61_2 p130 q130
                                                  cases e130
                                                  replace p130 := eq_true p130
                                                  replace q130 := eq_true q130
                                                  try go_wp2
                                                  have pi135 : (0 ≤ (x61_2 : Int)) = True := eq_true (of_decide_eq_true (by first | (with_reducible assumption) | assumption))
                                                  have qi135 : (x61_2 < (y132.length : Int)) = True := eq_true (of_decide_eq_true (by first | (with_reducible assumption) | assumption))
                                                  have n0_ := Aside0.mk (Kd.R_drew HO_7.out)
                                                  have n1_ := Aside0.mk (Kd.R_drew HO_59.out)
                                                  have n2_ := Aside0.mk (below_drew1 HB.out)
                                                  clear HO_7
                                                  clear HO_59
                                                  clear HB
                                                  have HO_7 := n0_
                                                  have HO_59 := n1_
                                                  have HB := n2_
                                                  clear n0_ n1_ n2_
                                                  refine start_ (n := 10) (S := fun w' => True) (ds := []) #[false, false, false, false, false, false, false, false, false, false] (by kernel_rfl) rfl rfl trivial (fun hHeld => ?_); refine with_tabW spec_UnitText.tab23 spec_UnitText.bits23 (fun HT_ HW_ => ?_)
                                                  generalize wr.drew = w58 at HO_7 HO_59 HB hHeld ⊢
                                                  refine pure_ (i := 0) (N := some 68) (v := ?_) (a' := ?_) #[true, false, false, false, false, false, false, false, false, false] rfl rfl (any_of HT_.out (by kernel_rfl)) (fun _ _ _ h => h) (Or.inl ⟨by rfl, ?_⟩) ?_ ?_
                                                  rotate_left
                                                  · intro w'
                                                    go_simp
                                                    with_reducible rfl
                                                  rotate_left
                                                  · simp only [Act.put, List.setIfInBounds_toArray, List.set_cons_zero, List.set_cons_succ, i64_w, i32_w]
                                                    rfl
                                                  refine pure_ (i := 1) (N := some 69) (v := ?_) (a' := ?_) #[true, true, false, false, false, false, false, false, false, false] rfl rfl (any_of HT_.out (by kernel_rfl)) (fun _ _ _ h => h) (Or.inl ⟨by rfl, ?_⟩) ?_ ?_
                                                  rotate_left
                                                  · intro w'
                                                    go_simp
                                                    with_reducible rfl
                                                  rotate_left
                                                  · simp only [Act.put, List.setIfInBounds_toArray, List.set_cons_zero, List.set_cons_succ, i64_w, i32_w]
                                                    rfl
                                                  refine pure_ (i := 5) (N := some 73) (v := ?_) (a' := ?_) #[true, true, false, false, false, true, false, false, false, false] rfl rfl (any_of HT_.out (by kernel_rfl)) (fun _ _ _ h => h) (Or.inl ⟨by rfl, ?_⟩) ?_ ?_
                                                  rotate_left
                                                  · intro w'
                                                    go_simp
                                                    with_reducible rfl
                                                  rotate_left
                                                  · simp only [Act.put, List.setIfInBounds_toArray, List.set_cons_zero, List.set_cons_succ, i64_w, i32_w]
                                                    rfl
                                                  refine inv_at [2, 3, 4, 6, 7, 8, 9] (fun a0_ b a w' => ∃ (v133 : Value) (adz_v133 : Addr) (m6_ : Value), a = putSel a0_ b [(2, 70, .string t131), (3, 71, .string (x5_3 ++ t131)), (4, 72, v133), (6, 74, m6_), (7, 75, .string (rdOf ByteArray.empty y132 x61_2)), (8, 76, .string ((x5_3 ++ t131) ++ (rdOf ByteArray.empty y132 x61_2))), (9, 10, .string ((x5_3 ++ t131) ++ (rdOf ByteArray.empty y132 x61_2)))] ∧ (Kd.R (Kd.int .i64) 3 w' w.heap.size (fun _ => True) (.slice (some ad130) y127.length co33) y127) ∧ (Kd.R (Kd.int .i64) 3 w' w.heap.size (fun _ => True) (.slice (some ad130) y127.length co33) y127) ∧ (Below w.heap.size w w') ∧ (b 4 = true → Kd.R Kd.string 9 w' w.heap.size (fun _ => True) v133 y132) ∧ (b 4 = true → ∃ c_, (v133 : Value) = .slice (some adz_v133) y132.length c_) ∧ (b 6 = true → (m6_ : Value) = .pointer (some (adz_v133.add (x61_2).toNat)))) HT_.out HW_.out (by kernel_rfl) (by kernel_rfl) ?_ ?_ ?_
                                                  · exact ⟨.bool false, ⟨0, 0, none⟩, .bool false, by simp only [putSel, Bool.false_eq_true, if_false], HO_59.out, HO_7.out, HB.out, fun h_ => absurd h_ (by decide), fun h_ => absurd h_ (by decide), fun h_ => absurd h_ (by decide)⟩
                                                  · skip
                                                    clear HB HO_59 HO_7
                                                    refine steps_cons ?_ ?_
                                                    · rintro b a w' ⟨v133, adz_v133, m6_, ha, Q_HO_59, Q_HO_7, Q_HB, Q_HO134, Q_HA_HO134, Q_X6_⟩ hb_ hon hoff
                                                      refine ⟨_, rfl, fun K hK => ?_⟩
                                                      have e69 : a.tmps[69]? = some (.int .i64 (rd y127 x61_2)) := by rw [ha]; exact (putSel_off rfl).trans rfl
                                                      replace ha := Aside0.mk ha
                                                      have HO_59 := Aside0.mk Q_HO_59
                                                      have HO_7 := Aside0.mk Q_HO_7
                                                      have HB := Aside0.mk Q_HB
                                                      refine goes_ Tryd.func6 (by kernel_rfl) rfl #[.int .i64 (rd y127 x61_2)] (by rfl) rfl rfl (by first | (simp only [List.map_toArray, List.map_cons, List.map_nil, Act.eval, Array.getD_eq_getD_getElem?, Option.getD_some, e69]; done) | (simp only [List.map_toArray, List.map_cons, List.map_nil, Act.eval, Array.getD_eq_getD_getElem?, Option.getD_some, e69]; rfl)) ?_
                                                      with_reducible refine (spec_l2Num.calls k2 (rd y127 x61_2) t131 _ A38.out).mono ?_
                                                      rintro e w59 ⟨rfl, hb⟩
                                                      refine ⟨_, rfl, ?_⟩
                                                      have n0_ := Aside0.mk (Kd.R_below (by (with_reducible repeat (first | apply Kd.R_alloc | apply Kd.R_drewN | apply Kd.R_drew)); exact HO_7.out) hb)
                                                      have n1_ := Aside0.mk (Kd.R_below (by (with_reducible repeat (first | apply Kd.R_alloc | apply Kd.R_drewN | apply Kd.R_drew)); exact HO_59.out) hb)
                                                      have n2_ := Aside0.mk (below_step (by repeat (first | (with_reducible first | exact HB.out | apply below_alloc | apply pw_below_drewN | apply below_drew1) | exact HB.out)) hb)
                                                      have z_HO134 := fun (h0_ : b 4 = true) => (show Kd.R Kd.string 9 w59 w.heap.size (fun _ => True) v133 y132 from by first | exact (Kd.R_below (by (with_reducible repeat (first | apply Kd.R_alloc | apply Kd.R_drewN | apply Kd.R_drew)); exact (Q_HO134 h0_)) hb) | exact Kd.R_mono (Kd.R_below (by (with_reducible repeat (first | apply Kd.R_alloc | apply Kd.R_drewN | apply Kd.R_drew)); exact (Q_HO134 h0_)) hb) (fun _ h_ => by first | trivial | exact h_ | exact h_.1))
                                                      clear HO_7
                                                      clear HO_59
                                                      clear HB
                                                      have HO_7 := n0_
                                                      have HO_59 := n1_
                                                      have HB := n2_
                                                      clear n0_ n1_ n2_
                                                      (try clear hb)
                                                      (try clear hb2)
                                                      (try clear hk)
                                                      (try clear hi)
                                                      refine hK.out _ _ ⟨v133, adz_v133, m6_, (by rw [ha.out]; exact putSel_upk 0 hb_ rfl rfl rfl), (by (with_reducible repeat (first | apply Kd.R_alloc | apply Kd.R_drewN | apply Kd.R_drew)); exact HO_59.out), (by (with_reducible repeat (first | apply Kd.R_alloc | apply Kd.R_drewN | apply Kd.R_drew)); exact HO_7.out), (by repeat (first | (with_reducible first | exact HB.out | apply below_alloc | apply pw_below_drewN | apply below_drew1) | exact HB.out)), z_HO134, Q_HA_HO134, Q_X6_⟩
                                                    refine steps_cons ?_ ?_
                                                    · rintro b a w' ⟨v133, adz_v133, m6_, ha, Q_HO_59, Q_HO_7, Q_HB, Q_HO134, Q_HA_HO134, Q_X6_⟩ hb_ hon hoff
                                                      refine ⟨_, rfl, fun K hK => ?_⟩
                                                      have e68 : a.tmps[68]? = some (.string x5_3) := by rw [ha]; exact (putSel_off rfl).trans rfl
                                                      have e70 : a.tmps[70]? = some (.string t131) := by rw [ha]; exact putSel_on (e := (2, 70, .string t131)) 0 rfl rfl (hon 2 (by kernel_rfl)) rfl
                                                      replace ha := Aside0.mk ha
                                                      have HO_59 := Aside0.mk Q_HO_59
                                                      have HO_7 := Aside0.mk Q_HO_7
                                                      have HB := Aside0.mk Q_HB
                                                      refine value_ (w1 := w') (v := .string (x5_3 ++ t131)) (by rfl) rfl ?_ ?_
                                                      · go_simp
                                                        (try simp only [i64_w])
                                                        try rfl
                                                      refine hK.out _ _ ⟨v133, adz_v133, m6_, (by rw [ha.out]; exact putSel_upk 1 hb_ rfl rfl rfl), Q_HO_59, Q_HO_7, Q_HB, Q_HO134, Q_HA_HO134, Q_X6_⟩
                                                    refine steps_cons ?_ ?_
                                                    · rintro b a w' ⟨v133, adz_v133, m6_, ha, Q_HO_59, Q_HO_7, Q_HB, Q_HO134, Q_HA_HO134, Q_X6_⟩ hb_ hon hoff
                                                      refine ⟨_, rfl, fun K hK => ?_⟩
                                                      replace ha := Aside0.mk ha
                                                      have HO_59 := Aside0.mk Q_HO_59
                                                      have HO_7 := Aside0.mk Q_HO_7
                                                      have HB := Aside0.mk Q_HB
                                                      refine Kd.R_lit_step Kd.string _ 9 ?hg (N := 72) ?hd (xs := ([(⟨#[100]⟩ : ByteArray), (⟨#[104]⟩ : ByteArray), (⟨#[109]⟩ : ByteArray), (⟨#[115]⟩ : ByteArray)] : List ByteArray)) (inner := [.string (⟨#[100]⟩ : ByteArray), .string (⟨#[104]⟩ : ByteArray), .string (⟨#[109]⟩ : ByteArray), .string (⟨#[115]⟩ : ByteArray)]) (ok := fun _ => True) (okp := fun _ => True) ?hr ?hp (fun _ hk => hk) trivial (Below.refl _ _) (Nat.le_refl _) (by simp) ?_; (case hd => rfl); (case hg => rfl); (case hr => first | (go_simp; done) | (go_simp; rfl)); (case hp => exact (Reps.one (show Kd.M Kd.string _ _ _ (⟨#[100]⟩ : ByteArray) [.string (⟨#[100]⟩ : ByteArray)] from rfl) (Reps.one (show Kd.M Kd.string _ _ _ (⟨#[104]⟩ : ByteArray) [.string (⟨#[104]⟩ : ByteArray)] from rfl) (Reps.one (show Kd.M Kd.string _ _ _ (⟨#[109]⟩ : ByteArray) [.string (⟨#[109]⟩ : ByteArray)] from rfl) (Reps.one (show Kd.M Kd.string _ _ _ (⟨#[115]⟩ : ByteArray) [.string (⟨#[115]⟩ : ByteArray)] from rfl) (Reps.none _ _))))))
                                                      intro v133 w59 ho60 hb hg_ hnew_
                                                      clear hg_ hnew_
                                                      (first | rw [← Ny132.out] at ho60 | (simp only [Int.reduceToNat] at ho60; rw [← Ny132.out] at ho60))
                                                      have n0_ := Aside0.mk (Kd.R_below (by (with_reducible repeat (first | apply Kd.R_alloc | apply Kd.R_drewN | apply Kd.R_drew)); exact HO_7.out) hb)
                                                      have n1_ := Aside0.mk (Kd.R_below (by (with_reducible repeat (first | apply Kd.R_alloc | apply Kd.R_drewN | apply Kd.R_drew)); exact HO_59.out) hb)
                                                      have n2_ := Aside0.mk (Kd.R_lower ho60 (below_size (by repeat (first | (with_reducible first | exact HB.out | apply below_alloc | apply pw_below_drewN | apply below_drew1) | exact HB.out))))
                                                      have n3_ := Aside0.mk (below_step (by repeat (first | (with_reducible first | exact HB.out | apply below_alloc | apply pw_below_drewN | apply below_drew1) | exact HB.out)) hb)
                                                      clear HO_7
                                                      clear HO_59
                                                      clear HB
                                                      have HO_7 := n0_
                                                      have HO_59 := n1_
                                                      have HO134 := n2_
                                                      have HB := n3_
                                                      clear n0_ n1_ n2_ n3_
                                                      clear hb ho60
                                                      obtain ⟨Ao61, co61, eo61⟩ := Kd.R_slice HO134.out
                                                      subst eo61
                                                      obtain ⟨ado61, fo61, _⟩ := Kd.at_string (Kd.R_reads' HO134.out).2.2 0 (by decide) (by rw [Ny132.out]; simp)
                                                      cases fo61
                                                      refine hK.out _ _ ⟨.slice (some ado61) y132.length co61, ado61, m6_, (by rw [ha.out]; exact putSel_upk 2 hb_ rfl rfl rfl), (by (with_reducible repeat (first | apply Kd.R_alloc | apply Kd.R_drewN | apply Kd.R_drew)); exact HO_59.out), (by (with_reducible repeat (first | apply Kd.R_alloc | apply Kd.R_drewN | apply Kd.R_drew)); exact HO_7.out), (by repeat (first | (with_reducible first | exact HB.out | apply below_alloc | apply pw_below_drewN | apply below_drew1) | exact HB.out)), fun _ => (by (with_reducible repeat (first | apply Kd.R_alloc | apply Kd.R_drewN | apply Kd.R_drew)); exact HO134.out), fun _ => ⟨_, rfl⟩, fun h0_ => absurd ((hoff 6 (by kernel_rfl)).symm.trans h0_) (by decide)⟩
                                                    refine steps_cons ?_ ?_
                                                    · rintro b a w' ⟨v133, adz_v133, m6_, ha, Q_HO_59, Q_HO_7, Q_HB, Q_HO134, Q_HA_HO134, Q_X6_⟩ hb_ hon hoff
                                                      refine ⟨_, rfl, fun K hK => ?_⟩
                                                      have e72 : a.tmps[72]? = some (v133) := by rw [ha]; exact putSel_on (e := (4, 72, v133)) 2 rfl rfl (hon 4 (by kernel_rfl)) rfl
                                                      have e73 : a.tmps[73]? = some (.int .i64 x61_2) := by rw [ha]; exact (putSel_off rfl).trans rfl
                                                      replace ha := Aside0.mk ha
                                                      have HO_59 := Aside0.mk Q_HO_59
                                                      have HO_7 := Aside0.mk Q_HO_7
                                                      have HB := Aside0.mk Q_HB
                                                      have HO134 := Aside0.mk (Q_HO134 (hon 4 (by kernel_rfl)))
                                                      have HA_HO134 := Aside0.mk (Q_HA_HO134 (hon 4 (by kernel_rfl)))
                                                      obtain ⟨c_, hv_⟩ := HA_HO134.out
                                                      rw [hv_] at e72
                                                      refine value_ (w1 := w') (v := .pointer (some (adz_v133.add (x61_2).toNat))) (by rfl) rfl ?_ ?_
                                                      · go_simp
                                                        (try simp only [i64_w])
                                                        try rfl
                                                      refine hK.out _ _ ⟨v133, adz_v133, (.pointer (some (adz_v133.add (x61_2).toNat))), (by rw [ha.out]; exact putSel_upk 3 hb_ rfl rfl rfl), Q_HO_59, Q_HO_7, Q_HB, Q_HO134, Q_HA_HO134, fun _ => rfl⟩
                                                    refine steps_cons ?_ ?_
                                                    · rintro b a w' ⟨v133, adz_v133, m6_, ha, Q_HO_59, Q_HO_7, Q_HB, Q_HO134, Q_HA_HO134, Q_X6_⟩ hb_ hon hoff
                                                      refine ⟨_, rfl, fun K hK => ?_⟩
                                                      have e74 : a.tmps[74]? = some (m6_) := by rw [ha]; exact putSel_on (e := (6, 74, m6_)) 3 rfl rfl (hon 6 (by kernel_rfl)) rfl
                                                      rw [Q_X6_ (hon 6 (by kernel_rfl))] at e74
                                                      replace ha := Aside0.mk ha
                                                      have HO_59 := Aside0.mk Q_HO_59
                                                      have HO_7 := Aside0.mk Q_HO_7
                                                      have HB := Aside0.mk Q_HB
                                                      have HO134 := Aside0.mk (Q_HO134 (hon 4 (by kernel_rfl)))
                                                      have HA_HO134 := Aside0.mk (Q_HA_HO134 (hon 4 (by kernel_rfl)))
                                                      obtain ⟨c_, hv_⟩ := HA_HO134.out
                                                      have hF_ := HO134.out
                                                      rw [hv_] at hF_
                                                      obtain ⟨ad_, ea_, hx_⟩ := Kd.at_string (Kd.R_reads' hF_).2.2 x61_2 (of_eq_true pi135) (of_eq_true qi135)
                                                      cases ea_
                                                      refine value_ (w1 := w') (v := .string (rdOf ByteArray.empty y132 x61_2)) (by rfl) rfl ?_ ?_
                                                      · go_simp
                                                        (try simp only [i64_w])
                                                        try rfl
                                                      refine hK.out _ _ ⟨v133, adz_v133, m6_, (by rw [ha.out]; exact putSel_upk 4 hb_ rfl rfl rfl), Q_HO_59, Q_HO_7, Q_HB, Q_HO134, Q_HA_HO134, Q_X6_⟩
                                                    refine steps_cons ?_ ?_
                                                    · rintro b a w' ⟨v133, adz_v133, m6_, ha, Q_HO_59, Q_HO_7, Q_HB, Q_HO134, Q_HA_HO134, Q_X6_⟩ hb_ hon hoff
                                                      refine ⟨_, rfl, fun K hK => ?_⟩
                                                      have e71 : a.tmps[71]? = some (.string (x5_3 ++ t131)) := by rw [ha]; exact putSel_on (e := (3, 71, .string (x5_3 ++ t131))) 1 rfl rfl (hon 3 (by kernel_rfl)) rfl
                                                      have e75 : a.tmps[75]? = some (.string (rdOf ByteArray.empty y132 x61_2)) := by rw [ha]; exact putSel_on (e := (7, 75, .string (rdOf ByteArray.empty y132 x61_2))) 4 rfl rfl (hon 7 (by kernel_rfl)) rfl
                                                      replace ha := Aside0.mk ha
                                                      have HO_59 := Aside0.mk Q_HO_59
                                                      have HO_7 := Aside0.mk Q_HO_7
                                                      have HB := Aside0.mk Q_HB
                                                      have HO134 := Aside0.mk (Q_HO134 (hon 4 (by kernel_rfl)))
                                                      have HA_HO134 := Aside0.mk (Q_HA_HO134 (hon 4 (by kernel_rfl)))
                                                      refine value_ (w1 := w') (v := .string ((x5_3 ++ t131) ++ (rdOf ByteArray.empty y132 x61_2))) (by rfl) rfl ?_ ?_
                                                      · go_simp
                                                        (try simp only [i64_w])
                                                        try rfl
                                                      refine hK.out _ _ ⟨v133, adz_v133, m6_, (by rw [ha.out]; exact putSel_upk 5 hb_ rfl rfl rfl), Q_HO_59, Q_HO_7, Q_HB, Q_HO134, Q_HA_HO134, Q_X6_⟩
                                                    refine steps_cons ?_ ?_
                                                    · rintro b a w' ⟨v133, adz_v133, m6_, ha, Q_HO_59, Q_HO_7, Q_HB, Q_HO134, Q_HA_HO134, Q_X6_⟩ hb_ hon hoff
                                                      refine ⟨_, rfl, fun K hK => ?_⟩
                                                      have e76 : a.tmps[76]? = some (.string ((x5_3 ++ t131) ++ (rdOf ByteArray.empty y132 x61_2))) := by rw [ha]; exact putSel_on (e := (8, 76, .string ((x5_3 ++ t131) ++ (rdOf ByteArray.empty y132 x61_2)))) 5 rfl rfl (hon 8 (by kernel_rfl)) rfl
                                                      replace ha := Aside0.mk ha
                                                      have HO_59 := Aside0.mk Q_HO_59
                                                      have HO_7 := Aside0.mk Q_HO_7
                                                      have HB := Aside0.mk Q_HB
                                                      have HO134 := Aside0.mk (Q_HO134 (hon 4 (by kernel_rfl)))
                                                      have HA_HO134 := Aside0.mk (Q_HA_HO134 (hon 4 (by kernel_rfl)))
                                                      refine value_ (w1 := w') (v := .string ((x5_3 ++ t131) ++ (rdOf ByteArray.empty y132 x61_2))) (by rfl) rfl ?_ ?_
                                                      · go_simp
                                                        (try simp only [i64_w])
                                                        try rfl
                                                      refine hK.out _ _ ⟨v133, adz_v133, m6_, (by rw [ha.out]; exact putSel_upk 6 hb_ rfl rfl rfl), Q_HO_59, Q_HO_7, Q_HB, Q_HO134, Q_HA_HO134, Q_X6_⟩
                                                    exact steps_nil
                                                  rintro b a w63 hall ⟨v133, adz_v133, m6_, ha, Q_HO_59, Q_HO_7, Q_HB, Q_HO134, Q_HA_HO134, Q_X6_⟩
                                                  clear HB HO_59 HO_7
                                                  have hb2_ := hall 2 (by kernel_rfl)
                                                  have hb3_ := hall 3 (by kernel_rfl)
                                                  have hb4_ := hall 4 (by kernel_rfl)
                                                  have hb6_ := hall 6 (by kernel_rfl)
                                                  have hb7_ := hall 7 (by kernel_rfl)
                                                  have hb8_ := hall 8 (by kernel_rfl)
                                                  have hb9_ := hall 9 (by kernel_rfl)
                                                  subst ha
                                                  obtain rfl := Q_X6_ hb6_
                                                  simp only [putSel, hb2_, hb3_, hb4_, hb6_, hb7_, hb8_, hb9_, if_true, Act.put, List.setIfInBounds_toArray, List.set_cons_zero, List.set_cons_succ]
                                                  have HO_59 := Aside0.mk Q_HO_59
                                                  clear Q_HO_59
                                                  have HO_7 := Aside0.mk Q_HO_7
                                                  clear Q_HO_7
                                                  have HB := Aside0.mk Q_HB
                                                  clear Q_HB
                                                  have HO134 := Aside0.mk (Q_HO134 hb4_)
                                                  clear Q_HO134
                                                  have HA_HO134 := Aside0.mk (Q_HA_HO134 hb4_)
                                                  clear Q_HA_HO134
                                                  clear hall hb2_ hb3_ hb4_ hb6_ hb7_ hb8_ hb9_
                                                  obtain ⟨co64, eo64⟩ := HA_HO134.out
                                                  clear HA_HO134
                                                  subst eo64
                                                  have p136 : 0 ≤ ((ji43) : Int) := of_decide_eq_true (by first | (with_reducible assumption) | assumption)
                                                  have q136 : (ji43) < (y127.length : Int) := of_decide_eq_true (by first | (with_reducible assumption) | assumption)
                                                  obtain ⟨ad136, e136, hx136_0⟩ := Kd.at_int (Kd.R_reads' HO_7.out).2.2 (ji43) p136 q136
                                                  obtain rfl : ad130 = ad136 := (by injection e136)
                                                  replace p136 := eq_true p136
                                                  replace q136 := eq_true q136
                                                  try go_wp2
                                                  have pi142 : (0 ≤ ((ji43) : Int)) = True := eq_true (of_decide_eq_true (by first | (with_reducible assumption) | assumption))
                                                  have qi142 : ((ji43) < (y139.length : Int)) = True := eq_true (of_decide_eq_true (by first | (with_reducible assumption) | assumption))
                                                  have n0_ := Aside0.mk (Kd.R_drew HO_7.out)
                                                  have n1_ := Aside0.mk (Kd.R_drew HO_59.out)
                                                  have n2_ := Aside0.mk (Kd.R_drew HO134.out)
                                                  have n3_ := Aside0.mk (below_drew1 HB.out)
                                                  clear HO_7
                                                  clear HO_59
                                                  clear HO134
                                                  clear HB
                                                  have HO_7 := n0_
                                                  have HO_59 := n1_
                                                  have HO134 := n2_
                                                  have HB := n3_
                                                  clear n0_ n1_ n2_ n3_
                                                  have p137 : 0 ≤ ((ji43) : Int) := of_decide_eq_true (by first | (with_reducible assumption) | assumption)
                                                  have q137 : (ji43) < (y127.length : Int) := of_decide_eq_true (by first | (with_reducible assumption) | assumption)
                                                  obtain ⟨ad137, e137, hx137_0⟩ := Kd.at_int (Kd.R_reads' HO_7.out).2.2 (ji43) p137 q137
                                                  obtain rfl : ad130 = ad137 := (by injection e137)
                                                  replace p137 := eq_true p137
                                                  replace q137 := eq_true q137
                                                  refine start_ (n := 15) (S := fun w' => True) (ds := []) #[false, false, false, false, false, false, false, false, false, false, false, false, false, false, false] (by kernel_rfl) rfl rfl trivial (fun hHeld => ?_); refine with_tabW spec_UnitText.tab25 spec_UnitText.bits25 (fun HT_ HW_ => ?_)
                                                  generalize w63.drew = w65 at HO_7 HO_59 HO134 HB hx137_0 hHeld ⊢
                                                  refine pure_ (i := 0) (N := some 87) (v := ?_) (a' := ?_) #[true, false, false, false, false, false, false, false, false, false, false, false, false, false, false] rfl rfl (any_of HT_.out (by kernel_rfl)) (fun _ _ _ h => h) (Or.inl ⟨by rfl, ?_⟩) ?_ ?_
                                                  rotate_left
                                                  · intro w'
                                                    go_simp
                                                    with_reducible rfl
                                                  rotate_left
                                                  · simp only [Act.put, List.setIfInBounds_toArray, List.set_cons_zero, List.set_cons_succ, i64_w, i32_w]
                                                    rfl
                                                  refine pure_ (i := 1) (N := some 88) (v := ?_) (a' := ?_) #[true, true, false, false, false, false, false, false, false, false, false, false, false, false, false] rfl rfl (any_of HT_.out (by kernel_rfl)) (fun _ _ _ h => h) (Or.inl ⟨by rfl, ?_⟩) ?_ ?_
                                                  rotate_left
                                                  · intro w'
                                                    go_simp
                                                    with_reducible rfl
                                                  rotate_left
                                                  · simp only [Act.put, List.setIfInBounds_toArray, List.set_cons_zero, List.set_cons_succ, i64_w, i32_w]
                                                    rfl
                                                  refine pure_ (i := 2) (N := some 89) (v := ?_) (a' := ?_) #[true, true, true, false, false, false, false, false, false, false, false, false, false, false, false] rfl rfl (any_of HT_.out (by kernel_rfl)) (fun _ _ _ h => h) (Or.inl ⟨by rfl, ?_⟩) ?_ ?_
                                                  rotate_left
                                                  · intro w'
                                                    go_simp
                                                    with_reducible rfl
                                                  rotate_left
                                                  · simp only [Act.put, List.setIfInBounds_toArray, List.set_cons_zero, List.set_cons_succ, i64_w, i32_w]
                                                    rfl
                                                  refine pure_ (i := 8) (N := some 95) (v := ?_) (a' := ?_) #[true, true, true, false, false, false, false, false, true, false, false, false, false, false, false] rfl rfl (any_of HT_.out (by kernel_rfl)) (fun _ _ _ h => h) (Or.inl ⟨by rfl, ?_⟩) ?_ ?_
                                                  rotate_left
                                                  · intro w'
                                                    go_simp
                                                    with_reducible rfl
                                                  rotate_left
                                                  · simp only [Act.put, List.setIfInBounds_toArray, List.set_cons_zero, List.set_cons_succ, i64_w, i32_w]
                                                    rfl
                                                  refine inv_at [3, 4, 5, 6, 7, 9, 10, 11, 12, 13, 14] (fun a0_ b a w' => ∃ (v140 : Value) (adz_v140 : Addr) (m10_ : Value), a = putSel a0_ b [(3, 90, .int .i64 ji43), (4, 91, .pointer (some (ad130.add ((ji43)).toNat))), (5, 92, .int .i64 (rd y127 (ji43))), (6, 93, .string t138), (7, 94, v140), (9, 96, .int .i64 ji43), (10, 97, m10_), (11, 98, .string (rdOf ByteArray.empty y139 (ji43))), (12, 99, .string (t138 ++ (rdOf ByteArray.empty y139 (ji43)))), (13, 100, .string (((x5_3 ++ t131) ++ (rdOf ByteArray.empty y132 x61_2)) ++ (t138 ++ (rdOf ByteArray.empty y139 (ji43))))), (14, 10, .string (((x5_3 ++ t131) ++ (rdOf ByteArray.empty y132 x61_2)) ++ (t138 ++ (rdOf ByteArray.empty y139 (ji43)))))] ∧ (Kd.R Kd.string 9 w' w.heap.size (fun _ => True) (.slice (some adz_v133) y132.length co64) y132) ∧ (Kd.R (Kd.int .i64) 3 w' w.heap.size (fun _ => True) (.slice (some ad130) y127.length co33) y127) ∧ (Kd.R (Kd.int .i64) 3 w' w.heap.size (fun _ => True) (.slice (some ad130) y127.length co33) y127) ∧ (Below w.heap.size w w') ∧ (b 7 = true → Kd.R Kd.string 9 w' w.heap.size (fun k_ => some k_ ≠ (.slice (some adz_v133) y132.length co64 : Value).ownBlock) v140 y139) ∧ (b 7 = true → ∃ c_, (v140 : Value) = .slice (some adz_v140) y139.length c_) ∧ (b 10 = true → (m10_ : Value) = .pointer (some (adz_v140.add ((ji43)).toNat)))) HT_.out HW_.out (by kernel_rfl) (by kernel_rfl) ?_ ?_ ?_
                                                  · exact ⟨.bool false, ⟨0, 0, none⟩, .bool false, by simp only [putSel, Bool.false_eq_true, if_false], HO134.out, HO_59.out, HO_7.out, HB.out, fun h_ => absurd h_ (by decide), fun h_ => absurd h_ (by decide), fun h_ => absurd h_ (by decide)⟩
                                                  · skip
                                                    clear HB HO134 HO_59 HO_7
                                                    refine steps_cons ?_ ?_
                                                    · rintro b a w' ⟨v140, adz_v140, m10_, ha, Q_HO134, Q_HO_59, Q_HO_7, Q_HB, Q_HO141, Q_HA_HO141, Q_X10_⟩ hb_ hon hoff
                                                      refine ⟨_, rfl, fun K hK => ?_⟩
                                                      have e89 : a.tmps[89]? = some (.int .i64 x61_2) := by rw [ha]; exact (putSel_off rfl).trans rfl
                                                      replace ha := Aside0.mk ha
                                                      have HO134 := Aside0.mk Q_HO134
                                                      have HO_59 := Aside0.mk Q_HO_59
                                                      have HO_7 := Aside0.mk Q_HO_7
                                                      have HB := Aside0.mk Q_HB
                                                      refine value_ (w1 := w') (v := .int .i64 ji43) (by rfl) rfl ?_ ?_
                                                      · go_simp
                                                        (try simp only [i64_w])
                                                        try rfl
                                                      refine hK.out _ _ ⟨v140, adz_v140, m10_, (by rw [ha.out]; exact putSel_upk 0 hb_ rfl rfl rfl), Q_HO134, Q_HO_59, Q_HO_7, Q_HB, Q_HO141, Q_HA_HO141, Q_X10_⟩
                                                    refine steps_cons ?_ ?_
                                                    · rintro b a w' ⟨v140, adz_v140, m10_, ha, Q_HO134, Q_HO_59, Q_HO_7, Q_HB, Q_HO141, Q_HA_HO141, Q_X10_⟩ hb_ hon hoff
                                                      refine ⟨_, rfl, fun K hK => ?_⟩
                                                      have e88 : a.tmps[88]? = some (.slice (some ad130) y127.length co33) := by rw [ha]; exact (putSel_off rfl).trans rfl
                                                      have e90 : a.tmps[90]? = some (.int .i64 ji43) := by rw [ha]; exact putSel_on (e := (3, 90, .int .i64 ji43)) 0 rfl rfl (hon 3 (by kernel_rfl)) rfl
                                                      replace ha := Aside0.mk ha
                                                      have HO134 := Aside0.mk Q_HO134
                                                      have HO_59 := Aside0.mk Q_HO_59
                                                      have HO_7 := Aside0.mk Q_HO_7
                                                      have HB := Aside0.mk Q_HB
                                                      refine value_ (w1 := w') (v := .pointer (some (ad130.add ((ji43)).toNat))) (by rfl) rfl ?_ ?_
                                                      · go_simp
                                                        (try simp only [i64_w])
                                                        try rfl
                                                      refine hK.out _ _ ⟨v140, adz_v140, m10_, (by rw [ha.out]; exact putSel_upk 1 hb_ rfl rfl rfl), Q_HO134, Q_HO_59, Q_HO_7, Q_HB, Q_HO141, Q_HA_HO141, Q_X10_⟩
                                                    refine steps_cons ?_ ?_
                                                    · rintro b a w' ⟨v140, adz_v140, m10_, ha, Q_HO134, Q_HO_59, Q_HO_7, Q_HB, Q_HO141, Q_HA_HO141, Q_X10_⟩ hb_ hon hoff
                                                      refine ⟨_, rfl, fun K hK => ?_⟩
                                                      have e91 : a.tmps[91]? = some (.pointer (some (ad130.add ((ji43)).toNat))) := by rw [ha]; exact putSel_on (e := (4, 91, .pointer (some (ad130.add ((ji43)).toNat)))) 1 rfl rfl (hon 4 (by kernel_rfl)) rfl
                                                      replace ha := Aside0.mk ha
                                                      have HO134 := Aside0.mk Q_HO134
                                                      have HO_59 := Aside0.mk Q_HO_59
                                                      have HO_7 := Aside0.mk Q_HO_7
                                                      have HB := Aside0.mk Q_HB
                                                      obtain ⟨ad137_z, e137_z, hx137_0_z⟩ := Kd.at_int (Kd.R_reads' HO_7.out).2.2 (ji43) (of_eq_true p137) (of_eq_true q137)
                                                      cases e137_z
                                                      have hs0_ : w'.cell? (ad130.add ((ji43)).toNat) = some (.int .i64 (rd y127 (ji43))) := (by first | exact hx137_0_z | (have h_ := hx137_0_z; (try simp only [Int.reduceToNat, Nat.zero_mul, Nat.reduceMul, Nat.reduceEqDiff, Go.Addr.add, ↓reduceIte, Addr.add_zero'] at h_); exact h_))
                                                      refine value_ (w1 := w') (v := .int .i64 (rd y127 (ji43))) (by rfl) rfl ?_ ?_
                                                      · go_simp
                                                        (try simp only [i64_w])
                                                        try rfl
                                                      refine hK.out _ _ ⟨v140, adz_v140, m10_, (by rw [ha.out]; exact putSel_upk 2 hb_ rfl rfl rfl), Q_HO134, Q_HO_59, Q_HO_7, Q_HB, Q_HO141, Q_HA_HO141, Q_X10_⟩
                                                    refine steps_cons ?_ ?_
                                                    · rintro b a w' ⟨v140, adz_v140, m10_, ha, Q_HO134, Q_HO_59, Q_HO_7, Q_HB, Q_HO141, Q_HA_HO141, Q_X10_⟩ hb_ hon hoff
                                                      refine ⟨_, rfl, fun K hK => ?_⟩
                                                      have e92 : a.tmps[92]? = some (.int .i64 (rd y127 (ji43))) := by rw [ha]; exact putSel_on (e := (5, 92, .int .i64 (rd y127 (ji43)))) 2 rfl rfl (hon 5 (by kernel_rfl)) rfl
                                                      replace ha := Aside0.mk ha
                                                      have HO134 := Aside0.mk Q_HO134
                                                      have HO_59 := Aside0.mk Q_HO_59
                                                      have HO_7 := Aside0.mk Q_HO_7
                                                      have HB := Aside0.mk Q_HB
                                                      refine goes_ Tryd.func6 (by kernel_rfl) rfl #[.int .i64 (rd y127 (ji43))] (by rfl) rfl rfl (by first | exact (by first | (simp only [List.map_toArray, List.map_cons, List.map_nil, Act.eval, Array.getD_eq_getD_getElem?, Option.getD_some, e92]; done) | (simp only [List.map_toArray, List.map_cons, List.map_nil, Act.eval, Array.getD_eq_getD_getElem?, Option.getD_some, e92]; rfl)) | ((try simp only [List.map_toArray, List.map_cons, List.map_nil]); first | (simp only [hji43]; rfl) | rfl)) ?_
                                                      with_reducible refine (spec_l2Num.calls k2 (rd y127 (ji43)) t138 _ A54.out).mono ?_
                                                      rintro e w66 ⟨rfl, hb⟩
                                                      refine ⟨_, rfl, ?_⟩
                                                      have n0_ := Aside0.mk (Kd.R_below (by (with_reducible repeat (first | apply Kd.R_alloc | apply Kd.R_drewN | apply Kd.R_drew)); exact HO_7.out) hb)
                                                      have n1_ := Aside0.mk (Kd.R_below (by (with_reducible repeat (first | apply Kd.R_alloc | apply Kd.R_drewN | apply Kd.R_drew)); exact HO_59.out) hb)
                                                      have n2_ := Aside0.mk (Kd.R_below (by (with_reducible repeat (first | apply Kd.R_alloc | apply Kd.R_drewN | apply Kd.R_drew)); exact HO134.out) hb)
                                                      have n3_ := Aside0.mk (below_step (by repeat (first | (with_reducible first | exact HB.out | apply below_alloc | apply pw_below_drewN | apply below_drew1) | exact HB.out)) hb)
                                                      have z_HO141 := fun (h0_ : b 7 = true) => (show Kd.R Kd.string 9 w66 w.heap.size (fun k_ => some k_ ≠ (.slice (some adz_v133) y132.length co64 : Value).ownBlock) v140 y139 from by first | exact (Kd.R_below (by (with_reducible repeat (first | apply Kd.R_alloc | apply Kd.R_drewN | apply Kd.R_drew)); exact (Q_HO141 h0_)) hb) | exact Kd.R_mono (Kd.R_below (by (with_reducible repeat (first | apply Kd.R_alloc | apply Kd.R_drewN | apply Kd.R_drew)); exact (Q_HO141 h0_)) hb) (fun _ h_ => by first | trivial | exact h_ | exact h_.1))
                                                      clear HO_7
                                                      clear HO_59
                                                      clear HO134
                                                      clear HB
                                                      have HO_7 := n0_
                                                      have HO_59 := n1_
                                                      have HO134 := n2_
                                                      have HB := n3_
                                                      clear n0_ n1_ n2_ n3_
                                                      (try clear hb)
                                                      (try clear hb2)
                                                      (try clear hk)
                                                      (try clear hi)
                                                      refine hK.out _ _ ⟨v140, adz_v140, m10_, (by rw [ha.out]; exact putSel_upk 3 hb_ rfl rfl rfl), (by (with_reducible repeat (first | apply Kd.R_alloc | apply Kd.R_drewN | apply Kd.R_drew)); exact HO134.out), (by (with_reducible repeat (first | apply Kd.R_alloc | apply Kd.R_drewN | apply Kd.R_drew)); exact HO_59.out), (by (with_reducible repeat (first | apply Kd.R_alloc | apply Kd.R_drewN | apply Kd.R_drew)); exact HO_7.out), (by repeat (first | (with_reducible first | exact HB.out | apply below_alloc | apply pw_below_drewN | apply below_drew1) | exact HB.out)), z_HO141, Q_HA_HO141, Q_X10_⟩
                                                    refine steps_cons ?_ ?_
                                                    · rintro b a w' ⟨v140, adz_v140, m10_, ha, Q_HO134, Q_HO_59, Q_HO_7, Q_HB, Q_HO141, Q_HA_HO141, Q_X10_⟩ hb_ hon hoff
                                                      refine ⟨_, rfl, fun K hK => ?_⟩
                                                      replace ha := Aside0.mk ha
                                                      have HO134 := Aside0.mk Q_HO134
                                                      have HO_59 := Aside0.mk Q_HO_59
                                                      have HO_7 := Aside0.mk Q_HO_7
                                                      have HB := Aside0.mk Q_HB
                                                      refine Kd.R_lit_step Kd.string _ 9 ?hg (N := 94) ?hd (xs := ([(⟨#[100]⟩ : ByteArray), (⟨#[104]⟩ : ByteArray), (⟨#[109]⟩ : ByteArray), (⟨#[115]⟩ : ByteArray)] : List ByteArray)) (inner := [.string (⟨#[100]⟩ : ByteArray), .string (⟨#[104]⟩ : ByteArray), .string (⟨#[109]⟩ : ByteArray), .string (⟨#[115]⟩ : ByteArray)]) (ok := fun _ => True) (okp := fun _ => True) ?hr ?hp (fun _ hk => hk) trivial (Below.refl _ _) (Nat.le_refl _) (by simp) ?_; (case hd => rfl); (case hg => rfl); (case hr => first | (go_simp; done) | (go_simp; rfl)); (case hp => exact (Reps.one (show Kd.M Kd.string _ _ _ (⟨#[100]⟩ : ByteArray) [.string (⟨#[100]⟩ : ByteArray)] from rfl) (Reps.one (show Kd.M Kd.string _ _ _ (⟨#[104]⟩ : ByteArray) [.string (⟨#[104]⟩ : ByteArray)] from rfl) (Reps.one (show Kd.M Kd.string _ _ _ (⟨#[109]⟩ : ByteArray) [.string (⟨#[109]⟩ : ByteArray)] from rfl) (Reps.one (show Kd.M Kd.string _ _ _ (⟨#[115]⟩ : ByteArray) [.string (⟨#[115]⟩ : ByteArray)] from rfl) (Reps.none _ _))))))
                                                      intro v140 w66 ho67 hb hg_ hnew_
                                                      clear hg_ hnew_
                                                      (first | rw [← Ny139.out] at ho67 | (simp only [Int.reduceToNat] at ho67; rw [← Ny139.out] at ho67))
                                                      have n0_ := Aside0.mk (Kd.R_below (by (with_reducible repeat (first | apply Kd.R_alloc | apply Kd.R_drewN | apply Kd.R_drew)); exact HO_7.out) hb)
                                                      have n1_ := Aside0.mk (Kd.R_below (by (with_reducible repeat (first | apply Kd.R_alloc | apply Kd.R_drewN | apply Kd.R_drew)); exact HO_59.out) hb)
                                                      have n2_ := Aside0.mk (Kd.R_elder' (by (with_reducible repeat (first | apply Kd.R_alloc | apply Kd.R_drewN | apply Kd.R_drew)); exact HO134.out) (Kd.R_base ho67) hb)
                                                      have n3_ := Aside0.mk (Kd.R_lower (Kd.R_new' ho67 (Kd.R_lt (by (with_reducible repeat (first | apply Kd.R_alloc | apply Kd.R_drewN | apply Kd.R_drew)); exact HO134.out))) (below_size (by repeat (first | (with_reducible first | exact HB.out | apply below_alloc | apply pw_below_drewN | apply below_drew1) | exact HB.out))))
                                                      have n4_ := Aside0.mk (below_step (by repeat (first | (with_reducible first | exact HB.out | apply below_alloc | apply pw_below_drewN | apply below_drew1) | exact HB.out)) hb)
                                                      clear HO_7
                                                      clear HO_59
                                                      clear HO134
                                                      clear HB
                                                      have HO_7 := n0_
                                                      have HO_59 := n1_
                                                      have HO134 := n2_
                                                      have HO141 := n3_
                                                      have HB := n4_
                                                      clear n0_ n1_ n2_ n3_ n4_
                                                      clear hb ho67
                                                      obtain ⟨Ao68, co68, eo68⟩ := Kd.R_slice HO141.out
                                                      subst eo68
                                                      obtain ⟨ado68, fo68, _⟩ := Kd.at_string (Kd.R_reads' HO141.out).2.2 0 (by decide) (by rw [Ny139.out]; simp)
                                                      cases fo68
                                                      refine hK.out _ _ ⟨.slice (some ado68) y139.length co68, ado68, m10_, (by rw [ha.out]; exact putSel_upk 4 hb_ rfl rfl rfl), (by (with_reducible repeat (first | apply Kd.R_alloc | apply Kd.R_drewN | apply Kd.R_drew)); exact Kd.R_mono HO134.out (fun _ hk => by first | exact hk.2 | trivial)), (by (with_reducible repeat (first | apply Kd.R_alloc | apply Kd.R_drewN | apply Kd.R_drew)); exact HO_59.out), (by (with_reducible repeat (first | apply Kd.R_alloc | apply Kd.R_drewN | apply Kd.R_drew)); exact HO_7.out), (by repeat (first | (with_reducible first | exact HB.out | apply below_alloc | apply pw_below_drewN | apply below_drew1) | exact HB.out)), fun _ => (by (with_reducible repeat (first | apply Kd.R_alloc | apply Kd.R_drewN | apply Kd.R_drew)); exact Kd.R_mono HO141.out (fun _ hk => by first | exact hk.2 | trivial)), fun _ => ⟨_, rfl⟩, fun h0_ => absurd ((hoff 10 (by kernel_rfl)).symm.trans h0_) (by decide)⟩
                                                    refine steps_cons ?_ ?_
                                                    · rintro b a w' ⟨v140, adz_v140, m10_, ha, Q_HO134, Q_HO_59, Q_HO_7, Q_HB, Q_HO141, Q_HA_HO141, Q_X10_⟩ hb_ hon hoff
                                                      refine ⟨_, rfl, fun K hK => ?_⟩
                                                      have e95 : a.tmps[95]? = some (.int .i64 x61_2) := by rw [ha]; exact (putSel_off rfl).trans rfl
                                                      replace ha := Aside0.mk ha
                                                      have HO134 := Aside0.mk Q_HO134
                                                      have HO_59 := Aside0.mk Q_HO_59
                                                      have HO_7 := Aside0.mk Q_HO_7
                                                      have HB := Aside0.mk Q_HB
                                                      refine value_ (w1 := w') (v := .int .i64 ji43) (by rfl) rfl ?_ ?_
                                                      · go_simp
                                                        (try simp only [i64_w])
                                                        try rfl
                                                      refine hK.out _ _ ⟨v140, adz_v140, m10_, (by rw [ha.out]; exact putSel_upk 5 hb_ rfl rfl rfl), Q_HO134, Q_HO_59, Q_HO_7, Q_HB, Q_HO141, Q_HA_HO141, fun h0_ => absurd ((hoff 10 (by kernel_rfl)).symm.trans h0_) (by decide)⟩
                                                    refine steps_cons ?_ ?_
                                                    · rintro b a w' ⟨v140, adz_v140, m10_, ha, Q_HO134, Q_HO_59, Q_HO_7, Q_HB, Q_HO141, Q_HA_HO141, Q_X10_⟩ hb_ hon hoff
                                                      refine ⟨_, rfl, fun K hK => ?_⟩
                                                      have e94 : a.tmps[94]? = some (v140) := by rw [ha]; exact putSel_on (e := (7, 94, v140)) 4 rfl rfl (hon 7 (by kernel_rfl)) rfl
                                                      have e96 : a.tmps[96]? = some (.int .i64 ji43) := by rw [ha]; exact putSel_on (e := (9, 96, .int .i64 ji43)) 5 rfl rfl (hon 9 (by kernel_rfl)) rfl
                                                      replace ha := Aside0.mk ha
                                                      have HO134 := Aside0.mk Q_HO134
                                                      have HO_59 := Aside0.mk Q_HO_59
                                                      have HO_7 := Aside0.mk Q_HO_7
                                                      have HB := Aside0.mk Q_HB
                                                      have HO141 := Aside0.mk (Q_HO141 (hon 7 (by kernel_rfl)))
                                                      have HA_HO141 := Aside0.mk (Q_HA_HO141 (hon 7 (by kernel_rfl)))
                                                      obtain ⟨c_, hv_⟩ := HA_HO141.out
                                                      rw [hv_] at e94
                                                      refine value_ (w1 := w') (v := .pointer (some (adz_v140.add ((ji43)).toNat))) (by rfl) rfl ?_ ?_
                                                      · go_simp
                                                        (try simp only [i64_w])
                                                        try rfl
                                                      refine hK.out _ _ ⟨v140, adz_v140, (.pointer (some (adz_v140.add ((ji43)).toNat))), (by rw [ha.out]; exact putSel_upk 6 hb_ rfl rfl rfl), Q_HO134, Q_HO_59, Q_HO_7, Q_HB, Q_HO141, Q_HA_HO141, fun _ => rfl⟩
                                                    refine steps_cons ?_ ?_
                                                    · rintro b a w' ⟨v140, adz_v140, m10_, ha, Q_HO134, Q_HO_59, Q_HO_7, Q_HB, Q_HO141, Q_HA_HO141, Q_X10_⟩ hb_ hon hoff
                                                      refine ⟨_, rfl, fun K hK => ?_⟩
                                                      have e97 : a.tmps[97]? = some (m10_) := by rw [ha]; exact putSel_on (e := (10, 97, m10_)) 6 rfl rfl (hon 10 (by kernel_rfl)) rfl
                                                      rw [Q_X10_ (hon 10 (by kernel_rfl))] at e97
                                                      replace ha := Aside0.mk ha
                                                      have HO134 := Aside0.mk Q_HO134
                                                      have HO_59 := Aside0.mk Q_HO_59
                                                      have HO_7 := Aside0.mk Q_HO_7
                                                      have HB := Aside0.mk Q_HB
                                                      have HO141 := Aside0.mk (Q_HO141 (hon 7 (by kernel_rfl)))
                                                      have HA_HO141 := Aside0.mk (Q_HA_HO141 (hon 7 (by kernel_rfl)))
                                                      obtain ⟨c_, hv_⟩ := HA_HO141.out
                                                      have hF_ := HO141.out
                                                      rw [hv_] at hF_
                                                      obtain ⟨ad_, ea_, hx_⟩ := Kd.at_string (Kd.R_reads' hF_).2.2 (ji43) (of_eq_true pi142) (of_eq_true qi142)
                                                      cases ea_
                                                      refine value_ (w1 := w') (v := .string (rdOf ByteArray.empty y139 (ji43))) (by rfl) rfl ?_ ?_
                                                      · go_simp
                                                        (try simp only [i64_w])
                                                        try rfl
                                                      refine hK.out _ _ ⟨v140, adz_v140, m10_, (by rw [ha.out]; exact putSel_upk 7 hb_ rfl rfl rfl), Q_HO134, Q_HO_59, Q_HO_7, Q_HB, Q_HO141, Q_HA_HO141, Q_X10_⟩
                                                    refine steps_cons ?_ ?_
                                                    · rintro b a w' ⟨v140, adz_v140, m10_, ha, Q_HO134, Q_HO_59, Q_HO_7, Q_HB, Q_HO141, Q_HA_HO141, Q_X10_⟩ hb_ hon hoff
                                                      refine ⟨_, rfl, fun K hK => ?_⟩
                                                      have e93 : a.tmps[93]? = some (.string t138) := by rw [ha]; exact putSel_on (e := (6, 93, .string t138)) 3 rfl rfl (hon 6 (by kernel_rfl)) rfl
                                                      have e98 : a.tmps[98]? = some (.string (rdOf ByteArray.empty y139 (ji43))) := by rw [ha]; exact putSel_on (e := (11, 98, .string (rdOf ByteArray.empty y139 (ji43)))) 7 rfl rfl (hon 11 (by kernel_rfl)) rfl
                                                      replace ha := Aside0.mk ha
                                                      have HO134 := Aside0.mk Q_HO134
                                                      have HO_59 := Aside0.mk Q_HO_59
                                                      have HO_7 := Aside0.mk Q_HO_7
                                                      have HB := Aside0.mk Q_HB
                                                      have HO141 := Aside0.mk (Q_HO141 (hon 7 (by kernel_rfl)))
                                                      have HA_HO141 := Aside0.mk (Q_HA_HO141 (hon 7 (by kernel_rfl)))
                                                      refine value_ (w1 := w') (v := .string (t138 ++ (rdOf ByteArray.empty y139 (ji43)))) (by rfl) rfl ?_ ?_
                                                      · go_simp
                                                        (try simp only [i64_w])
                                                        try rfl
                                                      refine hK.out _ _ ⟨v140, adz_v140, m10_, (by rw [ha.out]; exact putSel_upk 8 hb_ rfl rfl rfl), Q_HO134, Q_HO_59, Q_HO_7, Q_HB, Q_HO141, Q_HA_HO141, Q_X10_⟩
                                                    refine steps_cons ?_ ?_
                                                    · rintro b a w' ⟨v140, adz_v140, m10_, ha, Q_HO134, Q_HO_59, Q_HO_7, Q_HB, Q_HO141, Q_HA_HO141, Q_X10_⟩ hb_ hon hoff
                                                      refine ⟨_, rfl, fun K hK => ?_⟩
                                                      have e87 : a.tmps[87]? = some (.string ((x5_3 ++ t131) ++ (rdOf ByteArray.empty y132 x61_2))) := by rw [ha]; exact (putSel_off rfl).trans rfl
                                                      have e99 : a.tmps[99]? = some (.string (t138 ++ (rdOf ByteArray.empty y139 (ji43)))) := by rw [ha]; exact putSel_on (e := (12, 99, .string (t138 ++ (rdOf ByteArray.empty y139 (ji43))))) 8 rfl rfl (hon 12 (by kernel_rfl)) rfl
                                                      replace ha := Aside0.mk ha
                                                      have HO134 := Aside0.mk Q_HO134
                                                      have HO_59 := Aside0.mk Q_HO_59
                                                      have HO_7 := Aside0.mk Q_HO_7
                                                      have HB := Aside0.mk Q_HB
                                                      have HO141 := Aside0.mk (Q_HO141 (hon 7 (by kernel_rfl)))
                                                      have HA_HO141 := Aside0.mk (Q_HA_HO141 (hon 7 (by kernel_rfl)))
                                                      refine value_ (w1 := w') (v := .string (((x5_3 ++ t131) ++ (rdOf ByteArray.empty y132 x61_2)) ++ (t138 ++ (rdOf ByteArray.empty y139 (ji43))))) (by rfl) rfl ?_ ?_
                                                      · go_simp
                                                        (try simp only [i64_w])
                                                        try rfl
                                                      refine hK.out _ _ ⟨v140, adz_v140, m10_, (by rw [ha.out]; exact putSel_upk 9 hb_ rfl rfl rfl), Q_HO134, Q_HO_59, Q_HO_7, Q_HB, Q_HO141, Q_HA_HO141, Q_X10_⟩
                                                    refine steps_cons ?_ ?_
                                                    · rintro b a w' ⟨v140, adz_v140, m10_, ha, Q_HO134, Q_HO_59, Q_HO_7, Q_HB, Q_HO141, Q_HA_HO141, Q_X10_⟩ hb_ hon hoff
                                                      refine ⟨_, rfl, fun K hK => ?_⟩
                                                      have e100 : a.tmps[100]? = some (.string (((x5_3 ++ t131) ++ (rdOf ByteArray.empty y132 x61_2)) ++ (t138 ++ (rdOf ByteArray.empty y139 (ji43))))) := by rw [ha]; exact putSel_on (e := (13, 100, .string (((x5_3 ++ t131) ++ (rdOf ByteArray.empty y132 x61_2)) ++ (t138 ++ (rdOf ByteArray.empty y139 (ji43)))))) 9 rfl rfl (hon 13 (by kernel_rfl)) rfl
                                                      replace ha := Aside0.mk ha
                                                      have HO134 := Aside0.mk Q_HO134
                                                      have HO_59 := Aside0.mk Q_HO_59
                                                      have HO_7 := Aside0.mk Q_HO_7
                                                      have HB := Aside0.mk Q_HB
                                                      have HO141 := Aside0.mk (Q_HO141 (hon 7 (by kernel_rfl)))
                                                      have HA_HO141 := Aside0.mk (Q_HA_HO141 (hon 7 (by kernel_rfl)))
                                                      refine value_ (w1 := w') (v := .string (((x5_3 ++ t131) ++ (rdOf ByteArray.empty y132 x61_2)) ++ (t138 ++ (rdOf ByteArray.empty y139 (ji43))))) (by rfl) rfl ?_ ?_
                                                      · go_simp
                                                        (try simp only [i64_w])
                                                        try rfl
                                                      refine hK.out _ _ ⟨v140, adz_v140, m10_, (by rw [ha.out]; exact putSel_upk 10 hb_ rfl rfl rfl), Q_HO134, Q_HO_59, Q_HO_7, Q_HB, Q_HO141, Q_HA_HO141, Q_X10_⟩
                                                    exact steps_nil
                                                  rintro b a w70 hall ⟨v140, adz_v140, m10_, ha, Q_HO134, Q_HO_59, Q_HO_7, Q_HB, Q_HO141, Q_HA_HO141, Q_X10_⟩
                                                  clear HB HO134 HO_59 HO_7
                                                  have hb3_ := hall 3 (by kernel_rfl)
                                                  have hb4_ := hall 4 (by kernel_rfl)
                                                  have hb5_ := hall 5 (by kernel_rfl)
                                                  have hb6_ := hall 6 (by kernel_rfl)
                                                  have hb7_ := hall 7 (by kernel_rfl)
                                                  have hb9_ := hall 9 (by kernel_rfl)
                                                  have hb10_ := hall 10 (by kernel_rfl)
                                                  have hb11_ := hall 11 (by kernel_rfl)
                                                  have hb12_ := hall 12 (by kernel_rfl)
                                                  have hb13_ := hall 13 (by kernel_rfl)
                                                  have hb14_ := hall 14 (by kernel_rfl)
                                                  subst ha
                                                  obtain rfl := Q_X10_ hb10_
                                                  simp only [putSel, hb3_, hb4_, hb5_, hb6_, hb7_, hb9_, hb10_, hb11_, hb12_, hb13_, hb14_, if_true, Act.put, List.setIfInBounds_toArray, List.set_cons_zero, List.set_cons_succ]
                                                  have HO134 := Aside0.mk Q_HO134
                                                  clear Q_HO134
                                                  have HO_59 := Aside0.mk Q_HO_59
                                                  clear Q_HO_59
                                                  have HO_7 := Aside0.mk Q_HO_7
                                                  clear Q_HO_7
                                                  have HB := Aside0.mk Q_HB
                                                  clear Q_HB
                                                  have HO141 := Aside0.mk (Q_HO141 hb7_)
                                                  clear Q_HO141
                                                  have HA_HO141 := Aside0.mk (Q_HA_HO141 hb7_)
                                                  clear Q_HA_HO141
                                                  clear hall hb3_ hb4_ hb5_ hb6_ hb7_ hb9_ hb10_ hb11_ hb12_ hb13_ hb14_
                                                  obtain ⟨co71, eo71⟩ := HA_HO141.out
                                                  clear HA_HO141
                                                  subst eo71
                                                  try go_wp2
                                                  go_ret
                                                  exact ⟨by first | rfl | (simp [errW_none, errW_some] <;> rfl) | (simp only [← hji43]; first | rfl | (simp [errW_none, errW_some] <;> rfl)) | (simp [*, errW_none, errW_some] <;> rfl), by repeat (first | (with_reducible first | exact HB.out | apply below_alloc | apply pw_below_drewN | apply below_drew1) | exact HB.out)⟩
                                                · rw [if_neg c57] at H
                                                  exact absurd H (by simp)
                                              · rw [if_neg c56] at H
                                                exact absurd H (by simp)
                                            · rw [if_neg c55] at H
                                              exact absurd H (by simp)
                                        · rw [if_neg c45] at H
                                          exact absurd H (by simp)
                                      · rw [if_neg c44] at H
                                        exact absurd H (by simp)
                                    · rw [if_neg c42] at H
                                      have c42b0 : decide (x61_2 < 3) = false := decide_eq_false c42
                                      clear c42
                                      obtain rfl := Option.some.inj H
                                      have p130 : 0 ≤ (x61_2 : Int) := of_decide_eq_true (by first | (with_reducible assumption) | assumption)
                                      have q130 : x61_2 < (y127.length : Int) := of_decide_eq_true (by first | (with_reducible assumption) | assumption)
                                      obtain ⟨ad130, e130, hx130_0⟩ := Kd.at_int (Kd.R_reads' HO_59.out).2.2 x61_2 p130 q130
                                      cases e130
                                      replace p130 := eq_true p130
                                      replace q130 := eq_true q130
                                      try go_wp2
                                      have pi135 : (0 ≤ (x61_2 : Int)) = True := eq_true (of_decide_eq_true (by first | (with_reducible assumption) | assumption))
                                      have qi135 : (x61_2 < (y132.length : Int)) = True := eq_true (of_decide_eq_true (by first | (with_reducible assumption) | assumption))
                                      have n0_ := Aside0.mk (Kd.R_drew HO_7.out)
                                      have n1_ := Aside0.mk (Kd.R_drew HO_59.out)
                                      have n2_ := Aside0.mk (below_drew1 HB.out)
                                      clear HO_7
                                      clear HO_59
                                      clear HB
                                      have HO_7 := n0_
                                      have HO_59 := n1_
                                      have HB := n2_
                                      clear n0_ n1_ n2_
                                      refine start_ (n := 10) (S := fun w' => True) (ds := []) #[false, false, false, false, false, false, false, false, false, false] (by kernel_rfl) rfl rfl trivial (fun hHeld => ?_); refine with_tabW spec_UnitText.tab23 spec_UnitText.bits23 (fun HT_ HW_ => ?_)
                                      generalize wr.drew = w72 at HO_7 HO_59 HB hHeld ⊢
                                      refine pure_ (i := 0) (N := some 68) (v := ?_) (a' := ?_) #[true, false, false, false, false, false, false, false, false, false] rfl rfl (any_of HT_.out (by kernel_rfl)) (fun _ _ _ h => h) (Or.inl ⟨by rfl, ?_⟩) ?_ ?_
                                      rotate_left
                                      · intro w'
                                        go_simp
                                        with_reducible rfl
                                      rotate_left
                                      · simp only [Act.put, List.setIfInBounds_toArray, List.set_cons_zero, List.set_cons_succ, i64_w, i32_w]
                                        rfl
                                      refine pure_ (i := 1) (N := some 69) (v := ?_) (a' := ?_) #[true, true, false, false, false, false, false, false, false, false] rfl rfl (any_of HT_.out (by kernel_rfl)) (fun _ _ _ h => h) (Or.inl ⟨by rfl, ?_⟩) ?_ ?_
                                      rotate_left
                                      · intro w'
                                        go_simp
                                        with_reducible rfl
                                      rotate_left
                                      · simp only [Act.put, List.setIfInBounds_toArray, List.set_cons_zero, List.set_cons_succ, i64_w, i32_w]
                                        rfl
                                      refine pure_ (i := 5) (N := some 73) (v := ?_) (a' := ?_) #[true, true, false, false, false, true, false, false, false, false] rfl rfl (any_of HT_.out (by kernel_rfl)) (fun _ _ _ h => h) (Or.inl ⟨by rfl, ?_⟩) ?_ ?_
                                      rotate_left
                                      · intro w'
                                        go_simp
                                        with_reducible rfl
                                      rotate_left
                                      · simp only [Act.put, List.setIfInBounds_toArray, List.set_cons_zero, List.set_cons_succ, i64_w, i32_w]
                                        rfl
                                      refine inv_at [2, 3, 4, 6, 7, 8, 9] (fun a0_ b a w' => ∃ (v133 : Value) (adz_v133 : Addr) (m6_ : Value), a = putSel a0_ b [(2, 70, .string t131), (3, 71, .string (x5_3 ++ t131)), (4, 72, v133), (6, 74, m6_), (7, 75, .string (rdOf ByteArray.empty y132 x61_2)), (8, 76, .string ((x5_3 ++ t131) ++ (rdOf ByteArray.empty y132 x61_2))), (9, 10, .string ((x5_3 ++ t131) ++ (rdOf ByteArray.empty y132 x61_2)))] ∧ (Kd.R (Kd.int .i64) 3 w' w.heap.size (fun _ => True) (.slice (some ad130) y127.length co33) y127) ∧ (Kd.R (Kd.int .i64) 3 w' w.heap.size (fun _ => True) (.slice (some ad130) y127.length co33) y127) ∧ (Below w.heap.size w w') ∧ (b 4 = true → Kd.R Kd.string 9 w' w.heap.size (fun _ => True) v133 y132) ∧ (b 4 = true → ∃ c_, (v133 : Value) = .slice (some adz_v133) y132.length c_) ∧ (b 6 = true → (m6_ : Value) = .pointer (some (adz_v133.add (x61_2).toNat)))) HT_.out HW_.out (by kernel_rfl) (by kernel_rfl) ?_ ?_ ?_
                                      · exact ⟨.bool false, ⟨0, 0, none⟩, .bool false, by simp only [putSel, Bool.false_eq_true, if_false], HO_59.out, HO_7.out, HB.out, fun h_ => absurd h_ (by decide), fun h_ => absurd h_ (by decide), fun h_ => absurd h_ (by decide)⟩
                                      · skip
                                        clear HB HO_59 HO_7
                                        refine steps_cons ?_ ?_
                                        · rintro b a w' ⟨v133, adz_v133, m6_, ha, Q_HO_59, Q_HO_7, Q_HB, Q_HO134, Q_HA_HO134, Q_X6_⟩ hb_ hon hoff
                                          refine ⟨_, rfl, fun K hK => ?_⟩
                                          have e69 : a.tmps[69]? = some (.int .i64 (rd y127 x61_2)) := by rw [ha]; exact (putSel_off rfl).trans rfl
                                          replace ha := Aside0.mk ha
                                          have HO_59 := Aside0.mk Q_HO_59
                                          have HO_7 := Aside0.mk Q_HO_7
                                          have HB := Aside0.mk Q_HB
                                          refine goes_ Tryd.func6 (by kernel_rfl) rfl #[.int .i64 (rd y127 x61_2)] (by rfl) rfl rfl (by first | (simp only [List.map_toArray, List.map_cons, List.map_nil, Act.eval, Array.getD_eq_getD_getElem?, Option.getD_some, e69]; done) | (simp only [List.map_toArray, List.map_cons, List.map_nil, Act.eval, Array.getD_eq_getD_getElem?, Option.getD_some, e69]; rfl)) ?_
                                          with_reducible refine (spec_l2Num.calls k2 (rd y127 x61_2) t131 _ A38.out).mono ?_
                                          rintro e w73 ⟨rfl, hb⟩
                                          refine ⟨_, rfl, ?_⟩
                                          have n0_ := Aside0.mk (Kd.R_below (by (with_reducible repeat (first | apply Kd.R_alloc | apply Kd.R_drewN | apply Kd.R_drew)); exact HO_7.out) hb)
                                          have n1_ := Aside0.mk (Kd.R_below (by (with_reducible repeat (first | apply Kd.R_alloc | apply Kd.R_drewN | apply Kd.R_drew)); exact HO_59.out) hb)
                                          have n2_ := Aside0.mk (below_step (by repeat (first | (with_reducible first | exact HB.out | apply below_alloc | apply pw_below_drewN | apply below_drew1) | exact HB.out)) hb)
                                          have z_HO134 := fun (h0_ : b 4 = true) => (show Kd.R Kd.string 9 w73 w.heap.size (fun _ => True) v133 y132 from by first | exact (Kd.R_below (by (with_reducible repeat (first | apply Kd.R_alloc | apply Kd.R_drewN | apply Kd.R_drew)); exact (Q_HO134 h0_)) hb) | exact Kd.R_mono (Kd.R_below (by (with_reducible repeat (first | apply Kd.R_alloc | apply Kd.R_drewN | apply Kd.R_drew)); exact (Q_HO134 h0_)) hb) (fun _ h_ => by first | trivial | exact h_ | exact h_.1))
                                          clear HO_7
                                          clear HO_59
                                          clear HB
                                          have HO_7 := n0_
                                          have HO_59 := n1_
                                          have HB := n2_
                                          clear n0_ n1_ n2_
                                          (try clear hb)
                                          (try clear hb2)
                                          (try clear hk)
                                          (try clear hi)
                                          refine hK.out _ _ ⟨v133, adz_v133, m6_, (by rw [ha.out]; exact putSel_upk 0 hb_ rfl rfl rfl), (by (with_reducible repeat (first | apply Kd.R_alloc | apply Kd.R_drewN | apply Kd.R_drew)); exact HO_59.out), (by (with_reducible repeat (first | apply Kd.R_alloc | apply Kd.R_drewN | apply Kd.R_drew)); exact HO_7.out), (by repeat (first | (with_reducible first | exact HB.out | apply below_alloc | apply pw_below_drewN | apply below_drew1) | exact HB.out)), z_HO134, Q_HA_HO134, Q_X6_⟩
                                        refine steps_cons ?_ ?_
                                        · rintro b a w' ⟨v133, adz_v133, m6_, ha, Q_HO_59, Q_HO_7, Q_HB, Q_HO134, Q_HA_HO134, Q_X6_⟩ hb_ hon hoff
                                          refine ⟨_, rfl, fun K hK => ?_⟩
                                          have e68 : a.tmps[68]? = some (.string x5_3) := by rw [ha]; exact (putSel_off rfl).trans rfl
                                          have e70 : a.tmps[70]? = some (.string t131) := by rw [ha]; exact putSel_on (e := (2, 70, .string t131)) 0 rfl rfl (hon 2 (by kernel_rfl)) rfl
                                          replace ha := Aside0.mk ha
                                          have HO_59 := Aside0.mk Q_HO_59
                                          have HO_7 := Aside0.mk Q_HO_7
                                          have HB := Aside0.mk Q_HB
                                          refine value_ (w1 := w') (v := .string (x5_3 ++ t131)) (by rfl) rfl ?_ ?_
                                          · go_simp
                                            (try simp only [i64_w])
                                            try rfl
                                          refine hK.out _ _ ⟨v133, adz_v133, m6_, (by rw [ha.out]; exact putSel_upk 1 hb_ rfl rfl rfl), Q_HO_59, Q_HO_7, Q_HB, Q_HO134, Q_HA_HO134, Q_X6_⟩
                                        refine steps_cons ?_ ?_
                                        · rintro b a w' ⟨v133, adz_v133, m6_, ha, Q_HO_59, Q_HO_7, Q_HB, Q_HO134, Q_HA_HO134, Q_X6_⟩ hb_ hon hoff
                                          refine ⟨_, rfl, fun K hK => ?_⟩
                                          replace ha := Aside0.mk ha
                                          have HO_59 := Aside0.mk Q_HO_59
                                          have HO_7 := Aside0.mk Q_HO_7
                                          have HB := Aside0.mk Q_HB
                                          refine Kd.R_lit_step Kd.string _ 9 ?hg (N := 72) ?hd (xs := ([(⟨#[100]⟩ : ByteArray), (⟨#[104]⟩ : ByteArray), (⟨#[109]⟩ : ByteArray), (⟨#[115]⟩ : ByteArray)] : List ByteArray)) (inner := [.string (⟨#[100]⟩ : ByteArray), .string (⟨#[104]⟩ : ByteArray), .string (⟨#[109]⟩ : ByteArray), .string (⟨#[115]⟩ : ByteArray)]) (ok := fun _ => True) (okp := fun _ => True) ?hr ?hp (fun _ hk => hk) trivial (Below.refl _ _) (Nat.le_refl _) (by simp) ?_; (case hd => rfl); (case hg => rfl); (case hr => first | (go_simp; done) | (go_simp; rfl)); (case hp => exact (Reps.one (show Kd.M Kd.string _ _ _ (⟨#[100]⟩ : ByteArray) [.string (⟨#[100]⟩ : ByteArray)] from rfl) (Reps.one (show Kd.M Kd.string _ _ _ (⟨#[104]⟩ : ByteArray) [.string (⟨#[104]⟩ : ByteArray)] from rfl) (Reps.one (show Kd.M Kd.string _ _ _ (⟨#[109]⟩ : ByteArray) [.string (⟨#[109]⟩ : ByteArray)] from rfl) (Reps.one (show Kd.M Kd.string _ _ _ (⟨#[115]⟩ : ByteArray) [.string (⟨#[115]⟩ : ByteArray)] from rfl) (Reps.none _ _))))))
                                          intro v133 w73 ho74 hb hg_ hnew_
                                          clear hg_ hnew_
                                          (first | rw [← Ny132.out] at ho74 | (simp only [Int.reduceToNat] at ho74; rw [← Ny132.out] at ho74))
                                          have n0_ := Aside0.mk (Kd.R_below (by (with_reducible repeat (first | apply Kd.R_alloc | apply Kd.R_drewN | apply Kd.R_drew)); exact HO_7.out) hb)
                                          have n1_ := Aside0.mk (Kd.R_below (by (with_reducible repeat (first | apply Kd.R_alloc | apply Kd.R_drewN | apply Kd.R_drew)); exact HO_59.out) hb)
                                          have n2_ := Aside0.mk (Kd.R_lower ho74 (below_size (by repeat (first | (with_reducible first | exact HB.out | apply below_alloc | apply pw_below_drewN | apply below_drew1) | exact HB.out))))
                                          have n3_ := Aside0.mk (below_step (by repeat (first | (with_reducible first | exact HB.out | apply below_alloc | apply pw_below_drewN | apply below_drew1) | exact HB.out)) hb)
                                          clear HO_7
                                          clear HO_59
                                          clear HB
                                          have HO_7 := n0_
                                          have HO_59 := n1_
                                          have HO134 := n2_
                                          have HB := n3_
                                          clear n0_ n1_ n2_ n3_
                                          clear hb ho74
                                          obtain ⟨Ao75, co75, eo75⟩ := Kd.R_slice HO134.out
                                          subst eo75
                                          obtain ⟨ado75, fo75, _⟩ := Kd.at_string (Kd.R_reads' HO134.out).2.2 0 (by decide) (by rw [Ny132.out]; simp)
                                          cases fo75
                                          refine hK.out _ _ ⟨.slice (some ado75) y132.length co75, ado75, m6_, (by rw [ha.out]; exact putSel_upk 2 hb_ rfl rfl rfl), (by (with_reducible repeat (first | apply Kd.R_alloc | apply Kd.R_drewN | apply Kd.R_drew)); exact HO_59.out), (by (with_reducible repeat (first | apply Kd.R_alloc | apply Kd.R_drewN | apply Kd.R_drew)); exact HO_7.out), (by repeat (first | (with_reducible first | exact HB.out | apply below_alloc | apply pw_below_drewN | apply below_drew1) | exact HB.out)), fun _ => (by (with_reducible repeat (first | apply Kd.R_alloc | apply Kd.R_drewN | apply Kd.R_drew)); exact HO134.out), fun _ => ⟨_, rfl⟩, fun h0_ => absurd ((hoff 6 (by kernel_rfl)).symm.trans h0_) (by decide)⟩
                                        refine steps_cons ?_ ?_
                                        · rintro b a w' ⟨v133, adz_v133, m6_, ha, Q_HO_59, Q_HO_7, Q_HB, Q_HO134, Q_HA_HO134, Q_X6_⟩ hb_ hon hoff
                                          refine ⟨_, rfl, fun K hK => ?_⟩
                                          have e72 : a.tmps[72]? = some (v133) := by rw [ha]; exact putSel_on (e := (4, 72, v133)) 2 rfl rfl (hon 4 (by kernel_rfl)) rfl
                                          have e73 : a.tmps[73]? = some (.int .i64 x61_2) := by rw [ha]; exact (putSel_off rfl).trans rfl
                                          replace ha := Aside0.mk ha
                                          have HO_59 := Aside0.mk Q_HO_59
                                          have HO_7 := Aside0.mk Q_HO_7
                                          have HB := Aside0.mk Q_HB
                                          have HO134 := Aside0.mk (Q_HO134 (hon 4 (by kernel_rfl)))
                                          have HA_HO134 := Aside0.mk (Q_HA_HO134 (hon 4 (by kernel_rfl)))
                                          obtain ⟨c_, hv_⟩ := HA_HO134.out
                                          rw [hv_] at e72
                                          refine value_ (w1 := w') (v := .pointer (some (adz_v133.add (x61_2).toNat))) (by rfl) rfl ?_ ?_
                                          · go_simp
                                            (try simp only [i64_w])
                                            try rfl
                                          refine hK.out _ _ ⟨v133, adz_v133, (.pointer (some (adz_v133.add (x61_2).toNat))), (by rw [ha.out]; exact putSel_upk 3 hb_ rfl rfl rfl), Q_HO_59, Q_HO_7, Q_HB, Q_HO134, Q_HA_HO134, fun _ => rfl⟩
                                        refine steps_cons ?_ ?_
                                        · rintro b a w' ⟨v133, adz_v133, m6_, ha, Q_HO_59, Q_HO_7, Q_HB, Q_HO134, Q_HA_HO134, Q_X6_⟩ hb_ hon hoff
                                          refine ⟨_, rfl, fun K hK => ?_⟩
                                          have e74 : a.tmps[74]? = some (m6_) := by rw [ha]; exact putSel_on (e := (6, 74, m6_)) 3 rfl rfl (hon 6 (by kernel_rfl)) rfl
                                          rw [Q_X6_ (hon 6 (by kernel_rfl))] at e74
                                          replace ha := Aside0.mk ha
                                          have HO_59 := Aside0.mk Q_HO_59
                                          have HO_7 := Aside0.mk Q_HO_7
                                          have HB := Aside0.mk Q_HB
                                          have HO134 := Aside0.mk (Q_HO134 (hon 4 (by kernel_rfl)))
                                          have HA_HO134 := Aside0.mk (Q_HA_HO134 (hon 4 (by kernel_rfl)))
                                          obtain ⟨c_, hv_⟩ := HA_HO134.out
                                          have hF_ := HO134.out
                                          rw [hv_] at hF_
                                          obtain ⟨ad_, ea_, hx_⟩ := Kd.at_string (Kd.R_reads' hF_).2.2 x61_2 (of_eq_true pi135) (of_eq_true qi135)
                                          cases ea_
                                          refine value_ (w1 := w') (v := .string (rdOf ByteArray.empty y132 x61_2)) (by rfl) rfl ?_ ?_
                                          · go_simp
                                            (try simp only [i64_w])
                                            try rfl
                                          refine hK.out _ _ ⟨v133, adz_v133, m6_, (by rw [ha.out]; exact putSel_upk 4 hb_ rfl rfl rfl), Q_HO_59, Q_HO_7, Q_HB, Q_HO134, Q_HA_HO134, Q_X6_⟩
                                        refine steps_cons ?_ ?_
                                        · rintro b a w' ⟨v133, adz_v133, m6_, ha, Q_HO_59, Q_HO_7, Q_HB, Q_HO134, Q_HA_HO134, Q_X6_⟩ hb_ hon hoff
                                          refine ⟨_, rfl, fun K hK => ?_⟩
                                          have e71 : a.tmps[71]? = some (.string (x5_3 ++ t131)) := by rw [ha]; exact putSel_on (e := (3, 71, .string (x5_3 ++ t131))) 1 rfl rfl (hon 3 (by kernel_rfl)) rfl
                                          have e75 : a.tmps[75]? = some (.string (rdOf ByteArray.empty y132 x61_2)) := by rw [ha]; exact putSel_on (e := (7, 75, .string (rdOf ByteArray.empty y132 x61_2))) 4 rfl rfl (hon 7 (by kernel_rfl)) rfl
                                          replace ha := Aside0.mk ha
                                          have HO_59 := Aside0.mk Q_HO_59
                                          have HO_7 := Aside0.mk Q_HO_7
                                          have HB := Aside0.mk Q_HB
                                          have HO134 := Aside0.mk (Q_HO134 (hon 4 (by kernel_rfl)))
                                          have HA_HO134 := Aside0.mk (Q_HA_HO134 (hon 4 (by kernel_rfl)))
                                          refine value_ (w1 := w') (v := .string ((x5_3 ++ t131) ++ (rdOf ByteArray.empty y132 x61_2))) (by rfl) rfl ?_ ?_
                                          · go_simp
                                            (try simp only [i64_w])
                                            try rfl
                                          refine hK.out _ _ ⟨v133, adz_v133, m6_, (by rw [ha.out]; exact putSel_upk 5 hb_ rfl rfl rfl), Q_HO_59, Q_HO_7, Q_HB, Q_HO134, Q_HA_HO134, Q_X6_⟩
                                        refine steps_cons ?_ ?_
                                        · rintro b a w' ⟨v133, adz_v133, m6_, ha, Q_HO_59, Q_HO_7, Q_HB, Q_HO134, Q_HA_HO134, Q_X6_⟩ hb_ hon hoff
                                          refine ⟨_, rfl, fun K hK => ?_⟩
                                          have e76 : a.tmps[76]? = some (.string ((x5_3 ++ t131) ++ (rdOf ByteArray.empty y132 x61_2))) := by rw [ha]; exact putSel_on (e := (8, 76, .string ((x5_3 ++ t131) ++ (rdOf ByteArray.empty y132 x61_2)))) 5 rfl rfl (hon 8 (by kernel_rfl)) rfl
                                          replace ha := Aside0.mk ha
                                          have HO_59 := Aside0.mk Q_HO_59
                                          have HO_7 := Aside0.mk Q_HO_7
                                          have HB := Aside0.mk Q_HB
                                          have HO134 := Aside0.mk (Q_HO134 (hon 4 (by kernel_rfl)))
                                          have HA_HO134 := Aside0.mk (Q_HA_HO134 (hon 4 (by kernel_rfl)))
                                          refine value_ (w1 := w') (v := .string ((x5_3 ++ t131) ++ (rdOf ByteArray.empty y132 x61_2))) (by rfl) rfl ?_ ?_
                                          · go_simp
                                            (try simp only [i64_w])
                                            try rfl
                                          refine hK.out _ _ ⟨v133, adz_v133, m6_, (by rw [ha.out]; exact putSel_upk 6 hb_ rfl rfl rfl), Q_HO_59, Q_HO_7, Q_HB, Q_HO134, Q_HA_HO134, Q_X6_⟩
                                        exact steps_nil
                                      rintro b a w77 hall ⟨v133, adz_v133, m6_, ha, Q_HO_59, Q_HO_7, Q_HB, Q_HO134, Q_HA_HO134, Q_X6_⟩
                                      clear HB HO_59 HO_7
                                      have hb2_ := hall 2 (by kernel_rfl)
                                      have hb3_ := hall 3 (by kernel_rfl)
                                      have hb4_ := hall 4 (by kernel_rfl)
                                      have hb6_ := hall 6 (by kernel_rfl)
                                      have hb7_ := hall 7 (by kernel_rfl)
                                      have hb8_ := hall 8 (by kernel_rfl)
                                      have hb9_ := hall 9 (by kernel_rfl)
                                      subst ha
                                      obtain rfl := Q_X6_ hb6_
                                      simp only [putSel, hb2_, hb3_, hb4_, hb6_, hb7_, hb8_, hb9_, if_true, Act.put, List.setIfInBounds_toArray, List.set_cons_zero, List.set_cons_succ]
                                      have HO_59 := Aside0.mk Q_HO_59
                                      clear Q_HO_59
                                      have HO_7 := Aside0.mk Q_HO_7
                                      clear Q_HO_7
                                      have HB := Aside0.mk Q_HB
                                      clear Q_HB
                                      have HO134 := Aside0.mk (Q_HO134 hb4_)
                                      clear Q_HO134
                                      have HA_HO134 := Aside0.mk (Q_HA_HO134 hb4_)
                                      clear Q_HA_HO134
                                      clear hall hb2_ hb3_ hb4_ hb6_ hb7_ hb8_ hb9_
                                      obtain ⟨co78, eo78⟩ := HA_HO134.out
                                      clear HA_HO134
                                      subst eo78
                                      try go_wp2
                                      go_ret
                                      exact ⟨by first | rfl | (simp [errW_none, errW_some] <;> rfl) | (simp [*, errW_none, errW_some] <;> rfl), by repeat (first | (with_reducible first | exact HB.out | apply below_alloc | apply pw_below_drewN | apply below_drew1) | exact HB.out)⟩
                                  · rw [if_neg c41] at H
                                    exact absurd H (by simp)
                                · rw [if_neg c40] at H
                                  exact absurd H (by simp)
                              · rw [if_neg c39] at H
                                exact absurd H (by simp)
                          · rw [if_neg c36] at H
                            exact absurd H (by simp)
                        · rw [if_neg c35] at H
                          exact absurd H (by simp)
                      · rw [if_neg c34] at H
                        have c34b0 : decide (x61_2 < (y127.length : Int)) = false := decide_eq_false c34
                        clear c34
                        obtain rfl := Option.some.inj H
                        go_wp2
                        go_ret
                        exact ⟨by first | rfl | (simp [errW_none, errW_some] <;> rfl) | (simp [*, errW_none, errW_some] <;> rfl), by repeat (first | (with_reducible first | exact HB.out | apply below_alloc | apply pw_below_drewN | apply below_drew1) | exact HB.out)⟩
                · rw [if_neg c30] at H
                  have c30b0 : (a1 == 3) = false := beq_eq_false_iff_ne.mpr c30
                  have c30b1 : (a1 != 3) = true := bne_iff_ne.mpr c30
                  obtain rfl := Option.some.inj H
                  go_wp2
                  go_ret
                  exact ⟨by first | rfl | (simp [errW_none, errW_some] <;> rfl) | (simp [*, errW_none, errW_some] <;> rfl), by repeat (first | (with_reducible first | exact HB.out | apply below_alloc | apply pw_below_drewN | apply below_drew1) | exact HB.out)⟩

/-! ### strconv.Itoa, strconv.FormatUint at base 10 (the shelf's, in the printed form) -/
/-- The table of powers of ten. -/
def Mx (w : World) : Prop := Lib.TabIs Tryd.prog w "internal/strconv.uint64pow10" .u64 Lib.pow10Tab
theorem Mx.below {w w' : World} (h : Mx w) (hb : Below w.heap.size w w') : Mx w' := by
  unfold Mx Lib.TabIs World.var? at *
  cases hg : (Tryd.prog).globalNamed "internal/strconv.uint64pow10" with
  | none => simp [hg] at h
  | some g =>
    simp only [hg, Option.bind_some] at h ⊢
    have hlt : g < w.heap.size := by
      rcases Nat.lt_or_ge g w.heap.size with h' | h'
      · exact h'
      · rw [Array.getElem?_eq_none h'] at h; simp at h
    rw [hb.block g hlt]
    exact h
theorem grow_below (w : World) (k : Nat) (os : Array Obj) : Below w.heap.size w (Sort.grow (w.drewN k) os) :=
  ⟨rfl, rfl, rfl, by simp [Sort.grow], fun i hi => by simp [Sort.grow, Array.getElem?_append, hi]⟩
def strconv_Itoa.f (a0 : Int) : Option ByteArray :=
  if -9223372036854775808 ≤ a0 ∧ a0 ≤ 9223372036854775807 then some ⟨(Lib.itoa a0).toArray⟩ else none
theorem strconv_Itoa.calls (a0 : Int) (r : ByteArray) (w : World) (h : strconv_Itoa.f a0 = some r) (hmx : Mx w := by first | exact HMX.out | exact Mx.below HMX.out (by repeat (first | (with_reducible first | exact HB.out | apply below_alloc | apply pw_below_drewN | apply below_drew1 | refine below_set ?_ (Aside0.out (by assumption))) | exact Below.refl _ _ | exact HB.out))) :
    Calls Tryd.prog 11 #[.int .i64 a0] w fun e w' => e = .returned (.string r) ∧ Below w.heap.size w w' := by
  unfold strconv_Itoa.f at h
  split at h
  · rename_i hs
    obtain rfl := Option.some.inj h
    refine (Go.Proofs.Tryd.strconv_Itoa a0 hs.1 hs.2 w hmx).mono ?_
    rintro e w' ⟨rfl, k, os, rfl⟩
    exact ⟨rfl, grow_below w k os⟩
  · exact absurd h (by simp)
theorem holds_zero0 (w : World) (T : TypeId) (nd : Nat) (hs : nd ≤ 24) : Sort.Holds (fun (b : UInt8) => Value.int .u8 (b.toNat : Int)) (w.alloc (.cells Lib.zeros24 T)) w.heap.size 0 (Array.replicate nd (0 : UInt8)) := fun j hj => by
  have hj' : j < nd := by simpa using hj
  refine ⟨?_, World.frozen?_alloc_new _ _ _ _⟩
  rw [World.cell?_alloc_new, Lib.zeros24_at _ (by omega), getElem!_pos _ j hj]
  simp
theorem fin0 (w : World) (o : Obj) (dk : Array UInt8) (k : Nat) : ∃ os, (Sort.putRow (fun (b : UInt8) => Value.int .u8 (b.toNat : Int)) (w.alloc o) w.heap.size 0 dk).drewN k = Sort.grow (w.drewN k) os := by
  rw [Sort.alloc_eq_grow]
  obtain ⟨os', _, e⟩ := Sort.putRow_grow_new (fun (b : UInt8) => Value.int .u8 (b.toNat : Int)) w #[o] w.heap.size 0 dk (Nat.le_refl _)
  exact ⟨os', by rw [e]; rfl⟩
set_option maxRecDepth 100000 in
set_option maxHeartbeats 2000000 in
theorem formatUint_calls (u : Nat) (hu64 : u < 18446744073709551616) (w : World) (htab : Mx w) :
    Calls Tryd.prog 14 #[.int .u64 u, .int .i64 10] w fun e w' => e = .returned (.string ⟨(Lib.decDigits u).toArray⟩) ∧ ∃ k os, w' = Sort.grow (w.drewN k) os := by
  by_cases hs : u < 100
  · go_enter Tryd.func14, Tryd.ntmps14
    go_wp2_with (go_at_call 16; refine (Go.Proofs.Tryd.internal_strconv_small u hs _).mono ?_; rintro e w' ⟨rfl, rfl⟩)
    go_ret
    exact ⟨rfl, 0, #[], by simp [World.drewN_zero]⟩
  · have hu1 : 1 ≤ u := by omega
    have hnd20 : Lib.nDigits u ≤ 20 := by have := Lib.numDigits_eq u hu1 hu64; split at this <;> omega
    have hal : (Tryd.prog).arrayLen 35 = 24 := by simp [Program.arrayLen, Tryd.underlying35]
    have hsl1 : ∀ W, (Instr.sliceAt 35 (.pointer (some ⟨w.heap.size, 0, none⟩)) none (some (.int .i64 (Lib.nDigits u : Int))) none).run Tryd.prog W = .ok (.slice (some ⟨w.heap.size, 0, none⟩) (Lib.nDigits u) 24) W := fun W => by
      rw [run_sliceAt_array_h W 35 ⟨w.heap.size, 0, none⟩ (by simp [Program.arrayLen, Program.elem, Tryd.underlying35]) .i64 (Lib.nDigits u : Int) (by omega) (by rw [hal]; omega)]
      go_simp
    have hH0 := holds_zero0 w 35 (Lib.nDigits u) (by omega)
    have hfmt := Go.Proofs.Tryd.internal_strconv_formatBase10 w.heap.size 0 24 u (Array.replicate (Lib.nDigits u) 0) (w.alloc (.cells Lib.zeros24 35)) hH0 (by rw [Array.size_replicate]; exact Lib.lt_pow_nDigits u) hu64 (by rw [Array.size_replicate]; omega)
    rw [Array.size_replicate] at hfmt
    have HH0 := Lib.hid hH0
    clear hH0 hal
    go_enter Tryd.func14, Tryd.ntmps14
    go_wp2_with (first
      | (go_at_call 17; refine (Go.Proofs.Tryd.internal_strconv_numDigits u hu1 hu64 _ (Lib.tabIs_alloc htab _)).mono ?_; rintro e w' ⟨rfl, rfl⟩))
    go_at_call 18
    refine hfmt.mono ?_
    rintro e w' ⟨rfl, k, v', dk, rfl, hF⟩
    have hcv : (convert 31 9 (.slice (some ⟨w.heap.size, 0, none⟩) (Lib.nDigits u) 24)).run Tryd.prog ((Sort.putRow (fun (b : UInt8) => Value.int .u8 (b.toNat : Int)) (w.alloc (.cells Lib.zeros24 35)) w.heap.size 0 dk).drewN k) = .ok (.string ⟨(Lib.decDigits u).toArray⟩) ((Sort.putRow (fun (b : UInt8) => Value.int .u8 (b.toNat : Int)) (w.alloc (.cells Lib.zeros24 35)) w.heap.size 0 dk).drewN k) := by
      have h := run_convert_bytes_back (P := Tryd.prog) ((Sort.putRow (fun (b : UInt8) => Value.int .u8 (b.toNat : Int)) (w.alloc (.cells Lib.zeros24 35)) w.heap.size 0 dk).drewN k) 31 9 5 ⟨w.heap.size, 0, none⟩ 24 (Lib.decDigits u) Tryd.underlying31 Tryd.underlying5 Tryd.underlying9 (fun j hj => by
        rw [Lib.row_is_numeral hF j hj, Lib.add_plain, World.cell?_drewN]
        exact Sort.cell?_putRow (fun (b : UInt8) => Value.int .u8 (b.toNat : Int)) _ w.heap.size 0 _ dk HH0.out (by rw [hF.size, Array.size_replicate]) j (by rw [hF.size]; rw [Lib.decDigits_length] at hj; exact hj))
      rw [Lib.decDigits_length] at h
      exact h
    go_wp2
    go_ret
    obtain ⟨os, eo⟩ := fin0 w (.cells Lib.zeros24 35) dk k
    exact ⟨rfl, k, os, eo⟩
def strconv_FormatUint.f (a0 : Int) (a1 : Int) : Option ByteArray :=
  if 0 ≤ a0 ∧ a0 < 18446744073709551616 ∧ a1 = 10 then some ⟨(Lib.decDigits a0.toNat).toArray⟩ else none
theorem strconv_FormatUint.calls (a0 : Int) (a1 : Int) (r : ByteArray) (w : World) (h : strconv_FormatUint.f a0 a1 = some r) (hmx : Mx w := by first | exact HMX.out | exact Mx.below HMX.out (by repeat (first | (with_reducible first | exact HB.out | apply below_alloc | apply pw_below_drewN | apply below_drew1 | refine below_set ?_ (Aside0.out (by assumption))) | exact Below.refl _ _ | exact HB.out))) :
    Calls Tryd.prog 12 #[.int .u64 a0, .int .i64 a1] w fun e w' => e = .returned (.string r) ∧ Below w.heap.size w w' := by
  unfold strconv_FormatUint.f at h
  split at h
  · rename_i hs
    obtain ⟨h0, h1, rfl⟩ := hs
    obtain ⟨u, rfl⟩ : ∃ u : Nat, a0 = u := ⟨a0.toNat, by omega⟩
    rw [Int.toNat_natCast] at h
    obtain rfl := Option.some.inj h
    have hc := formatUint_calls u (by omega) w hmx
    go_enter Tryd.func12, Tryd.ntmps12
    go_wp2_with (go_at_call 14; refine hc.mono ?_; rintro e w' ⟨rfl, k, os, rfl⟩)
    go_ret
    exact ⟨rfl, grow_below w k os⟩
  · exact absurd h (by simp)

/-! ### impl_digitsOf: function 8 -/
def impl_digitsOf.f (a0 : Int) : Option (ByteArray) := (strconv_Itoa.f a0).bind fun t143 => (some t143)
set_option maxHeartbeats 8000000 in
set_option maxRecDepth 100000 in
theorem impl_digitsOf.calls (a0 : Int) (r : ByteArray) (w : World) (h : impl_digitsOf.f a0 = some r) (hmx : Mx w := by first | exact HMX.out | exact Mx.below HMX.out (by repeat (first | (with_reducible first | exact HB.out | apply below_alloc | apply pw_below_drewN | apply below_drew1 | refine below_set ?_ (Aside0.out (by assumption))) | exact Below.refl _ _ | exact HB.out))) :
    Calls Tryd.prog 8 #[.int .i64 a0] w fun e w' => e = .returned (.string r) ∧ Below w.heap.size w w' := by
  have HMX := Aside0.mk hmx
  have HB := Aside0.mk (Below.refl w.heap.size w)
  have H : ((strconv_Itoa.f a0).bind fun t143 => (some t143)) = some r := h
  clear h
  replace H := Option.bind_eq_some_iff.mp H
  obtain ⟨t143, A20, H⟩ := H
  replace H : (some t143) = some r := H
  have A2 := Aside0.mk A20
  clear A20
  obtain rfl := Option.some.inj H
  go_enter Tryd.func8, Tryd.ntmps8
  go_wp2_with (first | ((with_reducible refine gate_callee (f := 11) rfl ?_); refine goesL_ (some 4) rfl rfl Tryd.func11 (by kernel_rfl) rfl #[.int .i64 a0] rfl (by (try simp only [List.map_toArray, List.map_cons, List.map_nil]); first | done | rfl | (simp only [List.length_drop, List.length_take]; rfl)) ?_; (with_reducible refine (strconv_Itoa.calls a0 t143 _ A2.out).mono ?_); rintro e w3 ⟨rfl, hb⟩; refine ⟨_, rfl, ?_⟩; have n0_ := Aside0.mk (below_step (by repeat (first | (with_reducible first | exact HB.out | apply below_alloc | apply pw_below_drewN | apply below_drew1) | exact HB.out)) hb); clear HB; have HB := n0_; clear n0_; (try clear hb); (try clear hb2); (try clear hk); (try clear hi)))
  go_ret
  exact ⟨by first | rfl | (simp [errW_none, errW_some] <;> rfl) | (simp [*, errW_none, errW_some] <;> rfl), by repeat (first | (with_reducible first | exact HB.out | apply below_alloc | apply pw_below_drewN | apply below_drew1) | exact HB.out)⟩

/-! ### impl_unitOf: function 9 -/
mutual
def impl_unitOf.j0 : Nat → Int → Int → List ByteArray → ByteArray → Int → Option (ByteArray)
  | 0, _, _, _, _, _ => none
  | k + 1, x0, x1, x2, x7, x8 => impl_unitOf.l0 k x0 x1 x2 x7 x8 1 0
def impl_unitOf.j2 : Nat → Int → List ByteArray → ByteArray → Int → Int → Int → Option (ByteArray)
  | 0, _, _, _, _, _, _ => none
  | k + 1, x0, x2, x7, x8, x9, x10 => if x10 = 0 then ((impl_digitsOf.f x0).bind fun t144 => (some t144)) else (if x9 = 0 then (none) else ((strconv_FormatUint.f (IntKind.u64.wrap (Int.tdiv x8 x9)) 10).bind fun t145 => (if x7.size + t145.size ≤ 9223372036854775807 then (if (x7 ++ t145).size + 1 ≤ 9223372036854775807 then ((strconv_FormatUint.f (IntKind.u64.wrap (Int.tdiv (IntKind.u64.wrap ((Int.tmod x8 x9) * 10)) x9)) 10).bind fun t146 => (if ((x7 ++ t145) ++ (⟨#[46]⟩ : ByteArray)).size + t146.size ≤ 9223372036854775807 then (if 0 ≤ (wrap64 (x10 - 1)) then (if (wrap64 (x10 - 1)) < (x2.length : Int) then (if (((x7 ++ t145) ++ (⟨#[46]⟩ : ByteArray)) ++ t146).size + (rdOf ByteArray.empty x2 (wrap64 (x10 - 1))).size ≤ 9223372036854775807 then (some ((((x7 ++ t145) ++ (⟨#[46]⟩ : ByteArray)) ++ t146) ++ (rdOf ByteArray.empty x2 (wrap64 (x10 - 1))))) else (none)) else (none)) else (none)) else (none))) else (none)) else (none))))
def impl_unitOf.l0 : Nat → Int → Int → List ByteArray → ByteArray → Int → Int → Int → Option (ByteArray)
  | 0, _, _, _, _, _, _, _ => none
  | k + 1, x0, x1, x2, x7, x8, x9, x10 => if x10 < (x2.length : Int) then (if x9 = 0 then (none) else (if (IntKind.u64.wrap (Int.tdiv x8 x9)) ≥ x1 then (impl_unitOf.l0 k x0 x1 x2 x7 x8 (IntKind.u64.wrap (x9 * x1)) (wrap64 (x10 + 1))) else (impl_unitOf.j2 k x0 x2 x7 x8 x9 x10))) else (impl_unitOf.j2 k x0 x2 x7 x8 x9 x10)
end
def impl_unitOf.f (k : Nat) (a0 : Int) (a1 : Int) (l2 : List ByteArray) : Option (ByteArray) := if a0 < 0 then (impl_unitOf.j0 k a0 a1 l2 (⟨#[45]⟩ : ByteArray) (IntKind.u64.wrap (-(IntKind.u64.wrap (a0))))) else (impl_unitOf.j0 k a0 a1 l2 (⟨#[]⟩ : ByteArray) (IntKind.u64.wrap (a0)))
theorem impl_unitOf.mono_l : ∀ k, (∀ y0 y1 y2 y3 y4, LeO (impl_unitOf.j0 k y0 y1 y2 y3 y4) (impl_unitOf.j0 (k + 1) y0 y1 y2 y3 y4)) ∧ (∀ y0 y1 y2 y3 y4 y5, LeO (impl_unitOf.j2 k y0 y1 y2 y3 y4 y5) (impl_unitOf.j2 (k + 1) y0 y1 y2 y3 y4 y5)) ∧ (∀ y0 y1 y2 y3 y4 y5 y6, LeO (impl_unitOf.l0 k y0 y1 y2 y3 y4 y5 y6) (impl_unitOf.l0 (k + 1) y0 y1 y2 y3 y4 y5 y6))
  | 0 => ⟨fun _ _ _ _ _ r h => by simp [impl_unitOf.j0] at h, fun _ _ _ _ _ _ r h => by simp [impl_unitOf.j2] at h, fun _ _ _ _ _ _ _ r h => by simp [impl_unitOf.l0] at h⟩
  | k + 1 => by
    obtain ⟨ih0, ih1, ih2⟩ := impl_unitOf.mono_l k
    refine ⟨?_, ?_, ?_⟩
    · intro y0 y1 y2 y3 y4
      unfold impl_unitOf.j0
      repeat' first
      | (with_reducible exact ih0 _ _ _ _ _)
      | (with_reducible exact ih1 _ _ _ _ _ _)
      | (with_reducible exact ih2 _ _ _ _ _ _ _)
      | (with_reducible exact LeO.refl _)
      | (with_reducible exact LeO.none _)
      | (with_reducible refine LeO.ite ?_ ?_)
      | (with_reducible refine LeO.bind ?_ (fun _ => ?_))
      | exact ih0 _ _ _ _ _
      | exact ih1 _ _ _ _ _ _
      | exact ih2 _ _ _ _ _ _ _
      | exact LeO.none _
      | refine LeO.ite ?_ ?_
      | refine LeO.bind ?_ (fun _ => ?_)
    · intro y0 y1 y2 y3 y4 y5
      unfold impl_unitOf.j2
      repeat' first
      | (with_reducible exact ih0 _ _ _ _ _)
      | (with_reducible exact ih1 _ _ _ _ _ _)
      | (with_reducible exact ih2 _ _ _ _ _ _ _)
      | (with_reducible exact LeO.refl _)
      | (with_reducible exact LeO.none _)
      | (with_reducible refine LeO.ite ?_ ?_)
      | (with_reducible refine LeO.bind ?_ (fun _ => ?_))
      | exact ih0 _ _ _ _ _
      | exact ih1 _ _ _ _ _ _
      | exact ih2 _ _ _ _ _ _ _
      | exact LeO.none _
      | refine LeO.ite ?_ ?_
      | refine LeO.bind ?_ (fun _ => ?_)
    · intro y0 y1 y2 y3 y4 y5 y6
      unfold impl_unitOf.l0
      repeat' first
      | (with_reducible exact ih0 _ _ _ _ _)
      | (with_reducible exact ih1 _ _ _ _ _ _)
      | (with_reducible exact ih2 _ _ _ _ _ _ _)
      | (with_reducible exact LeO.refl _)
      | (with_reducible exact LeO.none _)
      | (with_reducible refine LeO.ite ?_ ?_)
      | (with_reducible refine LeO.bind ?_ (fun _ => ?_))
      | exact ih0 _ _ _ _ _
      | exact ih1 _ _ _ _ _ _
      | exact ih2 _ _ _ _ _ _ _
      | exact LeO.none _
      | refine LeO.ite ?_ ?_
      | refine LeO.bind ?_ (fun _ => ?_)
theorem impl_unitOf.mono : ∀ a0 a1 a2 k, LeO (impl_unitOf.f k a0 a1 a2) (impl_unitOf.f (k + 1) a0 a1 a2) := by
  intro a0 a1 a2 k
  obtain ⟨ih0, ih1, ih2⟩ := impl_unitOf.mono_l k
  unfold impl_unitOf.f
  repeat' first
      | (with_reducible exact ih0 _ _ _ _ _)
      | (with_reducible exact ih1 _ _ _ _ _ _)
      | (with_reducible exact ih2 _ _ _ _ _ _ _)
      | (with_reducible exact LeO.refl _)
      | (with_reducible exact LeO.none _)
      | (with_reducible refine LeO.ite ?_ ?_)
      | (with_reducible refine LeO.bind ?_ (fun _ => ?_))
      | exact ih0 _ _ _ _ _
      | exact ih1 _ _ _ _ _ _
      | exact ih2 _ _ _ _ _ _ _
      | exact LeO.none _
      | refine LeO.ite ?_ ?_
      | refine LeO.bind ?_ (fun _ => ?_)
def impl_unitOf.T11 : Bool × List (List Nat × List Nat) := (true, [([], []), ([], []), ([], []), ([1, 2], [1, 2]), ([3], [3]), ([0, 4], [0, 4]), ([5], [5]), ([], []), ([], []), ([7, 8], [7, 8]), ([9], [9]), ([], []), ([10, 11], [10, 11]), ([12, 4], [12]), ([6, 13], [6, 13]), ([], []), ([], []), ([16], [16]), ([15, 17], [15, 17]), ([18], [18]), ([14, 19], [14, 19]), ([20, 13, 0, 1, 2, 3, 4, 5, 6, 7, 8, 9, 10, 11, 12, 13, 14, 15, 16, 17, 18, 19, 20], [20])])
def impl_unitOf.B11 : List Nat := [0, 0, 0, 6, 14, 31, 63, 0, 0, 384, 896, 0, 3968, 8094, 16383, 0, 0, 65536, 229376, 491520, 1048575, 2097151]
theorem impl_unitOf.tab11 : rtab .any (opsOf Tryd.f9 11) = impl_unitOf.T11 := by kernel_rfl
theorem impl_unitOf.bits11 : waitsOk impl_unitOf.T11.2 impl_unitOf.B11 = true := by kernel_rfl
set_option maxHeartbeats 8000000 in
set_option maxRecDepth 100000 in
theorem impl_unitOf.calls (k : Nat) (a0 : Int) (a1 : Int) (A2 : Option Addr) (c2 : Nat) (l2 : List ByteArray) (r : ByteArray) (w : World) (hr2 : Kd.C Kd.string w A2 l2.length l2) (hc2 : l2.length ≤ c2) (h : impl_unitOf.f k a0 a1 l2 = some r) (hmx : Mx w := by first | exact HMX.out | exact Mx.below HMX.out (by repeat (first | (with_reducible first | exact HB.out | apply below_alloc | apply pw_below_drewN | apply below_drew1 | refine below_set ?_ (Aside0.out (by assumption))) | exact Below.refl _ _ | exact HB.out))) :
    Calls Tryd.prog 9 #[.int .i64 a0, .int .u64 a1, .slice A2 l2.length c2] w fun e w' => e = .returned (.string r) ∧ Below w.heap.size w w' := by
  have HMX := Aside0.mk hmx
  have HR2 := Aside0.mk hr2
  have HC2 := Aside0.mk hc2
  clear hr2 hc2
  have HB := Aside0.mk (Below.refl w.heap.size w)
  have H : (if a0 < 0 then (impl_unitOf.j0 k a0 a1 l2 (⟨#[45]⟩ : ByteArray) (IntKind.u64.wrap (-(IntKind.u64.wrap (a0))))) else (impl_unitOf.j0 k a0 a1 l2 (⟨#[]⟩ : ByteArray) (IntKind.u64.wrap (a0)))) = some r := h
  clear h
  have HC4 := Aside0.mk H
  clear H
  go_enter Tryd.func9, Tryd.ntmps9
  go_upto_if 14 with (fail)
  go_cut [7, 8] (fun v7 v8 wc => ∃ (kq : Nat) (x7_3 : ByteArray) (x8_3 : Int), v7 = .string x7_3 ∧ v8 = .int .u64 x8_3 ∧ Aside0 (impl_unitOf.j0 kq a0 a1 l2 x7_3 x8_3 = some r) ∧ Aside0 (kq ≤ k) ∧ Aside0 (Below w.heap.size w wc))
  case first =>
    have H := HC4.out
    clear HC4
    by_cases c5 : a0 < 0
    · rw [if_pos c5] at H
      have c5b0 : decide (a0 < 0) = true := decide_eq_true c5
      clear c5
      (first | rw [c5b0] | (simp only [i64_w, i32_w]; rw [c5b0]) | rw [c5b2] | skip)
      have H' := Aside0.mk H
      clear H
      go_wp2
      go_meet
      case rel => exact ⟨_, ((⟨#[45]⟩ : ByteArray)), (IntKind.u64.wrap (-(IntKind.u64.wrap (a0)))), (by first | rfl | (simp; done) | (simp [*]; done)), (by first | rfl | (simp; done) | (simp [*]; done)), H', ⟨by first | omega | exact Nat.le_refl _⟩, ⟨by repeat (first | (with_reducible first | exact HB.out | apply below_alloc | apply pw_below_drewN | apply below_drew1) | exact HB.out)⟩⟩
    · rw [if_neg c5] at H
      have c5b0 : decide (a0 < 0) = false := decide_eq_false c5
      clear c5
      (first | rw [c5b0] | (simp only [i64_w, i32_w]; rw [c5b0]) | rw [c5b2] | skip)
      have H' := Aside0.mk H
      clear H
      go_wp2
      go_meet
      case rel => exact ⟨_, ((⟨#[]⟩ : ByteArray)), (IntKind.u64.wrap (a0)), (by first | rfl | (simp; done) | (simp [*]; done)), (by first | rfl | (simp; done) | (simp [*]; done)), H', ⟨by first | omega | exact Nat.le_refl _⟩, ⟨by repeat (first | (with_reducible first | exact HB.out | apply below_alloc | apply pw_below_drewN | apply below_drew1) | exact HB.out)⟩⟩
  case rest =>
    clear HC4
    try clear c2
    try clear p2
    try clear c5
    try clear c5b0
    try clear c5b2
    obtain ⟨kq, x7_3, x8_3, rfl, rfl, HA, HJ3, HB⟩ := hcut
    cases kq with
    | zero => exact absurd HA.out (by simp [impl_unitOf.j0])
    | succ kj3 =>
      have H := HA.out
      clear HA
      simp only [impl_unitOf.j0] at H
      have HC6 := Aside0.mk H
      clear H
      go_upto_block 0 with (fail)
      go_cut [9, 10] (fun v9 v10 wc => ∃ (kq : Nat) (x9_5 : Int) (x10_5 : Int), v9 = .int .u64 x9_5 ∧ v10 = .int .i64 x10_5 ∧ Aside0 (impl_unitOf.j2 kq a0 l2 x7_3 x8_3 x9_5 x10_5 = some r) ∧ Aside0 (kq ≤ kj3) ∧ Aside0 (Below w.heap.size w wc))
      case first =>
        have H := HC6.out
        clear HC6
        have H' := Aside0.mk H
        clear H
        go_wp2
        go_loopg [9, 10] kj3 (fun kq v9 v10 w' => ∃ (x9_2 : Int) (x10_2 : Int), v9 = .int .u64 x9_2 ∧ v10 = .int .i64 x10_2 ∧ Aside0 (impl_unitOf.l0 kq a0 a1 l2 x7_3 x8_3 x9_2 x10_2 = some r) ∧ Aside0 (kq ≤ kj3) ∧ Aside0 (Below w.heap.size w w'))
        case atStart => exact ⟨(1), (0), (by first | rfl | (simp; done) | (simp [*]; done)), (by first | rfl | (simp; done) | (simp [*]; done)), H', ⟨Nat.le_refl _⟩, ⟨by repeat (first | (with_reducible first | exact HB.out | apply below_alloc | apply pw_below_drewN | apply below_drew1) | exact HB.out)⟩⟩
        case round =>
          clear H'
          try clear c2
          try clear p2
          try clear c5
          try clear c5b0
          try clear c5b2
          try clear p2
          obtain ⟨x9_2, x10_2, rfl, rfl, HA, HK2, HB⟩ := hrel
          cases gk with
          | zero => exact absurd HA.out (by simp [impl_unitOf.l0])
          | succ k2 =>
            have H := HA.out
            clear HA
            simp only [impl_unitOf.l0] at H
            by_cases c7 : x10_2 < (l2.length : Int)
            · rw [if_pos c7] at H
              have c7b0 : decide (x10_2 < (l2.length : Int)) = true := decide_eq_true c7
              clear c7
              (first | rw [c7b0] | (simp only [i64_w, i32_w]; rw [c7b0]) | rw [c7b2] | skip)
              by_cases c8 : x9_2 = 0
              · rw [if_pos c8] at H
                exact absurd H (by simp)
              · rw [if_neg c8] at H
                have c8b0 : (x9_2 == 0) = false := beq_eq_false_iff_ne.mpr c8
                have c8b1 : (x9_2 != 0) = true := bne_iff_ne.mpr c8
                by_cases c9 : (IntKind.u64.wrap (Int.tdiv x8_3 x9_2)) ≥ a1
                · rw [if_pos c9] at H
                  have c9b0 : decide (a1 ≤ (IntKind.u64.wrap (Int.tdiv x8_3 x9_2))) = true := decide_eq_true c9
                  clear c9
                  have H' := Aside0.mk H
                  clear H
                  go_wp2
                  go_roundg k2
                  case measure => have := HJ3.out; have := HK2.out; omega
                  case rel => exact ⟨(IntKind.u64.wrap (x9_2 * a1)), (wrap64 (x10_2 + 1)), (by first | rfl | (simp; done) | (simp [*]; done)), (by first | rfl | (simp; done) | (simp [*]; done)), H', ⟨by have := HJ3.out; have := HK2.out; omega⟩, ⟨by repeat (first | (with_reducible first | exact HB.out | apply below_alloc | apply pw_below_drewN | apply below_drew1) | exact HB.out)⟩⟩
                · rw [if_neg c9] at H
                  have c9b0 : decide (a1 ≤ (IntKind.u64.wrap (Int.tdiv x8_3 x9_2))) = false := decide_eq_false c9
                  clear c9
                  have H' := Aside0.mk H
                  clear H
                  go_wp2
                  go_meet
                  case rel => exact ⟨_, (x9_2), (x10_2), (by first | rfl | (simp; done) | (simp [*]; done)), (by first | rfl | (simp; done) | (simp [*]; done)), H', ⟨by have := HJ3.out; have := HK2.out; first | omega | exact Nat.le_refl _⟩, ⟨by repeat (first | (with_reducible first | exact HB.out | apply below_alloc | apply pw_below_drewN | apply below_drew1) | exact HB.out)⟩⟩
            · rw [if_neg c7] at H
              have c7b0 : decide (x10_2 < (l2.length : Int)) = false := decide_eq_false c7
              clear c7
              (first | rw [c7b0] | (simp only [i64_w, i32_w]; rw [c7b0]) | rw [c7b2] | skip)
              have H' := Aside0.mk H
              clear H
              go_wp2
              go_meet
              case rel => exact ⟨_, (x9_2), (x10_2), (by first | rfl | (simp; done) | (simp [*]; done)), (by first | rfl | (simp; done) | (simp [*]; done)), H', ⟨by have := HJ3.out; have := HK2.out; first | omega | exact Nat.le_refl _⟩, ⟨by repeat (first | (with_reducible first | exact HB.out | apply below_alloc | apply pw_below_drewN | apply below_drew1) | exact HB.out)⟩⟩
      case rest =>
        clear HC6
        try clear c2
        try clear p2
        try clear c5
        try clear c5b0
        try clear c5b2
        try clear p6
        try clear c7
        try clear c7b0
        try clear c7b2
        try clear c8
        try clear c8b0
        try clear c8b1
        try clear c9
        try clear c9b0
        try clear p2
        obtain ⟨kq, x9_5, x10_5, rfl, rfl, HA, HJ5, HB⟩ := hcut
        cases kq with
        | zero => exact absurd HA.out (by simp [impl_unitOf.j2])
        | succ kj5 =>
          have H := HA.out
          clear HA
          simp only [impl_unitOf.j2] at H
          by_cases c10 : x10_5 = 0
          · rw [if_pos c10] at H
            have c10b0 : (x10_5 == 0) = true := beq_iff_eq.mpr c10
            have c10b1 : (x10_5 != 0) = false := bne_eq_false_iff_eq.mpr c10
            clear c10
            replace H := Option.bind_eq_some_iff.mp H
            obtain ⟨t144, A110, H⟩ := H
            replace H : (some t144) = some r := H
            have A11 := Aside0.mk A110
            clear A110
            obtain rfl := Option.some.inj H
            go_wp2_with (first | ((with_reducible refine gate_callee (f := 8) rfl ?_); refine goesL_ (some 36) rfl rfl Tryd.func8 (by kernel_rfl) rfl #[.int .i64 a0] rfl (by (try simp only [List.map_toArray, List.map_cons, List.map_nil]); first | done | rfl | (simp only [List.length_drop, List.length_take]; rfl)) ?_; (with_reducible refine (impl_digitsOf.calls a0 t144 _ A11.out).mono ?_); rintro e w12 ⟨rfl, hb⟩; refine ⟨_, rfl, ?_⟩; have n0_ := Aside0.mk (below_step (by repeat (first | (with_reducible first | exact HB.out | apply below_alloc | apply pw_below_drewN | apply below_drew1) | exact HB.out)) hb); clear HB; have HB := n0_; clear n0_; (try clear hb); (try clear hb2); (try clear hk); (try clear hi)))
            go_ret
            exact ⟨by first | rfl | (simp [errW_none, errW_some] <;> rfl) | (simp [*, errW_none, errW_some] <;> rfl), by repeat (first | (with_reducible first | exact HB.out | apply below_alloc | apply pw_below_drewN | apply below_drew1) | exact HB.out)⟩
          · rw [if_neg c10] at H
            have c10b0 : (x10_5 == 0) = false := beq_eq_false_iff_ne.mpr c10
            have c10b1 : (x10_5 != 0) = true := bne_iff_ne.mpr c10
            by_cases c13 : x9_5 = 0
            · rw [if_pos c13] at H
              exact absurd H (by simp)
            · rw [if_neg c13] at H
              have c13b0 : (x9_5 == 0) = false := beq_eq_false_iff_ne.mpr c13
              have c13b1 : (x9_5 != 0) = true := bne_iff_ne.mpr c13
              replace H := Option.bind_eq_some_iff.mp H
              obtain ⟨t145, A140, H⟩ := H
              replace H : (if x7_3.size + t145.size ≤ 9223372036854775807 then (if (x7_3 ++ t145).size + 1 ≤ 9223372036854775807 then ((strconv_FormatUint.f (IntKind.u64.wrap (Int.tdiv (IntKind.u64.wrap ((Int.tmod x8_3 x9_5) * 10)) x9_5)) 10).bind fun t146 => (if ((x7_3 ++ t145) ++ (⟨#[46]⟩ : ByteArray)).size + t146.size ≤ 9223372036854775807 then (if 0 ≤ (wrap64 (x10_5 - 1)) then (if (wrap64 (x10_5 - 1)) < (l2.length : Int) then (if (((x7_3 ++ t145) ++ (⟨#[46]⟩ : ByteArray)) ++ t146).size + (rdOf ByteArray.empty l2 (wrap64 (x10_5 - 1))).size ≤ 9223372036854775807 then (some ((((x7_3 ++ t145) ++ (⟨#[46]⟩ : ByteArray)) ++ t146) ++ (rdOf ByteArray.empty l2 (wrap64 (x10_5 - 1))))) else (none)) else (none)) else (none)) else (none))) else (none)) else (none)) = some r := H
              have A14 := Aside0.mk A140
              clear A140
              by_cases c15 : x7_3.size + t145.size ≤ 9223372036854775807
              · rw [if_pos c15] at H
                have c15b0 := eq_true c15
                have c15b1 : decide (x7_3.size + t145.size ≤ 9223372036854775807) = true := decide_eq_true c15
                try have c15b2 : (9223372036854775807 < x7_3.size + t145.size) = False := eq_false (Nat.not_lt.2 c15)
                by_cases c16 : (x7_3 ++ t145).size + 1 ≤ 9223372036854775807
                · rw [if_pos c16] at H
                  have c16b0 := eq_true c16
                  have c16b1 : decide ((x7_3 ++ t145).size + 1 ≤ 9223372036854775807) = true := decide_eq_true c16
                  try have c16b2 : (9223372036854775807 < (x7_3 ++ t145).size + 1) = False := eq_false (Nat.not_lt.2 c16)
                  (try (obtain ⟨z_, hz_⟩ : ∃ z_ : Nat, z_ = (x7_3 ++ t145).size + 1 := ⟨_, rfl⟩; have c16b3 := c16b2; rw [← hz_] at c16b3; simp [go_sem] at hz_; rw [hz_] at c16b3; clear hz_ z_))
                  replace H := Option.bind_eq_some_iff.mp H
                  obtain ⟨t146, A170, H⟩ := H
                  replace H : (if ((x7_3 ++ t145) ++ (⟨#[46]⟩ : ByteArray)).size + t146.size ≤ 9223372036854775807 then (if 0 ≤ (wrap64 (x10_5 - 1)) then (if (wrap64 (x10_5 - 1)) < (l2.length : Int) then (if (((x7_3 ++ t145) ++ (⟨#[46]⟩ : ByteArray)) ++ t146).size + (rdOf ByteArray.empty l2 (wrap64 (x10_5 - 1))).size ≤ 9223372036854775807 then (some ((((x7_3 ++ t145) ++ (⟨#[46]⟩ : ByteArray)) ++ t146) ++ (rdOf ByteArray.empty l2 (wrap64 (x10_5 - 1))))) else (none)) else (none)) else (none)) else (none)) = some r := H
                  have A17 := Aside0.mk A170
                  clear A170
                  by_cases c18 : ((x7_3 ++ t145) ++ (⟨#[46]⟩ : ByteArray)).size + t146.size ≤ 9223372036854775807
                  · rw [if_pos c18] at H
                    have c18b0 := eq_true c18
                    have c18b1 : decide (((x7_3 ++ t145) ++ (⟨#[46]⟩ : ByteArray)).size + t146.size ≤ 9223372036854775807) = true := decide_eq_true c18
                    try have c18b2 : (9223372036854775807 < ((x7_3 ++ t145) ++ (⟨#[46]⟩ : ByteArray)).size + t146.size) = False := eq_false (Nat.not_lt.2 c18)
                    (try (obtain ⟨z_, hz_⟩ : ∃ z_ : Nat, z_ = ((x7_3 ++ t145) ++ (⟨#[46]⟩ : ByteArray)).size + t146.size := ⟨_, rfl⟩; have c18b3 := c18b2; rw [← hz_] at c18b3; simp [go_sem] at hz_; rw [hz_] at c18b3; clear hz_ z_))
                    obtain ⟨ji19, hji19⟩ : ∃ j_ : Int, (wrap64 (x10_5 - 1)) = j_ := ⟨_, rfl⟩
                    replace H : (if 0 ≤ (ji19) then (if (ji19) < (l2.length : Int) then (if (((x7_3 ++ t145) ++ (⟨#[46]⟩ : ByteArray)) ++ t146).size + (rdOf ByteArray.empty l2 (ji19)).size ≤ 9223372036854775807 then (some ((((x7_3 ++ t145) ++ (⟨#[46]⟩ : ByteArray)) ++ t146) ++ (rdOf ByteArray.empty l2 (ji19)))) else (none)) else (none)) else (none)) = some r := by first | (rw [hji19] at H; exact H) | (simp only [hji19] at H ⊢; exact H)
                    (try rw [hji19] at A14)
                    (try rw [hji19] at A17)
                    have hji19w : (IntKind.i64.wrap (x10_5 - 1)) = ji19 := (i64_w _).trans hji19
                    by_cases c20 : 0 ≤ (ji19)
                    · rw [if_pos c20] at H
                      have c20b0 : decide (0 ≤ (ji19)) = true := decide_eq_true c20
                      clear c20
                      by_cases c21 : (ji19) < (l2.length : Int)
                      · rw [if_pos c21] at H
                        have c21b0 : decide ((ji19) < (l2.length : Int)) = true := decide_eq_true c21
                        clear c21
                        by_cases c22 : (((x7_3 ++ t145) ++ (⟨#[46]⟩ : ByteArray)) ++ t146).size + (rdOf ByteArray.empty l2 (ji19)).size ≤ 9223372036854775807
                        · rw [if_pos c22] at H
                          have c22b0 := eq_true c22
                          have c22b1 : decide ((((x7_3 ++ t145) ++ (⟨#[46]⟩ : ByteArray)) ++ t146).size + (rdOf ByteArray.empty l2 (ji19)).size ≤ 9223372036854775807) = true := decide_eq_true c22
                          try have c22b2 : (9223372036854775807 < (((x7_3 ++ t145) ++ (⟨#[46]⟩ : ByteArray)) ++ t146).size + (rdOf ByteArray.empty l2 (ji19)).size) = False := eq_false (Nat.not_lt.2 c22)
                          (try (obtain ⟨z_, hz_⟩ : ∃ z_ : Nat, z_ = (((x7_3 ++ t145) ++ (⟨#[46]⟩ : ByteArray)) ++ t146).size + (rdOf ByteArray.empty l2 (ji19)).size := ⟨_, rfl⟩; have c22b3 := c22b2; rw [← hz_] at c22b3; simp [go_sem] at hz_; rw [hz_] at c22b3; clear hz_ z_))
                          obtain rfl := Option.some.inj H
                          try go_wp2
                          have n0_ := Aside0.mk (below_drew1 HB.out)
                          clear HB
                          have HB := n0_
                          clear n0_
                          have p147 : 0 ≤ ((ji19) : Int) := of_decide_eq_true (by first | (with_reducible assumption) | assumption)
                          have q147 : (ji19) < (l2.length : Int) := of_decide_eq_true (by first | (with_reducible assumption) | assumption)
                          obtain ⟨ad147, e147, hx147_0⟩ := Kd.at_string HR2.out (ji19) p147 q147
                          have hw147_0 := hx147_0
                          cases e147
                          replace hx147_0 := (HB.out.cell (World.block_lt_of_cell? w _ hx147_0)).trans hx147_0
                          replace p147 := eq_true p147
                          replace q147 := eq_true q147
                          refine start_ (n := 22) (S := fun w' => w'.cell? (ad147.add ((ji19)).toNat) = some (.string (rdOf ByteArray.empty l2 (ji19)))) (ds := []) #[false, false, false, false, false, false, false, false, false, false, false, false, false, false, false, false, false, false, false, false, false, false] (by kernel_rfl) rfl rfl (((HB.out.cell (World.block_lt_of_cell? w _ hw147_0)).trans hw147_0)) (fun hHeld => ?_); refine with_tabW impl_unitOf.tab11 impl_unitOf.bits11 (fun HT_ HW_ => ?_)
                          generalize wc.drew = w23 at HB hx147_0 hHeld ⊢
                          refine pure_ (i := 0) (N := some 37) (v := ?_) (a' := ?_) #[true, false, false, false, false, false, false, false, false, false, false, false, false, false, false, false, false, false, false, false, false, false] rfl rfl (any_of HT_.out (by kernel_rfl)) (fun _ _ _ h => h) (Or.inl ⟨by rfl, ?_⟩) ?_ ?_
                          rotate_left
                          · intro w'
                            go_simp
                            with_reducible rfl
                          rotate_left
                          · simp only [Act.put, List.setIfInBounds_toArray, List.set_cons_zero, List.set_cons_succ, i64_w, i32_w]
                            rfl
                          refine pure_ (i := 1) (N := some 38) (v := ?_) (a' := ?_) #[true, true, false, false, false, false, false, false, false, false, false, false, false, false, false, false, false, false, false, false, false, false] rfl rfl (any_of HT_.out (by kernel_rfl)) (fun _ _ _ h => h) (Or.inl ⟨by rfl, ?_⟩) ?_ ?_
                          rotate_left
                          · intro w'
                            go_simp
                            with_reducible rfl
                          rotate_left
                          · simp only [Act.put, List.setIfInBounds_toArray, List.set_cons_zero, List.set_cons_succ, i64_w, i32_w]
                            rfl
                          refine pure_ (i := 2) (N := some 39) (v := ?_) (a' := ?_) #[true, true, true, false, false, false, false, false, false, false, false, false, false, false, false, false, false, false, false, false, false, false] rfl rfl (any_of HT_.out (by kernel_rfl)) (fun _ _ _ h => h) (Or.inl ⟨by rfl, ?_⟩) ?_ ?_
                          rotate_left
                          · intro w'
                            go_simp
                            with_reducible rfl
                          rotate_left
                          · simp only [Act.put, List.setIfInBounds_toArray, List.set_cons_zero, List.set_cons_succ, i64_w, i32_w]
                            rfl
                          refine pure_ (i := 3) (N := some 40) (v := ?_) (a' := ?_) #[true, true, true, true, false, false, false, false, false, false, false, false, false, false, false, false, false, false, false, false, false, false] rfl rfl (any_of HT_.out (by kernel_rfl)) (fun _ _ _ h => h) (Or.inl ⟨by rfl, ?_⟩) ?_ ?_
                          rotate_left
                          · intro w'
                            go_simp
                            with_reducible rfl
                          rotate_left
                          · simp only [Act.put, List.setIfInBounds_toArray, List.set_cons_zero, List.set_cons_succ, i64_w, i32_w]
                            rfl
                          refine pure_ (i := 7) (N := some 44) (v := ?_) (a' := ?_) #[true, true, true, true, false, false, false, true, false, false, false, false, false, false, false, false, false, false, false, false, false, false] rfl rfl (any_of HT_.out (by kernel_rfl)) (fun _ _ _ h => h) (Or.inl ⟨by rfl, ?_⟩) ?_ ?_
                          rotate_left
                          · intro w'
                            go_simp
                            with_reducible rfl
                          rotate_left
                          · simp only [Act.put, List.setIfInBounds_toArray, List.set_cons_zero, List.set_cons_succ, i64_w, i32_w]
                            rfl
                          refine pure_ (i := 8) (N := some 45) (v := ?_) (a' := ?_) #[true, true, true, true, false, false, false, true, true, false, false, false, false, false, false, false, false, false, false, false, false, false] rfl rfl (any_of HT_.out (by kernel_rfl)) (fun _ _ _ h => h) (Or.inl ⟨by rfl, ?_⟩) ?_ ?_
                          rotate_left
                          · intro w'
                            go_simp
                            with_reducible rfl
                          rotate_left
                          · simp only [Act.put, List.setIfInBounds_toArray, List.set_cons_zero, List.set_cons_succ, i64_w, i32_w]
                            rfl
                          refine pure_ (i := 9) (N := some 46) (v := ?_) (a' := ?_) #[true, true, true, true, false, false, false, true, true, true, false, false, false, false, false, false, false, false, false, false, false, false] rfl rfl (any_of HT_.out (by kernel_rfl)) (fun _ _ _ h => h) (Or.inl ⟨by rfl, ?_⟩) ?_ ?_
                          rotate_left
                          · intro w'
                            go_simp
                            with_reducible rfl
                          rotate_left
                          · simp only [Act.put, List.setIfInBounds_toArray, List.set_cons_zero, List.set_cons_succ, i64_w, i32_w]
                            rfl
                          refine pure_ (i := 10) (N := some 47) (v := ?_) (a' := ?_) #[true, true, true, true, false, false, false, true, true, true, true, false, false, false, false, false, false, false, false, false, false, false] rfl rfl (any_of HT_.out (by kernel_rfl)) (fun _ _ _ h => h) (Or.inl ⟨by rfl, ?_⟩) ?_ ?_
                          rotate_left
                          · intro w'
                            go_simp
                            with_reducible rfl
                          rotate_left
                          · simp only [Act.put, List.setIfInBounds_toArray, List.set_cons_zero, List.set_cons_succ, i64_w, i32_w]
                            rfl
                          refine pure_ (i := 11) (N := some 48) (v := ?_) (a' := ?_) #[true, true, true, true, false, false, false, true, true, true, true, true, false, false, false, false, false, false, false, false, false, false] rfl rfl (any_of HT_.out (by kernel_rfl)) (fun _ _ _ h => h) (Or.inl ⟨by rfl, ?_⟩) ?_ ?_
                          rotate_left
                          · intro w'
                            go_simp
                            with_reducible rfl
                          rotate_left
                          · simp only [Act.put, List.setIfInBounds_toArray, List.set_cons_zero, List.set_cons_succ, i64_w, i32_w]
                            rfl
                          refine pure_ (i := 12) (N := some 49) (v := ?_) (a' := ?_) #[true, true, true, true, false, false, false, true, true, true, true, true, true, false, false, false, false, false, false, false, false, false] rfl rfl (any_of HT_.out (by kernel_rfl)) (fun _ _ _ h => h) (Or.inl ⟨by rfl, ?_⟩) ?_ ?_
                          rotate_left
                          · intro w'
                            go_simp
                            with_reducible rfl
                          rotate_left
                          · simp only [Act.put, List.setIfInBounds_toArray, List.set_cons_zero, List.set_cons_succ, i64_w, i32_w]
                            rfl
                          refine pure_ (i := 15) (N := some 52) (v := ?_) (a' := ?_) #[true, true, true, true, false, false, false, true, true, true, true, true, true, false, false, true, false, false, false, false, false, false] rfl rfl (any_of HT_.out (by kernel_rfl)) (fun _ _ _ h => h) (Or.inl ⟨by rfl, ?_⟩) ?_ ?_
                          rotate_left
                          · intro w'
                            go_simp
                            with_reducible rfl
                          rotate_left
                          · simp only [Act.put, List.setIfInBounds_toArray, List.set_cons_zero, List.set_cons_succ, i64_w, i32_w]
                            rfl
                          refine pure_ (i := 16) (N := some 53) (v := ?_) (a' := ?_) #[true, true, true, true, false, false, false, true, true, true, true, true, true, false, false, true, true, false, false, false, false, false] rfl rfl (any_of HT_.out (by kernel_rfl)) (fun _ _ _ h => h) (Or.inl ⟨by rfl, ?_⟩) ?_ ?_
                          rotate_left
                          · intro w'
                            go_simp
                            with_reducible rfl
                          rotate_left
                          · simp only [Act.put, List.setIfInBounds_toArray, List.set_cons_zero, List.set_cons_succ, i64_w, i32_w]
                            rfl
                          refine pure_ (i := 17) (N := some 54) (v := ?_) (a' := ?_) #[true, true, true, true, false, false, false, true, true, true, true, true, true, false, false, true, true, true, false, false, false, false] rfl rfl (any_of HT_.out (by kernel_rfl)) (fun _ _ _ h => h) (Or.inl ⟨by rfl, ?_⟩) ?_ ?_
                          rotate_left
                          · intro w'
                            go_simp
                            with_reducible rfl
                          rotate_left
                          · simp only [Act.put, List.setIfInBounds_toArray, List.set_cons_zero, List.set_cons_succ, i64_w, i32_w]
                            rfl
                          refine pure_ (i := 18) (N := some 55) (v := ?_) (a' := ?_) #[true, true, true, true, false, false, false, true, true, true, true, true, true, false, false, true, true, true, true, false, false, false] rfl rfl (any_of HT_.out (by kernel_rfl)) (fun _ _ _ h => h) (Or.inl ⟨by rfl, ?_⟩) ?_ ?_
                          rotate_left
                          · intro w'
                            go_simp
                            with_reducible rfl
                          rotate_left
                          · simp only [Act.put, List.setIfInBounds_toArray, List.set_cons_zero, List.set_cons_succ, i64_w, i32_w]
                            rfl
                          refine take_ (i := 19) (N := some 56) (v := ?_) (a' := ?_) #[true, true, true, true, false, false, false, true, true, true, true, true, true, false, false, true, true, true, true, true, false, false] rfl rfl (take_ofW HT_.out HW_.out (by kernel_rfl)) (fun _ _ _ h => h) (Or.inl ⟨by rfl, ?_⟩) hHeld ?_ ?_
                          rotate_left
                          · intro w' s0
                            go_simp
                            with_reducible rfl
                          rotate_left
                          · simp only [Act.put, List.setIfInBounds_toArray, List.set_cons_zero, List.set_cons_succ, i64_w, i32_w]
                            rfl
                          refine one_ (i := 4) (N := some 41) #[true, true, true, true, true, false, false, true, true, true, true, true, true, false, false, true, true, true, true, true, false, false] rfl rfl (one_of HT_.out (by kernel_rfl)) (by decide) (fun K hK => ?_)
                          refine goes_ Tryd.func12 (by kernel_rfl) rfl #[.int .u64 (IntKind.u64.wrap (Int.tdiv x8_3 x9_5)), .int .i64 10] (by rfl) rfl rfl (by (try simp only [List.map_toArray, List.map_cons, List.map_nil]); first | done | rfl | (simp only [List.length_drop, List.length_take]; rfl)) ?_
                          with_reducible refine (strconv_FormatUint.calls (IntKind.u64.wrap (Int.tdiv x8_3 x9_5)) 10 t145 _ A14.out).mono ?_
                          rintro e w24 ⟨rfl, hb⟩
                          refine ⟨_, rfl, ?_⟩
                          have n0_ := Aside0.mk (below_step (by repeat (first | (with_reducible first | exact HB.out | apply below_alloc | apply pw_below_drewN | apply below_drew1) | exact HB.out)) hb)
                          clear HB
                          have HB := n0_
                          clear n0_
                          (try clear hb)
                          (try clear hb2)
                          (try clear hk)
                          (try clear hi)
                          refine hK.out _ _ (((HB.out.cell (World.block_lt_of_cell? w _ hw147_0)).trans hw147_0)) (fun hHeld => ?_)
                          clear hK K
                          refine norm_ (a' := ?_) ?_ ?_
                          rotate_left
                          · show Act.put _ (some 41) _ = _
                            simp only [Act.put, List.setIfInBounds_toArray, List.set_cons_zero, List.set_cons_succ, i64_w, i32_w]
                            rfl
                          refine pure_ (i := 5) (N := some 42) (v := ?_) (a' := ?_) #[true, true, true, true, true, true, false, true, true, true, true, true, true, false, false, true, true, true, true, true, false, false] rfl rfl (any_of HT_.out (by kernel_rfl)) (fun _ _ _ h => h) (Or.inl ⟨by rfl, ?_⟩) ?_ ?_
                          rotate_left
                          · intro w'
                            go_simp
                            with_reducible rfl
                          rotate_left
                          · simp only [Act.put, List.setIfInBounds_toArray, List.set_cons_zero, List.set_cons_succ, i64_w, i32_w]
                            rfl
                          refine pure_ (i := 6) (N := some 43) (v := ?_) (a' := ?_) #[true, true, true, true, true, true, true, true, true, true, true, true, true, false, false, true, true, true, true, true, false, false] rfl rfl (any_of HT_.out (by kernel_rfl)) (fun _ _ _ h => h) (Or.inl ⟨by rfl, ?_⟩) ?_ ?_
                          rotate_left
                          · intro w'
                            go_simp
                            with_reducible rfl
                          rotate_left
                          · simp only [Act.put, List.setIfInBounds_toArray, List.set_cons_zero, List.set_cons_succ, i64_w, i32_w]
                            rfl
                          refine one_ (i := 13) (N := some 50) #[true, true, true, true, true, true, true, true, true, true, true, true, true, true, false, true, true, true, true, true, false, false] rfl rfl (one_of HT_.out (by kernel_rfl)) (by decide) (fun K hK => ?_)
                          refine goes_ Tryd.func12 (by kernel_rfl) rfl #[.int .u64 (IntKind.u64.wrap (Int.tdiv (IntKind.u64.wrap ((Int.tmod x8_3 x9_5) * 10)) x9_5)), .int .i64 10] (by rfl) rfl rfl (by (try simp only [List.map_toArray, List.map_cons, List.map_nil]); first | done | rfl | (simp only [List.length_drop, List.length_take]; rfl)) ?_
                          with_reducible refine (strconv_FormatUint.calls (IntKind.u64.wrap (Int.tdiv (IntKind.u64.wrap ((Int.tmod x8_3 x9_5) * 10)) x9_5)) 10 t146 _ A17.out).mono ?_
                          rintro e w25 ⟨rfl, hb⟩
                          refine ⟨_, rfl, ?_⟩
                          have n0_ := Aside0.mk (below_step (by repeat (first | (with_reducible first | exact HB.out | apply below_alloc | apply pw_below_drewN | apply below_drew1) | exact HB.out)) hb)
                          clear HB
                          have HB := n0_
                          clear n0_
                          (try clear hb)
                          (try clear hb2)
                          (try clear hk)
                          (try clear hi)
                          refine hK.out _ _ (((HB.out.cell (World.block_lt_of_cell? w _ hw147_0)).trans hw147_0)) (fun hHeld => ?_)
                          clear hK K
                          refine norm_ (a' := ?_) ?_ ?_
                          rotate_left
                          · show Act.put _ (some 50) _ = _
                            simp only [Act.put, List.setIfInBounds_toArray, List.set_cons_zero, List.set_cons_succ, i64_w, i32_w]
                            rfl
                          refine pure_ (i := 14) (N := some 51) (v := ?_) (a' := ?_) #[true, true, true, true, true, true, true, true, true, true, true, true, true, true, true, true, true, true, true, true, false, false] rfl rfl (any_of HT_.out (by kernel_rfl)) (fun _ _ _ h => h) (Or.inl ⟨by rfl, ?_⟩) ?_ ?_
                          rotate_left
                          · intro w'
                            go_simp
                            with_reducible rfl
                          rotate_left
                          · simp only [Act.put, List.setIfInBounds_toArray, List.set_cons_zero, List.set_cons_succ, i64_w, i32_w]
                            rfl
                          refine pure_ (i := 20) (N := some 57) (v := ?_) (a' := ?_) #[true, true, true, true, true, true, true, true, true, true, true, true, true, true, true, true, true, true, true, true, true, false] rfl rfl (any_of HT_.out (by kernel_rfl)) (fun _ _ _ h => h) (Or.inl ⟨by rfl, ?_⟩) ?_ ?_
                          rotate_left
                          · intro w'
                            go_simp
                            with_reducible rfl
                          rotate_left
                          · simp only [Act.put, List.setIfInBounds_toArray, List.set_cons_zero, List.set_cons_succ, i64_w, i32_w]
                            rfl
                          refine pure_ (i := 21) (N := some 6) (v := ?_) (a' := ?_) #[true, true, true, true, true, true, true, true, true, true, true, true, true, true, true, true, true, true, true, true, true, true] rfl rfl (any_of HT_.out (by kernel_rfl)) (fun _ _ _ h => h) (Or.inl ⟨by rfl, ?_⟩) ?_ ?_
                          rotate_left
                          · intro w'
                            go_simp
                            with_reducible rfl
                          rotate_left
                          · simp only [Act.put, List.setIfInBounds_toArray, List.set_cons_zero, List.set_cons_succ, i64_w, i32_w]
                            rfl
                          refine done_ (done_of HT_.out (by kernel_rfl)) ?_
                          try go_wp2
                          go_ret
                          exact ⟨by first | rfl | (simp [errW_none, errW_some] <;> rfl) | (simp only [← hji19]; first | rfl | (simp [errW_none, errW_some] <;> rfl)) | (simp [*, errW_none, errW_some] <;> rfl), by repeat (first | (with_reducible first | exact HB.out | apply below_alloc | apply pw_below_drewN | apply below_drew1) | exact HB.out)⟩
                        · rw [if_neg c22] at H
                          exact absurd H (by simp)
                      · rw [if_neg c21] at H
                        exact absurd H (by simp)
                    · rw [if_neg c20] at H
                      exact absurd H (by simp)
                  · rw [if_neg c18] at H
                    exact absurd H (by simp)
                · rw [if_neg c16] at H
                  exact absurd H (by simp)
              · rw [if_neg c15] at H
                exact absurd H (by simp)

end Go.Proofs.YtffclnopnhodoaaDoor.P
