-- Written by pp.py, a program of this session, out of the translation: not trusted, Lean checks it.
import Derived.Test.YtllllfbnbndegaaQx0
import Derived.Test.YtllllfbnbndegaaQx2
import Derived.Test.YtllllfbnbndegaaU2
import Derived.Test.YtllllfbnbndegaaU4
import Derived.Test.YtllllfbnbndegaaU1
import Derived.Test.YtllllfbnbndegaaU3
import Derived.Test.YtllllfbnbndegaaShelf
namespace Go.Proofs.Ytllllfbnbndegaa.Q
open Go.RowKit Go.Proofs.YtllllfbnbndegaaW.PrintWords Go.Proofs.YtllllfbnbndegaaW.PrintLast Go.Proofs.YtllllfbnbndegaaW.PrintMore
attribute [local go_sem] max2_int min2_int max_two min_two max_three min_three max_four min_four   -- for this text's walks alone
set_option linter.unusedVariables false
set_option linter.unusedSimpArgs false

/-! ### impl_digitByte: function 109 -/
def impl_digitByte.f (a0 : Int) : Option (Bool) := if a0 ≥ 48 then (some (decide (a0 ≤ 57))) else (some false)
set_option maxHeartbeats 8000000 in
set_option maxRecDepth 100000 in
theorem impl_digitByte.calls (a0 : Int) (r : Bool) (w : World) (h : impl_digitByte.f a0 = some r) :
    Calls Try.prog 109 #[.int .u8 a0] w fun e w' => e = .returned (.bool r) ∧ Drawn0 w w' := by
  have H : (if a0 ≥ 48 then (some (decide (a0 ≤ 57))) else (some false)) = some r := h
  clear h
  by_cases c2 : a0 ≥ 48
  · rw [if_pos c2] at H
    have c2b0 : decide (48 ≤ a0) = true := decide_eq_true c2
    clear c2
    obtain rfl := Option.some.inj H
    go_enter Try.func109, Try.ntmps109
    go_wp2
    go_ret
    exact ⟨by first | rfl | (simp; done) | (simp [*]; done), by repeat (first | exact Drawn0.refl _ | apply Drawn0.step)⟩
  · rw [if_neg c2] at H
    have c2b0 : decide (48 ≤ a0) = false := decide_eq_false c2
    clear c2
    obtain rfl := Option.some.inj H
    go_enter Try.func109, Try.ntmps109
    go_wp2
    go_ret
    exact ⟨by first | rfl | (simp; done) | (simp [*]; done), by repeat (first | exact Drawn0.refl _ | apply Drawn0.step)⟩

/-! ### impl_letterByte: function 126 -/
def impl_letterByte.f (a0 : Int) : Option (Bool) := if a0 ≥ 97 then (if a0 ≤ 122 then (some true) else (if a0 ≥ 65 then (some (decide (a0 ≤ 90))) else (some false))) else (if a0 ≥ 65 then (some (decide (a0 ≤ 90))) else (some false))
set_option maxHeartbeats 8000000 in
set_option maxRecDepth 100000 in
theorem impl_letterByte.calls (a0 : Int) (r : Bool) (w : World) (h : impl_letterByte.f a0 = some r) :
    Calls Try.prog 126 #[.int .u8 a0] w fun e w' => e = .returned (.bool r) ∧ Drawn0 w w' := by
  have H : (if a0 ≥ 97 then (if a0 ≤ 122 then (some true) else (if a0 ≥ 65 then (some (decide (a0 ≤ 90))) else (some false))) else (if a0 ≥ 65 then (some (decide (a0 ≤ 90))) else (some false))) = some r := h
  clear h
  by_cases c2 : a0 ≥ 97
  · rw [if_pos c2] at H
    have c2b0 : decide (97 ≤ a0) = true := decide_eq_true c2
    clear c2
    by_cases c3 : a0 ≤ 122
    · rw [if_pos c3] at H
      have c3b0 : decide (a0 ≤ 122) = true := decide_eq_true c3
      clear c3
      obtain rfl := Option.some.inj H
      go_enter Try.func126, Try.ntmps126
      go_wp2
      go_ret
      exact ⟨by first | rfl | (simp; done) | (simp [*]; done), by repeat (first | exact Drawn0.refl _ | apply Drawn0.step)⟩
    · rw [if_neg c3] at H
      have c3b0 : decide (a0 ≤ 122) = false := decide_eq_false c3
      clear c3
      by_cases c4 : a0 ≥ 65
      · rw [if_pos c4] at H
        have c4b0 : decide (65 ≤ a0) = true := decide_eq_true c4
        clear c4
        obtain rfl := Option.some.inj H
        go_enter Try.func126, Try.ntmps126
        go_wp2
        go_ret
        exact ⟨by first | rfl | (simp; done) | (simp [*]; done), by repeat (first | exact Drawn0.refl _ | apply Drawn0.step)⟩
      · rw [if_neg c4] at H
        have c4b0 : decide (65 ≤ a0) = false := decide_eq_false c4
        clear c4
        obtain rfl := Option.some.inj H
        go_enter Try.func126, Try.ntmps126
        go_wp2
        go_ret
        exact ⟨by first | rfl | (simp; done) | (simp [*]; done), by repeat (first | exact Drawn0.refl _ | apply Drawn0.step)⟩
  · rw [if_neg c2] at H
    have c2b0 : decide (97 ≤ a0) = false := decide_eq_false c2
    clear c2
    by_cases c5 : a0 ≥ 65
    · rw [if_pos c5] at H
      have c5b0 : decide (65 ≤ a0) = true := decide_eq_true c5
      clear c5
      obtain rfl := Option.some.inj H
      go_enter Try.func126, Try.ntmps126
      go_wp2
      go_ret
      exact ⟨by first | rfl | (simp; done) | (simp [*]; done), by repeat (first | exact Drawn0.refl _ | apply Drawn0.step)⟩
    · rw [if_neg c5] at H
      have c5b0 : decide (65 ≤ a0) = false := decide_eq_false c5
      clear c5
      obtain rfl := Option.some.inj H
      go_enter Try.func126, Try.ntmps126
      go_wp2
      go_ret
      exact ⟨by first | rfl | (simp; done) | (simp [*]; done), by repeat (first | exact Drawn0.refl _ | apply Drawn0.step)⟩

/-! ### impl_wordByte: function 110 -/
def impl_wordByte.f (a0 : Int) : Option (Bool) := (impl_letterByte.f a0).bind fun t193 => (if t193 = true then (some true) else ((impl_digitByte.f a0).bind fun t194 => (if t194 = true then (some true) else (some (a0 == 95)))))
set_option maxHeartbeats 8000000 in
set_option maxRecDepth 100000 in
theorem impl_wordByte.calls (a0 : Int) (r : Bool) (w : World) (h : impl_wordByte.f a0 = some r) :
    Calls Try.prog 110 #[.int .u8 a0] w fun e w' => e = .returned (.bool r) ∧ Drawn0 w w' := by
  have H : ((impl_letterByte.f a0).bind fun t193 => (if t193 = true then (some true) else ((impl_digitByte.f a0).bind fun t194 => (if t194 = true then (some true) else (some (a0 == 95)))))) = some r := h
  clear h
  replace H := Option.bind_eq_some_iff.mp H
  obtain ⟨t193, A20, H⟩ := H
  replace H : (if t193 = true then (some true) else ((impl_digitByte.f a0).bind fun t194 => (if t194 = true then (some true) else (some (a0 == 95))))) = some r := H
  have A2 := Aside0.mk A20
  clear A20
  by_cases c3 : t193 = true
  · subst c3
    have H1 : (some true) = some r := by rw [if_pos rfl] at H; exact H
    clear H
    have H := H1
    clear H1
    obtain rfl := Option.some.inj H
    go_enter Try.func110, Try.ntmps110
    go_wp2_with (first | ((with_reducible refine gate_callee (f := 126) rfl ?_); refine goesL_ (some 4) rfl rfl Try.func126 (by kernel_rfl) rfl #[.int .u8 a0] rfl (by (try simp only [List.map_toArray, List.map_cons, List.map_nil]); first | done | rfl | (simp only [List.length_drop, List.length_take]; rfl)) ?_; (with_reducible refine (impl_letterByte.calls a0 true _ A2.out).mono ?_); rintro e w' ⟨rfl, ⟨nd, rfl⟩⟩; refine ⟨_, rfl, ?_⟩))
    go_ret
    exact ⟨by first | rfl | (simp; done) | (simp [*]; done), by repeat (first | exact Drawn0.refl _ | apply Drawn0.step)⟩
  · replace c3 := Bool.eq_false_iff.mpr c3
    subst c3
    have H1 : ((impl_digitByte.f a0).bind fun t194 => (if t194 = true then (some true) else (some (a0 == 95)))) = some r := by rw [if_neg (show ¬ (false = true) by decide)] at H; exact H
    clear H
    have H := H1
    clear H1
    replace H := Option.bind_eq_some_iff.mp H
    obtain ⟨t194, A40, H⟩ := H
    replace H : (if t194 = true then (some true) else (some (a0 == 95))) = some r := H
    have A4 := Aside0.mk A40
    clear A40
    by_cases c5 : t194 = true
    · subst c5
      have H1 : (some true) = some r := by rw [if_pos rfl] at H; exact H
      clear H
      have H := H1
      clear H1
      obtain rfl := Option.some.inj H
      go_enter Try.func110, Try.ntmps110
      go_wp2_with (first | ((with_reducible refine gate_callee (f := 126) rfl ?_); refine goesL_ (some 4) rfl rfl Try.func126 (by kernel_rfl) rfl #[.int .u8 a0] rfl (by (try simp only [List.map_toArray, List.map_cons, List.map_nil]); first | done | rfl | (simp only [List.length_drop, List.length_take]; rfl)) ?_; (with_reducible refine (impl_letterByte.calls a0 false _ A2.out).mono ?_); rintro e w' ⟨rfl, ⟨nd, rfl⟩⟩; refine ⟨_, rfl, ?_⟩) | (go_at_call 109; (with_reducible refine (impl_digitByte.calls a0 true _ A4.out).mono ?_); rintro e w' ⟨rfl, ⟨nd, rfl⟩⟩))
      go_ret
      exact ⟨by first | rfl | (simp; done) | (simp [*]; done), by repeat (first | exact Drawn0.refl _ | apply Drawn0.step)⟩
    · replace c5 := Bool.eq_false_iff.mpr c5
      subst c5
      have H1 : (some (a0 == 95)) = some r := by rw [if_neg (show ¬ (false = true) by decide)] at H; exact H
      clear H
      have H := H1
      clear H1
      obtain rfl := Option.some.inj H
      go_enter Try.func110, Try.ntmps110
      go_wp2_with (first | ((with_reducible refine gate_callee (f := 126) rfl ?_); refine goesL_ (some 4) rfl rfl Try.func126 (by kernel_rfl) rfl #[.int .u8 a0] rfl (by (try simp only [List.map_toArray, List.map_cons, List.map_nil]); first | done | rfl | (simp only [List.length_drop, List.length_take]; rfl)) ?_; (with_reducible refine (impl_letterByte.calls a0 false _ A2.out).mono ?_); rintro e w' ⟨rfl, ⟨nd, rfl⟩⟩; refine ⟨_, rfl, ?_⟩) | (go_at_call 109; (with_reducible refine (impl_digitByte.calls a0 false _ A4.out).mono ?_); rintro e w' ⟨rfl, ⟨nd, rfl⟩⟩))
      go_ret
      exact ⟨by first | rfl | (simp; done) | (simp [*]; done), by repeat (first | exact Drawn0.refl _ | apply Drawn0.step)⟩

/-! ### impl_wordOf: function 91 -/
def impl_wordOf.l0 : Nat → ByteArray → Int → Option (ByteArray × ByteArray)
  | 0, _, _ => none
  | k + 1, x0, x4 => if x4 < (x0.size : Int) then (if 0 ≤ x4 then ((impl_wordByte.f (bt x0 x4)).bind fun t195 => (if t195 = true then (impl_wordOf.l0 k x0 (wrap64 (x4 + 1))) else (if x4 ≤ (x0.size : Int) then (some (x0.extract 0 (x4 : Int).toNat, x0.extract (x4 : Int).toNat x0.size)) else (none)))) else (none)) else (if 0 ≤ x4 then (if x4 ≤ (x0.size : Int) then (some (x0.extract 0 (x4 : Int).toNat, x0.extract (x4 : Int).toNat x0.size)) else (none)) else (none))
def impl_wordOf.f (k : Nat) (a0 : ByteArray) : Option (ByteArray × ByteArray) := impl_wordOf.l0 k a0 0
theorem impl_wordOf.mono_l : ∀ k, (∀ y0 y1, LeO (impl_wordOf.l0 k y0 y1) (impl_wordOf.l0 (k + 1) y0 y1))
  | 0 => fun _ _ r h => by simp [impl_wordOf.l0] at h
  | k + 1 => by
    have ih0 := impl_wordOf.mono_l k
    · intro y0 y1
      unfold impl_wordOf.l0
      repeat' first
      | (with_reducible exact ih0 _ _)
      | (with_reducible exact LeO.refl _)
      | (with_reducible exact LeO.none _)
      | (with_reducible refine LeO.ite ?_ ?_)
      | (with_reducible refine LeO.bind ?_ (fun _ => ?_))
      | exact ih0 _ _
      | exact LeO.none _
      | refine LeO.ite ?_ ?_
      | refine LeO.bind ?_ (fun _ => ?_)
theorem impl_wordOf.mono : ∀ a0 k, LeO (impl_wordOf.f k a0) (impl_wordOf.f (k + 1) a0) := by
  intro a0 k
  have ih0 := impl_wordOf.mono_l k
  unfold impl_wordOf.f
  repeat' first
      | (with_reducible exact ih0 _ _)
      | (with_reducible exact LeO.refl _)
      | (with_reducible exact LeO.none _)
      | (with_reducible refine LeO.ite ?_ ?_)
      | (with_reducible refine LeO.bind ?_ (fun _ => ?_))
      | exact ih0 _ _
      | exact LeO.none _
      | refine LeO.ite ?_ ?_
      | refine LeO.bind ?_ (fun _ => ?_)
set_option maxHeartbeats 8000000 in
set_option maxRecDepth 100000 in
theorem impl_wordOf.calls (k : Nat) (a0 : ByteArray) (r1 : ByteArray) (r2 : ByteArray) (w : World) (h : impl_wordOf.f k a0 = some (r1, r2)) :
    Calls Try.prog 91 #[.string a0] w fun e w' => e = .returned (.tuple #[.string r1, .string r2]) ∧ Drawn0 w w' := by
  have H : (impl_wordOf.l0 k a0 0) = some (r1, r2) := h
  clear h
  have H' := Aside0.mk H
  clear H
  go_enter Try.func91, Try.ntmps91
  go_wp2
  repeat (go_quiet (fail); try go_wp2)
  go_loopg [4] k (fun kq v4 w' => ∃ (x4_1 : Int), v4 = .int .i64 x4_1 ∧ Aside0 (impl_wordOf.l0 kq a0 x4_1 = some (r1, r2)) ∧ Aside0 (kq ≤ k) ∧ Drawn0 w w')
  case atStart => exact ⟨(0), (by first | rfl | (simp; done) | (simp [*]; done)), H', ⟨Nat.le_refl _⟩, by repeat (first | exact Drawn0.refl _ | apply Drawn0.step)⟩
  case round =>
    clear H'
    obtain ⟨x4_1, rfl, HA, HK1, ⟨m1, rfl⟩⟩ := hrel
    cases gk with
    | zero => exact absurd HA.out (by simp [impl_wordOf.l0])
    | succ k1 =>
      have H := HA.out
      clear HA
      simp only [impl_wordOf.l0] at H
      by_cases c2 : x4_1 < (a0.size : Int)
      · rw [if_pos c2] at H
        have c2b0 : decide (x4_1 < (a0.size : Int)) = true := decide_eq_true c2
        clear c2
        by_cases c3 : 0 ≤ x4_1
        · rw [if_pos c3] at H
          have c3b0 : decide (0 ≤ x4_1) = true := decide_eq_true c3
          clear c3
          replace H := Option.bind_eq_some_iff.mp H
          obtain ⟨t195, A50, H⟩ := H
          replace H : (if t195 = true then (impl_wordOf.l0 k1 a0 (wrap64 (x4_1 + 1))) else (if x4_1 ≤ (a0.size : Int) then (some (a0.extract 0 (x4_1 : Int).toNat, a0.extract (x4_1 : Int).toNat a0.size)) else (none))) = some (r1, r2) := H
          have A5 := Aside0.mk A50
          clear A50
          by_cases c6 : t195 = true
          · subst c6
            have H1 : (impl_wordOf.l0 k1 a0 (wrap64 (x4_1 + 1))) = some (r1, r2) := by rw [if_pos rfl] at H; exact H
            clear H
            have H := H1
            clear H1
            have H' := Aside0.mk H
            clear H
            have p4 : 0 ≤ (x4_1 : Int) := of_decide_eq_true (by first | (with_reducible assumption) | assumption)
            have q4 : x4_1 < (a0.size : Int) := of_decide_eq_true (by first | (with_reducible assumption) | assumption)
            have hx4 := bt_at a0 x4_1
            replace p4 := eq_true p4
            replace q4 := eq_true q4
            go_wp2_with (first | (go_at_call 110; (with_reducible refine (impl_wordByte.calls (bt a0 x4_1) true _ A5.out).mono ?_); rintro e w' ⟨rfl, ⟨nd, rfl⟩⟩; (try first | exact ⟨rfl, _, World.drewN_drewN _ _ _⟩ | exact ⟨rfl, _, Eq.trans (World.drewN_drewN _ _ _) (congrArg (World.drewN _) (Nat.add_assoc _ _ _))⟩)))
            repeat (go_quiet (first | (go_at_call 110; (with_reducible refine (impl_wordByte.calls (bt a0 x4_1) true _ A5.out).mono ?_); rintro e w' ⟨rfl, ⟨nd, rfl⟩⟩; (try first | exact ⟨rfl, _, World.drewN_drewN _ _ _⟩ | exact ⟨rfl, _, Eq.trans (World.drewN_drewN _ _ _) (congrArg (World.drewN _) (Nat.add_assoc _ _ _))⟩))); try go_wp2_with (first | (go_at_call 110; (with_reducible refine (impl_wordByte.calls (bt a0 x4_1) true _ A5.out).mono ?_); rintro e w' ⟨rfl, ⟨nd, rfl⟩⟩; (try first | exact ⟨rfl, _, World.drewN_drewN _ _ _⟩ | exact ⟨rfl, _, Eq.trans (World.drewN_drewN _ _ _) (congrArg (World.drewN _) (Nat.add_assoc _ _ _))⟩))))
            go_roundg k1
            case measure => have := HK1.out; omega
            case rel => exact ⟨(wrap64 (x4_1 + 1)), (by first | rfl | (simp; done) | (simp [*]; done)), H', ⟨by have := HK1.out; omega⟩, by repeat (first | exact Drawn0.refl _ | apply Drawn0.step)⟩
          · replace c6 := Bool.eq_false_iff.mpr c6
            subst c6
            have H1 : (if x4_1 ≤ (a0.size : Int) then (some (a0.extract 0 (x4_1 : Int).toNat, a0.extract (x4_1 : Int).toNat a0.size)) else (none)) = some (r1, r2) := by rw [if_neg (show ¬ (false = true) by decide)] at H; exact H
            clear H
            have H := H1
            clear H1
            have c7b0 := eq_true (of_decide_eq_true (by first | (with_reducible assumption) | assumption) : 0 ≤ x4_1)
            by_cases c8 : x4_1 ≤ (a0.size : Int)
            · rw [if_pos c8] at H
              have c8b0 := eq_true c8
              have c8b1 : decide (x4_1 ≤ (a0.size : Int)) = true := decide_eq_true c8
              clear c8
              have c9b0 := eq_true (of_decide_eq_true (by first | (with_reducible assumption) | assumption) : 0 ≤ x4_1)
              have c10b0 := eq_true (of_decide_eq_true (by first | (with_reducible assumption) | assumption) : x4_1 ≤ (a0.size : Int))
              simp only [Option.some.injEq, Prod.mk.injEq] at H
              obtain ⟨rfl, rfl⟩ := H
              have p4 : 0 ≤ (x4_1 : Int) := of_decide_eq_true (by first | (with_reducible assumption) | assumption)
              have q4 : x4_1 < (a0.size : Int) := of_decide_eq_true (by first | (with_reducible assumption) | assumption)
              have hx4 := bt_at a0 x4_1
              replace p4 := eq_true p4
              replace q4 := eq_true q4
              go_wp2_with (first | (go_at_call 110; (with_reducible refine (impl_wordByte.calls (bt a0 x4_1) false _ A5.out).mono ?_); rintro e w' ⟨rfl, ⟨nd, rfl⟩⟩; (try first | exact ⟨rfl, _, World.drewN_drewN _ _ _⟩ | exact ⟨rfl, _, Eq.trans (World.drewN_drewN _ _ _) (congrArg (World.drewN _) (Nat.add_assoc _ _ _))⟩)))
              repeat (go_quiet (first | (go_at_call 110; (with_reducible refine (impl_wordByte.calls (bt a0 x4_1) false _ A5.out).mono ?_); rintro e w' ⟨rfl, ⟨nd, rfl⟩⟩; (try first | exact ⟨rfl, _, World.drewN_drewN _ _ _⟩ | exact ⟨rfl, _, Eq.trans (World.drewN_drewN _ _ _) (congrArg (World.drewN _) (Nat.add_assoc _ _ _))⟩))); try go_wp2_with (first | (go_at_call 110; (with_reducible refine (impl_wordByte.calls (bt a0 x4_1) false _ A5.out).mono ?_); rintro e w' ⟨rfl, ⟨nd, rfl⟩⟩; (try first | exact ⟨rfl, _, World.drewN_drewN _ _ _⟩ | exact ⟨rfl, _, Eq.trans (World.drewN_drewN _ _ _) (congrArg (World.drewN _) (Nat.add_assoc _ _ _))⟩))))
              go_ret2
              exact ⟨by first | rfl | (simp; done) | (simp [*]; done), by repeat (first | exact Drawn0.refl _ | apply Drawn0.step)⟩
            · rw [if_neg c8] at H
              exact absurd H (by simp)
        · rw [if_neg c3] at H
          exact absurd H (by simp)
      · rw [if_neg c2] at H
        have c2b0 : decide (x4_1 < (a0.size : Int)) = false := decide_eq_false c2
        clear c2
        by_cases c11 : 0 ≤ x4_1
        · rw [if_pos c11] at H
          have c11b0 := eq_true c11
          have c11b1 : decide (0 ≤ x4_1) = true := decide_eq_true c11
          clear c11
          by_cases c12 : x4_1 ≤ (a0.size : Int)
          · rw [if_pos c12] at H
            have c12b0 := eq_true c12
            have c12b1 : decide (x4_1 ≤ (a0.size : Int)) = true := decide_eq_true c12
            clear c12
            have c13b0 := eq_true (of_decide_eq_true (by first | (with_reducible assumption) | assumption) : 0 ≤ x4_1)
            have c14b0 := eq_true (of_decide_eq_true (by first | (with_reducible assumption) | assumption) : x4_1 ≤ (a0.size : Int))
            simp only [Option.some.injEq, Prod.mk.injEq] at H
            obtain ⟨rfl, rfl⟩ := H
            go_wp2
            repeat (go_quiet (fail); try go_wp2)
            go_ret2
            exact ⟨by first | rfl | (simp; done) | (simp [*]; done), by repeat (first | exact Drawn0.refl _ | apply Drawn0.step)⟩
          · rw [if_neg c12] at H
            exact absurd H (by simp)
        · rw [if_neg c11] at H
          exact absurd H (by simp)

/-! ### impl_isName: function 69 -/
mutual
def impl_isName.j0 : Nat → ByteArray → Bool → Option (Bool)
  | 0, _, _ => none
  | k + 1, x0, x15 => if x15 = true then (some false) else (impl_isName.l0 k x0 (x0.size : Int) 0)
def impl_isName.l0 : Nat → ByteArray → Int → Int → Option (Bool)
  | 0, _, _, _ => none
  | k + 1, x0, x17, x18 => if x18 < x17 then (if 0 ≤ x18 then (if x18 < (x0.size : Int) then ((impl_wordByte.f (bt x0 x18)).bind fun t197 => (if t197 = true then (impl_isName.l0 k x0 x17 (wrap64 (x18 + 1))) else (some false))) else (none)) else (none)) else (some true)
end
def impl_isName.f (k : Nat) (a0 : ByteArray) : Option (Bool) := if a0.toList = ([] : List UInt8) then (impl_isName.j0 k a0 true) else (if (a0.size : Int) > 40 then (impl_isName.j0 k a0 true) else (if 0 < (a0.size : Int) then ((impl_digitByte.f (bt a0 0)).bind fun t196 => (impl_isName.j0 k a0 t196)) else (none)))
theorem impl_isName.mono_l : ∀ k, (∀ y0 y1, LeO (impl_isName.j0 k y0 y1) (impl_isName.j0 (k + 1) y0 y1)) ∧ (∀ y0 y1 y2, LeO (impl_isName.l0 k y0 y1 y2) (impl_isName.l0 (k + 1) y0 y1 y2))
  | 0 => ⟨fun _ _ r h => by simp [impl_isName.j0] at h, fun _ _ _ r h => by simp [impl_isName.l0] at h⟩
  | k + 1 => by
    obtain ⟨ih0, ih1⟩ := impl_isName.mono_l k
    refine ⟨?_, ?_⟩
    · intro y0 y1
      unfold impl_isName.j0
      repeat' first
      | (with_reducible exact ih0 _ _)
      | (with_reducible exact ih1 _ _ _)
      | (with_reducible exact LeO.refl _)
      | (with_reducible exact LeO.none _)
      | (with_reducible refine LeO.ite ?_ ?_)
      | (with_reducible refine LeO.bind ?_ (fun _ => ?_))
      | exact ih0 _ _
      | exact ih1 _ _ _
      | exact LeO.none _
      | refine LeO.ite ?_ ?_
      | refine LeO.bind ?_ (fun _ => ?_)
    · intro y0 y1 y2
      unfold impl_isName.l0
      repeat' first
      | (with_reducible exact ih0 _ _)
      | (with_reducible exact ih1 _ _ _)
      | (with_reducible exact LeO.refl _)
      | (with_reducible exact LeO.none _)
      | (with_reducible refine LeO.ite ?_ ?_)
      | (with_reducible refine LeO.bind ?_ (fun _ => ?_))
      | exact ih0 _ _
      | exact ih1 _ _ _
      | exact LeO.none _
      | refine LeO.ite ?_ ?_
      | refine LeO.bind ?_ (fun _ => ?_)
theorem impl_isName.mono : ∀ a0 k, LeO (impl_isName.f k a0) (impl_isName.f (k + 1) a0) := by
  intro a0 k
  obtain ⟨ih0, ih1⟩ := impl_isName.mono_l k
  unfold impl_isName.f
  repeat' first
      | (with_reducible exact ih0 _ _)
      | (with_reducible exact ih1 _ _ _)
      | (with_reducible exact LeO.refl _)
      | (with_reducible exact LeO.none _)
      | (with_reducible refine LeO.ite ?_ ?_)
      | (with_reducible refine LeO.bind ?_ (fun _ => ?_))
      | exact ih0 _ _
      | exact ih1 _ _ _
      | exact LeO.none _
      | refine LeO.ite ?_ ?_
      | refine LeO.bind ?_ (fun _ => ?_)
set_option maxHeartbeats 8000000 in
set_option maxRecDepth 100000 in
theorem impl_isName.calls (k : Nat) (a0 : ByteArray) (r : Bool) (w : World) (h : impl_isName.f k a0 = some r) :
    Calls Try.prog 69 #[.string a0] w fun e w' => e = .returned (.bool r) ∧ Drawn0 w w' := by
  have H : (if a0.toList = ([] : List UInt8) then (impl_isName.j0 k a0 true) else (if (a0.size : Int) > 40 then (impl_isName.j0 k a0 true) else (if 0 < (a0.size : Int) then ((impl_digitByte.f (bt a0 0)).bind fun t196 => (impl_isName.j0 k a0 t196)) else (none)))) = some r := h
  clear h
  have HC2 := Aside0.mk H
  clear H
  go_enter Try.func69, Try.ntmps69
  go_upto_region 1 with (fail)
  go_cut [15] (fun v15 wc => ∃ (kq : Nat) (x15_1 : Bool), v15 = .bool x15_1 ∧ Aside0 (impl_isName.j0 kq a0 x15_1 = some r) ∧ Aside0 (kq ≤ k) ∧ Drawn0 w wc)
  case first =>
    have H := HC2.out
    clear HC2
    by_cases c3 : a0.toList = ([] : List UInt8)
    · rw [if_pos c3] at H
      have c3b0 : (a0.toList == ([] : List UInt8)) = true := beq_iff_eq.mpr c3
      have c3b1 : (a0.toList != ([] : List UInt8)) = false := bne_eq_false_iff_eq.mpr c3
      (try (have c3b2 : List.isEmpty (a0.toList) = true := by simpa using c3))
      clear c3
      (first | rw [c3b0] | (simp only [i64_w, i32_w]; rw [c3b0]) | rw [c3b2] | skip)
      have H' := Aside0.mk H
      clear H
      go_wp2
      go_meet
      case rel => exact ⟨_, (true), (by first | rfl | (simp; done) | (simp [*]; done)), H', ⟨by first | omega | exact Nat.le_refl _⟩, by repeat (first | exact Drawn0.refl _ | apply Drawn0.step)⟩
    · rw [if_neg c3] at H
      have c3b0 : (a0.toList == ([] : List UInt8)) = false := beq_eq_false_iff_ne.mpr c3
      have c3b1 : (a0.toList != ([] : List UInt8)) = true := bne_iff_ne.mpr c3
      (try (have c3b2 : List.isEmpty (a0.toList) = false := by simpa using c3))
      (first | rw [c3b0] | (simp only [i64_w, i32_w]; rw [c3b0]) | rw [c3b2] | skip)
      by_cases c4 : (a0.size : Int) > 40
      · rw [if_pos c4] at H
        have c4b0 : decide (40 < (a0.size : Int)) = true := decide_eq_true c4
        have c4b1 : decide (40 < a0.size) = true := decide_eq_true (by omega)
        clear c4
        have H' := Aside0.mk H
        clear H
        go_wp2
        go_meet
        case rel => exact ⟨_, (true), (by first | rfl | (simp; done) | (simp [*]; done)), H', ⟨by first | omega | exact Nat.le_refl _⟩, by repeat (first | exact Drawn0.refl _ | apply Drawn0.step)⟩
      · rw [if_neg c4] at H
        have c4b0 : decide (40 < (a0.size : Int)) = false := decide_eq_false c4
        have c4b1 : decide (40 < a0.size) = false := decide_eq_false (by omega)
        clear c4
        by_cases c5 : 0 < (a0.size : Int)
        · rw [if_pos c5] at H
          have c5b0 : decide (0 < (a0.size : Int)) = true := decide_eq_true c5
          have c5b1 : decide (0 < a0.size) = true := decide_eq_true (by omega)
          clear c5
          replace H := Option.bind_eq_some_iff.mp H
          obtain ⟨t196, A70, H⟩ := H
          replace H : (impl_isName.j0 k a0 t196) = some r := H
          have A7 := Aside0.mk A70
          clear A70
          have H' := Aside0.mk H
          clear H
          have p6 : 0 ≤ (0 : Int) := (by omega)
          have q6 : 0 < a0.size := (by have : (0 : Int) < (a0.size : Int) := of_decide_eq_true (by first | (with_reducible assumption) | assumption); omega)
          have hx6 : ∀ h : 0 < a0.size, ((a0[0]'h).toNat : Int) = bt a0 0 := bt_at a0 0
          clear p6
          have qi6 : (0 < (a0.size : Int)) = True := eq_true (of_decide_eq_true (by first | (with_reducible assumption) | assumption))
          replace q6 := eq_true q6
          go_wp2_with (first | (go_at_call 109; (with_reducible refine (impl_digitByte.calls (bt a0 0) t196 _ A7.out).mono ?_); rintro e w' ⟨rfl, ⟨nd, rfl⟩⟩))
          go_meet
          case rel => exact ⟨_, (t196), (by first | rfl | (simp; done) | (simp [*]; done)), H', ⟨by first | omega | exact Nat.le_refl _⟩, by repeat (first | exact Drawn0.refl _ | apply Drawn0.step)⟩
        · rw [if_neg c5] at H
          exact absurd H (by simp)
  case rest =>
    clear HC2
    try clear p2
    try clear c3
    try clear c3b0
    try clear c3b1
    try clear c3b2
    try clear c4
    try clear c4b0
    try clear c4b1
    try clear c5
    try clear c5b0
    try clear c5b1
    try clear c6
    try clear p6
    try clear q6
    try clear hx6
    try clear qi6
    try clear p6
    try clear q6
    obtain ⟨kq, x15_1, rfl, HA, HJ1, ⟨mc1, rfl⟩⟩ := hcut
    cases kq with
    | zero => exact absurd HA.out (by simp [impl_isName.j0])
    | succ kj1 =>
      have H := HA.out
      clear HA
      simp only [impl_isName.j0] at H
      by_cases c8 : x15_1 = true
      · subst c8
        have H1 : (some false) = some r := by rw [if_pos rfl] at H; exact H
        clear H
        have H := H1
        clear H1
        obtain rfl := Option.some.inj H
        go_wp2
        go_ret
        exact ⟨by first | rfl | (simp; done) | (simp [*]; done), by repeat (first | exact Drawn0.refl _ | apply Drawn0.step)⟩
      · replace c8 := Bool.eq_false_iff.mpr c8
        subst c8
        have H1 : (impl_isName.l0 kj1 a0 (a0.size : Int) 0) = some r := by rw [if_neg (show ¬ (false = true) by decide)] at H; exact H
        clear H
        have H := H1
        clear H1
        have H' := Aside0.mk H
        clear H
        go_wp2
        go_loopg [18] kj1 (fun kq v18 w' => ∃ (x18_2 : Int), v18 = .int .i64 x18_2 ∧ Aside0 (impl_isName.l0 kq a0 (a0.size : Int) x18_2 = some r) ∧ Aside0 (kq ≤ kj1) ∧ Drawn0 w w')
        case atStart => exact ⟨(0), (by first | rfl | (simp; done) | (simp [*]; done)), H', ⟨Nat.le_refl _⟩, by repeat (first | exact Drawn0.refl _ | apply Drawn0.step)⟩
        case round =>
          clear H'
          try clear c1
          try clear p2
          try clear c3
          try clear c3b0
          try clear c3b1
          try clear c3b2
          try clear c4
          try clear c4b0
          try clear c4b1
          try clear c5
          try clear c5b0
          try clear c5b1
          try clear c6
          try clear p6
          try clear q6
          try clear hx6
          try clear qi6
          try clear c8
          try clear p2
          try clear p6
          try clear q6
          obtain ⟨x18_2, rfl, HA, HK2, ⟨m2, rfl⟩⟩ := hrel
          cases gk with
          | zero => exact absurd HA.out (by simp [impl_isName.l0])
          | succ k2 =>
            have H := HA.out
            clear HA
            simp only [impl_isName.l0] at H
            by_cases c9 : x18_2 < (a0.size : Int)
            · rw [if_pos c9] at H
              have c9b0 : decide (x18_2 < (a0.size : Int)) = true := decide_eq_true c9
              clear c9
              by_cases c10 : 0 ≤ x18_2
              · rw [if_pos c10] at H
                have c10b0 : decide (0 ≤ x18_2) = true := decide_eq_true c10
                clear c10
                by_cases c11 : x18_2 < (a0.size : Int)
                · rw [if_pos c11] at H
                  have c11b0 : decide (x18_2 < (a0.size : Int)) = true := decide_eq_true c11
                  clear c11
                  replace H := Option.bind_eq_some_iff.mp H
                  obtain ⟨t197, A130, H⟩ := H
                  replace H : (if t197 = true then (impl_isName.l0 k2 a0 (a0.size : Int) (wrap64 (x18_2 + 1))) else (some false)) = some r := H
                  have A13 := Aside0.mk A130
                  clear A130
                  by_cases c14 : t197 = true
                  · subst c14
                    have H1 : (impl_isName.l0 k2 a0 (a0.size : Int) (wrap64 (x18_2 + 1))) = some r := by rw [if_pos rfl] at H; exact H
                    clear H
                    have H := H1
                    clear H1
                    have H' := Aside0.mk H
                    clear H
                    have p12 : 0 ≤ (x18_2 : Int) := of_decide_eq_true (by first | (with_reducible assumption) | assumption)
                    have q12 : x18_2 < (a0.size : Int) := of_decide_eq_true (by first | (with_reducible assumption) | assumption)
                    have hx12 := bt_at a0 x18_2
                    replace p12 := eq_true p12
                    replace q12 := eq_true q12
                    go_wp2_with (first | ((with_reducible refine gate_callee (f := 110) rfl ?_); refine goesL_ (some 24) rfl rfl Try.func110 (by kernel_rfl) rfl #[.int .u8 (bt a0 x18_2)] rfl (by (try simp only [List.map_toArray, List.map_cons, List.map_nil]); first | done | rfl | (simp only [List.length_drop, List.length_take]; rfl)) ?_; (with_reducible refine (impl_wordByte.calls (bt a0 x18_2) true _ A13.out).mono ?_); rintro e w' ⟨rfl, ⟨nd, rfl⟩⟩; refine ⟨_, rfl, ?_⟩))
                    go_roundg k2
                    case measure => have := HJ1.out; have := HK2.out; omega
                    case rel => exact ⟨(wrap64 (x18_2 + 1)), (by first | rfl | (simp; done) | (simp [*]; done)), H', ⟨by have := HJ1.out; have := HK2.out; omega⟩, by repeat (first | exact Drawn0.refl _ | apply Drawn0.step)⟩
                  · replace c14 := Bool.eq_false_iff.mpr c14
                    subst c14
                    have H1 : (some false) = some r := by rw [if_neg (show ¬ (false = true) by decide)] at H; exact H
                    clear H
                    have H := H1
                    clear H1
                    obtain rfl := Option.some.inj H
                    have p12 : 0 ≤ (x18_2 : Int) := of_decide_eq_true (by first | (with_reducible assumption) | assumption)
                    have q12 : x18_2 < (a0.size : Int) := of_decide_eq_true (by first | (with_reducible assumption) | assumption)
                    have hx12 := bt_at a0 x18_2
                    replace p12 := eq_true p12
                    replace q12 := eq_true q12
                    go_wp2_with (first | ((with_reducible refine gate_callee (f := 110) rfl ?_); refine goesL_ (some 24) rfl rfl Try.func110 (by kernel_rfl) rfl #[.int .u8 (bt a0 x18_2)] rfl (by (try simp only [List.map_toArray, List.map_cons, List.map_nil]); first | done | rfl | (simp only [List.length_drop, List.length_take]; rfl)) ?_; (with_reducible refine (impl_wordByte.calls (bt a0 x18_2) false _ A13.out).mono ?_); rintro e w' ⟨rfl, ⟨nd, rfl⟩⟩; refine ⟨_, rfl, ?_⟩))
                    go_ret
                    exact ⟨by first | rfl | (simp; done) | (simp [*]; done), by repeat (first | exact Drawn0.refl _ | apply Drawn0.step)⟩
                · rw [if_neg c11] at H
                  exact absurd H (by simp)
              · rw [if_neg c10] at H
                exact absurd H (by simp)
            · rw [if_neg c9] at H
              have c9b0 : decide (x18_2 < (a0.size : Int)) = false := decide_eq_false c9
              clear c9
              obtain rfl := Option.some.inj H
              go_wp2
              go_ret
              exact ⟨by first | rfl | (simp; done) | (simp [*]; done), by repeat (first | exact Drawn0.refl _ | apply Drawn0.step)⟩

/-! ### stringslite_HasPrefix: function 117 -/
def stringslite_HasPrefix.f (a0 : ByteArray) (a1 : ByteArray) : Option (Bool) := if (a0.size : Int) ≥ (a1.size : Int) then (if 0 ≤ (a1.size : Int) then (if (a1.size : Int) ≤ (a0.size : Int) then (some ((a0.extract 0 ((a1.size : Int) : Int).toNat).toList == a1.toList)) else (none)) else (none)) else (some false)
set_option maxHeartbeats 8000000 in
set_option maxRecDepth 100000 in
theorem stringslite_HasPrefix.calls (a0 : ByteArray) (a1 : ByteArray) (r : Bool) (w : World) (h : stringslite_HasPrefix.f a0 a1 = some r) :
    Calls Try.prog 117 #[.string a0, .string a1] w fun e w' => e = .returned (.bool r) ∧ Drawn0 w w' := by
  have H : (if (a0.size : Int) ≥ (a1.size : Int) then (if 0 ≤ (a1.size : Int) then (if (a1.size : Int) ≤ (a0.size : Int) then (some ((a0.extract 0 ((a1.size : Int) : Int).toNat).toList == a1.toList)) else (none)) else (none)) else (some false)) = some r := h
  clear h
  by_cases c3 : (a0.size : Int) ≥ (a1.size : Int)
  · rw [if_pos c3] at H
    have c3b0 : decide ((a1.size : Int) ≤ (a0.size : Int)) = true := decide_eq_true c3
    have c3b1 : decide (a1.size ≤ a0.size) = true := decide_eq_true (Int.ofNat_le.mp c3)
    clear c3
    by_cases c4 : 0 ≤ (a1.size : Int)
    · rw [if_pos c4] at H
      have c4b0 := eq_true c4
      have c4b1 : decide (0 ≤ (a1.size : Int)) = true := decide_eq_true c4
      clear c4
      by_cases c5 : (a1.size : Int) ≤ (a0.size : Int)
      · rw [if_pos c5] at H
        have c5b0 := eq_true c5
        have c5b1 : decide ((a1.size : Int) ≤ (a0.size : Int)) = true := decide_eq_true c5
        clear c5
        obtain rfl := Option.some.inj H
        go_enter Try.func117, Try.ntmps117
        go_wp2
        go_ret
        exact ⟨by first | rfl | (simp; done) | (simp [*]; done), by repeat (first | exact Drawn0.refl _ | apply Drawn0.step)⟩
      · rw [if_neg c5] at H
        exact absurd H (by simp)
    · rw [if_neg c4] at H
      exact absurd H (by simp)
  · rw [if_neg c3] at H
    have c3b0 : decide ((a1.size : Int) ≤ (a0.size : Int)) = false := decide_eq_false c3
    have c3b1 : decide (a1.size ≤ a0.size) = false := decide_eq_false (fun h => c3 (Int.ofNat_le.mpr h))
    clear c3
    obtain rfl := Option.some.inj H
    go_enter Try.func117, Try.ntmps117
    go_wp2
    go_ret
    exact ⟨by first | rfl | (simp; done) | (simp [*]; done), by repeat (first | exact Drawn0.refl _ | apply Drawn0.step)⟩

/-! ### strings_HasPrefix: function 84 -/
def strings_HasPrefix.f (a0 : ByteArray) (a1 : ByteArray) : Option (Bool) := (stringslite_HasPrefix.f a0 a1).bind fun t198 => (some t198)
set_option maxHeartbeats 8000000 in
set_option maxRecDepth 100000 in
theorem strings_HasPrefix.calls (a0 : ByteArray) (a1 : ByteArray) (r : Bool) (w : World) (h : strings_HasPrefix.f a0 a1 = some r) :
    Calls Try.prog 84 #[.string a0, .string a1] w fun e w' => e = .returned (.bool r) ∧ Drawn0 w w' := by
  have H : ((stringslite_HasPrefix.f a0 a1).bind fun t198 => (some t198)) = some r := h
  clear h
  replace H := Option.bind_eq_some_iff.mp H
  obtain ⟨t198, A30, H⟩ := H
  replace H : (some t198) = some r := H
  have A3 := Aside0.mk A30
  clear A30
  obtain rfl := Option.some.inj H
  go_enter Try.func84, Try.ntmps84
  go_wp2_with (first | ((with_reducible refine gate_callee (f := 117) rfl ?_); refine goesL_ (some 7) rfl rfl Try.func117 (by kernel_rfl) rfl #[.string a0, .string a1] rfl (by (try simp only [List.map_toArray, List.map_cons, List.map_nil]); first | done | rfl | (simp only [List.length_drop, List.length_take]; rfl)) ?_; (with_reducible refine (stringslite_HasPrefix.calls a0 a1 t198 _ A3.out).mono ?_); rintro e w' ⟨rfl, ⟨nd, rfl⟩⟩; refine ⟨_, rfl, ?_⟩))
  go_ret
  exact ⟨by first | rfl | (simp; done) | (simp [*]; done), by repeat (first | exact Drawn0.refl _ | apply Drawn0.step)⟩

/-! ### impl.formOf (made by hand) -/
def hasHole (l : List S108) (n : ByteArray) : Bool := l.any fun x => decide (x.f1 = n)
theorem hasHole_snoc (o : List S108) (text n : ByteArray) : hasHole (o ++ [⟨text, n⟩]) = fun u => decide (u = n) || hasHole o u := by
  funext u
  unfold hasHole
  rw [List.any_append, Bool.or_comm]
  congr 1
  simp [eq_comm]
def formL (s : ByteArray) : Nat → Nat → List S108 → ByteArray → Option (List S108 × Bool)
  | 0, _, _, _ => none
  | k + 1, i, out, text =>
    if i < s.size then
      (if out.length ≤ 1000 ∧ text.size ≤ 100000 then
        (if bt s (i : Int) = 60 then
          (impl_wordOf.f (s.size + 9) (s.extract (i + 1) s.size)).bind fun b =>
          (if b.1.size ≤ 100000 then (impl_isName.f (b.1.size + 9) b.1).bind fun nm =>
           (if nm = true then (strings_HasPrefix.f b.2 ⟨#[62]⟩).bind fun hp =>
             (if hp = true then (if hasHole out b.1 = true then some ([], false) else if text.toList = [] then (if 0 < out.length then some ([], false) else formL s k (i + b.1.size + 2) (out ++ [⟨text, b.1⟩]) ⟨#[]⟩) else formL s k (i + b.1.size + 2) (out ++ [⟨text, b.1⟩]) ⟨#[]⟩)
              else formL s k (i + 1) out (text ++ s.extract i (i + 1)))
            else formL s k (i + 1) out (text ++ s.extract i (i + 1))) else none)
         else formL s k (i + 1) out (text ++ s.extract i (i + 1)))
       else none)
    else if out.length ≤ 1000 then some (out ++ [⟨text, ⟨#[]⟩⟩], decide (0 < out.length)) else none
def impl_formOf.f (a0 : ByteArray) : Option (List S108 × Bool) :=
  if a0.toList = [] then some ([], false) else (impl_printed.f (a0.size + 9) a0 100).bind fun p => if p = true then (if a0.size ≤ 1000 then formL a0 (a0.size + 9) 0 [] ⟨#[]⟩ else none) else some ([], false)

theorem holeInfo : (Try.prog.info? 108).map (fun i => (i.zero, i.size, i.bytes)) = some (some (.agg #[(.string ⟨#[]⟩), (.string ⟨#[]⟩)]), 2, 32) := by kernel_rfl
abbrev FormInv (w : World) (mb B2 i : Nat) (o : List S108) (v : Value) (wr : World) : Prop := YtllllfbnbndegaaU.SetInv Try.prog 9 4 k108 108 w mb B2 i o (hasHole o) v wr
set_option maxHeartbeats 8000000 in
set_option maxRecDepth 100000 in
theorem impl_formOf.calls (a0 : ByteArray) (r1 : List S108) (r2 : Bool) (w : World) (h : impl_formOf.f a0 = some (r1, r2)) :
    Calls Try.prog 43 #[.string a0] w fun e w' => ∃ v0_ : Value, e = .returned (.tuple #[v0_, .bool r2]) ∧ k108.R 108 w' w.heap.size (fun _ => True) v0_ r1 ∧ Below w.heap.size w w' := by
  unfold impl_formOf.f at h
  have hmm := @run_makeMap Try.prog
  by_cases h0 : a0.toList = []
  · rw [if_pos h0] at h
    obtain ⟨rfl, rfl⟩ := Prod.mk.inj (Option.some.inj h)
    have h1 : (a0.toList == ([] : List UInt8)) = true := beq_iff_eq.mpr h0
    clear h h0
    go_enter Try.func43, Try.ntmps43
    go_wp2
    go_ret2
    exact ⟨_, rfl, Kd.R_nil _ _ _ _ _, by repeat (first | (with_reducible first | exact Below.refl _ _ | apply below_alloc | apply pw_below_drewN | apply below_drew1) | exact Below.refl _ _)⟩
  · rw [if_neg h0] at h
    have h1 : (a0.toList == ([] : List UInt8)) = false := beq_eq_false_iff_ne.mpr h0
    obtain ⟨p, hp, h⟩ := Option.bind_eq_some_iff.mp h
    have H1 := Aside0.mk hp
    clear hp h0
    cases p with
    | false =>
      rw [if_neg (by simp)] at h
      obtain ⟨rfl, rfl⟩ := Prod.mk.inj (Option.some.inj h)
      clear h
      go_enter Try.func43, Try.ntmps43
      go_wp2_with (first | (go_at_call 37; (with_reducible refine (impl_printed.calls _ a0 100 false _ H1.out).mono ?_); rintro e w' ⟨rfl, ⟨nd, rfl⟩⟩))
      go_ret2
      exact ⟨_, rfl, Kd.R_nil _ _ _ _ _, by repeat (first | (with_reducible first | exact Below.refl _ _ | apply below_alloc | apply pw_below_drewN | apply below_drew1) | exact Below.refl _ _)⟩
    | true =>
      rw [if_pos rfl] at h
      split at h
      · rename_i hs
        have HF0 := Aside0.mk h
        clear h
        go_enter Try.func43, Try.ntmps43
        go_wp2_with (first | (go_at_call 37; (with_reducible refine (impl_printed.calls _ a0 100 true _ H1.out).mono ?_); rintro e w' ⟨rfl, ⟨nd, rfl⟩⟩; have hb1 : Below w.heap.size w (w.drewN nd) := pw_below_drewN (Below.refl _ _) nd; generalize w.drewN nd = w1 at hb1 ⊢))
        have hI : FormInv w w1.heap.size (w1.heap.size + 1) 0 [] (.slice none 0 0) (w1.alloc (.map #[] 0)) :=
          { own := Kd.R_nil _ _ _ _ _
            map := ⟨0, Nat.le_refl _, YtllllfbnbndegaaU.MapS.made w1⟩
            bel := hb1.alloc hb1.size _
            le := by simp
            lo := by omega
            up := hb1.size }
        have HI0 := Aside0.mk hI
        clear hI
        generalize w1.heap.size = mb at HI0 ⊢
        generalize w1.alloc (.map #[] 0) = w2 at HI0 ⊢
        clear hb1 hmm
        go_loopg [4, 5, 7] a0.size (fun gg v4 v5 v7 wr => ∃ (kf i : Nat) (o : List S108) (x : ByteArray), v5 = .string x ∧ v7 = .int .i64 i ∧ a0.size - i ≤ gg ∧ i ≤ 300000 ∧ Aside0 (formL a0 kf i o x = some (r1, r2)) ∧ Aside0 (FormInv w mb (mb + 1) i o v4 wr))
        case atStart => exact ⟨_, 0, [], _, rfl, rfl, by omega, by omega, HF0, HI0⟩
        case round =>
          obtain ⟨kf, i, o, x, rfl, rfl, hgk, hi, HF, HI⟩ := hrel
          clear HF0 HI0
          cases kf with
          | zero => exact absurd HF.out (by simp [formL])
          | succ kf =>
            have h := HF.out
            clear HF
            unfold formL at h
            by_cases hlt : i < a0.size
            · rw [if_pos hlt] at h
              split at h
              · rename_i hlim
                obtain ⟨ho, hx⟩ := hlim
                obtain ⟨k1, rfl⟩ : ∃ m, gk = m + 1 := ⟨gk - 1, by omega⟩
                have hltz : (i : Int) < (a0.size : Int) := by omega
                have hltd : decide ((i : Int) < (a0.size : Int)) = true := decide_eq_true hltz
                have e1 : IntKind.i64.wrap ((i : Int) + 1) = (i : Int) + 1 := IntWalk.i64_in _ (by omega)
                have e2 : ((i : Int) + 1).toNat = i + 1 := by omega
                have e3 : (0 : Int) ≤ (i : Int) + 1 := by omega
                have e4 : (i : Int) + 1 ≤ (a0.size : Int) := by omega
                have e5 : (0 : Int) ≤ (i : Int) := by omega
                have hbt : ∀ h : i < a0.size, ((a0[i]'h).toNat : Int) = bt a0 (i : Int) := fun h => by simp [bt, h]
                have e5t := eq_true e5
                have hltt := eq_true hltz
                have e6 : (i : Int) ≤ (i : Int) + 1 := by omega
                have e7 : (x.size + (a0.extract i (i + 1)).size ≤ 9223372036854775807) = True := eq_true (by rw [ByteArray.size_extract]; omega)
                have e8 : (9223372036854775807 < x.size + (a0.extract i (i + 1)).size) = False := eq_false (by rw [ByteArray.size_extract]; omega)
                by_cases hc : bt a0 (i : Int) = 60
                · rw [if_pos hc] at h
                  have hcd : (bt a0 (i : Int) == 60) = true := beq_iff_eq.mpr hc
                  obtain ⟨⟨b1, b2⟩, hw, h⟩ := Option.bind_eq_some_iff.mp h
                  have A1 := Aside0.mk hw
                  clear hw
                  simp only at h
                  split at h
                  · rename_i hb1
                    have hb1m : b1.size ≤ maxLen := by unfold maxLen; omega
                    have e9 : IntKind.i64.wrap ((b1.size : Int) + 1) = (b1.size : Int) + 1 := IntWalk.i64_in _ (by omega)
                    have e10 : IntKind.i64.wrap ((i : Int) + ((b1.size : Int) + 1)) = (i : Int) + ((b1.size : Int) + 1) := IntWalk.i64_in _ (by omega)
                    have e11 : IntKind.i64.wrap ((i : Int) + ((b1.size : Int) + 1) + 1) = (i : Int) + ((b1.size : Int) + 1) + 1 := IntWalk.i64_in _ (by omega)
                    obtain ⟨A4, c4, e4'⟩ := Kd.R_slice HI.out.own
                    subst e4'
                    obtain ⟨nm, hnm, h⟩ := Option.bind_eq_some_iff.mp h
                    have A2 := Aside0.mk hnm
                    clear hnm
                    cases nm with
                    | false =>
                      rw [if_neg (by simp)] at h
                      have HF := Aside0.mk h
                      clear h
                      go_wp2_with (first | (go_at_call 91; (with_reducible refine (impl_wordOf.calls _ (a0.extract (i + 1) a0.size) b1 b2 _ A1.out).mono ?_); rintro e w' ⟨rfl, ⟨nd1, rfl⟩⟩) | (go_at_call 69; (with_reducible refine (impl_isName.calls _ b1 false _ A2.out).mono ?_); rintro e w' ⟨rfl, ⟨nd2, rfl⟩⟩))
                      go_roundg k1
                      case measure => omega
                      case rel => exact ⟨kf, i + 1, o, _, rfl, by go_num, by omega, by omega, HF, ⟨HI.out.keep (by repeat (first | (with_reducible first | exact Below.refl _ _ | apply below_alloc | apply pw_below_drewN | apply below_drew1) | exact Below.refl _ _)) (by omega)⟩⟩
                    | true =>
                      rw [if_pos rfl] at h
                      obtain ⟨hp, hpre, h⟩ := Option.bind_eq_some_iff.mp h
                      have A3 := Aside0.mk hpre
                      clear hpre
                      cases hp with
                      | false =>
                        rw [if_neg (by simp)] at h
                        have HF := Aside0.mk h
                        clear h
                        go_wp2_with (first | (go_at_call 91; (with_reducible refine (impl_wordOf.calls _ (a0.extract (i + 1) a0.size) b1 b2 _ A1.out).mono ?_); rintro e w' ⟨rfl, ⟨nd1, rfl⟩⟩) | (go_at_call 69; (with_reducible refine (impl_isName.calls _ b1 true _ A2.out).mono ?_); rintro e w' ⟨rfl, ⟨nd2, rfl⟩⟩) | (go_at_call 84; (with_reducible refine (strings_HasPrefix.calls b2 _ false _ A3.out).mono ?_); rintro e w' ⟨rfl, ⟨nd3, rfl⟩⟩))
                        go_roundg k1
                        case measure => omega
                        case rel => exact ⟨kf, i + 1, o, _, rfl, by go_num, by omega, by omega, HF, ⟨HI.out.keep (by repeat (first | (with_reducible first | exact Below.refl _ _ | apply below_alloc | apply pw_below_drewN | apply below_drew1) | exact Below.refl _ _)) (by omega)⟩⟩
                      | true =>
                        rw [if_pos rfl] at h
                        obtain ⟨n, hn, hM⟩ := HI.out.map
                        have HM := Aside0.mk hM
                        clear hM
                        cases hh : hasHole o b1 with
                        | true =>
                          rw [if_pos hh] at h
                          obtain ⟨rfl, rfl⟩ := Prod.mk.inj (Option.some.inj h)
                          clear h
                          go_wp2_with (first | (go_at_call 91; (with_reducible refine (impl_wordOf.calls _ (a0.extract (i + 1) a0.size) b1 b2 _ A1.out).mono ?_); rintro e w' ⟨rfl, ⟨nd1, rfl⟩⟩) | (go_at_call 69; (with_reducible refine (impl_isName.calls _ b1 true _ A2.out).mono ?_); rintro e w' ⟨rfl, ⟨nd2, rfl⟩⟩) | (go_at_call 84; (with_reducible refine (strings_HasPrefix.calls b2 _ true _ A3.out).mono ?_); rintro e w' ⟨rfl, ⟨nd3, rfl⟩⟩) | (at_lookup; (try (refine gate_guard (by rfl) ?_; dsimp only)); refine YtllllfbnbndegaaU.MapS.look rfl _ _ rfl (n := n) (f := hasHole o) ?hm Try.underlying9 Try.underlying4 Try.underlying96 (by kernel_rfl) b1 hb1m rfl rfl ?_; (case hm => exact HM.out.below (by repeat (first | (with_reducible first | exact Below.refl _ _ | apply below_alloc | apply pw_below_drewN | apply below_drew1) | exact Below.refl _ _)))))
                          go_ret2
                          exact ⟨_, rfl, Kd.R_nil _ _ _ _ _, (HI.out.keep (by repeat (first | (with_reducible first | exact Below.refl _ _ | apply below_alloc | apply pw_below_drewN | apply below_drew1) | exact Below.refl _ _)) (Nat.le_refl _)).bel⟩
                        | false =>
                          rw [if_neg (by simp [hh])] at h
                          by_cases hx0 : x.toList = []
                          · rw [if_pos hx0] at h
                            have hx1 : (x.toList == ([] : List UInt8)) = true := beq_iff_eq.mpr hx0
                            by_cases hol : 0 < o.length
                            · rw [if_pos hol] at h
                              have hold : decide (0 < o.length) = true := decide_eq_true hol
                              have hold2 : decide ((0 : Int) < (o.length : Int)) = true := decide_eq_true (by omega)
                              obtain ⟨rfl, rfl⟩ := Prod.mk.inj (Option.some.inj h)
                              clear h
                              go_wp2_with (first | (go_at_call 91; (with_reducible refine (impl_wordOf.calls _ (a0.extract (i + 1) a0.size) b1 b2 _ A1.out).mono ?_); rintro e w' ⟨rfl, ⟨nd1, rfl⟩⟩) | (go_at_call 69; (with_reducible refine (impl_isName.calls _ b1 true _ A2.out).mono ?_); rintro e w' ⟨rfl, ⟨nd2, rfl⟩⟩) | (go_at_call 84; (with_reducible refine (strings_HasPrefix.calls b2 _ true _ A3.out).mono ?_); rintro e w' ⟨rfl, ⟨nd3, rfl⟩⟩) | (at_lookup; (try (refine gate_guard (by rfl) ?_; dsimp only)); refine YtllllfbnbndegaaU.MapS.look rfl _ _ rfl (n := n) (f := hasHole o) ?hm Try.underlying9 Try.underlying4 Try.underlying96 (by kernel_rfl) b1 hb1m rfl rfl ?_; (case hm => exact HM.out.below (by repeat (first | (with_reducible first | exact Below.refl _ _ | apply below_alloc | apply pw_below_drewN | apply below_drew1) | exact Below.refl _ _)))))
                              go_ret2
                              exact ⟨_, rfl, Kd.R_nil _ _ _ _ _, (HI.out.keep (by repeat (first | (with_reducible first | exact Below.refl _ _ | apply below_alloc | apply pw_below_drewN | apply below_drew1) | exact Below.refl _ _)) (Nat.le_refl _)).bel⟩
                            · rw [if_neg hol] at h
                              have hold : decide (0 < o.length) = false := decide_eq_false hol
                              have hold2 : decide ((0 : Int) < (o.length : Int)) = false := decide_eq_false (by omega)
                              have HF := Aside0.mk h
                              clear h
                              go_wp2_with (first | (go_at_call 91; (with_reducible refine (impl_wordOf.calls _ (a0.extract (i + 1) a0.size) b1 b2 _ A1.out).mono ?_); rintro e w' ⟨rfl, ⟨nd1, rfl⟩⟩) | (go_at_call 69; (with_reducible refine (impl_isName.calls _ b1 true _ A2.out).mono ?_); rintro e w' ⟨rfl, ⟨nd2, rfl⟩⟩) | (go_at_call 84; (with_reducible refine (strings_HasPrefix.calls b2 _ true _ A3.out).mono ?_); rintro e w' ⟨rfl, ⟨nd3, rfl⟩⟩) | (at_lookup; (try (refine gate_guard (by rfl) ?_; dsimp only)); refine YtllllfbnbndegaaU.MapS.look rfl _ _ rfl (n := n) (f := hasHole o) ?hm Try.underlying9 Try.underlying4 Try.underlying96 (by kernel_rfl) b1 hb1m rfl rfl ?_; (case hm => exact HM.out.below (by repeat (first | (with_reducible first | exact Below.refl _ _ | apply below_alloc | apply pw_below_drewN | apply below_drew1) | exact Below.refl _ _)))) | (at_mapUpdate; refine YtllllfbnbndegaaU.MapS.put rfl _ _ _ rfl (n := n) (f := hasHole o) ?hm Try.underlying9 Try.underlying4 Try.underlying96 (by unfold maxLen; omega) b1 hb1m rfl rfl rfl ?_; (case hm => exact HM.out.below (by repeat (first | (with_reducible first | exact Below.refl _ _ | apply below_alloc | apply pw_below_drewN | apply below_drew1) | exact Below.refl _ _))); intro w6 hM1 hg1; have HI6 := Aside0.mk (HI.out.keepAt hg1 (by repeat (first | (with_reducible first | exact Below.refl _ _ | apply below_alloc | apply pw_below_drewN | apply below_drew1) | exact Below.refl _ _))); have HM1 := Aside0.mk hM1; have HG1 := Aside0.mk hg1; clear hM1 hg1) | ((with_reducible refine gate_builtin (b := .append) (xs := #[.tmp 56, .tmp 60]) rfl ?_); at_builtin; refine Kd.R_append k108 (w0 := w6) (mb + 1) rfl (.tmp 56) (.tmp 60) 67 108 (.agg #[(.string ⟨#[]⟩), (.string ⟨#[]⟩)]) 32 rfl Try.underlying67 holeInfo rfl (by decide) (by omega) (.slice A4 o.length c4) o (⟨x, b1⟩ : S108) [.string x, .string b1] (fun _ => True) (fun _ => False) rfl rfl ?aP (fun _ hk => hk.elim) ?aF ?aO ?aB ?aS ?aL ?_; (case aP => exact k108_mkM _ _ _ (⟨x, b1⟩ : S108)); (case aF => exact (fun _ _ => trivial)); (case aO => exact HI6.out.ownPut HG1.out); (case aB => exact Below.refl _ _); (case aS => exact Nat.le_trans HI6.out.le HG1.out.size); (case aL => omega); intro v4 w7 ho7 hb7 hg7 hat; have HO7 := Aside0.mk ho7; have HG7 := Aside0.mk hg7; clear ho7 hb7 hg7 hat))
                              go_roundg k1
                              case measure => omega
                              case rel => exact ⟨kf, i + b1.size + 2, o ++ [⟨x, b1⟩], _, rfl, by first | go_num | (congr 1; omega), by omega, by omega, HF, ⟨by have hh := HI6.out.put hn HM1.out HG1.out HO7.out HG7.out; unfold FormInv; rw [hasHole_snoc]; exact hh.keep (Below.refl _ _) (by omega)⟩⟩
                          · rw [if_neg hx0] at h
                            have hx1 : (x.toList == ([] : List UInt8)) = false := beq_eq_false_iff_ne.mpr hx0
                            have HF := Aside0.mk h
                            clear h
                            go_wp2_with (first | (go_at_call 91; (with_reducible refine (impl_wordOf.calls _ (a0.extract (i + 1) a0.size) b1 b2 _ A1.out).mono ?_); rintro e w' ⟨rfl, ⟨nd1, rfl⟩⟩) | (go_at_call 69; (with_reducible refine (impl_isName.calls _ b1 true _ A2.out).mono ?_); rintro e w' ⟨rfl, ⟨nd2, rfl⟩⟩) | (go_at_call 84; (with_reducible refine (strings_HasPrefix.calls b2 _ true _ A3.out).mono ?_); rintro e w' ⟨rfl, ⟨nd3, rfl⟩⟩) | (at_lookup; (try (refine gate_guard (by rfl) ?_; dsimp only)); refine YtllllfbnbndegaaU.MapS.look rfl _ _ rfl (n := n) (f := hasHole o) ?hm Try.underlying9 Try.underlying4 Try.underlying96 (by kernel_rfl) b1 hb1m rfl rfl ?_; (case hm => exact HM.out.below (by repeat (first | (with_reducible first | exact Below.refl _ _ | apply below_alloc | apply pw_below_drewN | apply below_drew1) | exact Below.refl _ _)))) | (at_mapUpdate; refine YtllllfbnbndegaaU.MapS.put rfl _ _ _ rfl (n := n) (f := hasHole o) ?hm Try.underlying9 Try.underlying4 Try.underlying96 (by unfold maxLen; omega) b1 hb1m rfl rfl rfl ?_; (case hm => exact HM.out.below (by repeat (first | (with_reducible first | exact Below.refl _ _ | apply below_alloc | apply pw_below_drewN | apply below_drew1) | exact Below.refl _ _))); intro w6 hM1 hg1; have HI6 := Aside0.mk (HI.out.keepAt hg1 (by repeat (first | (with_reducible first | exact Below.refl _ _ | apply below_alloc | apply pw_below_drewN | apply below_drew1) | exact Below.refl _ _))); have HM1 := Aside0.mk hM1; have HG1 := Aside0.mk hg1; clear hM1 hg1) | ((with_reducible refine gate_builtin (b := .append) (xs := #[.tmp 56, .tmp 60]) rfl ?_); at_builtin; refine Kd.R_append k108 (w0 := w6) (mb + 1) rfl (.tmp 56) (.tmp 60) 67 108 (.agg #[(.string ⟨#[]⟩), (.string ⟨#[]⟩)]) 32 rfl Try.underlying67 holeInfo rfl (by decide) (by omega) (.slice A4 o.length c4) o (⟨x, b1⟩ : S108) [.string x, .string b1] (fun _ => True) (fun _ => False) rfl rfl ?aP (fun _ hk => hk.elim) ?aF ?aO ?aB ?aS ?aL ?_; (case aP => exact k108_mkM _ _ _ (⟨x, b1⟩ : S108)); (case aF => exact (fun _ _ => trivial)); (case aO => exact HI6.out.ownPut HG1.out); (case aB => exact Below.refl _ _); (case aS => exact Nat.le_trans HI6.out.le HG1.out.size); (case aL => omega); intro v4 w7 ho7 hb7 hg7 hat; have HO7 := Aside0.mk ho7; have HG7 := Aside0.mk hg7; clear ho7 hb7 hg7 hat))
                            go_roundg k1
                            case measure => omega
                            case rel => exact ⟨kf, i + b1.size + 2, o ++ [⟨x, b1⟩], _, rfl, by first | go_num | (congr 1; omega), by omega, by omega, HF, ⟨by have hh := HI6.out.put hn HM1.out HG1.out HO7.out HG7.out; unfold FormInv; rw [hasHole_snoc]; exact hh.keep (Below.refl _ _) (by omega)⟩⟩
                  · exact absurd h (by simp)
                · rw [if_neg hc] at h
                  have hcd : (bt a0 (i : Int) == 60) = false := beq_eq_false_iff_ne.mpr hc
                  have HF := Aside0.mk h
                  clear h
                  go_wp2
                  go_roundg k1
                  case measure => omega
                  case rel => exact ⟨kf, i + 1, o, _, rfl, by go_num, by omega, by omega, HF, ⟨HI.out.keep (by repeat (first | (with_reducible first | exact Below.refl _ _ | apply below_alloc | apply pw_below_drewN | apply below_drew1) | exact Below.refl _ _)) (by omega)⟩⟩
              · exact absurd h (by simp)
            · rw [if_neg hlt] at h
              split at h
              · rename_i ho
                obtain ⟨rfl, rfl⟩ := Prod.mk.inj (Option.some.inj h)
                clear h
                have hltd : decide ((i : Int) < (a0.size : Int)) = false := decide_eq_false (by omega)
                have hltz : ¬ (i : Int) < (a0.size : Int) := by omega
                obtain ⟨A4, c4, e4⟩ := Kd.R_slice HI.out.own
                subst e4
                go_wp2_with (first | ((with_reducible refine gate_builtin (b := .append) (xs := #[.tmp 74, .tmp 77]) rfl ?_); at_builtin; refine Kd.R_append k108 (w0 := wr) (mb + 1) rfl (.tmp 74) (.tmp 77) 67 108 (.agg #[(.string ⟨#[]⟩), (.string ⟨#[]⟩)]) 32 rfl Try.underlying67 holeInfo rfl (by decide) (by omega) (.slice A4 o.length c4) o (⟨x, ⟨#[]⟩⟩ : S108) [.string x, .string ⟨#[]⟩] (fun _ => True) (fun _ => False) rfl rfl ?aP (fun _ hk => hk.elim) ?aF ?aO ?aB ?aS ?aL ?_; (case aP => exact k108_mkM _ _ _ (⟨x, ⟨#[]⟩⟩ : S108)); (case aF => exact (fun _ _ => trivial)); (case aO => exact (by (with_reducible repeat (first | apply Kd.R_alloc | apply Kd.R_drewN | apply Kd.R_drew)); exact HI.out.own)); (case aB => exact (by repeat (first | (with_reducible first | exact Below.refl _ _ | apply below_alloc | apply pw_below_drewN | apply below_drew1) | exact Below.refl _ _))); (case aS => exact (Nat.le_trans HI.out.le (below_size (w := wr) (by repeat (first | (with_reducible first | exact Below.refl _ _ | apply below_alloc | apply pw_below_drewN | apply below_drew1) | exact Below.refl _ _))))); (case aL => omega); intro v4 w7 ho7 hb7 hg7 hat; have HO7 := Aside0.mk ho7; have HG7 := Aside0.mk hg7; clear ho7 hb7 hg7 hat))
                go_ret2
                exact ⟨_, rfl, Kd.R_lower HO7.out (by have := HI.out.up; omega), (HI.out.grow HO7.out (by repeat (first | (with_reducible first | exact Below.refl _ _ | apply below_alloc | apply pw_below_drewN | apply below_drew1) | exact Below.refl _ _)) HG7.out).bel⟩
              · exact absurd h (by simp)
      · exact absurd h (by simp)

/-! ### impl_isValue: function 86 -/
def impl_isValue.f (k : Nat) (a0 : ByteArray) : Option (Bool) := if a0.toList = ([] : List UInt8) then (some false) else ((impl_printed.f k a0 100).bind fun t199 => (some t199))
theorem impl_isValue.mono : ∀ a0 k, LeO (impl_isValue.f k a0) (impl_isValue.f (k + 1) a0) := by
  intro a0 k
  unfold impl_isValue.f
  repeat' first
      | (with_reducible exact impl_printed.mono _ _ _)
      | (with_reducible exact LeO.refl _)
      | (with_reducible exact LeO.none _)
      | (with_reducible refine LeO.ite ?_ ?_)
      | (with_reducible refine LeO.bind ?_ (fun _ => ?_))
      | exact impl_printed.mono _ _ _
      | exact LeO.none _
      | refine LeO.ite ?_ ?_
      | refine LeO.bind ?_ (fun _ => ?_)
set_option maxHeartbeats 8000000 in
set_option maxRecDepth 100000 in
theorem impl_isValue.calls (k : Nat) (a0 : ByteArray) (r : Bool) (w : World) (h : impl_isValue.f k a0 = some r) :
    Calls Try.prog 86 #[.string a0] w fun e w' => e = .returned (.bool r) ∧ Drawn0 w w' := by
  have H : (if a0.toList = ([] : List UInt8) then (some false) else ((impl_printed.f k a0 100).bind fun t199 => (some t199))) = some r := h
  clear h
  by_cases c2 : a0.toList = ([] : List UInt8)
  · rw [if_pos c2] at H
    have c2b0 : (a0.toList == ([] : List UInt8)) = true := beq_iff_eq.mpr c2
    have c2b1 : (a0.toList != ([] : List UInt8)) = false := bne_eq_false_iff_eq.mpr c2
    (try (have c2b2 : List.isEmpty (a0.toList) = true := by simpa using c2))
    clear c2
    obtain rfl := Option.some.inj H
    go_enter Try.func86, Try.ntmps86
    go_wp2
    go_ret
    exact ⟨by first | rfl | (simp; done) | (simp [*]; done), by repeat (first | exact Drawn0.refl _ | apply Drawn0.step)⟩
  · rw [if_neg c2] at H
    have c2b0 : (a0.toList == ([] : List UInt8)) = false := beq_eq_false_iff_ne.mpr c2
    have c2b1 : (a0.toList != ([] : List UInt8)) = true := bne_iff_ne.mpr c2
    (try (have c2b2 : List.isEmpty (a0.toList) = false := by simpa using c2))
    replace H := Option.bind_eq_some_iff.mp H
    obtain ⟨t199, A30, H⟩ := H
    replace H : (some t199) = some r := H
    have A3 := Aside0.mk A30
    clear A30
    obtain rfl := Option.some.inj H
    go_enter Try.func86, Try.ntmps86
    go_wp2_with (first | (go_at_call 37; (with_reducible refine (impl_printed.calls k a0 100 t199 _ A3.out).mono ?_); rintro e w' ⟨rfl, ⟨nd, rfl⟩⟩))
    go_ret
    exact ⟨by first | rfl | (simp; done) | (simp [*]; done), by repeat (first | exact Drawn0.refl _ | apply Drawn0.step)⟩

/-! ### slices.SortFunc of labels by their names (made by hand) -/
instance inhLab : Inhabited S62 := ⟨z62⟩
def encLab (x : S62) : List Value := [.string x.f0, .string x.f1]
theorem flatLab : YtllllfbnbndegaaU.Flat k62 encLab where
  out := fun h => k62_openM h
  made := fun w base ok x => k62_mkM w base ok x
  len := fun _ => rfl
  one := fun x v hv => by simp [encLab] at hv; rcases hv with rfl | rfl <;> rfl
  pos := by decide
def cmpLab (x y : S62) : Int := Lib.compareBytes x.f0.data.toList y.f0.data.toList
theorem swoLab : Sort.SWO (ltOf cmpLab) := YtllllfbnbndegaaU.swo_text (fun x : S62 => x.f0.data.toList)
set_option maxHeartbeats 1000000 in
theorem cmpLab_calls (x y : S62) (W : World) : Calls Try.prog 94 #[.agg #[.string x.f0, .string x.f1], .agg #[.string y.f0, .string y.f1]] W fun e w' => e = .returned (.int .i64 (cmpLab x y)) ∧ ∃ q os', w' = Sort.grow (W.drewN q) os' := by
  have hcon := fun W' => Go.Proofs.Try.strings_Compare x.f0 y.f0 W'
  unfold cmpLab
  generalize Lib.compareBytes x.f0.data.toList y.f0.data.toList = r at hcon ⊢
  go_enter Try.func94, Try.ntmps94
  go_wp2_with (go_at_call 89; refine (hcon _).mono ?_; rintro e w' ⟨rfl, rfl⟩)
  go_ret
  exact ⟨rfl, 0, _, by rw [Sort.alloc_eq_grow, Sort.alloc_eq_grow, Sort.grow_grow]; rfl⟩
/-- The labels by their names. -/
def sortLabs (l : List S62) : List S62 := YtllllfbnbndegaaU.sortBy cmpLab l
theorem sortFunc_lab {w : World} {base : Nat} {ok : Nat → Prop} {v : Value} {xs : List S62} (h : k62.R 62 w base ok v xs) (hsz : xs.length < 4611686018427387904) :
    Calls Try.prog 87 #[v, .func (.func 94) #[] #[]] w fun e' w' => e' = .returned (.tuple #[]) ∧ k62.R 62 w' base ok v (sortLabs xs) ∧ w.grownBy w' v.ownBlock :=
  YtllllfbnbndegaaU.sortFunc_R Go.Proofs.Try.sortLabel flatLab (fun _ => by kernel_rfl) (fun _ => by kernel_rfl) cmpLab swoLab 94 #[] (enters_of Try.func94 (by kernel_rfl) rfl) (fun x y W => cmpLab_calls x y W) h hsz
def slices_SortFunc_Label.f (l0 : List S62) (a1 : Nat) : Option (List S62) :=
  if l0.length < 4611686018427387904 ∧ a1 = 94 then some (sortLabs l0) else none
theorem slices_SortFunc_Label.calls (P0_ : Nat → Prop) (u9000_ : Value) (l0 : List S62) (a1 : Nat) (r : List S62) (w0 w : World) (hB : Below w0.heap.size w0 w) (ho0 : Kd.R k62 62 w w0.heap.size P0_ u9000_ l0) (h : slices_SortFunc_Label.f l0 a1 = some r) :
    Calls Try.prog 87 #[u9000_, .func (.func a1) #[] #[]] w fun e w' => e = .returned (.tuple #[]) ∧ Kd.R k62 62 w' w0.heap.size (fun k_ => (P0_ k_ ∨ w.heap.size ≤ k_)) u9000_ r ∧ Below w0.heap.size w0 w' ∧ Kept w w' (fun k_ => P0_ k_) := by
  unfold slices_SortFunc_Label.f at h
  split at h
  · rename_i hc
    obtain ⟨hs, rfl⟩ := hc
    obtain rfl := Option.some.inj h
    refine (sortFunc_lab ho0 hs).mono ?_
    rintro e w' ⟨rfl, hr, hg⟩
    obtain ⟨inner, hin⟩ := Kd.R_own ho0
    refine ⟨rfl, Kd.R_mono hr (fun k hk => .inl hk), hB.grown hg hB.size (fun k e => own_base hin k e), Kept.of_grown hg (Kept.refl _ _) (fun k e => ?_)⟩
    exact .inl (ho0.1 k e)
  · exact absurd h (by simp)

/-! ### stringslite_CutPrefix: function 121 -/
def stringslite_CutPrefix.f (a0 : ByteArray) (a1 : ByteArray) : Option (ByteArray × Bool) := (stringslite_HasPrefix.f a0 a1).bind fun t200 => (if t200 = true then (if 0 ≤ (a1.size : Int) then (if (a1.size : Int) ≤ (a0.size : Int) then (some (a0.extract ((a1.size : Int) : Int).toNat a0.size, true)) else (none)) else (none)) else (some (a0, false)))
set_option maxHeartbeats 8000000 in
set_option maxRecDepth 100000 in
theorem stringslite_CutPrefix.calls (a0 : ByteArray) (a1 : ByteArray) (r1 : ByteArray) (r2 : Bool) (w : World) (h : stringslite_CutPrefix.f a0 a1 = some (r1, r2)) :
    Calls Try.prog 121 #[.string a0, .string a1] w fun e w' => e = .returned (.tuple #[.string r1, .bool r2]) ∧ Drawn0 w w' := by
  have H : ((stringslite_HasPrefix.f a0 a1).bind fun t200 => (if t200 = true then (if 0 ≤ (a1.size : Int) then (if (a1.size : Int) ≤ (a0.size : Int) then (some (a0.extract ((a1.size : Int) : Int).toNat a0.size, true)) else (none)) else (none)) else (some (a0, false)))) = some (r1, r2) := h
  clear h
  replace H := Option.bind_eq_some_iff.mp H
  obtain ⟨t200, A30, H⟩ := H
  replace H : (if t200 = true then (if 0 ≤ (a1.size : Int) then (if (a1.size : Int) ≤ (a0.size : Int) then (some (a0.extract ((a1.size : Int) : Int).toNat a0.size, true)) else (none)) else (none)) else (some (a0, false))) = some (r1, r2) := H
  have A3 := Aside0.mk A30
  clear A30
  by_cases c4 : t200 = true
  · subst c4
    have H1 : (if 0 ≤ (a1.size : Int) then (if (a1.size : Int) ≤ (a0.size : Int) then (some (a0.extract ((a1.size : Int) : Int).toNat a0.size, true)) else (none)) else (none)) = some (r1, r2) := by rw [if_pos rfl] at H; exact H
    clear H
    have H := H1
    clear H1
    by_cases c5 : 0 ≤ (a1.size : Int)
    · rw [if_pos c5] at H
      have c5b0 := eq_true c5
      have c5b1 : decide (0 ≤ (a1.size : Int)) = true := decide_eq_true c5
      clear c5
      by_cases c6 : (a1.size : Int) ≤ (a0.size : Int)
      · rw [if_pos c6] at H
        have c6b0 := eq_true c6
        have c6b1 : decide ((a1.size : Int) ≤ (a0.size : Int)) = true := decide_eq_true c6
        clear c6
        simp only [Option.some.injEq, Prod.mk.injEq] at H
        obtain ⟨rfl, rfl⟩ := H
        go_enter Try.func121, Try.ntmps121
        go_wp2_with (first | ((with_reducible refine gate_callee (f := 117) rfl ?_); refine goesL_ (some 8) rfl rfl Try.func117 (by kernel_rfl) rfl #[.string a0, .string a1] rfl (by (try simp only [List.map_toArray, List.map_cons, List.map_nil]); first | done | rfl | (simp only [List.length_drop, List.length_take]; rfl)) ?_; (with_reducible refine (stringslite_HasPrefix.calls a0 a1 true _ A3.out).mono ?_); rintro e w' ⟨rfl, ⟨nd, rfl⟩⟩; refine ⟨_, rfl, ?_⟩))
        go_ret2
        exact ⟨by first | rfl | (simp; done) | (simp [*]; done), by repeat (first | exact Drawn0.refl _ | apply Drawn0.step)⟩
      · rw [if_neg c6] at H
        exact absurd H (by simp)
    · rw [if_neg c5] at H
      exact absurd H (by simp)
  · replace c4 := Bool.eq_false_iff.mpr c4
    subst c4
    have H1 : (some (a0, false)) = some (r1, r2) := by rw [if_neg (show ¬ (false = true) by decide)] at H; exact H
    clear H
    have H := H1
    clear H1
    simp only [Option.some.injEq, Prod.mk.injEq] at H
    obtain ⟨rfl, rfl⟩ := H
    go_enter Try.func121, Try.ntmps121
    go_wp2_with (first | ((with_reducible refine gate_callee (f := 117) rfl ?_); refine goesL_ (some 8) rfl rfl Try.func117 (by kernel_rfl) rfl #[.string a0, .string a1] rfl (by (try simp only [List.map_toArray, List.map_cons, List.map_nil]); first | done | rfl | (simp only [List.length_drop, List.length_take]; rfl)) ?_; (with_reducible refine (stringslite_HasPrefix.calls a0 a1 false _ A3.out).mono ?_); rintro e w' ⟨rfl, ⟨nd, rfl⟩⟩; refine ⟨_, rfl, ?_⟩))
    go_ret2
    exact ⟨by first | rfl | (simp; done) | (simp [*]; done), by repeat (first | exact Drawn0.refl _ | apply Drawn0.step)⟩

/-! ### strings_CutPrefix: function 92 -/
def strings_CutPrefix.f (a0 : ByteArray) (a1 : ByteArray) : Option (ByteArray × Bool) := (stringslite_CutPrefix.f a0 a1).bind fun bt201 => (some (bt201.1, bt201.2))
set_option maxHeartbeats 8000000 in
set_option maxRecDepth 100000 in
theorem strings_CutPrefix.calls (a0 : ByteArray) (a1 : ByteArray) (r1 : ByteArray) (r2 : Bool) (w : World) (h : strings_CutPrefix.f a0 a1 = some (r1, r2)) :
    Calls Try.prog 92 #[.string a0, .string a1] w fun e w' => e = .returned (.tuple #[.string r1, .bool r2]) ∧ Drawn0 w w' := by
  have H : ((stringslite_CutPrefix.f a0 a1).bind fun bt201 => (some (bt201.1, bt201.2))) = some (r1, r2) := h
  clear h
  replace H := Option.bind_eq_some_iff.mp H
  obtain ⟨⟨t201, t202⟩, A30, H⟩ := H
  replace H : (some (t201, t202)) = some (r1, r2) := H
  have A3 := Aside0.mk A30
  clear A30
  simp only [Option.some.injEq, Prod.mk.injEq] at H
  obtain ⟨rfl, rfl⟩ := H
  go_enter Try.func92, Try.ntmps92
  go_wp2_with (first | ((with_reducible refine gate_callee (f := 121) rfl ?_); refine goesL_ (some 8) rfl rfl Try.func121 (by kernel_rfl) rfl #[.string a0, .string a1] rfl (by (try simp only [List.map_toArray, List.map_cons, List.map_nil]); first | done | rfl | (simp only [List.length_drop, List.length_take]; rfl)) ?_; (with_reducible refine (stringslite_CutPrefix.calls a0 a1 t201 t202 _ A3.out).mono ?_); rintro e w' ⟨rfl, ⟨nd, rfl⟩⟩; refine ⟨_, rfl, ?_⟩))
  go_ret2
  exact ⟨by first | rfl | (simp; done) | (simp [*]; done), by repeat (first | exact Drawn0.refl _ | apply Drawn0.step)⟩

/-! ### strings.Index (the shelf's, in the printed form) -/
/-- The cell of internal/bytealg.MaxLen holds some int. -/
def Mx (w : World) : Prop := ∃ m, w.cell? ⟨0, 0, none⟩ = some (.int .i64 m)
theorem Mx.lt {w : World} (h : Mx w) : 0 < w.heap.size := by
  obtain ⟨m, hm⟩ := h
  unfold World.cell? at hm
  rcases Nat.eq_zero_or_pos w.heap.size with e | e
  · rw [Array.getElem?_eq_none (by simp [e])] at hm
    simp at hm
  · exact e
theorem Mx.below {w w' : World} (h : Mx w) (hb : Below w.heap.size w w') : Mx w' := by
  have h0 := h.lt
  obtain ⟨m, hm⟩ := h
  exact ⟨m, (hb.cell (p := ⟨0, 0, none⟩) h0).trans hm⟩
def strings_Index.f (a0 : ByteArray) (a1 : ByteArray) : Option Int :=
  if a0.size < 4294967281 then some (Lib.index a0.data.toList a1.data.toList) else none
theorem strings_Index.calls (a0 : ByteArray) (a1 : ByteArray) (r : Int) (w : World) (h : strings_Index.f a0 a1 = some r) (hmx : Mx w := by first | exact HMX.out | exact Mx.below HMX.out (by repeat (first | (with_reducible first | exact HB.out | apply below_alloc | apply pw_below_drewN | apply below_drew1 | refine below_set ?_ (Aside0.out (by assumption))) | exact Below.refl _ _ | exact HB.out))) :
    Calls Try.prog 93 #[.string a0, .string a1] w fun e w' => e = .returned (.int .i64 r) ∧ Drawn0 w w' := by
  unfold strings_Index.f at h
  split at h
  · rename_i hs
    obtain rfl := Option.some.inj h
    obtain ⟨m, hm⟩ := hmx
    refine (Go.Proofs.Try.strings_Index a0 a1 m w hs hm).mono ?_
    rintro e w' ⟨rfl, rfl⟩
    exact ⟨rfl, ⟨0, rfl⟩⟩
  · exact absurd h (by simp)

/-! ### impl_partsOf: function 44 -/
def impl_partsOf.l0 : Nat → List (S108) → ByteArray → List (S62) → List (S108) → Int → Int → Option ((List (S62)) × Bool)
  | 0, _, _, _, _, _, _ => none
  | k + 1, x0, x6, x8, x29, x30, x31 => if x31 < x30 then (if 0 ≤ x31 then (if x31 < (x29.length : Int) then (if 0 ≤ (wrap64 (x31 + 1)) then (if (wrap64 (x31 + 1)) < (x0.length : Int) then (if ((rd_T108 x0 (wrap64 (x31 + 1))).f0).toList = ([] : List UInt8) then ((impl_isValue.f k x6).bind fun t214 => (if t214 = true then (if x8.length < 4398046511104 then (impl_partsOf.l0 k x0 (⟨#[]⟩ : ByteArray) (x8 ++ [(⟨(rd_T108 x29 x31).f1, x6⟩ : S62)]) x29 x30 (wrap64 (x31 + 1))) else (none)) else (some (([] : List (S62)), false)))) else ((strings_Index.f x6 ((rd_T108 x0 (wrap64 (x31 + 1))).f0)).bind fun t218 => (if t218 < 0 then (some (([] : List (S62)), false)) else (if 0 ≤ t218 then (if t218 ≤ (x6.size : Int) then (if 0 ≤ (wrap64 (t218 + (((rd_T108 x0 (wrap64 (x31 + 1))).f0).size : Int))) then (if (wrap64 (t218 + (((rd_T108 x0 (wrap64 (x31 + 1))).f0).size : Int))) ≤ (x6.size : Int) then ((impl_isValue.f k (x6.extract 0 (t218 : Int).toNat)).bind fun t219 => (if t219 = true then (if x8.length < 4398046511104 then (impl_partsOf.l0 k x0 (x6.extract ((wrap64 (t218 + (((rd_T108 x0 (wrap64 (x31 + 1))).f0).size : Int))) : Int).toNat x6.size) (x8 ++ [(⟨(rd_T108 x29 x31).f1, x6.extract 0 (t218 : Int).toNat⟩ : S62)]) x29 x30 (wrap64 (x31 + 1))) else (none)) else (some (([] : List (S62)), false)))) else (none)) else (none)) else (none)) else (none))))) else (none)) else (none)) else (none)) else (none)) else ((slices_SortFunc_Label.f x8 94).bind fun t210 => (some (t210, (x6.toList == ([] : List UInt8)))))
def impl_partsOf.f (k : Nat) (l0 : List (S108)) (a1 : ByteArray) : Option ((List (S62)) × Bool) := if 0 < (l0.length : Int) then ((strings_CutPrefix.f a1 ((rd_T108 l0 0).f0)).bind fun bt204 => (if bt204.2 = true then (if 0 ≤ (wrap64 ((l0.length : Int) - 1)) then (if (wrap64 ((l0.length : Int) - 1)) ≤ (l0.length : Int) then ((some (l0.take ((wrap64 ((l0.length : Int) - 1)) : Int).toNat : List (S108))).bind fun y206 => (impl_partsOf.l0 k l0 bt204.1 ([] : List (S62)) y206 (y206.length : Int) 0)) else (none)) else (none)) else (some (([] : List (S62)), false)))) else (none)
theorem impl_partsOf.mono_l : ∀ k, (∀ y0 y1 y2 y3 y4 y5, LeO (impl_partsOf.l0 k y0 y1 y2 y3 y4 y5) (impl_partsOf.l0 (k + 1) y0 y1 y2 y3 y4 y5))
  | 0 => fun _ _ _ _ _ _ r h => by simp [impl_partsOf.l0] at h
  | k + 1 => by
    have ih0 := impl_partsOf.mono_l k
    · intro y0 y1 y2 y3 y4 y5
      unfold impl_partsOf.l0
      repeat' first
      | (with_reducible exact ih0 _ _ _ _ _ _)
      | (with_reducible exact impl_isValue.mono _ _)
      | (with_reducible exact LeO.refl _)
      | (with_reducible exact LeO.none _)
      | (with_reducible refine LeO.ite ?_ ?_)
      | (with_reducible refine LeO.bind ?_ (fun _ => ?_))
      | exact ih0 _ _ _ _ _ _
      | exact impl_isValue.mono _ _
      | exact LeO.none _
      | refine LeO.ite ?_ ?_
      | refine LeO.bind ?_ (fun _ => ?_)
theorem impl_partsOf.mono : ∀ a0 a1 k, LeO (impl_partsOf.f k a0 a1) (impl_partsOf.f (k + 1) a0 a1) := by
  intro a0 a1 k
  have ih0 := impl_partsOf.mono_l k
  unfold impl_partsOf.f
  repeat' first
      | (with_reducible exact ih0 _ _ _ _ _ _)
      | (with_reducible exact impl_isValue.mono _ _)
      | (with_reducible exact LeO.refl _)
      | (with_reducible exact LeO.none _)
      | (with_reducible refine LeO.ite ?_ ?_)
      | (with_reducible refine LeO.bind ?_ (fun _ => ?_))
      | exact ih0 _ _ _ _ _ _
      | exact impl_isValue.mono _ _
      | exact LeO.none _
      | refine LeO.ite ?_ ?_
      | refine LeO.bind ?_ (fun _ => ?_)
set_option maxHeartbeats 8000000 in
set_option maxRecDepth 100000 in
theorem impl_partsOf.calls (k : Nat) (A0 : Option Addr) (c0 : Nat) (l0 : List (S108)) (a1 : ByteArray) (r1 : List (S62)) (r2 : Bool) (w : World) (hr0 : Kd.C k108 w A0 l0.length l0) (hc0 : l0.length ≤ c0) (h : impl_partsOf.f k l0 a1 = some (r1, r2)) (hmx : Mx w := by first | exact HMX.out | exact Mx.below HMX.out (by repeat (first | (with_reducible first | exact HB.out | apply below_alloc | apply pw_below_drewN | apply below_drew1 | refine below_set ?_ (Aside0.out (by assumption))) | exact Below.refl _ _ | exact HB.out))) :
    Calls Try.prog 44 #[.slice A0 l0.length c0, .string a1] w fun e w' => ∃ v0_ : Value, e = .returned (.tuple #[v0_, .bool r2]) ∧ Kd.R k62 62 w' w.heap.size (fun _ => True) v0_ r1 ∧ Below w.heap.size w w' := by
  have HMX := Aside0.mk hmx
  have hu108 := Try.underlying108
  have hu62 := Try.underlying62
  have HR0 := Aside0.mk hr0
  have HC0 := Aside0.mk hc0
  clear hr0 hc0
  have HB := Aside0.mk (Below.refl w.heap.size w)
  have H : (if 0 < (l0.length : Int) then ((strings_CutPrefix.f a1 ((rd_T108 l0 0).f0)).bind fun bt204 => (if bt204.2 = true then (if 0 ≤ (wrap64 ((l0.length : Int) - 1)) then (if (wrap64 ((l0.length : Int) - 1)) ≤ (l0.length : Int) then ((some (l0.take ((wrap64 ((l0.length : Int) - 1)) : Int).toNat : List (S108))).bind fun y206 => (impl_partsOf.l0 k l0 bt204.1 ([] : List (S62)) y206 (y206.length : Int) 0)) else (none)) else (none)) else (some (([] : List (S62)), false)))) else (none)) = some (r1, r2) := h
  clear h
  by_cases c3 : 0 < (l0.length : Int)
  · rw [if_pos c3] at H
    have c3b0 : decide (0 < (l0.length : Int)) = true := decide_eq_true c3
    have c3b1 : decide (0 < l0.length) = true := decide_eq_true (by omega)
    clear c3
    replace H := Option.bind_eq_some_iff.mp H
    obtain ⟨⟨t204, t205⟩, A40, H⟩ := H
    replace H : (if t205 = true then (if 0 ≤ (wrap64 ((l0.length : Int) - 1)) then (if (wrap64 ((l0.length : Int) - 1)) ≤ (l0.length : Int) then ((some (l0.take ((wrap64 ((l0.length : Int) - 1)) : Int).toNat : List (S108))).bind fun y206 => (impl_partsOf.l0 k l0 t204 ([] : List (S62)) y206 (y206.length : Int) 0)) else (none)) else (none)) else (some (([] : List (S62)), false))) = some (r1, r2) := H
    have A4 := Aside0.mk A40
    clear A40
    by_cases c5 : t205 = true
    · subst c5
      have H1 : (if 0 ≤ (wrap64 ((l0.length : Int) - 1)) then (if (wrap64 ((l0.length : Int) - 1)) ≤ (l0.length : Int) then ((some (l0.take ((wrap64 ((l0.length : Int) - 1)) : Int).toNat : List (S108))).bind fun y206 => (impl_partsOf.l0 k l0 t204 ([] : List (S62)) y206 (y206.length : Int) 0)) else (none)) else (none)) = some (r1, r2) := by rw [if_pos rfl] at H; exact H
      clear H
      have H := H1
      clear H1
      obtain ⟨ji6, hji6⟩ : ∃ j_ : Int, (wrap64 ((l0.length : Int) - 1)) = j_ := ⟨_, rfl⟩
      replace H : (if 0 ≤ (ji6) then (if (ji6) ≤ (l0.length : Int) then ((some (l0.take ((ji6) : Int).toNat : List (S108))).bind fun y206 => (impl_partsOf.l0 k l0 t204 ([] : List (S62)) y206 (y206.length : Int) 0)) else (none)) else (none)) = some (r1, r2) := by first | (rw [hji6] at H; exact H) | (simp only [hji6] at H ⊢; exact H)
      (try rw [hji6] at A4)
      have hji6w : (IntKind.i64.wrap ((l0.length : Int) - 1)) = ji6 := (i64_w _).trans hji6
      by_cases c7 : 0 ≤ (ji6)
      · rw [if_pos c7] at H
        have c7b0 := eq_true c7
        have c7b1 : decide (0 ≤ (ji6)) = true := decide_eq_true c7
        clear c7
        by_cases c8 : (ji6) ≤ (l0.length : Int)
        · rw [if_pos c8] at H
          have c8b0 := eq_true c8
          have c8b1 : decide ((ji6) ≤ (l0.length : Int)) = true := decide_eq_true c8
          clear c8
          obtain ⟨y206, hy206⟩ : ∃ y_ : List (S108), y_ = (l0.take ((ji6) : Int).toNat) := ⟨_, rfl⟩
          replace H : (impl_partsOf.l0 k l0 t204 ([] : List (S62)) y206 (y206.length : Int) 0) = some (r1, r2) := by first | (rw [hy206]; with_reducible exact H) | (have H2_ := (Option.bind_some _ _).symm.trans H; rw [hy206]; with_reducible exact H2_) | (have H2_ := (Option.bind_some _ _).symm.trans H; with_reducible exact H2_) | with_reducible exact H | (rw [hy206]; exact H) | exact H
          have Ny206 := Aside0.mk hy206
          clear hy206
          have H' := Aside0.mk H
          clear H
          have p203 : 0 ≤ (0 : Int) := (by omega)
          have q203 : 0 < (l0.length : Int) := of_decide_eq_true (by first | (with_reducible assumption) | assumption)
          obtain ⟨ad203, e203, hx203_0, hx203_1⟩ := at_T108 HR0.out 0 p203 q203
          cases e203
          have qi203 : (0 < l0.length) = True := eq_true (by omega)
          (try rw [show ((0 : Int)).toNat = 0 from rfl] at hx203_0)
          (try rw [show 0 * 2 = 0 from rfl] at hx203_0)
          (try rw [Addr.add_zero'] at hx203_0)
          (try rw [show ((0 : Int)).toNat = 0 from rfl] at hx203_1)
          (try rw [show 0 * 2 = 0 from rfl] at hx203_1)
          (try rw [Addr.add_zero'] at hx203_1)
          replace p203 := eq_true p203
          replace q203 := eq_true q203
          go_enter Try.func44, Try.ntmps44
          go_wp2_with (first | (go_at_call 92; (with_reducible refine (strings_CutPrefix.calls a1 ((rd_T108 l0 0).f0) t204 true _ A4.out).mono ?_); rintro e w' ⟨rfl, ⟨nd, rfl⟩⟩; (try first | exact ⟨rfl, _, World.drewN_drewN _ _ _⟩ | exact ⟨rfl, _, Eq.trans (World.drewN_drewN _ _ _) (congrArg (World.drewN _) (Nat.add_assoc _ _ _))⟩); have q9 : ((ji6) : Int) ≤ ((l0.length : Int) : Int) := of_decide_eq_true (by first | (with_reducible assumption) | assumption); obtain ⟨i09, hi09, _, hsz9, _⟩ := info_parts info108; have hroom9 : l0.length ≤ c0 := HC0.out; have hC9 : Kd.C k108 _ (some ad203) l0.length l0 := HR0.out; have hcut9 := cut_to (P := Try.prog) 67 108 .i64 Try.underlying67 hi09 (some ad203) l0.length c0 (ji6) (of_decide_eq_true (by first | (with_reducible assumption) | assumption)) q9 hroom9; have hr9 := Kd.C_take (m := ((ji6) : Int).toNat) hC9 (by omega); have hy9 : y206.length = ((ji6) : Int).toNat := (by rw [Ny206.out, List.length_take]; omega); rw [← Ny206.out] at hr9; rw [← hy9] at hcut9; have HR209 := Aside0.mk hr9; have HC209 := Aside0.mk (show y206.length ≤ c0 from by omega); clear hr9 hC9 hroom9 hi09 hsz9; have KY9 := Aside0.mk hy9; clear hy9; replace q9 := eq_true q9))
          repeat (go_quiet (first | (go_at_call 92; (with_reducible refine (strings_CutPrefix.calls a1 ((rd_T108 l0 0).f0) t204 true _ A4.out).mono ?_); rintro e w' ⟨rfl, ⟨nd, rfl⟩⟩; (try first | exact ⟨rfl, _, World.drewN_drewN _ _ _⟩ | exact ⟨rfl, _, Eq.trans (World.drewN_drewN _ _ _) (congrArg (World.drewN _) (Nat.add_assoc _ _ _))⟩); have q9 : ((ji6) : Int) ≤ ((l0.length : Int) : Int) := of_decide_eq_true (by first | (with_reducible assumption) | assumption); obtain ⟨i09, hi09, _, hsz9, _⟩ := info_parts info108; have hroom9 : l0.length ≤ c0 := HC0.out; have hC9 : Kd.C k108 _ (some ad203) l0.length l0 := HR0.out; have hcut9 := cut_to (P := Try.prog) 67 108 .i64 Try.underlying67 hi09 (some ad203) l0.length c0 (ji6) (of_decide_eq_true (by first | (with_reducible assumption) | assumption)) q9 hroom9; have hr9 := Kd.C_take (m := ((ji6) : Int).toNat) hC9 (by omega); have hy9 : y206.length = ((ji6) : Int).toNat := (by rw [Ny206.out, List.length_take]; omega); rw [← Ny206.out] at hr9; rw [← hy9] at hcut9; have HR209 := Aside0.mk hr9; have HC209 := Aside0.mk (show y206.length ≤ c0 from by omega); clear hr9 hC9 hroom9 hi09 hsz9; have KY9 := Aside0.mk hy9; clear hy9; replace q9 := eq_true q9)); try go_wp2_with (first | (go_at_call 92; (with_reducible refine (strings_CutPrefix.calls a1 ((rd_T108 l0 0).f0) t204 true _ A4.out).mono ?_); rintro e w' ⟨rfl, ⟨nd, rfl⟩⟩; (try first | exact ⟨rfl, _, World.drewN_drewN _ _ _⟩ | exact ⟨rfl, _, Eq.trans (World.drewN_drewN _ _ _) (congrArg (World.drewN _) (Nat.add_assoc _ _ _))⟩); have q9 : ((ji6) : Int) ≤ ((l0.length : Int) : Int) := of_decide_eq_true (by first | (with_reducible assumption) | assumption); obtain ⟨i09, hi09, _, hsz9, _⟩ := info_parts info108; have hroom9 : l0.length ≤ c0 := HC0.out; have hC9 : Kd.C k108 _ (some ad203) l0.length l0 := HR0.out; have hcut9 := cut_to (P := Try.prog) 67 108 .i64 Try.underlying67 hi09 (some ad203) l0.length c0 (ji6) (of_decide_eq_true (by first | (with_reducible assumption) | assumption)) q9 hroom9; have hr9 := Kd.C_take (m := ((ji6) : Int).toNat) hC9 (by omega); have hy9 : y206.length = ((ji6) : Int).toNat := (by rw [Ny206.out, List.length_take]; omega); rw [← Ny206.out] at hr9; rw [← hy9] at hcut9; have HR209 := Aside0.mk hr9; have HC209 := Aside0.mk (show y206.length ≤ c0 from by omega); clear hr9 hC9 hroom9 hi09 hsz9; have KY9 := Aside0.mk hy9; clear hy9; replace q9 := eq_true q9)))
          go_loopg [6, 8, 31] k (fun kq v6 v8 v31 w' => ∃ (x6_1 : ByteArray) (x8_1 : List (S62)) (x31_1 : Int), v6 = .string x6_1 ∧ v31 = .int .i64 x31_1 ∧ Aside0 (impl_partsOf.l0 kq l0 x6_1 x8_1 y206 (y206.length : Int) x31_1 = some (r1, r2)) ∧ Aside0 (kq ≤ k) ∧ Aside0 (Kd.R k62 62 w' w.heap.size (fun _ => True) v8 x8_1) ∧ Aside0 (Below w.heap.size w w'))
          case atStart => exact ⟨(t204), (([] : List (S62))), (0), (by first | rfl | (simp; done) | (simp [*]; done)), (by first | rfl | (simp; done) | (simp [*]; done)), H', ⟨Nat.le_refl _⟩, ⟨by first | exact Kd.R_nil _ _ _ _ _ | exact Kd.N_nil _ _ _ _ _ | exact Kd.V_nil _ _ _ _ _ | exact Kd.Q_nil _ _ _ _ _ | exact Kd.S_nil _ _ _ _ _⟩, ⟨by repeat (first | (with_reducible first | exact HB.out | apply below_alloc | apply pw_below_drewN | apply below_drew1) | exact HB.out)⟩⟩
          case round =>
            clear H'
            try clear p2
            try clear q2
            try clear hx2
            try clear qi2
            try clear c3
            try clear c3b0
            try clear c3b1
            try clear c4
            try clear c5
            try clear p6
            try clear c7
            try clear c7b0
            try clear c7b1
            try clear c8
            try clear c8b0
            try clear c8b1
            try clear q9
            try clear hx203_0
            try clear hx203_1
            try clear p203
            try clear q203
            try clear q9
            obtain ⟨x6_1, x8_1, x31_1, rfl, rfl, HA, HK1, HO_8, HB⟩ := hrel
            cases gk with
            | zero => exact absurd HA.out (by simp [impl_partsOf.l0])
            | succ k1 =>
              have H := HA.out
              clear HA
              simp only [impl_partsOf.l0] at H
              by_cases c10 : x31_1 < (y206.length : Int)
              · rw [if_pos c10] at H
                have c10b0 : decide (x31_1 < (y206.length : Int)) = true := decide_eq_true c10
                clear c10
                by_cases c11 : 0 ≤ x31_1
                · rw [if_pos c11] at H
                  have c11b0 : decide (0 ≤ x31_1) = true := decide_eq_true c11
                  clear c11
                  by_cases c12 : x31_1 < (y206.length : Int)
                  · rw [if_pos c12] at H
                    have c12b0 : decide (x31_1 < (y206.length : Int)) = true := decide_eq_true c12
                    clear c12
                    obtain ⟨ji13, hji13⟩ : ∃ j_ : Int, (wrap64 (x31_1 + 1)) = j_ := ⟨_, rfl⟩
                    replace H : (if 0 ≤ (ji13) then (if (ji13) < (l0.length : Int) then (if ((rd_T108 l0 (ji13)).f0).toList = ([] : List UInt8) then ((impl_isValue.f k1 x6_1).bind fun t214 => (if t214 = true then (if x8_1.length < 4398046511104 then (impl_partsOf.l0 k1 l0 (⟨#[]⟩ : ByteArray) (x8_1 ++ [(⟨(rd_T108 y206 x31_1).f1, x6_1⟩ : S62)]) y206 (y206.length : Int) ji13) else (none)) else (some (([] : List (S62)), false)))) else ((strings_Index.f x6_1 ((rd_T108 l0 (ji13)).f0)).bind fun t218 => (if t218 < 0 then (some (([] : List (S62)), false)) else (if 0 ≤ t218 then (if t218 ≤ (x6_1.size : Int) then (if 0 ≤ (wrap64 (t218 + (((rd_T108 l0 (ji13)).f0).size : Int))) then (if (wrap64 (t218 + (((rd_T108 l0 (ji13)).f0).size : Int))) ≤ (x6_1.size : Int) then ((impl_isValue.f k1 (x6_1.extract 0 (t218 : Int).toNat)).bind fun t219 => (if t219 = true then (if x8_1.length < 4398046511104 then (impl_partsOf.l0 k1 l0 (x6_1.extract ((wrap64 (t218 + (((rd_T108 l0 (ji13)).f0).size : Int))) : Int).toNat x6_1.size) (x8_1 ++ [(⟨(rd_T108 y206 x31_1).f1, x6_1.extract 0 (t218 : Int).toNat⟩ : S62)]) y206 (y206.length : Int) ji13) else (none)) else (some (([] : List (S62)), false)))) else (none)) else (none)) else (none)) else (none))))) else (none)) else (none)) = some (r1, r2) := by first | (rw [hji13] at H; exact H) | (simp only [hji13] at H ⊢; exact H)
                    have hji13w : (IntKind.i64.wrap (x31_1 + 1)) = ji13 := (i64_w _).trans hji13
                    by_cases c14 : 0 ≤ (ji13)
                    · rw [if_pos c14] at H
                      have c14b0 : decide (0 ≤ (ji13)) = true := decide_eq_true c14
                      clear c14
                      by_cases c15 : (ji13) < (l0.length : Int)
                      · rw [if_pos c15] at H
                        have c15b0 : decide ((ji13) < (l0.length : Int)) = true := decide_eq_true c15
                        clear c15
                        by_cases c16 : ((rd_T108 l0 (ji13)).f0).toList = ([] : List UInt8)
                        · rw [if_pos c16] at H
                          have c16b0 : (((rd_T108 l0 (ji13)).f0).toList == ([] : List UInt8)) = true := beq_iff_eq.mpr c16
                          have c16b1 : (((rd_T108 l0 (ji13)).f0).toList != ([] : List UInt8)) = false := bne_eq_false_iff_eq.mpr c16
                          (try (have c16b2 : List.isEmpty (((rd_T108 l0 (ji13)).f0).toList) = true := by simpa using c16))
                          clear c16
                          replace H := Option.bind_eq_some_iff.mp H
                          obtain ⟨t214, A170, H⟩ := H
                          replace H : (if t214 = true then (if x8_1.length < 4398046511104 then (impl_partsOf.l0 k1 l0 (⟨#[]⟩ : ByteArray) (x8_1 ++ [(⟨(rd_T108 y206 x31_1).f1, x6_1⟩ : S62)]) y206 (y206.length : Int) ji13) else (none)) else (some (([] : List (S62)), false))) = some (r1, r2) := H
                          have A17 := Aside0.mk A170
                          clear A170
                          by_cases c18 : t214 = true
                          · subst c18
                            have H1 : (if x8_1.length < 4398046511104 then (impl_partsOf.l0 k1 l0 (⟨#[]⟩ : ByteArray) (x8_1 ++ [(⟨(rd_T108 y206 x31_1).f1, x6_1⟩ : S62)]) y206 (y206.length : Int) ji13) else (none)) = some (r1, r2) := by rw [if_pos rfl] at H; exact H
                            clear H
                            have H := H1
                            clear H1
                            by_cases c19 : x8_1.length < 4398046511104
                            · rw [if_pos c19] at H
                              have LMc19 := Aside0.mk c19
                              clear c19
                              obtain ⟨y215, hy215⟩ : ∃ y_ : List (S62), y_ = (x8_1 ++ [(⟨(rd_T108 y206 x31_1).f1, x6_1⟩ : S62)]) := ⟨_, rfl⟩
                              replace H : (impl_partsOf.l0 k1 l0 (⟨#[]⟩ : ByteArray) y215 y206 (y206.length : Int) ji13) = some (r1, r2) := by first | (rw [hy215]; with_reducible exact H) | (have H2_ := (Option.bind_some _ _).symm.trans H; rw [hy215]; with_reducible exact H2_) | (have H2_ := (Option.bind_some _ _).symm.trans H; with_reducible exact H2_) | with_reducible exact H | (rw [hy215]; exact H) | exact H
                              have Ny215 := Aside0.mk hy215
                              clear hy215
                              have H' := Aside0.mk H
                              clear H
                              have p211 : 0 ≤ (x31_1 : Int) := of_decide_eq_true (by first | (with_reducible assumption) | assumption)
                              have q211 : x31_1 < (y206.length : Int) := of_decide_eq_true (by first | (with_reducible assumption) | assumption)
                              obtain ⟨ad211, e211, hx211_0, hx211_1⟩ := at_T108 HR209.out x31_1 p211 q211
                              obtain rfl : ad203 = ad211 := (by injection e211)
                              replace hx211_0 := (HB.out.cell (World.block_lt_of_cell? w _ hx211_0)).trans hx211_0
                              replace hx211_1 := (HB.out.cell (World.block_lt_of_cell? w _ hx211_1)).trans hx211_1
                              replace p211 := eq_true p211
                              replace q211 := eq_true q211
                              go_wp2_with (first | ((with_reducible refine gate_dst (N := 10) rfl ?_); refine box_event ?hg (N := 10) ?hd (cs := #[.string (⟨#[]⟩ : ByteArray), .string (⟨#[]⟩ : ByteArray)]) (t := 108) ?hr ?_; (case hd => rfl); (case hg => rfl); (case hr => first | (go_simp; done) | (go_simp; rfl)); intro gb212 hg w20 hbox hb; have n0_ := Aside0.mk (Kd.R_below (by (with_reducible repeat (first | apply Kd.R_alloc | apply Kd.R_drewN | apply Kd.R_drew)); exact HO_8.out) hb); have n1_ := Aside0.mk (below_step (by repeat (first | (with_reducible first | exact HB.out | apply below_alloc | apply pw_below_drewN | apply below_drew1) | exact HB.out)) hb); have n2_ := Aside0.mk (hbox); have n3_ := Aside0.mk ((by rw [hg]; exact (below_size (by repeat (first | (with_reducible first | exact HB.out | apply below_alloc | apply pw_below_drewN | apply below_drew1) | exact HB.out))) : w.heap.size ≤ gb212)); have n4_ := Aside0.mk ((by rw [hg]; exact (below_size (by repeat (first | (with_reducible first | exact HB.out | apply below_alloc | apply pw_below_drewN | apply below_drew1) | exact HB.out))) : w.heap.size ≤ gb212)); clear HO_8; clear HB; have HO_8 := n0_; have HB := n1_; have BK212 := n2_; have GW212 := n3_; have GE212 := n4_; clear n0_ n1_ n2_ n3_ n4_; clear hb hbox hg; have hcz21_0 : w20.cell? ⟨gb212, 0, none⟩ = some (.string (⟨#[]⟩ : ByteArray)) := (blk_cell BK212.out 0).trans rfl; have hcz21_1 : w20.cell? ⟨gb212, 1, none⟩ = some (.string (⟨#[]⟩ : ByteArray)) := (blk_cell BK212.out 1).trans rfl; have hfz21_0 := blk_frozen BK212.out 0; have hfz21_1 := blk_frozen BK212.out 1; have p213 : 0 ≤ ((ji13) : Int) := of_decide_eq_true (by first | (with_reducible assumption) | assumption); have q213 : (ji13) < (l0.length : Int) := of_decide_eq_true (by first | (with_reducible assumption) | assumption); obtain ⟨ad213, e213, hx213_0, hx213_1⟩ := at_T108 HR0.out (ji13) p213 q213; obtain rfl : ad203 = ad213 := (by injection e213); have hn213_0 : ad203.block ≠ gb212 := Nat.ne_of_lt (Nat.lt_of_lt_of_le (by have := World.block_lt_of_cell? _ _ hx213_0; first | rwa [add_block] at this | exact this) GW212.out); have hn213_1 : ad203.block ≠ gb212 := Nat.ne_of_lt (Nat.lt_of_lt_of_le (by have := World.block_lt_of_cell? _ _ hx213_0; first | rwa [add_block] at this | exact this) GW212.out); replace hx213_0 := (HB.out.cell (World.block_lt_of_cell? w _ hx213_0)).trans hx213_0; replace hx213_1 := (HB.out.cell (World.block_lt_of_cell? w _ hx213_1)).trans hx213_1; replace hx213_0 := (cell_far (p := ⟨gb212, 0, none⟩) (by first | (rw [add_block]; exact hn213_0) | (show (Addr.add _ _).block ≠ _; rw [add_block]; exact hn213_0) | exact hn213_0) (.string ((rd_T108 y206 x31_1).f0))).trans hx213_0; replace hx213_1 := (cell_far (p := ⟨gb212, 0, none⟩) (by first | (rw [add_block]; exact hn213_0) | (show (Addr.add _ _).block ≠ _; rw [add_block]; exact hn213_0) | exact hn213_0) (.string ((rd_T108 y206 x31_1).f0))).trans hx213_1; replace hx213_0 := (cell_far (p := ⟨gb212, 1, none⟩) (by first | (rw [add_block]; exact hn213_1) | (show (Addr.add _ _).block ≠ _; rw [add_block]; exact hn213_1) | exact hn213_1) (.string ((rd_T108 y206 x31_1).f1))).trans hx213_0; replace hx213_1 := (cell_far (p := ⟨gb212, 1, none⟩) (by first | (rw [add_block]; exact hn213_1) | (show (Addr.add _ _).block ≠ _; rw [add_block]; exact hn213_1) | exact hn213_1) (.string ((rd_T108 y206 x31_1).f1))).trans hx213_1; (try have hy213_0 := fun (n_ : Nat) => (show ((((w20.drewN n_).setCell ⟨gb212, 0, none⟩ (.string ((rd_T108 y206 x31_1).f0))).setCell ⟨gb212, 1, none⟩ (.string ((rd_T108 y206 x31_1).f1)))).cell? _ = some _ from hx213_0)); (try have hy213_1 := fun (n_ : Nat) => (show ((((w20.drewN n_).setCell ⟨gb212, 0, none⟩ (.string ((rd_T108 y206 x31_1).f0))).setCell ⟨gb212, 1, none⟩ (.string ((rd_T108 y206 x31_1).f1)))).cell? _ = some _ from hx213_1)); clear hn213_0; clear hn213_1; replace p213 := eq_true p213; replace q213 := eq_true q213) | (go_at_call 86; (with_reducible refine (impl_isValue.calls k1 x6_1 true _ A17.out).mono ?_); rintro e w' ⟨rfl, ⟨nd, rfl⟩⟩; (try first | exact ⟨rfl, _, World.drewN_drewN _ _ _⟩ | exact ⟨rfl, _, Eq.trans (World.drewN_drewN _ _ _) (congrArg (World.drewN _) (Nat.add_assoc _ _ _))⟩)) | ((with_reducible refine gate_builtin (b := .append) (xs := #[.tmp 62, .tmp 67]) rfl ?_); at_builtin; refine Kd.R_append k62 (w0 := w) w.heap.size rfl (.tmp 62) (.tmp 67) 35 62 (.agg #[(.string ⟨#[]⟩), (.string ⟨#[]⟩)]) 32 rfl Try.underlying35 info62 rfl (by decide) (by omega) u8 x8_1 (⟨(rd_T108 y206 x31_1).f1, x6_1⟩ : S62) [.string ((rd_T108 y206 x31_1).f1), .string x6_1] (fun _ => True) (fun _ => False) rfl (by first | (go_simp; done) | (go_simp; rfl)) ?aP (fun _ hk => hk.elim) ?aF ?aO ?aB ?aS ?aL ?_; (case aP => exact k62_mkM _ _ _ (⟨(rd_T108 y206 x31_1).f1, x6_1⟩ : S62)); (case aB => exact (by repeat (first | (with_reducible first | exact HB.out | apply below_alloc | apply pw_below_drewN | apply below_drew1 | refine below_set ?_ GE212.out) | exact HB.out))); (case aF => exact (fun _ _ => trivial)); (case aO => exact (by (with_reducible repeat (first | apply Kd.R_alloc | apply Kd.R_drewN | apply Kd.R_drew)); exact Kd.R_mono (Kd.R_far (p := ⟨gb212, 1, none⟩) (Kd.R_far (p := ⟨gb212, 0, none⟩) (Kd.R_types HO_8.out BK212.out (by decide)) (fun _ hk => hk.2) (.string ((rd_T108 y206 x31_1).f0))) (fun _ hk => hk.2) (.string ((rd_T108 y206 x31_1).f1))) (fun _ hk => trivial))); (case aS => exact (below_size (by repeat (first | (with_reducible first | exact HB.out | apply below_alloc | apply pw_below_drewN | apply below_drew1 | refine below_set ?_ GE212.out) | exact HB.out)))); (case aL => have := LMc19.out; omega); intro v216 w22 ho hb hg hat; rw [← Ny215.out] at ho; have n0_ := Aside0.mk (blk_grown (g := gb212) (o := .cells #[.string ((rd_T108 y206 x31_1).f0), .string ((rd_T108 y206 x31_1).f1)] 108 (0, 0)) (by (with_reducible repeat (first | refine blk_drewN ?_ _ | refine blk_drew ?_ | refine blk_alloc ?_ _)); refine blk_put (cs := #[.string ((rd_T108 y206 x31_1).f0), .string (⟨#[]⟩ : ByteArray)]) ?_ 1 _ rfl; (with_reducible repeat (first | refine blk_drewN ?_ _ | refine blk_drew ?_ | refine blk_alloc ?_ _)); refine blk_put (cs := #[.string (⟨#[]⟩ : ByteArray), .string (⟨#[]⟩ : ByteArray)]) ?_ 0 _ rfl; (with_reducible repeat (first | refine blk_drewN ?_ _ | refine blk_drew ?_ | refine blk_alloc ?_ _)); exact BK212.out) hg (Kd.R_ne HO_8.out BK212.out (by decide))); have n1_ := Aside0.mk (hb); have n2_ := Aside0.mk (ho); clear BK212; clear HB; clear HO_8; have BK212 := n0_; have HB := n1_; have HO217 := n2_; clear n0_ n1_ n2_; clear ho hb hg hat))
                              repeat (go_quiet (first | ((with_reducible refine gate_dst (N := 10) rfl ?_); refine box_event ?hg (N := 10) ?hd (cs := #[.string (⟨#[]⟩ : ByteArray), .string (⟨#[]⟩ : ByteArray)]) (t := 108) ?hr ?_; (case hd => rfl); (case hg => rfl); (case hr => first | (go_simp; done) | (go_simp; rfl)); intro gb212 hg w20 hbox hb; have n0_ := Aside0.mk (Kd.R_below (by (with_reducible repeat (first | apply Kd.R_alloc | apply Kd.R_drewN | apply Kd.R_drew)); exact HO_8.out) hb); have n1_ := Aside0.mk (below_step (by repeat (first | (with_reducible first | exact HB.out | apply below_alloc | apply pw_below_drewN | apply below_drew1) | exact HB.out)) hb); have n2_ := Aside0.mk (hbox); have n3_ := Aside0.mk ((by rw [hg]; exact (below_size (by repeat (first | (with_reducible first | exact HB.out | apply below_alloc | apply pw_below_drewN | apply below_drew1) | exact HB.out))) : w.heap.size ≤ gb212)); have n4_ := Aside0.mk ((by rw [hg]; exact (below_size (by repeat (first | (with_reducible first | exact HB.out | apply below_alloc | apply pw_below_drewN | apply below_drew1) | exact HB.out))) : w.heap.size ≤ gb212)); clear HO_8; clear HB; have HO_8 := n0_; have HB := n1_; have BK212 := n2_; have GW212 := n3_; have GE212 := n4_; clear n0_ n1_ n2_ n3_ n4_; clear hb hbox hg; have hcz21_0 : w20.cell? ⟨gb212, 0, none⟩ = some (.string (⟨#[]⟩ : ByteArray)) := (blk_cell BK212.out 0).trans rfl; have hcz21_1 : w20.cell? ⟨gb212, 1, none⟩ = some (.string (⟨#[]⟩ : ByteArray)) := (blk_cell BK212.out 1).trans rfl; have hfz21_0 := blk_frozen BK212.out 0; have hfz21_1 := blk_frozen BK212.out 1; have p213 : 0 ≤ ((ji13) : Int) := of_decide_eq_true (by first | (with_reducible assumption) | assumption); have q213 : (ji13) < (l0.length : Int) := of_decide_eq_true (by first | (with_reducible assumption) | assumption); obtain ⟨ad213, e213, hx213_0, hx213_1⟩ := at_T108 HR0.out (ji13) p213 q213; obtain rfl : ad203 = ad213 := (by injection e213); have hn213_0 : ad203.block ≠ gb212 := Nat.ne_of_lt (Nat.lt_of_lt_of_le (by have := World.block_lt_of_cell? _ _ hx213_0; first | rwa [add_block] at this | exact this) GW212.out); have hn213_1 : ad203.block ≠ gb212 := Nat.ne_of_lt (Nat.lt_of_lt_of_le (by have := World.block_lt_of_cell? _ _ hx213_0; first | rwa [add_block] at this | exact this) GW212.out); replace hx213_0 := (HB.out.cell (World.block_lt_of_cell? w _ hx213_0)).trans hx213_0; replace hx213_1 := (HB.out.cell (World.block_lt_of_cell? w _ hx213_1)).trans hx213_1; replace hx213_0 := (cell_far (p := ⟨gb212, 0, none⟩) (by first | (rw [add_block]; exact hn213_0) | (show (Addr.add _ _).block ≠ _; rw [add_block]; exact hn213_0) | exact hn213_0) (.string ((rd_T108 y206 x31_1).f0))).trans hx213_0; replace hx213_1 := (cell_far (p := ⟨gb212, 0, none⟩) (by first | (rw [add_block]; exact hn213_0) | (show (Addr.add _ _).block ≠ _; rw [add_block]; exact hn213_0) | exact hn213_0) (.string ((rd_T108 y206 x31_1).f0))).trans hx213_1; replace hx213_0 := (cell_far (p := ⟨gb212, 1, none⟩) (by first | (rw [add_block]; exact hn213_1) | (show (Addr.add _ _).block ≠ _; rw [add_block]; exact hn213_1) | exact hn213_1) (.string ((rd_T108 y206 x31_1).f1))).trans hx213_0; replace hx213_1 := (cell_far (p := ⟨gb212, 1, none⟩) (by first | (rw [add_block]; exact hn213_1) | (show (Addr.add _ _).block ≠ _; rw [add_block]; exact hn213_1) | exact hn213_1) (.string ((rd_T108 y206 x31_1).f1))).trans hx213_1; (try have hy213_0 := fun (n_ : Nat) => (show ((((w20.drewN n_).setCell ⟨gb212, 0, none⟩ (.string ((rd_T108 y206 x31_1).f0))).setCell ⟨gb212, 1, none⟩ (.string ((rd_T108 y206 x31_1).f1)))).cell? _ = some _ from hx213_0)); (try have hy213_1 := fun (n_ : Nat) => (show ((((w20.drewN n_).setCell ⟨gb212, 0, none⟩ (.string ((rd_T108 y206 x31_1).f0))).setCell ⟨gb212, 1, none⟩ (.string ((rd_T108 y206 x31_1).f1)))).cell? _ = some _ from hx213_1)); clear hn213_0; clear hn213_1; replace p213 := eq_true p213; replace q213 := eq_true q213) | (go_at_call 86; (with_reducible refine (impl_isValue.calls k1 x6_1 true _ A17.out).mono ?_); rintro e w' ⟨rfl, ⟨nd, rfl⟩⟩; (try first | exact ⟨rfl, _, World.drewN_drewN _ _ _⟩ | exact ⟨rfl, _, Eq.trans (World.drewN_drewN _ _ _) (congrArg (World.drewN _) (Nat.add_assoc _ _ _))⟩)) | ((with_reducible refine gate_builtin (b := .append) (xs := #[.tmp 62, .tmp 67]) rfl ?_); at_builtin; refine Kd.R_append k62 (w0 := w) w.heap.size rfl (.tmp 62) (.tmp 67) 35 62 (.agg #[(.string ⟨#[]⟩), (.string ⟨#[]⟩)]) 32 rfl Try.underlying35 info62 rfl (by decide) (by omega) u8 x8_1 (⟨(rd_T108 y206 x31_1).f1, x6_1⟩ : S62) [.string ((rd_T108 y206 x31_1).f1), .string x6_1] (fun _ => True) (fun _ => False) rfl (by first | (go_simp; done) | (go_simp; rfl)) ?aP (fun _ hk => hk.elim) ?aF ?aO ?aB ?aS ?aL ?_; (case aP => exact k62_mkM _ _ _ (⟨(rd_T108 y206 x31_1).f1, x6_1⟩ : S62)); (case aB => exact (by repeat (first | (with_reducible first | exact HB.out | apply below_alloc | apply pw_below_drewN | apply below_drew1 | refine below_set ?_ GE212.out) | exact HB.out))); (case aF => exact (fun _ _ => trivial)); (case aO => exact (by (with_reducible repeat (first | apply Kd.R_alloc | apply Kd.R_drewN | apply Kd.R_drew)); exact Kd.R_mono (Kd.R_far (p := ⟨gb212, 1, none⟩) (Kd.R_far (p := ⟨gb212, 0, none⟩) (Kd.R_types HO_8.out BK212.out (by decide)) (fun _ hk => hk.2) (.string ((rd_T108 y206 x31_1).f0))) (fun _ hk => hk.2) (.string ((rd_T108 y206 x31_1).f1))) (fun _ hk => trivial))); (case aS => exact (below_size (by repeat (first | (with_reducible first | exact HB.out | apply below_alloc | apply pw_below_drewN | apply below_drew1 | refine below_set ?_ GE212.out) | exact HB.out)))); (case aL => have := LMc19.out; omega); intro v216 w22 ho hb hg hat; rw [← Ny215.out] at ho; have n0_ := Aside0.mk (blk_grown (g := gb212) (o := .cells #[.string ((rd_T108 y206 x31_1).f0), .string ((rd_T108 y206 x31_1).f1)] 108 (0, 0)) (by (with_reducible repeat (first | refine blk_drewN ?_ _ | refine blk_drew ?_ | refine blk_alloc ?_ _)); refine blk_put (cs := #[.string ((rd_T108 y206 x31_1).f0), .string (⟨#[]⟩ : ByteArray)]) ?_ 1 _ rfl; (with_reducible repeat (first | refine blk_drewN ?_ _ | refine blk_drew ?_ | refine blk_alloc ?_ _)); refine blk_put (cs := #[.string (⟨#[]⟩ : ByteArray), .string (⟨#[]⟩ : ByteArray)]) ?_ 0 _ rfl; (with_reducible repeat (first | refine blk_drewN ?_ _ | refine blk_drew ?_ | refine blk_alloc ?_ _)); exact BK212.out) hg (Kd.R_ne HO_8.out BK212.out (by decide))); have n1_ := Aside0.mk (hb); have n2_ := Aside0.mk (ho); clear BK212; clear HB; clear HO_8; have BK212 := n0_; have HB := n1_; have HO217 := n2_; clear n0_ n1_ n2_; clear ho hb hg hat)); try go_wp2_with (first | ((with_reducible refine gate_dst (N := 10) rfl ?_); refine box_event ?hg (N := 10) ?hd (cs := #[.string (⟨#[]⟩ : ByteArray), .string (⟨#[]⟩ : ByteArray)]) (t := 108) ?hr ?_; (case hd => rfl); (case hg => rfl); (case hr => first | (go_simp; done) | (go_simp; rfl)); intro gb212 hg w20 hbox hb; have n0_ := Aside0.mk (Kd.R_below (by (with_reducible repeat (first | apply Kd.R_alloc | apply Kd.R_drewN | apply Kd.R_drew)); exact HO_8.out) hb); have n1_ := Aside0.mk (below_step (by repeat (first | (with_reducible first | exact HB.out | apply below_alloc | apply pw_below_drewN | apply below_drew1) | exact HB.out)) hb); have n2_ := Aside0.mk (hbox); have n3_ := Aside0.mk ((by rw [hg]; exact (below_size (by repeat (first | (with_reducible first | exact HB.out | apply below_alloc | apply pw_below_drewN | apply below_drew1) | exact HB.out))) : w.heap.size ≤ gb212)); have n4_ := Aside0.mk ((by rw [hg]; exact (below_size (by repeat (first | (with_reducible first | exact HB.out | apply below_alloc | apply pw_below_drewN | apply below_drew1) | exact HB.out))) : w.heap.size ≤ gb212)); clear HO_8; clear HB; have HO_8 := n0_; have HB := n1_; have BK212 := n2_; have GW212 := n3_; have GE212 := n4_; clear n0_ n1_ n2_ n3_ n4_; clear hb hbox hg; have hcz21_0 : w20.cell? ⟨gb212, 0, none⟩ = some (.string (⟨#[]⟩ : ByteArray)) := (blk_cell BK212.out 0).trans rfl; have hcz21_1 : w20.cell? ⟨gb212, 1, none⟩ = some (.string (⟨#[]⟩ : ByteArray)) := (blk_cell BK212.out 1).trans rfl; have hfz21_0 := blk_frozen BK212.out 0; have hfz21_1 := blk_frozen BK212.out 1; have p213 : 0 ≤ ((ji13) : Int) := of_decide_eq_true (by first | (with_reducible assumption) | assumption); have q213 : (ji13) < (l0.length : Int) := of_decide_eq_true (by first | (with_reducible assumption) | assumption); obtain ⟨ad213, e213, hx213_0, hx213_1⟩ := at_T108 HR0.out (ji13) p213 q213; obtain rfl : ad203 = ad213 := (by injection e213); have hn213_0 : ad203.block ≠ gb212 := Nat.ne_of_lt (Nat.lt_of_lt_of_le (by have := World.block_lt_of_cell? _ _ hx213_0; first | rwa [add_block] at this | exact this) GW212.out); have hn213_1 : ad203.block ≠ gb212 := Nat.ne_of_lt (Nat.lt_of_lt_of_le (by have := World.block_lt_of_cell? _ _ hx213_0; first | rwa [add_block] at this | exact this) GW212.out); replace hx213_0 := (HB.out.cell (World.block_lt_of_cell? w _ hx213_0)).trans hx213_0; replace hx213_1 := (HB.out.cell (World.block_lt_of_cell? w _ hx213_1)).trans hx213_1; replace hx213_0 := (cell_far (p := ⟨gb212, 0, none⟩) (by first | (rw [add_block]; exact hn213_0) | (show (Addr.add _ _).block ≠ _; rw [add_block]; exact hn213_0) | exact hn213_0) (.string ((rd_T108 y206 x31_1).f0))).trans hx213_0; replace hx213_1 := (cell_far (p := ⟨gb212, 0, none⟩) (by first | (rw [add_block]; exact hn213_0) | (show (Addr.add _ _).block ≠ _; rw [add_block]; exact hn213_0) | exact hn213_0) (.string ((rd_T108 y206 x31_1).f0))).trans hx213_1; replace hx213_0 := (cell_far (p := ⟨gb212, 1, none⟩) (by first | (rw [add_block]; exact hn213_1) | (show (Addr.add _ _).block ≠ _; rw [add_block]; exact hn213_1) | exact hn213_1) (.string ((rd_T108 y206 x31_1).f1))).trans hx213_0; replace hx213_1 := (cell_far (p := ⟨gb212, 1, none⟩) (by first | (rw [add_block]; exact hn213_1) | (show (Addr.add _ _).block ≠ _; rw [add_block]; exact hn213_1) | exact hn213_1) (.string ((rd_T108 y206 x31_1).f1))).trans hx213_1; (try have hy213_0 := fun (n_ : Nat) => (show ((((w20.drewN n_).setCell ⟨gb212, 0, none⟩ (.string ((rd_T108 y206 x31_1).f0))).setCell ⟨gb212, 1, none⟩ (.string ((rd_T108 y206 x31_1).f1)))).cell? _ = some _ from hx213_0)); (try have hy213_1 := fun (n_ : Nat) => (show ((((w20.drewN n_).setCell ⟨gb212, 0, none⟩ (.string ((rd_T108 y206 x31_1).f0))).setCell ⟨gb212, 1, none⟩ (.string ((rd_T108 y206 x31_1).f1)))).cell? _ = some _ from hx213_1)); clear hn213_0; clear hn213_1; replace p213 := eq_true p213; replace q213 := eq_true q213) | (go_at_call 86; (with_reducible refine (impl_isValue.calls k1 x6_1 true _ A17.out).mono ?_); rintro e w' ⟨rfl, ⟨nd, rfl⟩⟩; (try first | exact ⟨rfl, _, World.drewN_drewN _ _ _⟩ | exact ⟨rfl, _, Eq.trans (World.drewN_drewN _ _ _) (congrArg (World.drewN _) (Nat.add_assoc _ _ _))⟩)) | ((with_reducible refine gate_builtin (b := .append) (xs := #[.tmp 62, .tmp 67]) rfl ?_); at_builtin; refine Kd.R_append k62 (w0 := w) w.heap.size rfl (.tmp 62) (.tmp 67) 35 62 (.agg #[(.string ⟨#[]⟩), (.string ⟨#[]⟩)]) 32 rfl Try.underlying35 info62 rfl (by decide) (by omega) u8 x8_1 (⟨(rd_T108 y206 x31_1).f1, x6_1⟩ : S62) [.string ((rd_T108 y206 x31_1).f1), .string x6_1] (fun _ => True) (fun _ => False) rfl (by first | (go_simp; done) | (go_simp; rfl)) ?aP (fun _ hk => hk.elim) ?aF ?aO ?aB ?aS ?aL ?_; (case aP => exact k62_mkM _ _ _ (⟨(rd_T108 y206 x31_1).f1, x6_1⟩ : S62)); (case aB => exact (by repeat (first | (with_reducible first | exact HB.out | apply below_alloc | apply pw_below_drewN | apply below_drew1 | refine below_set ?_ GE212.out) | exact HB.out))); (case aF => exact (fun _ _ => trivial)); (case aO => exact (by (with_reducible repeat (first | apply Kd.R_alloc | apply Kd.R_drewN | apply Kd.R_drew)); exact Kd.R_mono (Kd.R_far (p := ⟨gb212, 1, none⟩) (Kd.R_far (p := ⟨gb212, 0, none⟩) (Kd.R_types HO_8.out BK212.out (by decide)) (fun _ hk => hk.2) (.string ((rd_T108 y206 x31_1).f0))) (fun _ hk => hk.2) (.string ((rd_T108 y206 x31_1).f1))) (fun _ hk => trivial))); (case aS => exact (below_size (by repeat (first | (with_reducible first | exact HB.out | apply below_alloc | apply pw_below_drewN | apply below_drew1 | refine below_set ?_ GE212.out) | exact HB.out)))); (case aL => have := LMc19.out; omega); intro v216 w22 ho hb hg hat; rw [← Ny215.out] at ho; have n0_ := Aside0.mk (blk_grown (g := gb212) (o := .cells #[.string ((rd_T108 y206 x31_1).f0), .string ((rd_T108 y206 x31_1).f1)] 108 (0, 0)) (by (with_reducible repeat (first | refine blk_drewN ?_ _ | refine blk_drew ?_ | refine blk_alloc ?_ _)); refine blk_put (cs := #[.string ((rd_T108 y206 x31_1).f0), .string (⟨#[]⟩ : ByteArray)]) ?_ 1 _ rfl; (with_reducible repeat (first | refine blk_drewN ?_ _ | refine blk_drew ?_ | refine blk_alloc ?_ _)); refine blk_put (cs := #[.string (⟨#[]⟩ : ByteArray), .string (⟨#[]⟩ : ByteArray)]) ?_ 0 _ rfl; (with_reducible repeat (first | refine blk_drewN ?_ _ | refine blk_drew ?_ | refine blk_alloc ?_ _)); exact BK212.out) hg (Kd.R_ne HO_8.out BK212.out (by decide))); have n1_ := Aside0.mk (hb); have n2_ := Aside0.mk (ho); clear BK212; clear HB; clear HO_8; have BK212 := n0_; have HB := n1_; have HO217 := n2_; clear n0_ n1_ n2_; clear ho hb hg hat)))
                              go_roundg k1
                              case measure => have := HK1.out; omega
                              case rel => exact ⟨((⟨#[]⟩ : ByteArray)), (y215), (ji13), (by first | rfl | (simp; done) | (simp [*]; done)), (by first | rfl | (simp; done) | (simp only [← hji13] <;> (first | rfl | simp)) | (simp [*]; done)), H', ⟨by have := HK1.out; omega⟩, ⟨by (with_reducible repeat (first | apply Kd.R_alloc | apply Kd.R_drewN | apply Kd.R_drew)); exact HO217.out⟩, ⟨by repeat (first | (with_reducible first | exact HB.out | apply below_alloc | apply pw_below_drewN | apply below_drew1 | refine below_set ?_ GE212.out) | exact HB.out)⟩⟩
                            · rw [if_neg c19] at H
                              exact absurd H (by simp)
                          · replace c18 := Bool.eq_false_iff.mpr c18
                            subst c18
                            have H1 : (some (([] : List (S62)), false)) = some (r1, r2) := by rw [if_neg (show ¬ (false = true) by decide)] at H; exact H
                            clear H
                            have H := H1
                            clear H1
                            simp only [Option.some.injEq, Prod.mk.injEq] at H
                            obtain ⟨rfl, rfl⟩ := H
                            have p211 : 0 ≤ (x31_1 : Int) := of_decide_eq_true (by first | (with_reducible assumption) | assumption)
                            have q211 : x31_1 < (y206.length : Int) := of_decide_eq_true (by first | (with_reducible assumption) | assumption)
                            obtain ⟨ad211, e211, hx211_0, hx211_1⟩ := at_T108 HR209.out x31_1 p211 q211
                            obtain rfl : ad203 = ad211 := (by injection e211)
                            replace hx211_0 := (HB.out.cell (World.block_lt_of_cell? w _ hx211_0)).trans hx211_0
                            replace hx211_1 := (HB.out.cell (World.block_lt_of_cell? w _ hx211_1)).trans hx211_1
                            replace p211 := eq_true p211
                            replace q211 := eq_true q211
                            go_wp2_with (first | ((with_reducible refine gate_dst (N := 10) rfl ?_); refine box_event ?hg (N := 10) ?hd (cs := #[.string (⟨#[]⟩ : ByteArray), .string (⟨#[]⟩ : ByteArray)]) (t := 108) ?hr ?_; (case hd => rfl); (case hg => rfl); (case hr => first | (go_simp; done) | (go_simp; rfl)); intro gb212 hg w23 hbox hb; have n0_ := Aside0.mk (Kd.R_below (by (with_reducible repeat (first | apply Kd.R_alloc | apply Kd.R_drewN | apply Kd.R_drew)); exact HO_8.out) hb); have n1_ := Aside0.mk (below_step (by repeat (first | (with_reducible first | exact HB.out | apply below_alloc | apply pw_below_drewN | apply below_drew1) | exact HB.out)) hb); have n2_ := Aside0.mk (hbox); have n3_ := Aside0.mk ((by rw [hg]; exact (below_size (by repeat (first | (with_reducible first | exact HB.out | apply below_alloc | apply pw_below_drewN | apply below_drew1) | exact HB.out))) : w.heap.size ≤ gb212)); have n4_ := Aside0.mk ((by rw [hg]; exact (below_size (by repeat (first | (with_reducible first | exact HB.out | apply below_alloc | apply pw_below_drewN | apply below_drew1) | exact HB.out))) : w.heap.size ≤ gb212)); clear HO_8; clear HB; have HO_8 := n0_; have HB := n1_; have BK212 := n2_; have GW212 := n3_; have GE212 := n4_; clear n0_ n1_ n2_ n3_ n4_; clear hb hbox hg; have hcz24_0 : w23.cell? ⟨gb212, 0, none⟩ = some (.string (⟨#[]⟩ : ByteArray)) := (blk_cell BK212.out 0).trans rfl; have hcz24_1 : w23.cell? ⟨gb212, 1, none⟩ = some (.string (⟨#[]⟩ : ByteArray)) := (blk_cell BK212.out 1).trans rfl; have hfz24_0 := blk_frozen BK212.out 0; have hfz24_1 := blk_frozen BK212.out 1; have p213 : 0 ≤ ((ji13) : Int) := of_decide_eq_true (by first | (with_reducible assumption) | assumption); have q213 : (ji13) < (l0.length : Int) := of_decide_eq_true (by first | (with_reducible assumption) | assumption); obtain ⟨ad213, e213, hx213_0, hx213_1⟩ := at_T108 HR0.out (ji13) p213 q213; obtain rfl : ad203 = ad213 := (by injection e213); have hn213_0 : ad203.block ≠ gb212 := Nat.ne_of_lt (Nat.lt_of_lt_of_le (by have := World.block_lt_of_cell? _ _ hx213_0; first | rwa [add_block] at this | exact this) GW212.out); have hn213_1 : ad203.block ≠ gb212 := Nat.ne_of_lt (Nat.lt_of_lt_of_le (by have := World.block_lt_of_cell? _ _ hx213_0; first | rwa [add_block] at this | exact this) GW212.out); replace hx213_0 := (HB.out.cell (World.block_lt_of_cell? w _ hx213_0)).trans hx213_0; replace hx213_1 := (HB.out.cell (World.block_lt_of_cell? w _ hx213_1)).trans hx213_1; replace hx213_0 := (cell_far (p := ⟨gb212, 0, none⟩) (by first | (rw [add_block]; exact hn213_0) | (show (Addr.add _ _).block ≠ _; rw [add_block]; exact hn213_0) | exact hn213_0) (.string ((rd_T108 y206 x31_1).f0))).trans hx213_0; replace hx213_1 := (cell_far (p := ⟨gb212, 0, none⟩) (by first | (rw [add_block]; exact hn213_0) | (show (Addr.add _ _).block ≠ _; rw [add_block]; exact hn213_0) | exact hn213_0) (.string ((rd_T108 y206 x31_1).f0))).trans hx213_1; replace hx213_0 := (cell_far (p := ⟨gb212, 1, none⟩) (by first | (rw [add_block]; exact hn213_1) | (show (Addr.add _ _).block ≠ _; rw [add_block]; exact hn213_1) | exact hn213_1) (.string ((rd_T108 y206 x31_1).f1))).trans hx213_0; replace hx213_1 := (cell_far (p := ⟨gb212, 1, none⟩) (by first | (rw [add_block]; exact hn213_1) | (show (Addr.add _ _).block ≠ _; rw [add_block]; exact hn213_1) | exact hn213_1) (.string ((rd_T108 y206 x31_1).f1))).trans hx213_1; (try have hy213_0 := fun (n_ : Nat) => (show ((((w23.drewN n_).setCell ⟨gb212, 0, none⟩ (.string ((rd_T108 y206 x31_1).f0))).setCell ⟨gb212, 1, none⟩ (.string ((rd_T108 y206 x31_1).f1)))).cell? _ = some _ from hx213_0)); (try have hy213_1 := fun (n_ : Nat) => (show ((((w23.drewN n_).setCell ⟨gb212, 0, none⟩ (.string ((rd_T108 y206 x31_1).f0))).setCell ⟨gb212, 1, none⟩ (.string ((rd_T108 y206 x31_1).f1)))).cell? _ = some _ from hx213_1)); clear hn213_0; clear hn213_1; replace p213 := eq_true p213; replace q213 := eq_true q213) | (go_at_call 86; (with_reducible refine (impl_isValue.calls k1 x6_1 false _ A17.out).mono ?_); rintro e w' ⟨rfl, ⟨nd, rfl⟩⟩; (try first | exact ⟨rfl, _, World.drewN_drewN _ _ _⟩ | exact ⟨rfl, _, Eq.trans (World.drewN_drewN _ _ _) (congrArg (World.drewN _) (Nat.add_assoc _ _ _))⟩)))
                            repeat (go_quiet (first | ((with_reducible refine gate_dst (N := 10) rfl ?_); refine box_event ?hg (N := 10) ?hd (cs := #[.string (⟨#[]⟩ : ByteArray), .string (⟨#[]⟩ : ByteArray)]) (t := 108) ?hr ?_; (case hd => rfl); (case hg => rfl); (case hr => first | (go_simp; done) | (go_simp; rfl)); intro gb212 hg w23 hbox hb; have n0_ := Aside0.mk (Kd.R_below (by (with_reducible repeat (first | apply Kd.R_alloc | apply Kd.R_drewN | apply Kd.R_drew)); exact HO_8.out) hb); have n1_ := Aside0.mk (below_step (by repeat (first | (with_reducible first | exact HB.out | apply below_alloc | apply pw_below_drewN | apply below_drew1) | exact HB.out)) hb); have n2_ := Aside0.mk (hbox); have n3_ := Aside0.mk ((by rw [hg]; exact (below_size (by repeat (first | (with_reducible first | exact HB.out | apply below_alloc | apply pw_below_drewN | apply below_drew1) | exact HB.out))) : w.heap.size ≤ gb212)); have n4_ := Aside0.mk ((by rw [hg]; exact (below_size (by repeat (first | (with_reducible first | exact HB.out | apply below_alloc | apply pw_below_drewN | apply below_drew1) | exact HB.out))) : w.heap.size ≤ gb212)); clear HO_8; clear HB; have HO_8 := n0_; have HB := n1_; have BK212 := n2_; have GW212 := n3_; have GE212 := n4_; clear n0_ n1_ n2_ n3_ n4_; clear hb hbox hg; have hcz24_0 : w23.cell? ⟨gb212, 0, none⟩ = some (.string (⟨#[]⟩ : ByteArray)) := (blk_cell BK212.out 0).trans rfl; have hcz24_1 : w23.cell? ⟨gb212, 1, none⟩ = some (.string (⟨#[]⟩ : ByteArray)) := (blk_cell BK212.out 1).trans rfl; have hfz24_0 := blk_frozen BK212.out 0; have hfz24_1 := blk_frozen BK212.out 1; have p213 : 0 ≤ ((ji13) : Int) := of_decide_eq_true (by first | (with_reducible assumption) | assumption); have q213 : (ji13) < (l0.length : Int) := of_decide_eq_true (by first | (with_reducible assumption) | assumption); obtain ⟨ad213, e213, hx213_0, hx213_1⟩ := at_T108 HR0.out (ji13) p213 q213; obtain rfl : ad203 = ad213 := (by injection e213); have hn213_0 : ad203.block ≠ gb212 := Nat.ne_of_lt (Nat.lt_of_lt_of_le (by have := World.block_lt_of_cell? _ _ hx213_0; first | rwa [add_block] at this | exact this) GW212.out); have hn213_1 : ad203.block ≠ gb212 := Nat.ne_of_lt (Nat.lt_of_lt_of_le (by have := World.block_lt_of_cell? _ _ hx213_0; first | rwa [add_block] at this | exact this) GW212.out); replace hx213_0 := (HB.out.cell (World.block_lt_of_cell? w _ hx213_0)).trans hx213_0; replace hx213_1 := (HB.out.cell (World.block_lt_of_cell? w _ hx213_1)).trans hx213_1; replace hx213_0 := (cell_far (p := ⟨gb212, 0, none⟩) (by first | (rw [add_block]; exact hn213_0) | (show (Addr.add _ _).block ≠ _; rw [add_block]; exact hn213_0) | exact hn213_0) (.string ((rd_T108 y206 x31_1).f0))).trans hx213_0; replace hx213_1 := (cell_far (p := ⟨gb212, 0, none⟩) (by first | (rw [add_block]; exact hn213_0) | (show (Addr.add _ _).block ≠ _; rw [add_block]; exact hn213_0) | exact hn213_0) (.string ((rd_T108 y206 x31_1).f0))).trans hx213_1; replace hx213_0 := (cell_far (p := ⟨gb212, 1, none⟩) (by first | (rw [add_block]; exact hn213_1) | (show (Addr.add _ _).block ≠ _; rw [add_block]; exact hn213_1) | exact hn213_1) (.string ((rd_T108 y206 x31_1).f1))).trans hx213_0; replace hx213_1 := (cell_far (p := ⟨gb212, 1, none⟩) (by first | (rw [add_block]; exact hn213_1) | (show (Addr.add _ _).block ≠ _; rw [add_block]; exact hn213_1) | exact hn213_1) (.string ((rd_T108 y206 x31_1).f1))).trans hx213_1; (try have hy213_0 := fun (n_ : Nat) => (show ((((w23.drewN n_).setCell ⟨gb212, 0, none⟩ (.string ((rd_T108 y206 x31_1).f0))).setCell ⟨gb212, 1, none⟩ (.string ((rd_T108 y206 x31_1).f1)))).cell? _ = some _ from hx213_0)); (try have hy213_1 := fun (n_ : Nat) => (show ((((w23.drewN n_).setCell ⟨gb212, 0, none⟩ (.string ((rd_T108 y206 x31_1).f0))).setCell ⟨gb212, 1, none⟩ (.string ((rd_T108 y206 x31_1).f1)))).cell? _ = some _ from hx213_1)); clear hn213_0; clear hn213_1; replace p213 := eq_true p213; replace q213 := eq_true q213) | (go_at_call 86; (with_reducible refine (impl_isValue.calls k1 x6_1 false _ A17.out).mono ?_); rintro e w' ⟨rfl, ⟨nd, rfl⟩⟩; (try first | exact ⟨rfl, _, World.drewN_drewN _ _ _⟩ | exact ⟨rfl, _, Eq.trans (World.drewN_drewN _ _ _) (congrArg (World.drewN _) (Nat.add_assoc _ _ _))⟩))); try go_wp2_with (first | ((with_reducible refine gate_dst (N := 10) rfl ?_); refine box_event ?hg (N := 10) ?hd (cs := #[.string (⟨#[]⟩ : ByteArray), .string (⟨#[]⟩ : ByteArray)]) (t := 108) ?hr ?_; (case hd => rfl); (case hg => rfl); (case hr => first | (go_simp; done) | (go_simp; rfl)); intro gb212 hg w23 hbox hb; have n0_ := Aside0.mk (Kd.R_below (by (with_reducible repeat (first | apply Kd.R_alloc | apply Kd.R_drewN | apply Kd.R_drew)); exact HO_8.out) hb); have n1_ := Aside0.mk (below_step (by repeat (first | (with_reducible first | exact HB.out | apply below_alloc | apply pw_below_drewN | apply below_drew1) | exact HB.out)) hb); have n2_ := Aside0.mk (hbox); have n3_ := Aside0.mk ((by rw [hg]; exact (below_size (by repeat (first | (with_reducible first | exact HB.out | apply below_alloc | apply pw_below_drewN | apply below_drew1) | exact HB.out))) : w.heap.size ≤ gb212)); have n4_ := Aside0.mk ((by rw [hg]; exact (below_size (by repeat (first | (with_reducible first | exact HB.out | apply below_alloc | apply pw_below_drewN | apply below_drew1) | exact HB.out))) : w.heap.size ≤ gb212)); clear HO_8; clear HB; have HO_8 := n0_; have HB := n1_; have BK212 := n2_; have GW212 := n3_; have GE212 := n4_; clear n0_ n1_ n2_ n3_ n4_; clear hb hbox hg; have hcz24_0 : w23.cell? ⟨gb212, 0, none⟩ = some (.string (⟨#[]⟩ : ByteArray)) := (blk_cell BK212.out 0).trans rfl; have hcz24_1 : w23.cell? ⟨gb212, 1, none⟩ = some (.string (⟨#[]⟩ : ByteArray)) := (blk_cell BK212.out 1).trans rfl; have hfz24_0 := blk_frozen BK212.out 0; have hfz24_1 := blk_frozen BK212.out 1; have p213 : 0 ≤ ((ji13) : Int) := of_decide_eq_true (by first | (with_reducible assumption) | assumption); have q213 : (ji13) < (l0.length : Int) := of_decide_eq_true (by first | (with_reducible assumption) | assumption); obtain ⟨ad213, e213, hx213_0, hx213_1⟩ := at_T108 HR0.out (ji13) p213 q213; obtain rfl : ad203 = ad213 := (by injection e213); have hn213_0 : ad203.block ≠ gb212 := Nat.ne_of_lt (Nat.lt_of_lt_of_le (by have := World.block_lt_of_cell? _ _ hx213_0; first | rwa [add_block] at this | exact this) GW212.out); have hn213_1 : ad203.block ≠ gb212 := Nat.ne_of_lt (Nat.lt_of_lt_of_le (by have := World.block_lt_of_cell? _ _ hx213_0; first | rwa [add_block] at this | exact this) GW212.out); replace hx213_0 := (HB.out.cell (World.block_lt_of_cell? w _ hx213_0)).trans hx213_0; replace hx213_1 := (HB.out.cell (World.block_lt_of_cell? w _ hx213_1)).trans hx213_1; replace hx213_0 := (cell_far (p := ⟨gb212, 0, none⟩) (by first | (rw [add_block]; exact hn213_0) | (show (Addr.add _ _).block ≠ _; rw [add_block]; exact hn213_0) | exact hn213_0) (.string ((rd_T108 y206 x31_1).f0))).trans hx213_0; replace hx213_1 := (cell_far (p := ⟨gb212, 0, none⟩) (by first | (rw [add_block]; exact hn213_0) | (show (Addr.add _ _).block ≠ _; rw [add_block]; exact hn213_0) | exact hn213_0) (.string ((rd_T108 y206 x31_1).f0))).trans hx213_1; replace hx213_0 := (cell_far (p := ⟨gb212, 1, none⟩) (by first | (rw [add_block]; exact hn213_1) | (show (Addr.add _ _).block ≠ _; rw [add_block]; exact hn213_1) | exact hn213_1) (.string ((rd_T108 y206 x31_1).f1))).trans hx213_0; replace hx213_1 := (cell_far (p := ⟨gb212, 1, none⟩) (by first | (rw [add_block]; exact hn213_1) | (show (Addr.add _ _).block ≠ _; rw [add_block]; exact hn213_1) | exact hn213_1) (.string ((rd_T108 y206 x31_1).f1))).trans hx213_1; (try have hy213_0 := fun (n_ : Nat) => (show ((((w23.drewN n_).setCell ⟨gb212, 0, none⟩ (.string ((rd_T108 y206 x31_1).f0))).setCell ⟨gb212, 1, none⟩ (.string ((rd_T108 y206 x31_1).f1)))).cell? _ = some _ from hx213_0)); (try have hy213_1 := fun (n_ : Nat) => (show ((((w23.drewN n_).setCell ⟨gb212, 0, none⟩ (.string ((rd_T108 y206 x31_1).f0))).setCell ⟨gb212, 1, none⟩ (.string ((rd_T108 y206 x31_1).f1)))).cell? _ = some _ from hx213_1)); clear hn213_0; clear hn213_1; replace p213 := eq_true p213; replace q213 := eq_true q213) | (go_at_call 86; (with_reducible refine (impl_isValue.calls k1 x6_1 false _ A17.out).mono ?_); rintro e w' ⟨rfl, ⟨nd, rfl⟩⟩; (try first | exact ⟨rfl, _, World.drewN_drewN _ _ _⟩ | exact ⟨rfl, _, Eq.trans (World.drewN_drewN _ _ _) (congrArg (World.drewN _) (Nat.add_assoc _ _ _))⟩))))
                            go_ret2
                            exact ⟨_, by first | rfl | (simp [errW_none, errW_some] <;> rfl) | (simp only [← hji6, ← hji13]; first | rfl | (simp [errW_none, errW_some] <;> rfl)) | (simp [*, errW_none, errW_some] <;> rfl), by first | exact Kd.R_nil _ _ _ _ _ | exact Kd.N_nil _ _ _ _ _ | exact Kd.V_nil _ _ _ _ _ | exact Kd.Q_nil _ _ _ _ _ | exact Kd.S_nil _ _ _ _ _, by repeat (first | (with_reducible first | exact HB.out | apply below_alloc | apply pw_below_drewN | apply below_drew1 | refine below_set ?_ GE212.out) | exact HB.out)⟩
                        · rw [if_neg c16] at H
                          have c16b0 : (((rd_T108 l0 (ji13)).f0).toList == ([] : List UInt8)) = false := beq_eq_false_iff_ne.mpr c16
                          have c16b1 : (((rd_T108 l0 (ji13)).f0).toList != ([] : List UInt8)) = true := bne_iff_ne.mpr c16
                          (try (have c16b2 : List.isEmpty (((rd_T108 l0 (ji13)).f0).toList) = false := by simpa using c16))
                          replace H := Option.bind_eq_some_iff.mp H
                          obtain ⟨t218, A250, H⟩ := H
                          replace H : (if t218 < 0 then (some (([] : List (S62)), false)) else (if 0 ≤ t218 then (if t218 ≤ (x6_1.size : Int) then (if 0 ≤ (wrap64 (t218 + (((rd_T108 l0 (ji13)).f0).size : Int))) then (if (wrap64 (t218 + (((rd_T108 l0 (ji13)).f0).size : Int))) ≤ (x6_1.size : Int) then ((impl_isValue.f k1 (x6_1.extract 0 (t218 : Int).toNat)).bind fun t219 => (if t219 = true then (if x8_1.length < 4398046511104 then (impl_partsOf.l0 k1 l0 (x6_1.extract ((wrap64 (t218 + (((rd_T108 l0 (ji13)).f0).size : Int))) : Int).toNat x6_1.size) (x8_1 ++ [(⟨(rd_T108 y206 x31_1).f1, x6_1.extract 0 (t218 : Int).toNat⟩ : S62)]) y206 (y206.length : Int) ji13) else (none)) else (some (([] : List (S62)), false)))) else (none)) else (none)) else (none)) else (none))) = some (r1, r2) := H
                          have A25 := Aside0.mk A250
                          clear A250
                          by_cases c26 : t218 < 0
                          · rw [if_pos c26] at H
                            have c26b0 : decide (t218 < 0) = true := decide_eq_true c26
                            clear c26
                            simp only [Option.some.injEq, Prod.mk.injEq] at H
                            obtain ⟨rfl, rfl⟩ := H
                            have p211 : 0 ≤ (x31_1 : Int) := of_decide_eq_true (by first | (with_reducible assumption) | assumption)
                            have q211 : x31_1 < (y206.length : Int) := of_decide_eq_true (by first | (with_reducible assumption) | assumption)
                            obtain ⟨ad211, e211, hx211_0, hx211_1⟩ := at_T108 HR209.out x31_1 p211 q211
                            obtain rfl : ad203 = ad211 := (by injection e211)
                            replace hx211_0 := (HB.out.cell (World.block_lt_of_cell? w _ hx211_0)).trans hx211_0
                            replace hx211_1 := (HB.out.cell (World.block_lt_of_cell? w _ hx211_1)).trans hx211_1
                            replace p211 := eq_true p211
                            replace q211 := eq_true q211
                            go_wp2_with (first | ((with_reducible refine gate_dst (N := 10) rfl ?_); refine box_event ?hg (N := 10) ?hd (cs := #[.string (⟨#[]⟩ : ByteArray), .string (⟨#[]⟩ : ByteArray)]) (t := 108) ?hr ?_; (case hd => rfl); (case hg => rfl); (case hr => first | (go_simp; done) | (go_simp; rfl)); intro gb212 hg w27 hbox hb; have n0_ := Aside0.mk (Kd.R_below (by (with_reducible repeat (first | apply Kd.R_alloc | apply Kd.R_drewN | apply Kd.R_drew)); exact HO_8.out) hb); have n1_ := Aside0.mk (below_step (by repeat (first | (with_reducible first | exact HB.out | apply below_alloc | apply pw_below_drewN | apply below_drew1) | exact HB.out)) hb); have n2_ := Aside0.mk (hbox); have n3_ := Aside0.mk ((by rw [hg]; exact (below_size (by repeat (first | (with_reducible first | exact HB.out | apply below_alloc | apply pw_below_drewN | apply below_drew1) | exact HB.out))) : w.heap.size ≤ gb212)); have n4_ := Aside0.mk ((by rw [hg]; exact (below_size (by repeat (first | (with_reducible first | exact HB.out | apply below_alloc | apply pw_below_drewN | apply below_drew1) | exact HB.out))) : w.heap.size ≤ gb212)); clear HO_8; clear HB; have HO_8 := n0_; have HB := n1_; have BK212 := n2_; have GW212 := n3_; have GE212 := n4_; clear n0_ n1_ n2_ n3_ n4_; clear hb hbox hg; have hcz28_0 : w27.cell? ⟨gb212, 0, none⟩ = some (.string (⟨#[]⟩ : ByteArray)) := (blk_cell BK212.out 0).trans rfl; have hcz28_1 : w27.cell? ⟨gb212, 1, none⟩ = some (.string (⟨#[]⟩ : ByteArray)) := (blk_cell BK212.out 1).trans rfl; have hfz28_0 := blk_frozen BK212.out 0; have hfz28_1 := blk_frozen BK212.out 1; have p213 : 0 ≤ ((ji13) : Int) := of_decide_eq_true (by first | (with_reducible assumption) | assumption); have q213 : (ji13) < (l0.length : Int) := of_decide_eq_true (by first | (with_reducible assumption) | assumption); obtain ⟨ad213, e213, hx213_0, hx213_1⟩ := at_T108 HR0.out (ji13) p213 q213; obtain rfl : ad203 = ad213 := (by injection e213); have hn213_0 : ad203.block ≠ gb212 := Nat.ne_of_lt (Nat.lt_of_lt_of_le (by have := World.block_lt_of_cell? _ _ hx213_0; first | rwa [add_block] at this | exact this) GW212.out); have hn213_1 : ad203.block ≠ gb212 := Nat.ne_of_lt (Nat.lt_of_lt_of_le (by have := World.block_lt_of_cell? _ _ hx213_0; first | rwa [add_block] at this | exact this) GW212.out); replace hx213_0 := (HB.out.cell (World.block_lt_of_cell? w _ hx213_0)).trans hx213_0; replace hx213_1 := (HB.out.cell (World.block_lt_of_cell? w _ hx213_1)).trans hx213_1; replace hx213_0 := (cell_far (p := ⟨gb212, 0, none⟩) (by first | (rw [add_block]; exact hn213_0) | (show (Addr.add _ _).block ≠ _; rw [add_block]; exact hn213_0) | exact hn213_0) (.string ((rd_T108 y206 x31_1).f0))).trans hx213_0; replace hx213_1 := (cell_far (p := ⟨gb212, 0, none⟩) (by first | (rw [add_block]; exact hn213_0) | (show (Addr.add _ _).block ≠ _; rw [add_block]; exact hn213_0) | exact hn213_0) (.string ((rd_T108 y206 x31_1).f0))).trans hx213_1; replace hx213_0 := (cell_far (p := ⟨gb212, 1, none⟩) (by first | (rw [add_block]; exact hn213_1) | (show (Addr.add _ _).block ≠ _; rw [add_block]; exact hn213_1) | exact hn213_1) (.string ((rd_T108 y206 x31_1).f1))).trans hx213_0; replace hx213_1 := (cell_far (p := ⟨gb212, 1, none⟩) (by first | (rw [add_block]; exact hn213_1) | (show (Addr.add _ _).block ≠ _; rw [add_block]; exact hn213_1) | exact hn213_1) (.string ((rd_T108 y206 x31_1).f1))).trans hx213_1; (try have hy213_0 := fun (n_ : Nat) => (show ((((w27.drewN n_).setCell ⟨gb212, 0, none⟩ (.string ((rd_T108 y206 x31_1).f0))).setCell ⟨gb212, 1, none⟩ (.string ((rd_T108 y206 x31_1).f1)))).cell? _ = some _ from hx213_0)); (try have hy213_1 := fun (n_ : Nat) => (show ((((w27.drewN n_).setCell ⟨gb212, 0, none⟩ (.string ((rd_T108 y206 x31_1).f0))).setCell ⟨gb212, 1, none⟩ (.string ((rd_T108 y206 x31_1).f1)))).cell? _ = some _ from hx213_1)); clear hn213_0; clear hn213_1; replace p213 := eq_true p213; replace q213 := eq_true q213) | (go_at_call 93; (with_reducible refine (strings_Index.calls x6_1 ((rd_T108 l0 (ji13)).f0) t218 _ A25.out).mono ?_); rintro e w' ⟨rfl, ⟨nd, rfl⟩⟩; (try first | exact ⟨rfl, _, World.drewN_drewN _ _ _⟩ | exact ⟨rfl, _, Eq.trans (World.drewN_drewN _ _ _) (congrArg (World.drewN _) (Nat.add_assoc _ _ _))⟩)))
                            repeat (go_quiet (first | ((with_reducible refine gate_dst (N := 10) rfl ?_); refine box_event ?hg (N := 10) ?hd (cs := #[.string (⟨#[]⟩ : ByteArray), .string (⟨#[]⟩ : ByteArray)]) (t := 108) ?hr ?_; (case hd => rfl); (case hg => rfl); (case hr => first | (go_simp; done) | (go_simp; rfl)); intro gb212 hg w27 hbox hb; have n0_ := Aside0.mk (Kd.R_below (by (with_reducible repeat (first | apply Kd.R_alloc | apply Kd.R_drewN | apply Kd.R_drew)); exact HO_8.out) hb); have n1_ := Aside0.mk (below_step (by repeat (first | (with_reducible first | exact HB.out | apply below_alloc | apply pw_below_drewN | apply below_drew1) | exact HB.out)) hb); have n2_ := Aside0.mk (hbox); have n3_ := Aside0.mk ((by rw [hg]; exact (below_size (by repeat (first | (with_reducible first | exact HB.out | apply below_alloc | apply pw_below_drewN | apply below_drew1) | exact HB.out))) : w.heap.size ≤ gb212)); have n4_ := Aside0.mk ((by rw [hg]; exact (below_size (by repeat (first | (with_reducible first | exact HB.out | apply below_alloc | apply pw_below_drewN | apply below_drew1) | exact HB.out))) : w.heap.size ≤ gb212)); clear HO_8; clear HB; have HO_8 := n0_; have HB := n1_; have BK212 := n2_; have GW212 := n3_; have GE212 := n4_; clear n0_ n1_ n2_ n3_ n4_; clear hb hbox hg; have hcz28_0 : w27.cell? ⟨gb212, 0, none⟩ = some (.string (⟨#[]⟩ : ByteArray)) := (blk_cell BK212.out 0).trans rfl; have hcz28_1 : w27.cell? ⟨gb212, 1, none⟩ = some (.string (⟨#[]⟩ : ByteArray)) := (blk_cell BK212.out 1).trans rfl; have hfz28_0 := blk_frozen BK212.out 0; have hfz28_1 := blk_frozen BK212.out 1; have p213 : 0 ≤ ((ji13) : Int) := of_decide_eq_true (by first | (with_reducible assumption) | assumption); have q213 : (ji13) < (l0.length : Int) := of_decide_eq_true (by first | (with_reducible assumption) | assumption); obtain ⟨ad213, e213, hx213_0, hx213_1⟩ := at_T108 HR0.out (ji13) p213 q213; obtain rfl : ad203 = ad213 := (by injection e213); have hn213_0 : ad203.block ≠ gb212 := Nat.ne_of_lt (Nat.lt_of_lt_of_le (by have := World.block_lt_of_cell? _ _ hx213_0; first | rwa [add_block] at this | exact this) GW212.out); have hn213_1 : ad203.block ≠ gb212 := Nat.ne_of_lt (Nat.lt_of_lt_of_le (by have := World.block_lt_of_cell? _ _ hx213_0; first | rwa [add_block] at this | exact this) GW212.out); replace hx213_0 := (HB.out.cell (World.block_lt_of_cell? w _ hx213_0)).trans hx213_0; replace hx213_1 := (HB.out.cell (World.block_lt_of_cell? w _ hx213_1)).trans hx213_1; replace hx213_0 := (cell_far (p := ⟨gb212, 0, none⟩) (by first | (rw [add_block]; exact hn213_0) | (show (Addr.add _ _).block ≠ _; rw [add_block]; exact hn213_0) | exact hn213_0) (.string ((rd_T108 y206 x31_1).f0))).trans hx213_0; replace hx213_1 := (cell_far (p := ⟨gb212, 0, none⟩) (by first | (rw [add_block]; exact hn213_0) | (show (Addr.add _ _).block ≠ _; rw [add_block]; exact hn213_0) | exact hn213_0) (.string ((rd_T108 y206 x31_1).f0))).trans hx213_1; replace hx213_0 := (cell_far (p := ⟨gb212, 1, none⟩) (by first | (rw [add_block]; exact hn213_1) | (show (Addr.add _ _).block ≠ _; rw [add_block]; exact hn213_1) | exact hn213_1) (.string ((rd_T108 y206 x31_1).f1))).trans hx213_0; replace hx213_1 := (cell_far (p := ⟨gb212, 1, none⟩) (by first | (rw [add_block]; exact hn213_1) | (show (Addr.add _ _).block ≠ _; rw [add_block]; exact hn213_1) | exact hn213_1) (.string ((rd_T108 y206 x31_1).f1))).trans hx213_1; (try have hy213_0 := fun (n_ : Nat) => (show ((((w27.drewN n_).setCell ⟨gb212, 0, none⟩ (.string ((rd_T108 y206 x31_1).f0))).setCell ⟨gb212, 1, none⟩ (.string ((rd_T108 y206 x31_1).f1)))).cell? _ = some _ from hx213_0)); (try have hy213_1 := fun (n_ : Nat) => (show ((((w27.drewN n_).setCell ⟨gb212, 0, none⟩ (.string ((rd_T108 y206 x31_1).f0))).setCell ⟨gb212, 1, none⟩ (.string ((rd_T108 y206 x31_1).f1)))).cell? _ = some _ from hx213_1)); clear hn213_0; clear hn213_1; replace p213 := eq_true p213; replace q213 := eq_true q213) | (go_at_call 93; (with_reducible refine (strings_Index.calls x6_1 ((rd_T108 l0 (ji13)).f0) t218 _ A25.out).mono ?_); rintro e w' ⟨rfl, ⟨nd, rfl⟩⟩; (try first | exact ⟨rfl, _, World.drewN_drewN _ _ _⟩ | exact ⟨rfl, _, Eq.trans (World.drewN_drewN _ _ _) (congrArg (World.drewN _) (Nat.add_assoc _ _ _))⟩))); try go_wp2_with (first | ((with_reducible refine gate_dst (N := 10) rfl ?_); refine box_event ?hg (N := 10) ?hd (cs := #[.string (⟨#[]⟩ : ByteArray), .string (⟨#[]⟩ : ByteArray)]) (t := 108) ?hr ?_; (case hd => rfl); (case hg => rfl); (case hr => first | (go_simp; done) | (go_simp; rfl)); intro gb212 hg w27 hbox hb; have n0_ := Aside0.mk (Kd.R_below (by (with_reducible repeat (first | apply Kd.R_alloc | apply Kd.R_drewN | apply Kd.R_drew)); exact HO_8.out) hb); have n1_ := Aside0.mk (below_step (by repeat (first | (with_reducible first | exact HB.out | apply below_alloc | apply pw_below_drewN | apply below_drew1) | exact HB.out)) hb); have n2_ := Aside0.mk (hbox); have n3_ := Aside0.mk ((by rw [hg]; exact (below_size (by repeat (first | (with_reducible first | exact HB.out | apply below_alloc | apply pw_below_drewN | apply below_drew1) | exact HB.out))) : w.heap.size ≤ gb212)); have n4_ := Aside0.mk ((by rw [hg]; exact (below_size (by repeat (first | (with_reducible first | exact HB.out | apply below_alloc | apply pw_below_drewN | apply below_drew1) | exact HB.out))) : w.heap.size ≤ gb212)); clear HO_8; clear HB; have HO_8 := n0_; have HB := n1_; have BK212 := n2_; have GW212 := n3_; have GE212 := n4_; clear n0_ n1_ n2_ n3_ n4_; clear hb hbox hg; have hcz28_0 : w27.cell? ⟨gb212, 0, none⟩ = some (.string (⟨#[]⟩ : ByteArray)) := (blk_cell BK212.out 0).trans rfl; have hcz28_1 : w27.cell? ⟨gb212, 1, none⟩ = some (.string (⟨#[]⟩ : ByteArray)) := (blk_cell BK212.out 1).trans rfl; have hfz28_0 := blk_frozen BK212.out 0; have hfz28_1 := blk_frozen BK212.out 1; have p213 : 0 ≤ ((ji13) : Int) := of_decide_eq_true (by first | (with_reducible assumption) | assumption); have q213 : (ji13) < (l0.length : Int) := of_decide_eq_true (by first | (with_reducible assumption) | assumption); obtain ⟨ad213, e213, hx213_0, hx213_1⟩ := at_T108 HR0.out (ji13) p213 q213; obtain rfl : ad203 = ad213 := (by injection e213); have hn213_0 : ad203.block ≠ gb212 := Nat.ne_of_lt (Nat.lt_of_lt_of_le (by have := World.block_lt_of_cell? _ _ hx213_0; first | rwa [add_block] at this | exact this) GW212.out); have hn213_1 : ad203.block ≠ gb212 := Nat.ne_of_lt (Nat.lt_of_lt_of_le (by have := World.block_lt_of_cell? _ _ hx213_0; first | rwa [add_block] at this | exact this) GW212.out); replace hx213_0 := (HB.out.cell (World.block_lt_of_cell? w _ hx213_0)).trans hx213_0; replace hx213_1 := (HB.out.cell (World.block_lt_of_cell? w _ hx213_1)).trans hx213_1; replace hx213_0 := (cell_far (p := ⟨gb212, 0, none⟩) (by first | (rw [add_block]; exact hn213_0) | (show (Addr.add _ _).block ≠ _; rw [add_block]; exact hn213_0) | exact hn213_0) (.string ((rd_T108 y206 x31_1).f0))).trans hx213_0; replace hx213_1 := (cell_far (p := ⟨gb212, 0, none⟩) (by first | (rw [add_block]; exact hn213_0) | (show (Addr.add _ _).block ≠ _; rw [add_block]; exact hn213_0) | exact hn213_0) (.string ((rd_T108 y206 x31_1).f0))).trans hx213_1; replace hx213_0 := (cell_far (p := ⟨gb212, 1, none⟩) (by first | (rw [add_block]; exact hn213_1) | (show (Addr.add _ _).block ≠ _; rw [add_block]; exact hn213_1) | exact hn213_1) (.string ((rd_T108 y206 x31_1).f1))).trans hx213_0; replace hx213_1 := (cell_far (p := ⟨gb212, 1, none⟩) (by first | (rw [add_block]; exact hn213_1) | (show (Addr.add _ _).block ≠ _; rw [add_block]; exact hn213_1) | exact hn213_1) (.string ((rd_T108 y206 x31_1).f1))).trans hx213_1; (try have hy213_0 := fun (n_ : Nat) => (show ((((w27.drewN n_).setCell ⟨gb212, 0, none⟩ (.string ((rd_T108 y206 x31_1).f0))).setCell ⟨gb212, 1, none⟩ (.string ((rd_T108 y206 x31_1).f1)))).cell? _ = some _ from hx213_0)); (try have hy213_1 := fun (n_ : Nat) => (show ((((w27.drewN n_).setCell ⟨gb212, 0, none⟩ (.string ((rd_T108 y206 x31_1).f0))).setCell ⟨gb212, 1, none⟩ (.string ((rd_T108 y206 x31_1).f1)))).cell? _ = some _ from hx213_1)); clear hn213_0; clear hn213_1; replace p213 := eq_true p213; replace q213 := eq_true q213) | (go_at_call 93; (with_reducible refine (strings_Index.calls x6_1 ((rd_T108 l0 (ji13)).f0) t218 _ A25.out).mono ?_); rintro e w' ⟨rfl, ⟨nd, rfl⟩⟩; (try first | exact ⟨rfl, _, World.drewN_drewN _ _ _⟩ | exact ⟨rfl, _, Eq.trans (World.drewN_drewN _ _ _) (congrArg (World.drewN _) (Nat.add_assoc _ _ _))⟩))))
                            go_ret2
                            exact ⟨_, by first | rfl | (simp [errW_none, errW_some] <;> rfl) | (simp only [← hji6, ← hji13]; first | rfl | (simp [errW_none, errW_some] <;> rfl)) | (simp [*, errW_none, errW_some] <;> rfl), by first | exact Kd.R_nil _ _ _ _ _ | exact Kd.N_nil _ _ _ _ _ | exact Kd.V_nil _ _ _ _ _ | exact Kd.Q_nil _ _ _ _ _ | exact Kd.S_nil _ _ _ _ _, by repeat (first | (with_reducible first | exact HB.out | apply below_alloc | apply pw_below_drewN | apply below_drew1 | refine below_set ?_ GE212.out) | exact HB.out)⟩
                          · rw [if_neg c26] at H
                            have c26b0 : decide (t218 < 0) = false := decide_eq_false c26
                            clear c26
                            by_cases c29 : 0 ≤ t218
                            · rw [if_pos c29] at H
                              have c29b0 := eq_true c29
                              have c29b1 : decide (0 ≤ t218) = true := decide_eq_true c29
                              clear c29
                              by_cases c30 : t218 ≤ (x6_1.size : Int)
                              · rw [if_pos c30] at H
                                have c30b0 := eq_true c30
                                have c30b1 : decide (t218 ≤ (x6_1.size : Int)) = true := decide_eq_true c30
                                clear c30
                                obtain ⟨ji31, hji31⟩ : ∃ j_ : Int, (wrap64 (t218 + (((rd_T108 l0 (ji13)).f0).size : Int))) = j_ := ⟨_, rfl⟩
                                replace H : (if 0 ≤ (ji31) then (if (ji31) ≤ (x6_1.size : Int) then ((impl_isValue.f k1 (x6_1.extract 0 (t218 : Int).toNat)).bind fun t219 => (if t219 = true then (if x8_1.length < 4398046511104 then (impl_partsOf.l0 k1 l0 (x6_1.extract ((ji31) : Int).toNat x6_1.size) (x8_1 ++ [(⟨(rd_T108 y206 x31_1).f1, x6_1.extract 0 (t218 : Int).toNat⟩ : S62)]) y206 (y206.length : Int) ji13) else (none)) else (some (([] : List (S62)), false)))) else (none)) else (none)) = some (r1, r2) := by first | (rw [hji31] at H; exact H) | (simp only [hji31] at H ⊢; exact H)
                                (try rw [hji31] at A25)
                                have hji31w : (IntKind.i64.wrap (t218 + (((rd_T108 l0 (ji13)).f0).size : Int))) = ji31 := (i64_w _).trans hji31
                                by_cases c32 : 0 ≤ (ji31)
                                · rw [if_pos c32] at H
                                  have c32b0 := eq_true c32
                                  have c32b1 : decide (0 ≤ (ji31)) = true := decide_eq_true c32
                                  clear c32
                                  by_cases c33 : (ji31) ≤ (x6_1.size : Int)
                                  · rw [if_pos c33] at H
                                    have c33b0 := eq_true c33
                                    have c33b1 : decide ((ji31) ≤ (x6_1.size : Int)) = true := decide_eq_true c33
                                    clear c33
                                    replace H := Option.bind_eq_some_iff.mp H
                                    obtain ⟨t219, A340, H⟩ := H
                                    replace H : (if t219 = true then (if x8_1.length < 4398046511104 then (impl_partsOf.l0 k1 l0 (x6_1.extract ((ji31) : Int).toNat x6_1.size) (x8_1 ++ [(⟨(rd_T108 y206 x31_1).f1, x6_1.extract 0 (t218 : Int).toNat⟩ : S62)]) y206 (y206.length : Int) ji13) else (none)) else (some (([] : List (S62)), false))) = some (r1, r2) := H
                                    have A34 := Aside0.mk A340
                                    clear A340
                                    by_cases c35 : t219 = true
                                    · subst c35
                                      have H1 : (if x8_1.length < 4398046511104 then (impl_partsOf.l0 k1 l0 (x6_1.extract ((ji31) : Int).toNat x6_1.size) (x8_1 ++ [(⟨(rd_T108 y206 x31_1).f1, x6_1.extract 0 (t218 : Int).toNat⟩ : S62)]) y206 (y206.length : Int) ji13) else (none)) = some (r1, r2) := by rw [if_pos rfl] at H; exact H
                                      clear H
                                      have H := H1
                                      clear H1
                                      by_cases c36 : x8_1.length < 4398046511104
                                      · rw [if_pos c36] at H
                                        have LMc36 := Aside0.mk c36
                                        clear c36
                                        obtain ⟨y220, hy220⟩ : ∃ y_ : List (S62), y_ = (x8_1 ++ [(⟨(rd_T108 y206 x31_1).f1, x6_1.extract 0 (t218 : Int).toNat⟩ : S62)]) := ⟨_, rfl⟩
                                        replace H : (impl_partsOf.l0 k1 l0 (x6_1.extract ((ji31) : Int).toNat x6_1.size) y220 y206 (y206.length : Int) ji13) = some (r1, r2) := by first | (rw [hy220]; with_reducible exact H) | (have H2_ := (Option.bind_some _ _).symm.trans H; rw [hy220]; with_reducible exact H2_) | (have H2_ := (Option.bind_some _ _).symm.trans H; with_reducible exact H2_) | with_reducible exact H | (rw [hy220]; exact H) | exact H
                                        have Ny220 := Aside0.mk hy220
                                        clear hy220
                                        have H' := Aside0.mk H
                                        clear H
                                        have p211 : 0 ≤ (x31_1 : Int) := of_decide_eq_true (by first | (with_reducible assumption) | assumption)
                                        have q211 : x31_1 < (y206.length : Int) := of_decide_eq_true (by first | (with_reducible assumption) | assumption)
                                        obtain ⟨ad211, e211, hx211_0, hx211_1⟩ := at_T108 HR209.out x31_1 p211 q211
                                        obtain rfl : ad203 = ad211 := (by injection e211)
                                        replace hx211_0 := (HB.out.cell (World.block_lt_of_cell? w _ hx211_0)).trans hx211_0
                                        replace hx211_1 := (HB.out.cell (World.block_lt_of_cell? w _ hx211_1)).trans hx211_1
                                        replace p211 := eq_true p211
                                        replace q211 := eq_true q211
                                        go_wp2_with (first | ((with_reducible refine gate_dst (N := 10) rfl ?_); refine box_event ?hg (N := 10) ?hd (cs := #[.string (⟨#[]⟩ : ByteArray), .string (⟨#[]⟩ : ByteArray)]) (t := 108) ?hr ?_; (case hd => rfl); (case hg => rfl); (case hr => first | (go_simp; done) | (go_simp; rfl)); intro gb212 hg w37 hbox hb; have n0_ := Aside0.mk (Kd.R_below (by (with_reducible repeat (first | apply Kd.R_alloc | apply Kd.R_drewN | apply Kd.R_drew)); exact HO_8.out) hb); have n1_ := Aside0.mk (below_step (by repeat (first | (with_reducible first | exact HB.out | apply below_alloc | apply pw_below_drewN | apply below_drew1) | exact HB.out)) hb); have n2_ := Aside0.mk (hbox); have n3_ := Aside0.mk ((by rw [hg]; exact (below_size (by repeat (first | (with_reducible first | exact HB.out | apply below_alloc | apply pw_below_drewN | apply below_drew1) | exact HB.out))) : w.heap.size ≤ gb212)); have n4_ := Aside0.mk ((by rw [hg]; exact (below_size (by repeat (first | (with_reducible first | exact HB.out | apply below_alloc | apply pw_below_drewN | apply below_drew1) | exact HB.out))) : w.heap.size ≤ gb212)); clear HO_8; clear HB; have HO_8 := n0_; have HB := n1_; have BK212 := n2_; have GW212 := n3_; have GE212 := n4_; clear n0_ n1_ n2_ n3_ n4_; clear hb hbox hg; have hcz38_0 : w37.cell? ⟨gb212, 0, none⟩ = some (.string (⟨#[]⟩ : ByteArray)) := (blk_cell BK212.out 0).trans rfl; have hcz38_1 : w37.cell? ⟨gb212, 1, none⟩ = some (.string (⟨#[]⟩ : ByteArray)) := (blk_cell BK212.out 1).trans rfl; have hfz38_0 := blk_frozen BK212.out 0; have hfz38_1 := blk_frozen BK212.out 1; have p213 : 0 ≤ ((ji13) : Int) := of_decide_eq_true (by first | (with_reducible assumption) | assumption); have q213 : (ji13) < (l0.length : Int) := of_decide_eq_true (by first | (with_reducible assumption) | assumption); obtain ⟨ad213, e213, hx213_0, hx213_1⟩ := at_T108 HR0.out (ji13) p213 q213; obtain rfl : ad203 = ad213 := (by injection e213); have hn213_0 : ad203.block ≠ gb212 := Nat.ne_of_lt (Nat.lt_of_lt_of_le (by have := World.block_lt_of_cell? _ _ hx213_0; first | rwa [add_block] at this | exact this) GW212.out); have hn213_1 : ad203.block ≠ gb212 := Nat.ne_of_lt (Nat.lt_of_lt_of_le (by have := World.block_lt_of_cell? _ _ hx213_0; first | rwa [add_block] at this | exact this) GW212.out); replace hx213_0 := (HB.out.cell (World.block_lt_of_cell? w _ hx213_0)).trans hx213_0; replace hx213_1 := (HB.out.cell (World.block_lt_of_cell? w _ hx213_1)).trans hx213_1; replace hx213_0 := (cell_far (p := ⟨gb212, 0, none⟩) (by first | (rw [add_block]; exact hn213_0) | (show (Addr.add _ _).block ≠ _; rw [add_block]; exact hn213_0) | exact hn213_0) (.string ((rd_T108 y206 x31_1).f0))).trans hx213_0; replace hx213_1 := (cell_far (p := ⟨gb212, 0, none⟩) (by first | (rw [add_block]; exact hn213_0) | (show (Addr.add _ _).block ≠ _; rw [add_block]; exact hn213_0) | exact hn213_0) (.string ((rd_T108 y206 x31_1).f0))).trans hx213_1; replace hx213_0 := (cell_far (p := ⟨gb212, 1, none⟩) (by first | (rw [add_block]; exact hn213_1) | (show (Addr.add _ _).block ≠ _; rw [add_block]; exact hn213_1) | exact hn213_1) (.string ((rd_T108 y206 x31_1).f1))).trans hx213_0; replace hx213_1 := (cell_far (p := ⟨gb212, 1, none⟩) (by first | (rw [add_block]; exact hn213_1) | (show (Addr.add _ _).block ≠ _; rw [add_block]; exact hn213_1) | exact hn213_1) (.string ((rd_T108 y206 x31_1).f1))).trans hx213_1; (try have hy213_0 := fun (n_ : Nat) => (show ((((w37.drewN n_).setCell ⟨gb212, 0, none⟩ (.string ((rd_T108 y206 x31_1).f0))).setCell ⟨gb212, 1, none⟩ (.string ((rd_T108 y206 x31_1).f1)))).cell? _ = some _ from hx213_0)); (try have hy213_1 := fun (n_ : Nat) => (show ((((w37.drewN n_).setCell ⟨gb212, 0, none⟩ (.string ((rd_T108 y206 x31_1).f0))).setCell ⟨gb212, 1, none⟩ (.string ((rd_T108 y206 x31_1).f1)))).cell? _ = some _ from hx213_1)); clear hn213_0; clear hn213_1; replace p213 := eq_true p213; replace q213 := eq_true q213) | (go_at_call 93; (with_reducible refine (strings_Index.calls x6_1 ((rd_T108 l0 (ji13)).f0) t218 _ A25.out).mono ?_); rintro e w' ⟨rfl, ⟨nd, rfl⟩⟩; (try first | exact ⟨rfl, _, World.drewN_drewN _ _ _⟩ | exact ⟨rfl, _, Eq.trans (World.drewN_drewN _ _ _) (congrArg (World.drewN _) (Nat.add_assoc _ _ _))⟩)) | (go_at_call 86; (with_reducible refine (impl_isValue.calls k1 (x6_1.extract 0 (t218 : Int).toNat) true _ A34.out).mono ?_); rintro e w' ⟨rfl, ⟨nd, rfl⟩⟩; (try first | exact ⟨rfl, _, World.drewN_drewN _ _ _⟩ | exact ⟨rfl, _, Eq.trans (World.drewN_drewN _ _ _) (congrArg (World.drewN _) (Nat.add_assoc _ _ _))⟩)) | ((with_reducible refine gate_builtin (b := .append) (xs := #[.tmp 62, .tmp 67]) rfl ?_); at_builtin; refine Kd.R_append k62 (w0 := w) w.heap.size rfl (.tmp 62) (.tmp 67) 35 62 (.agg #[(.string ⟨#[]⟩), (.string ⟨#[]⟩)]) 32 rfl Try.underlying35 info62 rfl (by decide) (by omega) u8 x8_1 (⟨(rd_T108 y206 x31_1).f1, x6_1.extract 0 (t218 : Int).toNat⟩ : S62) [.string ((rd_T108 y206 x31_1).f1), .string (x6_1.extract 0 (t218 : Int).toNat)] (fun _ => True) (fun _ => False) rfl (by first | (go_simp; done) | (go_simp; rfl)) ?aP (fun _ hk => hk.elim) ?aF ?aO ?aB ?aS ?aL ?_; (case aP => exact k62_mkM _ _ _ (⟨(rd_T108 y206 x31_1).f1, x6_1.extract 0 (t218 : Int).toNat⟩ : S62)); (case aB => exact (by repeat (first | (with_reducible first | exact HB.out | apply below_alloc | apply pw_below_drewN | apply below_drew1 | refine below_set ?_ GE212.out) | exact HB.out))); (case aF => exact (fun _ _ => trivial)); (case aO => exact (by (with_reducible repeat (first | apply Kd.R_alloc | apply Kd.R_drewN | apply Kd.R_drew)); exact Kd.R_mono (Kd.R_far (p := ⟨gb212, 1, none⟩) (Kd.R_far (p := ⟨gb212, 0, none⟩) (Kd.R_types HO_8.out BK212.out (by decide)) (fun _ hk => hk.2) (.string ((rd_T108 y206 x31_1).f0))) (fun _ hk => hk.2) (.string ((rd_T108 y206 x31_1).f1))) (fun _ hk => trivial))); (case aS => exact (below_size (by repeat (first | (with_reducible first | exact HB.out | apply below_alloc | apply pw_below_drewN | apply below_drew1 | refine below_set ?_ GE212.out) | exact HB.out)))); (case aL => have := LMc36.out; omega); intro v221 w39 ho hb hg hat; rw [← Ny220.out] at ho; have n0_ := Aside0.mk (blk_grown (g := gb212) (o := .cells #[.string ((rd_T108 y206 x31_1).f0), .string ((rd_T108 y206 x31_1).f1)] 108 (0, 0)) (by (with_reducible repeat (first | refine blk_drewN ?_ _ | refine blk_drew ?_ | refine blk_alloc ?_ _)); refine blk_put (cs := #[.string ((rd_T108 y206 x31_1).f0), .string (⟨#[]⟩ : ByteArray)]) ?_ 1 _ rfl; (with_reducible repeat (first | refine blk_drewN ?_ _ | refine blk_drew ?_ | refine blk_alloc ?_ _)); refine blk_put (cs := #[.string (⟨#[]⟩ : ByteArray), .string (⟨#[]⟩ : ByteArray)]) ?_ 0 _ rfl; (with_reducible repeat (first | refine blk_drewN ?_ _ | refine blk_drew ?_ | refine blk_alloc ?_ _)); exact BK212.out) hg (Kd.R_ne HO_8.out BK212.out (by decide))); have n1_ := Aside0.mk (hb); have n2_ := Aside0.mk (ho); clear BK212; clear HB; clear HO_8; have BK212 := n0_; have HB := n1_; have HO222 := n2_; clear n0_ n1_ n2_; clear ho hb hg hat))
                                        repeat (go_quiet (first | ((with_reducible refine gate_dst (N := 10) rfl ?_); refine box_event ?hg (N := 10) ?hd (cs := #[.string (⟨#[]⟩ : ByteArray), .string (⟨#[]⟩ : ByteArray)]) (t := 108) ?hr ?_; (case hd => rfl); (case hg => rfl); (case hr => first | (go_simp; done) | (go_simp; rfl)); intro gb212 hg w37 hbox hb; have n0_ := Aside0.mk (Kd.R_below (by (with_reducible repeat (first | apply Kd.R_alloc | apply Kd.R_drewN | apply Kd.R_drew)); exact HO_8.out) hb); have n1_ := Aside0.mk (below_step (by repeat (first | (with_reducible first | exact HB.out | apply below_alloc | apply pw_below_drewN | apply below_drew1) | exact HB.out)) hb); have n2_ := Aside0.mk (hbox); have n3_ := Aside0.mk ((by rw [hg]; exact (below_size (by repeat (first | (with_reducible first | exact HB.out | apply below_alloc | apply pw_below_drewN | apply below_drew1) | exact HB.out))) : w.heap.size ≤ gb212)); have n4_ := Aside0.mk ((by rw [hg]; exact (below_size (by repeat (first | (with_reducible first | exact HB.out | apply below_alloc | apply pw_below_drewN | apply below_drew1) | exact HB.out))) : w.heap.size ≤ gb212)); clear HO_8; clear HB; have HO_8 := n0_; have HB := n1_; have BK212 := n2_; have GW212 := n3_; have GE212 := n4_; clear n0_ n1_ n2_ n3_ n4_; clear hb hbox hg; have hcz38_0 : w37.cell? ⟨gb212, 0, none⟩ = some (.string (⟨#[]⟩ : ByteArray)) := (blk_cell BK212.out 0).trans rfl; have hcz38_1 : w37.cell? ⟨gb212, 1, none⟩ = some (.string (⟨#[]⟩ : ByteArray)) := (blk_cell BK212.out 1).trans rfl; have hfz38_0 := blk_frozen BK212.out 0; have hfz38_1 := blk_frozen BK212.out 1; have p213 : 0 ≤ ((ji13) : Int) := of_decide_eq_true (by first | (with_reducible assumption) | assumption); have q213 : (ji13) < (l0.length : Int) := of_decide_eq_true (by first | (with_reducible assumption) | assumption); obtain ⟨ad213, e213, hx213_0, hx213_1⟩ := at_T108 HR0.out (ji13) p213 q213; obtain rfl : ad203 = ad213 := (by injection e213); have hn213_0 : ad203.block ≠ gb212 := Nat.ne_of_lt (Nat.lt_of_lt_of_le (by have := World.block_lt_of_cell? _ _ hx213_0; first | rwa [add_block] at this | exact this) GW212.out); have hn213_1 : ad203.block ≠ gb212 := Nat.ne_of_lt (Nat.lt_of_lt_of_le (by have := World.block_lt_of_cell? _ _ hx213_0; first | rwa [add_block] at this | exact this) GW212.out); replace hx213_0 := (HB.out.cell (World.block_lt_of_cell? w _ hx213_0)).trans hx213_0; replace hx213_1 := (HB.out.cell (World.block_lt_of_cell? w _ hx213_1)).trans hx213_1; replace hx213_0 := (cell_far (p := ⟨gb212, 0, none⟩) (by first | (rw [add_block]; exact hn213_0) | (show (Addr.add _ _).block ≠ _; rw [add_block]; exact hn213_0) | exact hn213_0) (.string ((rd_T108 y206 x31_1).f0))).trans hx213_0; replace hx213_1 := (cell_far (p := ⟨gb212, 0, none⟩) (by first | (rw [add_block]; exact hn213_0) | (show (Addr.add _ _).block ≠ _; rw [add_block]; exact hn213_0) | exact hn213_0) (.string ((rd_T108 y206 x31_1).f0))).trans hx213_1; replace hx213_0 := (cell_far (p := ⟨gb212, 1, none⟩) (by first | (rw [add_block]; exact hn213_1) | (show (Addr.add _ _).block ≠ _; rw [add_block]; exact hn213_1) | exact hn213_1) (.string ((rd_T108 y206 x31_1).f1))).trans hx213_0; replace hx213_1 := (cell_far (p := ⟨gb212, 1, none⟩) (by first | (rw [add_block]; exact hn213_1) | (show (Addr.add _ _).block ≠ _; rw [add_block]; exact hn213_1) | exact hn213_1) (.string ((rd_T108 y206 x31_1).f1))).trans hx213_1; (try have hy213_0 := fun (n_ : Nat) => (show ((((w37.drewN n_).setCell ⟨gb212, 0, none⟩ (.string ((rd_T108 y206 x31_1).f0))).setCell ⟨gb212, 1, none⟩ (.string ((rd_T108 y206 x31_1).f1)))).cell? _ = some _ from hx213_0)); (try have hy213_1 := fun (n_ : Nat) => (show ((((w37.drewN n_).setCell ⟨gb212, 0, none⟩ (.string ((rd_T108 y206 x31_1).f0))).setCell ⟨gb212, 1, none⟩ (.string ((rd_T108 y206 x31_1).f1)))).cell? _ = some _ from hx213_1)); clear hn213_0; clear hn213_1; replace p213 := eq_true p213; replace q213 := eq_true q213) | (go_at_call 93; (with_reducible refine (strings_Index.calls x6_1 ((rd_T108 l0 (ji13)).f0) t218 _ A25.out).mono ?_); rintro e w' ⟨rfl, ⟨nd, rfl⟩⟩; (try first | exact ⟨rfl, _, World.drewN_drewN _ _ _⟩ | exact ⟨rfl, _, Eq.trans (World.drewN_drewN _ _ _) (congrArg (World.drewN _) (Nat.add_assoc _ _ _))⟩)) | (go_at_call 86; (with_reducible refine (impl_isValue.calls k1 (x6_1.extract 0 (t218 : Int).toNat) true _ A34.out).mono ?_); rintro e w' ⟨rfl, ⟨nd, rfl⟩⟩; (try first | exact ⟨rfl, _, World.drewN_drewN _ _ _⟩ | exact ⟨rfl, _, Eq.trans (World.drewN_drewN _ _ _) (congrArg (World.drewN _) (Nat.add_assoc _ _ _))⟩)) | ((with_reducible refine gate_builtin (b := .append) (xs := #[.tmp 62, .tmp 67]) rfl ?_); at_builtin; refine Kd.R_append k62 (w0 := w) w.heap.size rfl (.tmp 62) (.tmp 67) 35 62 (.agg #[(.string ⟨#[]⟩), (.string ⟨#[]⟩)]) 32 rfl Try.underlying35 info62 rfl (by decide) (by omega) u8 x8_1 (⟨(rd_T108 y206 x31_1).f1, x6_1.extract 0 (t218 : Int).toNat⟩ : S62) [.string ((rd_T108 y206 x31_1).f1), .string (x6_1.extract 0 (t218 : Int).toNat)] (fun _ => True) (fun _ => False) rfl (by first | (go_simp; done) | (go_simp; rfl)) ?aP (fun _ hk => hk.elim) ?aF ?aO ?aB ?aS ?aL ?_; (case aP => exact k62_mkM _ _ _ (⟨(rd_T108 y206 x31_1).f1, x6_1.extract 0 (t218 : Int).toNat⟩ : S62)); (case aB => exact (by repeat (first | (with_reducible first | exact HB.out | apply below_alloc | apply pw_below_drewN | apply below_drew1 | refine below_set ?_ GE212.out) | exact HB.out))); (case aF => exact (fun _ _ => trivial)); (case aO => exact (by (with_reducible repeat (first | apply Kd.R_alloc | apply Kd.R_drewN | apply Kd.R_drew)); exact Kd.R_mono (Kd.R_far (p := ⟨gb212, 1, none⟩) (Kd.R_far (p := ⟨gb212, 0, none⟩) (Kd.R_types HO_8.out BK212.out (by decide)) (fun _ hk => hk.2) (.string ((rd_T108 y206 x31_1).f0))) (fun _ hk => hk.2) (.string ((rd_T108 y206 x31_1).f1))) (fun _ hk => trivial))); (case aS => exact (below_size (by repeat (first | (with_reducible first | exact HB.out | apply below_alloc | apply pw_below_drewN | apply below_drew1 | refine below_set ?_ GE212.out) | exact HB.out)))); (case aL => have := LMc36.out; omega); intro v221 w39 ho hb hg hat; rw [← Ny220.out] at ho; have n0_ := Aside0.mk (blk_grown (g := gb212) (o := .cells #[.string ((rd_T108 y206 x31_1).f0), .string ((rd_T108 y206 x31_1).f1)] 108 (0, 0)) (by (with_reducible repeat (first | refine blk_drewN ?_ _ | refine blk_drew ?_ | refine blk_alloc ?_ _)); refine blk_put (cs := #[.string ((rd_T108 y206 x31_1).f0), .string (⟨#[]⟩ : ByteArray)]) ?_ 1 _ rfl; (with_reducible repeat (first | refine blk_drewN ?_ _ | refine blk_drew ?_ | refine blk_alloc ?_ _)); refine blk_put (cs := #[.string (⟨#[]⟩ : ByteArray), .string (⟨#[]⟩ : ByteArray)]) ?_ 0 _ rfl; (with_reducible repeat (first | refine blk_drewN ?_ _ | refine blk_drew ?_ | refine blk_alloc ?_ _)); exact BK212.out) hg (Kd.R_ne HO_8.out BK212.out (by decide))); have n1_ := Aside0.mk (hb); have n2_ := Aside0.mk (ho); clear BK212; clear HB; clear HO_8; have BK212 := n0_; have HB := n1_; have HO222 := n2_; clear n0_ n1_ n2_; clear ho hb hg hat)); try go_wp2_with (first | ((with_reducible refine gate_dst (N := 10) rfl ?_); refine box_event ?hg (N := 10) ?hd (cs := #[.string (⟨#[]⟩ : ByteArray), .string (⟨#[]⟩ : ByteArray)]) (t := 108) ?hr ?_; (case hd => rfl); (case hg => rfl); (case hr => first | (go_simp; done) | (go_simp; rfl)); intro gb212 hg w37 hbox hb; have n0_ := Aside0.mk (Kd.R_below (by (with_reducible repeat (first | apply Kd.R_alloc | apply Kd.R_drewN | apply Kd.R_drew)); exact HO_8.out) hb); have n1_ := Aside0.mk (below_step (by repeat (first | (with_reducible first | exact HB.out | apply below_alloc | apply pw_below_drewN | apply below_drew1) | exact HB.out)) hb); have n2_ := Aside0.mk (hbox); have n3_ := Aside0.mk ((by rw [hg]; exact (below_size (by repeat (first | (with_reducible first | exact HB.out | apply below_alloc | apply pw_below_drewN | apply below_drew1) | exact HB.out))) : w.heap.size ≤ gb212)); have n4_ := Aside0.mk ((by rw [hg]; exact (below_size (by repeat (first | (with_reducible first | exact HB.out | apply below_alloc | apply pw_below_drewN | apply below_drew1) | exact HB.out))) : w.heap.size ≤ gb212)); clear HO_8; clear HB; have HO_8 := n0_; have HB := n1_; have BK212 := n2_; have GW212 := n3_; have GE212 := n4_; clear n0_ n1_ n2_ n3_ n4_; clear hb hbox hg; have hcz38_0 : w37.cell? ⟨gb212, 0, none⟩ = some (.string (⟨#[]⟩ : ByteArray)) := (blk_cell BK212.out 0).trans rfl; have hcz38_1 : w37.cell? ⟨gb212, 1, none⟩ = some (.string (⟨#[]⟩ : ByteArray)) := (blk_cell BK212.out 1).trans rfl; have hfz38_0 := blk_frozen BK212.out 0; have hfz38_1 := blk_frozen BK212.out 1; have p213 : 0 ≤ ((ji13) : Int) := of_decide_eq_true (by first | (with_reducible assumption) | assumption); have q213 : (ji13) < (l0.length : Int) := of_decide_eq_true (by first | (with_reducible assumption) | assumption); obtain ⟨ad213, e213, hx213_0, hx213_1⟩ := at_T108 HR0.out (ji13) p213 q213; obtain rfl : ad203 = ad213 := (by injection e213); have hn213_0 : ad203.block ≠ gb212 := Nat.ne_of_lt (Nat.lt_of_lt_of_le (by have := World.block_lt_of_cell? _ _ hx213_0; first | rwa [add_block] at this | exact this) GW212.out); have hn213_1 : ad203.block ≠ gb212 := Nat.ne_of_lt (Nat.lt_of_lt_of_le (by have := World.block_lt_of_cell? _ _ hx213_0; first | rwa [add_block] at this | exact this) GW212.out); replace hx213_0 := (HB.out.cell (World.block_lt_of_cell? w _ hx213_0)).trans hx213_0; replace hx213_1 := (HB.out.cell (World.block_lt_of_cell? w _ hx213_1)).trans hx213_1; replace hx213_0 := (cell_far (p := ⟨gb212, 0, none⟩) (by first | (rw [add_block]; exact hn213_0) | (show (Addr.add _ _).block ≠ _; rw [add_block]; exact hn213_0) | exact hn213_0) (.string ((rd_T108 y206 x31_1).f0))).trans hx213_0; replace hx213_1 := (cell_far (p := ⟨gb212, 0, none⟩) (by first | (rw [add_block]; exact hn213_0) | (show (Addr.add _ _).block ≠ _; rw [add_block]; exact hn213_0) | exact hn213_0) (.string ((rd_T108 y206 x31_1).f0))).trans hx213_1; replace hx213_0 := (cell_far (p := ⟨gb212, 1, none⟩) (by first | (rw [add_block]; exact hn213_1) | (show (Addr.add _ _).block ≠ _; rw [add_block]; exact hn213_1) | exact hn213_1) (.string ((rd_T108 y206 x31_1).f1))).trans hx213_0; replace hx213_1 := (cell_far (p := ⟨gb212, 1, none⟩) (by first | (rw [add_block]; exact hn213_1) | (show (Addr.add _ _).block ≠ _; rw [add_block]; exact hn213_1) | exact hn213_1) (.string ((rd_T108 y206 x31_1).f1))).trans hx213_1; (try have hy213_0 := fun (n_ : Nat) => (show ((((w37.drewN n_).setCell ⟨gb212, 0, none⟩ (.string ((rd_T108 y206 x31_1).f0))).setCell ⟨gb212, 1, none⟩ (.string ((rd_T108 y206 x31_1).f1)))).cell? _ = some _ from hx213_0)); (try have hy213_1 := fun (n_ : Nat) => (show ((((w37.drewN n_).setCell ⟨gb212, 0, none⟩ (.string ((rd_T108 y206 x31_1).f0))).setCell ⟨gb212, 1, none⟩ (.string ((rd_T108 y206 x31_1).f1)))).cell? _ = some _ from hx213_1)); clear hn213_0; clear hn213_1; replace p213 := eq_true p213; replace q213 := eq_true q213) | (go_at_call 93; (with_reducible refine (strings_Index.calls x6_1 ((rd_T108 l0 (ji13)).f0) t218 _ A25.out).mono ?_); rintro e w' ⟨rfl, ⟨nd, rfl⟩⟩; (try first | exact ⟨rfl, _, World.drewN_drewN _ _ _⟩ | exact ⟨rfl, _, Eq.trans (World.drewN_drewN _ _ _) (congrArg (World.drewN _) (Nat.add_assoc _ _ _))⟩)) | (go_at_call 86; (with_reducible refine (impl_isValue.calls k1 (x6_1.extract 0 (t218 : Int).toNat) true _ A34.out).mono ?_); rintro e w' ⟨rfl, ⟨nd, rfl⟩⟩; (try first | exact ⟨rfl, _, World.drewN_drewN _ _ _⟩ | exact ⟨rfl, _, Eq.trans (World.drewN_drewN _ _ _) (congrArg (World.drewN _) (Nat.add_assoc _ _ _))⟩)) | ((with_reducible refine gate_builtin (b := .append) (xs := #[.tmp 62, .tmp 67]) rfl ?_); at_builtin; refine Kd.R_append k62 (w0 := w) w.heap.size rfl (.tmp 62) (.tmp 67) 35 62 (.agg #[(.string ⟨#[]⟩), (.string ⟨#[]⟩)]) 32 rfl Try.underlying35 info62 rfl (by decide) (by omega) u8 x8_1 (⟨(rd_T108 y206 x31_1).f1, x6_1.extract 0 (t218 : Int).toNat⟩ : S62) [.string ((rd_T108 y206 x31_1).f1), .string (x6_1.extract 0 (t218 : Int).toNat)] (fun _ => True) (fun _ => False) rfl (by first | (go_simp; done) | (go_simp; rfl)) ?aP (fun _ hk => hk.elim) ?aF ?aO ?aB ?aS ?aL ?_; (case aP => exact k62_mkM _ _ _ (⟨(rd_T108 y206 x31_1).f1, x6_1.extract 0 (t218 : Int).toNat⟩ : S62)); (case aB => exact (by repeat (first | (with_reducible first | exact HB.out | apply below_alloc | apply pw_below_drewN | apply below_drew1 | refine below_set ?_ GE212.out) | exact HB.out))); (case aF => exact (fun _ _ => trivial)); (case aO => exact (by (with_reducible repeat (first | apply Kd.R_alloc | apply Kd.R_drewN | apply Kd.R_drew)); exact Kd.R_mono (Kd.R_far (p := ⟨gb212, 1, none⟩) (Kd.R_far (p := ⟨gb212, 0, none⟩) (Kd.R_types HO_8.out BK212.out (by decide)) (fun _ hk => hk.2) (.string ((rd_T108 y206 x31_1).f0))) (fun _ hk => hk.2) (.string ((rd_T108 y206 x31_1).f1))) (fun _ hk => trivial))); (case aS => exact (below_size (by repeat (first | (with_reducible first | exact HB.out | apply below_alloc | apply pw_below_drewN | apply below_drew1 | refine below_set ?_ GE212.out) | exact HB.out)))); (case aL => have := LMc36.out; omega); intro v221 w39 ho hb hg hat; rw [← Ny220.out] at ho; have n0_ := Aside0.mk (blk_grown (g := gb212) (o := .cells #[.string ((rd_T108 y206 x31_1).f0), .string ((rd_T108 y206 x31_1).f1)] 108 (0, 0)) (by (with_reducible repeat (first | refine blk_drewN ?_ _ | refine blk_drew ?_ | refine blk_alloc ?_ _)); refine blk_put (cs := #[.string ((rd_T108 y206 x31_1).f0), .string (⟨#[]⟩ : ByteArray)]) ?_ 1 _ rfl; (with_reducible repeat (first | refine blk_drewN ?_ _ | refine blk_drew ?_ | refine blk_alloc ?_ _)); refine blk_put (cs := #[.string (⟨#[]⟩ : ByteArray), .string (⟨#[]⟩ : ByteArray)]) ?_ 0 _ rfl; (with_reducible repeat (first | refine blk_drewN ?_ _ | refine blk_drew ?_ | refine blk_alloc ?_ _)); exact BK212.out) hg (Kd.R_ne HO_8.out BK212.out (by decide))); have n1_ := Aside0.mk (hb); have n2_ := Aside0.mk (ho); clear BK212; clear HB; clear HO_8; have BK212 := n0_; have HB := n1_; have HO222 := n2_; clear n0_ n1_ n2_; clear ho hb hg hat)))
                                        go_roundg k1
                                        case measure => have := HK1.out; omega
                                        case rel => exact ⟨(x6_1.extract ((ji31) : Int).toNat x6_1.size), (y220), (ji13), (by first | rfl | (simp; done) | (simp only [← hji31] <;> (first | rfl | simp)) | (simp [*]; done)), (by first | rfl | (simp; done) | (simp only [← hji13] <;> (first | rfl | simp)) | (simp [*]; done)), H', ⟨by have := HK1.out; omega⟩, ⟨by (with_reducible repeat (first | apply Kd.R_alloc | apply Kd.R_drewN | apply Kd.R_drew)); exact HO222.out⟩, ⟨by repeat (first | (with_reducible first | exact HB.out | apply below_alloc | apply pw_below_drewN | apply below_drew1 | refine below_set ?_ GE212.out) | exact HB.out)⟩⟩
                                      · rw [if_neg c36] at H
                                        exact absurd H (by simp)
                                    · replace c35 := Bool.eq_false_iff.mpr c35
                                      subst c35
                                      have H1 : (some (([] : List (S62)), false)) = some (r1, r2) := by rw [if_neg (show ¬ (false = true) by decide)] at H; exact H
                                      clear H
                                      have H := H1
                                      clear H1
                                      simp only [Option.some.injEq, Prod.mk.injEq] at H
                                      obtain ⟨rfl, rfl⟩ := H
                                      have p211 : 0 ≤ (x31_1 : Int) := of_decide_eq_true (by first | (with_reducible assumption) | assumption)
                                      have q211 : x31_1 < (y206.length : Int) := of_decide_eq_true (by first | (with_reducible assumption) | assumption)
                                      obtain ⟨ad211, e211, hx211_0, hx211_1⟩ := at_T108 HR209.out x31_1 p211 q211
                                      obtain rfl : ad203 = ad211 := (by injection e211)
                                      replace hx211_0 := (HB.out.cell (World.block_lt_of_cell? w _ hx211_0)).trans hx211_0
                                      replace hx211_1 := (HB.out.cell (World.block_lt_of_cell? w _ hx211_1)).trans hx211_1
                                      replace p211 := eq_true p211
                                      replace q211 := eq_true q211
                                      go_wp2_with (first | ((with_reducible refine gate_dst (N := 10) rfl ?_); refine box_event ?hg (N := 10) ?hd (cs := #[.string (⟨#[]⟩ : ByteArray), .string (⟨#[]⟩ : ByteArray)]) (t := 108) ?hr ?_; (case hd => rfl); (case hg => rfl); (case hr => first | (go_simp; done) | (go_simp; rfl)); intro gb212 hg w40 hbox hb; have n0_ := Aside0.mk (Kd.R_below (by (with_reducible repeat (first | apply Kd.R_alloc | apply Kd.R_drewN | apply Kd.R_drew)); exact HO_8.out) hb); have n1_ := Aside0.mk (below_step (by repeat (first | (with_reducible first | exact HB.out | apply below_alloc | apply pw_below_drewN | apply below_drew1) | exact HB.out)) hb); have n2_ := Aside0.mk (hbox); have n3_ := Aside0.mk ((by rw [hg]; exact (below_size (by repeat (first | (with_reducible first | exact HB.out | apply below_alloc | apply pw_below_drewN | apply below_drew1) | exact HB.out))) : w.heap.size ≤ gb212)); have n4_ := Aside0.mk ((by rw [hg]; exact (below_size (by repeat (first | (with_reducible first | exact HB.out | apply below_alloc | apply pw_below_drewN | apply below_drew1) | exact HB.out))) : w.heap.size ≤ gb212)); clear HO_8; clear HB; have HO_8 := n0_; have HB := n1_; have BK212 := n2_; have GW212 := n3_; have GE212 := n4_; clear n0_ n1_ n2_ n3_ n4_; clear hb hbox hg; have hcz41_0 : w40.cell? ⟨gb212, 0, none⟩ = some (.string (⟨#[]⟩ : ByteArray)) := (blk_cell BK212.out 0).trans rfl; have hcz41_1 : w40.cell? ⟨gb212, 1, none⟩ = some (.string (⟨#[]⟩ : ByteArray)) := (blk_cell BK212.out 1).trans rfl; have hfz41_0 := blk_frozen BK212.out 0; have hfz41_1 := blk_frozen BK212.out 1; have p213 : 0 ≤ ((ji13) : Int) := of_decide_eq_true (by first | (with_reducible assumption) | assumption); have q213 : (ji13) < (l0.length : Int) := of_decide_eq_true (by first | (with_reducible assumption) | assumption); obtain ⟨ad213, e213, hx213_0, hx213_1⟩ := at_T108 HR0.out (ji13) p213 q213; obtain rfl : ad203 = ad213 := (by injection e213); have hn213_0 : ad203.block ≠ gb212 := Nat.ne_of_lt (Nat.lt_of_lt_of_le (by have := World.block_lt_of_cell? _ _ hx213_0; first | rwa [add_block] at this | exact this) GW212.out); have hn213_1 : ad203.block ≠ gb212 := Nat.ne_of_lt (Nat.lt_of_lt_of_le (by have := World.block_lt_of_cell? _ _ hx213_0; first | rwa [add_block] at this | exact this) GW212.out); replace hx213_0 := (HB.out.cell (World.block_lt_of_cell? w _ hx213_0)).trans hx213_0; replace hx213_1 := (HB.out.cell (World.block_lt_of_cell? w _ hx213_1)).trans hx213_1; replace hx213_0 := (cell_far (p := ⟨gb212, 0, none⟩) (by first | (rw [add_block]; exact hn213_0) | (show (Addr.add _ _).block ≠ _; rw [add_block]; exact hn213_0) | exact hn213_0) (.string ((rd_T108 y206 x31_1).f0))).trans hx213_0; replace hx213_1 := (cell_far (p := ⟨gb212, 0, none⟩) (by first | (rw [add_block]; exact hn213_0) | (show (Addr.add _ _).block ≠ _; rw [add_block]; exact hn213_0) | exact hn213_0) (.string ((rd_T108 y206 x31_1).f0))).trans hx213_1; replace hx213_0 := (cell_far (p := ⟨gb212, 1, none⟩) (by first | (rw [add_block]; exact hn213_1) | (show (Addr.add _ _).block ≠ _; rw [add_block]; exact hn213_1) | exact hn213_1) (.string ((rd_T108 y206 x31_1).f1))).trans hx213_0; replace hx213_1 := (cell_far (p := ⟨gb212, 1, none⟩) (by first | (rw [add_block]; exact hn213_1) | (show (Addr.add _ _).block ≠ _; rw [add_block]; exact hn213_1) | exact hn213_1) (.string ((rd_T108 y206 x31_1).f1))).trans hx213_1; (try have hy213_0 := fun (n_ : Nat) => (show ((((w40.drewN n_).setCell ⟨gb212, 0, none⟩ (.string ((rd_T108 y206 x31_1).f0))).setCell ⟨gb212, 1, none⟩ (.string ((rd_T108 y206 x31_1).f1)))).cell? _ = some _ from hx213_0)); (try have hy213_1 := fun (n_ : Nat) => (show ((((w40.drewN n_).setCell ⟨gb212, 0, none⟩ (.string ((rd_T108 y206 x31_1).f0))).setCell ⟨gb212, 1, none⟩ (.string ((rd_T108 y206 x31_1).f1)))).cell? _ = some _ from hx213_1)); clear hn213_0; clear hn213_1; replace p213 := eq_true p213; replace q213 := eq_true q213) | (go_at_call 93; (with_reducible refine (strings_Index.calls x6_1 ((rd_T108 l0 (ji13)).f0) t218 _ A25.out).mono ?_); rintro e w' ⟨rfl, ⟨nd, rfl⟩⟩; (try first | exact ⟨rfl, _, World.drewN_drewN _ _ _⟩ | exact ⟨rfl, _, Eq.trans (World.drewN_drewN _ _ _) (congrArg (World.drewN _) (Nat.add_assoc _ _ _))⟩)) | (go_at_call 86; (with_reducible refine (impl_isValue.calls k1 (x6_1.extract 0 (t218 : Int).toNat) false _ A34.out).mono ?_); rintro e w' ⟨rfl, ⟨nd, rfl⟩⟩; (try first | exact ⟨rfl, _, World.drewN_drewN _ _ _⟩ | exact ⟨rfl, _, Eq.trans (World.drewN_drewN _ _ _) (congrArg (World.drewN _) (Nat.add_assoc _ _ _))⟩)))
                                      repeat (go_quiet (first | ((with_reducible refine gate_dst (N := 10) rfl ?_); refine box_event ?hg (N := 10) ?hd (cs := #[.string (⟨#[]⟩ : ByteArray), .string (⟨#[]⟩ : ByteArray)]) (t := 108) ?hr ?_; (case hd => rfl); (case hg => rfl); (case hr => first | (go_simp; done) | (go_simp; rfl)); intro gb212 hg w40 hbox hb; have n0_ := Aside0.mk (Kd.R_below (by (with_reducible repeat (first | apply Kd.R_alloc | apply Kd.R_drewN | apply Kd.R_drew)); exact HO_8.out) hb); have n1_ := Aside0.mk (below_step (by repeat (first | (with_reducible first | exact HB.out | apply below_alloc | apply pw_below_drewN | apply below_drew1) | exact HB.out)) hb); have n2_ := Aside0.mk (hbox); have n3_ := Aside0.mk ((by rw [hg]; exact (below_size (by repeat (first | (with_reducible first | exact HB.out | apply below_alloc | apply pw_below_drewN | apply below_drew1) | exact HB.out))) : w.heap.size ≤ gb212)); have n4_ := Aside0.mk ((by rw [hg]; exact (below_size (by repeat (first | (with_reducible first | exact HB.out | apply below_alloc | apply pw_below_drewN | apply below_drew1) | exact HB.out))) : w.heap.size ≤ gb212)); clear HO_8; clear HB; have HO_8 := n0_; have HB := n1_; have BK212 := n2_; have GW212 := n3_; have GE212 := n4_; clear n0_ n1_ n2_ n3_ n4_; clear hb hbox hg; have hcz41_0 : w40.cell? ⟨gb212, 0, none⟩ = some (.string (⟨#[]⟩ : ByteArray)) := (blk_cell BK212.out 0).trans rfl; have hcz41_1 : w40.cell? ⟨gb212, 1, none⟩ = some (.string (⟨#[]⟩ : ByteArray)) := (blk_cell BK212.out 1).trans rfl; have hfz41_0 := blk_frozen BK212.out 0; have hfz41_1 := blk_frozen BK212.out 1; have p213 : 0 ≤ ((ji13) : Int) := of_decide_eq_true (by first | (with_reducible assumption) | assumption); have q213 : (ji13) < (l0.length : Int) := of_decide_eq_true (by first | (with_reducible assumption) | assumption); obtain ⟨ad213, e213, hx213_0, hx213_1⟩ := at_T108 HR0.out (ji13) p213 q213; obtain rfl : ad203 = ad213 := (by injection e213); have hn213_0 : ad203.block ≠ gb212 := Nat.ne_of_lt (Nat.lt_of_lt_of_le (by have := World.block_lt_of_cell? _ _ hx213_0; first | rwa [add_block] at this | exact this) GW212.out); have hn213_1 : ad203.block ≠ gb212 := Nat.ne_of_lt (Nat.lt_of_lt_of_le (by have := World.block_lt_of_cell? _ _ hx213_0; first | rwa [add_block] at this | exact this) GW212.out); replace hx213_0 := (HB.out.cell (World.block_lt_of_cell? w _ hx213_0)).trans hx213_0; replace hx213_1 := (HB.out.cell (World.block_lt_of_cell? w _ hx213_1)).trans hx213_1; replace hx213_0 := (cell_far (p := ⟨gb212, 0, none⟩) (by first | (rw [add_block]; exact hn213_0) | (show (Addr.add _ _).block ≠ _; rw [add_block]; exact hn213_0) | exact hn213_0) (.string ((rd_T108 y206 x31_1).f0))).trans hx213_0; replace hx213_1 := (cell_far (p := ⟨gb212, 0, none⟩) (by first | (rw [add_block]; exact hn213_0) | (show (Addr.add _ _).block ≠ _; rw [add_block]; exact hn213_0) | exact hn213_0) (.string ((rd_T108 y206 x31_1).f0))).trans hx213_1; replace hx213_0 := (cell_far (p := ⟨gb212, 1, none⟩) (by first | (rw [add_block]; exact hn213_1) | (show (Addr.add _ _).block ≠ _; rw [add_block]; exact hn213_1) | exact hn213_1) (.string ((rd_T108 y206 x31_1).f1))).trans hx213_0; replace hx213_1 := (cell_far (p := ⟨gb212, 1, none⟩) (by first | (rw [add_block]; exact hn213_1) | (show (Addr.add _ _).block ≠ _; rw [add_block]; exact hn213_1) | exact hn213_1) (.string ((rd_T108 y206 x31_1).f1))).trans hx213_1; (try have hy213_0 := fun (n_ : Nat) => (show ((((w40.drewN n_).setCell ⟨gb212, 0, none⟩ (.string ((rd_T108 y206 x31_1).f0))).setCell ⟨gb212, 1, none⟩ (.string ((rd_T108 y206 x31_1).f1)))).cell? _ = some _ from hx213_0)); (try have hy213_1 := fun (n_ : Nat) => (show ((((w40.drewN n_).setCell ⟨gb212, 0, none⟩ (.string ((rd_T108 y206 x31_1).f0))).setCell ⟨gb212, 1, none⟩ (.string ((rd_T108 y206 x31_1).f1)))).cell? _ = some _ from hx213_1)); clear hn213_0; clear hn213_1; replace p213 := eq_true p213; replace q213 := eq_true q213) | (go_at_call 93; (with_reducible refine (strings_Index.calls x6_1 ((rd_T108 l0 (ji13)).f0) t218 _ A25.out).mono ?_); rintro e w' ⟨rfl, ⟨nd, rfl⟩⟩; (try first | exact ⟨rfl, _, World.drewN_drewN _ _ _⟩ | exact ⟨rfl, _, Eq.trans (World.drewN_drewN _ _ _) (congrArg (World.drewN _) (Nat.add_assoc _ _ _))⟩)) | (go_at_call 86; (with_reducible refine (impl_isValue.calls k1 (x6_1.extract 0 (t218 : Int).toNat) false _ A34.out).mono ?_); rintro e w' ⟨rfl, ⟨nd, rfl⟩⟩; (try first | exact ⟨rfl, _, World.drewN_drewN _ _ _⟩ | exact ⟨rfl, _, Eq.trans (World.drewN_drewN _ _ _) (congrArg (World.drewN _) (Nat.add_assoc _ _ _))⟩))); try go_wp2_with (first | ((with_reducible refine gate_dst (N := 10) rfl ?_); refine box_event ?hg (N := 10) ?hd (cs := #[.string (⟨#[]⟩ : ByteArray), .string (⟨#[]⟩ : ByteArray)]) (t := 108) ?hr ?_; (case hd => rfl); (case hg => rfl); (case hr => first | (go_simp; done) | (go_simp; rfl)); intro gb212 hg w40 hbox hb; have n0_ := Aside0.mk (Kd.R_below (by (with_reducible repeat (first | apply Kd.R_alloc | apply Kd.R_drewN | apply Kd.R_drew)); exact HO_8.out) hb); have n1_ := Aside0.mk (below_step (by repeat (first | (with_reducible first | exact HB.out | apply below_alloc | apply pw_below_drewN | apply below_drew1) | exact HB.out)) hb); have n2_ := Aside0.mk (hbox); have n3_ := Aside0.mk ((by rw [hg]; exact (below_size (by repeat (first | (with_reducible first | exact HB.out | apply below_alloc | apply pw_below_drewN | apply below_drew1) | exact HB.out))) : w.heap.size ≤ gb212)); have n4_ := Aside0.mk ((by rw [hg]; exact (below_size (by repeat (first | (with_reducible first | exact HB.out | apply below_alloc | apply pw_below_drewN | apply below_drew1) | exact HB.out))) : w.heap.size ≤ gb212)); clear HO_8; clear HB; have HO_8 := n0_; have HB := n1_; have BK212 := n2_; have GW212 := n3_; have GE212 := n4_; clear n0_ n1_ n2_ n3_ n4_; clear hb hbox hg; have hcz41_0 : w40.cell? ⟨gb212, 0, none⟩ = some (.string (⟨#[]⟩ : ByteArray)) := (blk_cell BK212.out 0).trans rfl; have hcz41_1 : w40.cell? ⟨gb212, 1, none⟩ = some (.string (⟨#[]⟩ : ByteArray)) := (blk_cell BK212.out 1).trans rfl; have hfz41_0 := blk_frozen BK212.out 0; have hfz41_1 := blk_frozen BK212.out 1; have p213 : 0 ≤ ((ji13) : Int) := of_decide_eq_true (by first | (with_reducible assumption) | assumption); have q213 : (ji13) < (l0.length : Int) := of_decide_eq_true (by first | (with_reducible assumption) | assumption); obtain ⟨ad213, e213, hx213_0, hx213_1⟩ := at_T108 HR0.out (ji13) p213 q213; obtain rfl : ad203 = ad213 := (by injection e213); have hn213_0 : ad203.block ≠ gb212 := Nat.ne_of_lt (Nat.lt_of_lt_of_le (by have := World.block_lt_of_cell? _ _ hx213_0; first | rwa [add_block] at this | exact this) GW212.out); have hn213_1 : ad203.block ≠ gb212 := Nat.ne_of_lt (Nat.lt_of_lt_of_le (by have := World.block_lt_of_cell? _ _ hx213_0; first | rwa [add_block] at this | exact this) GW212.out); replace hx213_0 := (HB.out.cell (World.block_lt_of_cell? w _ hx213_0)).trans hx213_0; replace hx213_1 := (HB.out.cell (World.block_lt_of_cell? w _ hx213_1)).trans hx213_1; replace hx213_0 := (cell_far (p := ⟨gb212, 0, none⟩) (by first | (rw [add_block]; exact hn213_0) | (show (Addr.add _ _).block ≠ _; rw [add_block]; exact hn213_0) | exact hn213_0) (.string ((rd_T108 y206 x31_1).f0))).trans hx213_0; replace hx213_1 := (cell_far (p := ⟨gb212, 0, none⟩) (by first | (rw [add_block]; exact hn213_0) | (show (Addr.add _ _).block ≠ _; rw [add_block]; exact hn213_0) | exact hn213_0) (.string ((rd_T108 y206 x31_1).f0))).trans hx213_1; replace hx213_0 := (cell_far (p := ⟨gb212, 1, none⟩) (by first | (rw [add_block]; exact hn213_1) | (show (Addr.add _ _).block ≠ _; rw [add_block]; exact hn213_1) | exact hn213_1) (.string ((rd_T108 y206 x31_1).f1))).trans hx213_0; replace hx213_1 := (cell_far (p := ⟨gb212, 1, none⟩) (by first | (rw [add_block]; exact hn213_1) | (show (Addr.add _ _).block ≠ _; rw [add_block]; exact hn213_1) | exact hn213_1) (.string ((rd_T108 y206 x31_1).f1))).trans hx213_1; (try have hy213_0 := fun (n_ : Nat) => (show ((((w40.drewN n_).setCell ⟨gb212, 0, none⟩ (.string ((rd_T108 y206 x31_1).f0))).setCell ⟨gb212, 1, none⟩ (.string ((rd_T108 y206 x31_1).f1)))).cell? _ = some _ from hx213_0)); (try have hy213_1 := fun (n_ : Nat) => (show ((((w40.drewN n_).setCell ⟨gb212, 0, none⟩ (.string ((rd_T108 y206 x31_1).f0))).setCell ⟨gb212, 1, none⟩ (.string ((rd_T108 y206 x31_1).f1)))).cell? _ = some _ from hx213_1)); clear hn213_0; clear hn213_1; replace p213 := eq_true p213; replace q213 := eq_true q213) | (go_at_call 93; (with_reducible refine (strings_Index.calls x6_1 ((rd_T108 l0 (ji13)).f0) t218 _ A25.out).mono ?_); rintro e w' ⟨rfl, ⟨nd, rfl⟩⟩; (try first | exact ⟨rfl, _, World.drewN_drewN _ _ _⟩ | exact ⟨rfl, _, Eq.trans (World.drewN_drewN _ _ _) (congrArg (World.drewN _) (Nat.add_assoc _ _ _))⟩)) | (go_at_call 86; (with_reducible refine (impl_isValue.calls k1 (x6_1.extract 0 (t218 : Int).toNat) false _ A34.out).mono ?_); rintro e w' ⟨rfl, ⟨nd, rfl⟩⟩; (try first | exact ⟨rfl, _, World.drewN_drewN _ _ _⟩ | exact ⟨rfl, _, Eq.trans (World.drewN_drewN _ _ _) (congrArg (World.drewN _) (Nat.add_assoc _ _ _))⟩))))
                                      go_ret2
                                      exact ⟨_, by first | rfl | (simp [errW_none, errW_some] <;> rfl) | (simp only [← hji6, ← hji13, ← hji31]; first | rfl | (simp [errW_none, errW_some] <;> rfl)) | (simp [*, errW_none, errW_some] <;> rfl), by first | exact Kd.R_nil _ _ _ _ _ | exact Kd.N_nil _ _ _ _ _ | exact Kd.V_nil _ _ _ _ _ | exact Kd.Q_nil _ _ _ _ _ | exact Kd.S_nil _ _ _ _ _, by repeat (first | (with_reducible first | exact HB.out | apply below_alloc | apply pw_below_drewN | apply below_drew1 | refine below_set ?_ GE212.out) | exact HB.out)⟩
                                  · rw [if_neg c33] at H
                                    exact absurd H (by simp)
                                · rw [if_neg c32] at H
                                  exact absurd H (by simp)
                              · rw [if_neg c30] at H
                                exact absurd H (by simp)
                            · rw [if_neg c29] at H
                              exact absurd H (by simp)
                      · rw [if_neg c15] at H
                        exact absurd H (by simp)
                    · rw [if_neg c14] at H
                      exact absurd H (by simp)
                  · rw [if_neg c12] at H
                    exact absurd H (by simp)
                · rw [if_neg c11] at H
                  exact absurd H (by simp)
              · rw [if_neg c10] at H
                have c10b0 : decide (x31_1 < (y206.length : Int)) = false := decide_eq_false c10
                clear c10
                replace H := Option.bind_eq_some_iff.mp H
                obtain ⟨t210, A420, H⟩ := H
                replace H : (some (t210, (x6_1.toList == ([] : List UInt8)))) = some (r1, r2) := H
                have A42 := Aside0.mk A420
                clear A420
                simp only [Option.some.injEq, Prod.mk.injEq] at H
                obtain ⟨rfl, rfl⟩ := H
                obtain ⟨Ao43, co43, eo43⟩ := Kd.R_slice HO_8.out
                subst eo43
                go_wp2_with (first | (go_at_call 87; (with_reducible refine (slices_SortFunc_Label.calls (fun k_ => some k_ = (.slice Ao43 x8_1.length co43 : Value).ownBlock) (.slice Ao43 x8_1.length co43) x8_1 94 t210 w _ ?side1 ?side2 A42.out).mono ?_); (case side1 => repeat (first | (with_reducible first | exact HB.out | apply below_alloc | apply pw_below_drewN | apply below_drew1) | exact HB.out)); (case side2 => exact Kd.R_tight rfl HO_8.out); rintro e w44 ⟨rfl, hy0, hb, hkp⟩; have n0_ := Aside0.mk (Kd.R_reok rfl hy0 (fun k_ e_ => HO_8.out.1 k_ e_)); have n1_ := Aside0.mk (hb); clear HO_8; clear HB; have HO_8 := n0_; have HB := n1_; clear n0_ n1_; (try clear hb); (try clear hkp); (try clear hy0)))
                repeat (go_quiet (first | (go_at_call 87; (with_reducible refine (slices_SortFunc_Label.calls (fun k_ => some k_ = (.slice Ao43 x8_1.length co43 : Value).ownBlock) (.slice Ao43 x8_1.length co43) x8_1 94 t210 w _ ?side1 ?side2 A42.out).mono ?_); (case side1 => repeat (first | (with_reducible first | exact HB.out | apply below_alloc | apply pw_below_drewN | apply below_drew1) | exact HB.out)); (case side2 => exact Kd.R_tight rfl HO_8.out); rintro e w44 ⟨rfl, hy0, hb, hkp⟩; have n0_ := Aside0.mk (Kd.R_reok rfl hy0 (fun k_ e_ => HO_8.out.1 k_ e_)); have n1_ := Aside0.mk (hb); clear HO_8; clear HB; have HO_8 := n0_; have HB := n1_; clear n0_ n1_; (try clear hb); (try clear hkp); (try clear hy0))); try go_wp2_with (first | (go_at_call 87; (with_reducible refine (slices_SortFunc_Label.calls (fun k_ => some k_ = (.slice Ao43 x8_1.length co43 : Value).ownBlock) (.slice Ao43 x8_1.length co43) x8_1 94 t210 w _ ?side1 ?side2 A42.out).mono ?_); (case side1 => repeat (first | (with_reducible first | exact HB.out | apply below_alloc | apply pw_below_drewN | apply below_drew1) | exact HB.out)); (case side2 => exact Kd.R_tight rfl HO_8.out); rintro e w44 ⟨rfl, hy0, hb, hkp⟩; have n0_ := Aside0.mk (Kd.R_reok rfl hy0 (fun k_ e_ => HO_8.out.1 k_ e_)); have n1_ := Aside0.mk (hb); clear HO_8; clear HB; have HO_8 := n0_; have HB := n1_; clear n0_ n1_; (try clear hb); (try clear hkp); (try clear hy0))))
                go_ret2
                exact ⟨_, by first | rfl | (simp [errW_none, errW_some] <;> rfl) | (simp only [← hji6]; first | rfl | (simp [errW_none, errW_some] <;> rfl)) | (simp [*, errW_none, errW_some] <;> rfl), by (with_reducible repeat (first | apply Kd.R_alloc | apply Kd.R_drewN | apply Kd.R_drew)); exact HO_8.out, by repeat (first | (with_reducible first | exact HB.out | apply below_alloc | apply pw_below_drewN | apply below_drew1) | exact HB.out)⟩
        · rw [if_neg c8] at H
          exact absurd H (by simp)
      · rw [if_neg c7] at H
        exact absurd H (by simp)
    · replace c5 := Bool.eq_false_iff.mpr c5
      subst c5
      have H1 : (some (([] : List (S62)), false)) = some (r1, r2) := by rw [if_neg (show ¬ (false = true) by decide)] at H; exact H
      clear H
      have H := H1
      clear H1
      simp only [Option.some.injEq, Prod.mk.injEq] at H
      obtain ⟨rfl, rfl⟩ := H
      have p203 : 0 ≤ (0 : Int) := (by omega)
      have q203 : 0 < (l0.length : Int) := of_decide_eq_true (by first | (with_reducible assumption) | assumption)
      obtain ⟨ad203, e203, hx203_0, hx203_1⟩ := at_T108 HR0.out 0 p203 q203
      cases e203
      have qi203 : (0 < l0.length) = True := eq_true (by omega)
      (try rw [show ((0 : Int)).toNat = 0 from rfl] at hx203_0)
      (try rw [show 0 * 2 = 0 from rfl] at hx203_0)
      (try rw [Addr.add_zero'] at hx203_0)
      (try rw [show ((0 : Int)).toNat = 0 from rfl] at hx203_1)
      (try rw [show 0 * 2 = 0 from rfl] at hx203_1)
      (try rw [Addr.add_zero'] at hx203_1)
      replace p203 := eq_true p203
      replace q203 := eq_true q203
      go_enter Try.func44, Try.ntmps44
      go_wp2_with (first | (go_at_call 92; (with_reducible refine (strings_CutPrefix.calls a1 ((rd_T108 l0 0).f0) t204 false _ A4.out).mono ?_); rintro e w' ⟨rfl, ⟨nd, rfl⟩⟩; (try first | exact ⟨rfl, _, World.drewN_drewN _ _ _⟩ | exact ⟨rfl, _, Eq.trans (World.drewN_drewN _ _ _) (congrArg (World.drewN _) (Nat.add_assoc _ _ _))⟩)))
      repeat (go_quiet (first | (go_at_call 92; (with_reducible refine (strings_CutPrefix.calls a1 ((rd_T108 l0 0).f0) t204 false _ A4.out).mono ?_); rintro e w' ⟨rfl, ⟨nd, rfl⟩⟩; (try first | exact ⟨rfl, _, World.drewN_drewN _ _ _⟩ | exact ⟨rfl, _, Eq.trans (World.drewN_drewN _ _ _) (congrArg (World.drewN _) (Nat.add_assoc _ _ _))⟩))); try go_wp2_with (first | (go_at_call 92; (with_reducible refine (strings_CutPrefix.calls a1 ((rd_T108 l0 0).f0) t204 false _ A4.out).mono ?_); rintro e w' ⟨rfl, ⟨nd, rfl⟩⟩; (try first | exact ⟨rfl, _, World.drewN_drewN _ _ _⟩ | exact ⟨rfl, _, Eq.trans (World.drewN_drewN _ _ _) (congrArg (World.drewN _) (Nat.add_assoc _ _ _))⟩))))
      go_ret2
      exact ⟨_, by first | rfl | (simp [errW_none, errW_some] <;> rfl) | (simp [*, errW_none, errW_some] <;> rfl), by first | exact Kd.R_nil _ _ _ _ _ | exact Kd.N_nil _ _ _ _ _ | exact Kd.V_nil _ _ _ _ _ | exact Kd.Q_nil _ _ _ _ _ | exact Kd.S_nil _ _ _ _ _, by repeat (first | (with_reducible first | exact HB.out | apply below_alloc | apply pw_below_drewN | apply below_drew1) | exact HB.out)⟩
  · rw [if_neg c3] at H
    exact absurd H (by simp)

/-! ### impl_PartsOf: function 18 -/
def impl_PartsOf.j0 : Nat → ByteArray → List (S108) → Bool → Option ((List (S62)) × Bool)
  | 0, _, _, _ => none
  | k + 1, x1, x6, x20 => if x20 = true then (some (([] : List (S62)), false)) else ((impl_partsOf.f k x6 x1).bind fun bt228 => (if bt228.2 = true then (some (bt228.1, true)) else (some (([] : List (S62)), false))))
def impl_PartsOf.f (k : Nat) (a0 : ByteArray) (a1 : ByteArray) : Option ((List (S62)) × Bool) := (impl_formOf.f a0).bind fun bt223 => (if bt223.2 = true then ((impl_printed.f k a1 500).bind fun t227 => (impl_PartsOf.j0 k a1 bt223.1 (!t227))) else (impl_PartsOf.j0 k a1 bt223.1 true))
theorem impl_PartsOf.mono_l : ∀ k, (∀ y0 y1 y2, LeO (impl_PartsOf.j0 k y0 y1 y2) (impl_PartsOf.j0 (k + 1) y0 y1 y2))
  | 0 => fun _ _ _ r h => by simp [impl_PartsOf.j0] at h
  | k + 1 => by
    have ih0 := impl_PartsOf.mono_l k
    · intro y0 y1 y2
      unfold impl_PartsOf.j0
      repeat' first
      | (with_reducible exact ih0 _ _ _)
      | (with_reducible exact impl_partsOf.mono _ _ _)
      | (with_reducible exact impl_printed.mono _ _ _)
      | (with_reducible exact LeO.refl _)
      | (with_reducible exact LeO.none _)
      | (with_reducible refine LeO.ite ?_ ?_)
      | (with_reducible refine LeO.bind ?_ (fun _ => ?_))
      | exact ih0 _ _ _
      | exact impl_partsOf.mono _ _ _
      | exact impl_printed.mono _ _ _
      | exact LeO.none _
      | refine LeO.ite ?_ ?_
      | refine LeO.bind ?_ (fun _ => ?_)
theorem impl_PartsOf.mono : ∀ a0 a1 k, LeO (impl_PartsOf.f k a0 a1) (impl_PartsOf.f (k + 1) a0 a1) := by
  intro a0 a1 k
  have ih0 := impl_PartsOf.mono_l k
  unfold impl_PartsOf.f
  repeat' first
      | (with_reducible exact ih0 _ _ _)
      | (with_reducible exact impl_partsOf.mono _ _ _)
      | (with_reducible exact impl_printed.mono _ _ _)
      | (with_reducible exact LeO.refl _)
      | (with_reducible exact LeO.none _)
      | (with_reducible refine LeO.ite ?_ ?_)
      | (with_reducible refine LeO.bind ?_ (fun _ => ?_))
      | exact ih0 _ _ _
      | exact impl_partsOf.mono _ _ _
      | exact impl_printed.mono _ _ _
      | exact LeO.none _
      | refine LeO.ite ?_ ?_
      | refine LeO.bind ?_ (fun _ => ?_)
set_option maxHeartbeats 8000000 in
set_option maxRecDepth 100000 in
theorem impl_PartsOf.calls (k : Nat) (a0 : ByteArray) (a1 : ByteArray) (r1 : List (S62)) (r2 : Bool) (w : World) (h : impl_PartsOf.f k a0 a1 = some (r1, r2)) (hmx : Mx w := by first | exact HMX.out | exact Mx.below HMX.out (by repeat (first | (with_reducible first | exact HB.out | apply below_alloc | apply pw_below_drewN | apply below_drew1 | refine below_set ?_ (Aside0.out (by assumption))) | exact Below.refl _ _ | exact HB.out))) :
    Calls Try.prog 18 #[.string a0, .string a1] w fun e w' => ∃ v0_ : Value, e = .returned (.tuple #[v0_, .bool r2]) ∧ Kd.R k62 62 w' w.heap.size (fun _ => True) v0_ r1 ∧ Below w.heap.size w w' := by
  have HMX := Aside0.mk hmx
  have HB := Aside0.mk (Below.refl w.heap.size w)
  have H : ((impl_formOf.f a0).bind fun bt223 => (if bt223.2 = true then ((impl_printed.f k a1 500).bind fun t227 => (impl_PartsOf.j0 k a1 bt223.1 (!t227))) else (impl_PartsOf.j0 k a1 bt223.1 true))) = some (r1, r2) := h
  clear h
  replace H := Option.bind_eq_some_iff.mp H
  obtain ⟨⟨t223, t224⟩, A30, H⟩ := H
  replace H : (if t224 = true then ((impl_printed.f k a1 500).bind fun t227 => (impl_PartsOf.j0 k a1 t223 (!t227))) else (impl_PartsOf.j0 k a1 t223 true)) = some (r1, r2) := H
  have A3 := Aside0.mk A30
  clear A30
  have HC4 := Aside0.mk H
  clear H
  go_enter Try.func18, Try.ntmps18
  go_upto_region 2 with (first | ((with_reducible refine gate_callee (f := 43) rfl ?_); refine goesL_ (some 11) rfl rfl Try.func43 (by kernel_rfl) rfl #[.string a0] rfl (by (try simp only [List.map_toArray, List.map_cons, List.map_nil]); first | done | rfl | (simp only [List.length_drop, List.length_take]; rfl)) ?_; (with_reducible refine (impl_formOf.calls a0 t223 t224 _ A3.out).mono ?_); rintro e w5 ⟨v225, rfl, ho0, hb⟩; refine ⟨_, rfl, ?_⟩; have n0_ := Aside0.mk (Kd.R_lower ho0 (below_size (by repeat (first | (with_reducible first | exact HB.out | apply below_alloc | apply pw_below_drewN | apply below_drew1) | exact HB.out)))); have n1_ := Aside0.mk (below_step (by repeat (first | (with_reducible first | exact HB.out | apply below_alloc | apply pw_below_drewN | apply below_drew1) | exact HB.out)) hb); clear HB; have HO226 := n0_; have HB := n1_; clear n0_ n1_; (try clear hb); (try clear hb2); (try clear hk); (try clear hi); (try clear ho0)))
  (try simp only [Act.put, List.setIfInBounds_toArray, List.set_cons_zero, List.set_cons_succ])
  go_cut [20] (fun v20 wc => ∃ (kq : Nat) (x20_3 : Bool), v20 = .bool x20_3 ∧ Aside0 (impl_PartsOf.j0 kq a1 t223 x20_3 = some (r1, r2)) ∧ Aside0 (kq ≤ k) ∧ Aside0 (Kd.R k108 108 wc w.heap.size (fun _ => True) v225 t223) ∧ Aside0 (Below w.heap.size w wc))
  case first =>
    have H := HC4.out
    clear HC4
    by_cases c6 : t224 = true
    · subst c6
      have H1 : ((impl_printed.f k a1 500).bind fun t227 => (impl_PartsOf.j0 k a1 t223 (!t227))) = some (r1, r2) := by rw [if_pos rfl] at H; exact H
      clear H
      have H := H1
      clear H1
      replace H := Option.bind_eq_some_iff.mp H
      obtain ⟨t227, A70, H⟩ := H
      replace H : (impl_PartsOf.j0 k a1 t223 (!t227)) = some (r1, r2) := H
      have A7 := Aside0.mk A70
      clear A70
      have H' := Aside0.mk H
      clear H
      go_wp2_with (first | (go_at_call 37; (with_reducible refine (impl_printed.calls k a1 500 t227 _ A7.out).mono ?_); rintro e w' ⟨rfl, ⟨nd, rfl⟩⟩))
      go_meet
      case rel => exact ⟨_, (!t227), (by first | rfl | (simp; done) | (simp [*]; done)), H', ⟨by first | omega | exact Nat.le_refl _⟩, ⟨by (with_reducible repeat (first | apply Kd.R_alloc | apply Kd.R_drewN | apply Kd.R_drew)); exact HO226.out⟩, ⟨by repeat (first | (with_reducible first | exact HB.out | apply below_alloc | apply pw_below_drewN | apply below_drew1) | exact HB.out)⟩⟩
    · replace c6 := Bool.eq_false_iff.mpr c6
      subst c6
      have H1 : (impl_PartsOf.j0 k a1 t223 true) = some (r1, r2) := by rw [if_neg (show ¬ (false = true) by decide)] at H; exact H
      clear H
      have H := H1
      clear H1
      have H' := Aside0.mk H
      clear H
      go_wp2
      go_meet
      case rel => exact ⟨_, (true), (by first | rfl | (simp; done) | (simp [*]; done)), H', ⟨by first | omega | exact Nat.le_refl _⟩, ⟨by (with_reducible repeat (first | apply Kd.R_alloc | apply Kd.R_drewN | apply Kd.R_drew)); exact HO226.out⟩, ⟨by repeat (first | (with_reducible first | exact HB.out | apply below_alloc | apply pw_below_drewN | apply below_drew1) | exact HB.out)⟩⟩
  case rest =>
    clear HC4
    try clear c1
    try clear p2
    try clear c4
    try clear c6
    obtain ⟨kq, x20_3, rfl, HA, HJ3, HO_6, HB⟩ := hcut
    cases kq with
    | zero => exact absurd HA.out (by simp [impl_PartsOf.j0])
    | succ kj3 =>
      have H := HA.out
      clear HA
      simp only [impl_PartsOf.j0] at H
      by_cases c8 : x20_3 = true
      · subst c8
        have H1 : (some (([] : List (S62)), false)) = some (r1, r2) := by rw [if_pos rfl] at H; exact H
        clear H
        have H := H1
        clear H1
        simp only [Option.some.injEq, Prod.mk.injEq] at H
        obtain ⟨rfl, rfl⟩ := H
        go_wp2
        go_ret2
        exact ⟨_, by first | rfl | (simp [errW_none, errW_some] <;> rfl) | (simp [*, errW_none, errW_some] <;> rfl), by first | exact Kd.R_nil _ _ _ _ _ | exact Kd.N_nil _ _ _ _ _ | exact Kd.V_nil _ _ _ _ _ | exact Kd.Q_nil _ _ _ _ _ | exact Kd.S_nil _ _ _ _ _, by repeat (first | (with_reducible first | exact HB.out | apply below_alloc | apply pw_below_drewN | apply below_drew1) | exact HB.out)⟩
      · replace c8 := Bool.eq_false_iff.mpr c8
        subst c8
        have H1 : ((impl_partsOf.f kj3 t223 a1).bind fun bt228 => (if bt228.2 = true then (some (bt228.1, true)) else (some (([] : List (S62)), false)))) = some (r1, r2) := by rw [if_neg (show ¬ (false = true) by decide)] at H; exact H
        clear H
        have H := H1
        clear H1
        replace H := Option.bind_eq_some_iff.mp H
        obtain ⟨⟨t228, t229⟩, A90, H⟩ := H
        replace H : (if t229 = true then (some (t228, true)) else (some (([] : List (S62)), false))) = some (r1, r2) := H
        have A9 := Aside0.mk A90
        clear A90
        by_cases c10 : t229 = true
        · subst c10
          have H1 : (some (t228, true)) = some (r1, r2) := by rw [if_pos rfl] at H; exact H
          clear H
          have H := H1
          clear H1
          simp only [Option.some.injEq, Prod.mk.injEq] at H
          obtain ⟨rfl, rfl⟩ := H
          obtain ⟨Ao11, co11, eo11⟩ := Kd.R_slice HO_6.out
          subst eo11
          go_wp2_with (first | ((with_reducible refine gate_callee (f := 44) rfl ?_); refine goesL_ (some 24) rfl rfl Try.func44 (by kernel_rfl) rfl #[.slice Ao11 t223.length co11, .string a1] rfl (by (try simp only [List.map_toArray, List.map_cons, List.map_nil]); first | done | rfl | (simp only [List.length_drop, List.length_take]; rfl)) ?_; (with_reducible refine (impl_partsOf.calls kj3 _ _ t223 a1 t228 true _ ?side1 ?side2 A9.out).mono ?_); (case side1 => repeat (first | exact (Kd.R_reads' HO_6.out).2.2 | (with_reducible refine Kd.C_alloc ?_ _) | (with_reducible refine Kd.C_drewN ?_ _) | (with_reducible refine Kd.C_drew ?_))); (case side2 => exact (Kd.R_reads' HO_6.out).2.1); rintro e w12 ⟨v230, rfl, ho0, hb⟩; refine ⟨_, rfl, ?_⟩; have n0_ := Aside0.mk (Kd.R_below (by (with_reducible repeat (first | apply Kd.R_alloc | apply Kd.R_drewN | apply Kd.R_drew)); exact HO_6.out) hb); have n1_ := Aside0.mk (Kd.R_lower ho0 (below_size (by repeat (first | (with_reducible first | exact HB.out | apply below_alloc | apply pw_below_drewN | apply below_drew1) | exact HB.out)))); have n2_ := Aside0.mk (below_step (by repeat (first | (with_reducible first | exact HB.out | apply below_alloc | apply pw_below_drewN | apply below_drew1) | exact HB.out)) hb); clear HO_6; clear HB; have HO_6 := n0_; have HO231 := n1_; have HB := n2_; clear n0_ n1_ n2_; (try clear hb); (try clear hb2); (try clear hk); (try clear hi); (try clear ho0)))
          go_ret2
          exact ⟨_, by first | rfl | (simp [errW_none, errW_some] <;> rfl) | (simp [*, errW_none, errW_some] <;> rfl), by (with_reducible repeat (first | apply Kd.R_alloc | apply Kd.R_drewN | apply Kd.R_drew)); exact HO231.out, by repeat (first | (with_reducible first | exact HB.out | apply below_alloc | apply pw_below_drewN | apply below_drew1) | exact HB.out)⟩
        · replace c10 := Bool.eq_false_iff.mpr c10
          subst c10
          have H1 : (some (([] : List (S62)), false)) = some (r1, r2) := by rw [if_neg (show ¬ (false = true) by decide)] at H; exact H
          clear H
          have H := H1
          clear H1
          simp only [Option.some.injEq, Prod.mk.injEq] at H
          obtain ⟨rfl, rfl⟩ := H
          obtain ⟨Ao13, co13, eo13⟩ := Kd.R_slice HO_6.out
          subst eo13
          go_wp2_with (first | ((with_reducible refine gate_callee (f := 44) rfl ?_); refine goesL_ (some 24) rfl rfl Try.func44 (by kernel_rfl) rfl #[.slice Ao13 t223.length co13, .string a1] rfl (by (try simp only [List.map_toArray, List.map_cons, List.map_nil]); first | done | rfl | (simp only [List.length_drop, List.length_take]; rfl)) ?_; (with_reducible refine (impl_partsOf.calls kj3 _ _ t223 a1 t228 false _ ?side1 ?side2 A9.out).mono ?_); (case side1 => repeat (first | exact (Kd.R_reads' HO_6.out).2.2 | (with_reducible refine Kd.C_alloc ?_ _) | (with_reducible refine Kd.C_drewN ?_ _) | (with_reducible refine Kd.C_drew ?_))); (case side2 => exact (Kd.R_reads' HO_6.out).2.1); rintro e w14 ⟨v230, rfl, ho0, hb⟩; refine ⟨_, rfl, ?_⟩; have n0_ := Aside0.mk (Kd.R_below (by (with_reducible repeat (first | apply Kd.R_alloc | apply Kd.R_drewN | apply Kd.R_drew)); exact HO_6.out) hb); have n1_ := Aside0.mk (Kd.R_lower ho0 (below_size (by repeat (first | (with_reducible first | exact HB.out | apply below_alloc | apply pw_below_drewN | apply below_drew1) | exact HB.out)))); have n2_ := Aside0.mk (below_step (by repeat (first | (with_reducible first | exact HB.out | apply below_alloc | apply pw_below_drewN | apply below_drew1) | exact HB.out)) hb); clear HO_6; clear HB; have HO_6 := n0_; have HO231 := n1_; have HB := n2_; clear n0_ n1_ n2_; (try clear hb); (try clear hb2); (try clear hk); (try clear hi); (try clear ho0)))
          go_ret2
          exact ⟨_, by first | rfl | (simp [errW_none, errW_some] <;> rfl) | (simp [*, errW_none, errW_some] <;> rfl), by first | exact Kd.R_nil _ _ _ _ _ | exact Kd.N_nil _ _ _ _ _ | exact Kd.V_nil _ _ _ _ _ | exact Kd.Q_nil _ _ _ _ _ | exact Kd.S_nil _ _ _ _ _, by repeat (first | (with_reducible first | exact HB.out | apply below_alloc | apply pw_below_drewN | apply below_drew1) | exact HB.out)⟩

end Go.Proofs.Ytllllfbnbndegaa.Q
