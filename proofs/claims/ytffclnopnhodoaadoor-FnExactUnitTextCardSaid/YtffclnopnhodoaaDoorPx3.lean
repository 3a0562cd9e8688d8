-- Written by pp.py, a program of this session, out of the translation: not trusted, Lean checks it.
import Derived.Test.YtffclnopnhodoaaDoorPx0
import Derived.Test.YtffclnopnhodoaaDoorPx2
import Derived.Deep.RegionHeld3
namespace Go.Proofs.YtffclnopnhodoaaDoor.P
open Go.RowKit Go.Proofs.YtffclnopnhodoaaDoorW.PrintWords Go.Proofs.YtffclnopnhodoaaDoorW.PrintLast Go.Proofs.YtffclnopnhodoaaDoorW.PrintMore
attribute [local go_sem] max2_int min2_int max_two min_two max_three min_three max_four min_four   -- for this text's walks alone
set_option linter.unusedVariables false
set_option linter.unusedSimpArgs false

/-! ### impl.UnitText (made by hand) -/
def dhms : ByteArray := ⟨#[100, 104, 109, 115]⟩
/-- At the first part that is not zero. -/
def utAt (sg : ByteArray) (n m : Int) (k : Nat) : Option ByteArray :=
  (impl_digitsOf.f n).bind fun t => if sg.size + t.size + 1 ≤ 1000000 then (if m = 0 then some ((sg ++ t) ++ dhms.extract k (k + 1)) else (impl_digitsOf.f m).bind fun u => if u.size ≤ 1000000 then some (((sg ++ t) ++ dhms.extract k (k + 1)) ++ (u ++ dhms.extract (k + 1) (k + 2))) else none) else none
def utFrom (sg : ByteArray) (nn : Nat → Int) : Nat → Nat → Option ByteArray
  | 0, _ => some ⟨#[48, 115]⟩
  | f + 1, k => if nn k = 0 then utFrom sg nn f (k + 1) else utAt sg (nn k) (nn (k + 1)) k
def utPart (v : Int) (k : Nat) : Int := [v / 86400, v / 3600 % 24, v / 60 % 60, v % 60, 0].getD k 0
theorem utCell (w : World) (v : Int) (k : Nat) (h : k < 5) : (w.alloc (.cells #[.int .i64 (v / 86400), .int .i64 (v / 3600 % 24), .int .i64 (v / 60 % 60), .int .i64 (v % 60), .int .i64 0] 30)).cell? ⟨w.heap.size, k, none⟩ = some (.int .i64 (utPart v k)) := by
  rw [World.cell?_alloc_new]
  match k, h with
  | 0, _ => rfl
  | 1, _ => rfl
  | 2, _ => rfl
  | 3, _ => rfl
  | 4, _ => rfl
theorem utKeep {g k : Nat} {a b : Value} {w1 w' w'' : World} (h : w'.cell? ⟨g, k, none⟩ = some a ∧ w'.cell? ⟨g, k + 1, none⟩ = some b ∧ Below w1.heap.size w1 w' ∧ g < w'.heap.size) (hb : Below w'.heap.size w' w'') :
    w''.cell? ⟨g, k, none⟩ = some a ∧ w''.cell? ⟨g, k + 1, none⟩ = some b ∧ Below w1.heap.size w1 w'' ∧ g < w''.heap.size :=
  ⟨(hb.cell (p := ⟨g, k, none⟩) h.2.2.2).trans h.1, (hb.cell (p := ⟨g, k + 1, none⟩) h.2.2.2).trans h.2.1, below_step h.2.2.1 hb, Nat.lt_of_lt_of_le h.2.2.2 hb.size⟩
set_option maxHeartbeats 4000000 in
set_option maxRecDepth 100000 in
theorem ut_time (a0 : Int) (r : ByteArray) (w : World) (h0 : 0 ≤ a0) (h1 : a0 ≤ 9223372036854775807) (h : utFrom ⟨#[]⟩ (utPart a0) 4 0 = some r) (hmx : Mx w) :
    Calls Tryd.prog 5 #[.int .i64 a0, .int .i64 3] w fun e w' => e = .returned (.string r) ∧ Below w.heap.size w w' := by
  have hn : (a0 == -9223372036854775808) = false := beq_eq_false_iff_ne.mpr (by omega)
  have hneg : decide (a0 < 0) = false := decide_eq_false (by omega)
  have HMX := Aside0.mk hmx
  have HF := Aside0.mk h
  have hal : (Tryd.prog).arrayLen 30 = 5 := by kernel_rfl
  clear h hmx
  go_enter Tryd.func5, Tryd.ntmps5
  go_wp2
  have HC := Aside0.mk (utCell w a0)
  have HB := Aside0.mk ((Below.refl w.heap.size w).alloc (Nat.le_refl _) (.cells #[.int .i64 (a0 / 86400), .int .i64 (a0 / 3600 % 24), .int .i64 (a0 / 60 % 60), .int .i64 (a0 % 60), .int .i64 0] 30))
  have HL := Aside0.mk (show w.heap.size < (w.alloc (.cells #[.int .i64 (a0 / 86400), .int .i64 (a0 / 3600 % 24), .int .i64 (a0 / 60 % 60), .int .i64 (a0 % 60), .int .i64 0] 30)).heap.size by simp)
  generalize w.alloc (.cells #[.int .i64 (a0 / 86400), .int .i64 (a0 / 3600 % 24), .int .i64 (a0 / 60 % 60), .int .i64 (a0 % 60), .int .i64 0] 30) = w1 at HC HB HL ⊢
  have HM1 := Aside0.mk (HMX.out.below HB.out)
  generalize hg : w.heap.size = g at HC HB HL ⊢
  have HG := Aside0.mk hg
  clear hg HMX
  have H4 := Aside0.mk (show utPart a0 4 = 0 from rfl)
  generalize utPart a0 = nn at HF HC H4 ⊢
  have hss : (⟨#[]⟩ : ByteArray).size ≤ 1 := by decide
  generalize (⟨#[]⟩ : ByteArray) = sg at hss HF ⊢
  go_loop [58] (fun v58 => ∃ k : Nat, k ≤ 4 ∧ v58 = .int .i64 k ∧ Aside0 (utFrom sg nn (4 - k) k = some r)) (fun v58 => 4 - (intOf v58).toNat)
  case atStart => exact ⟨0, by omega, rfl, HF⟩
  case round =>
    obtain ⟨k, hk, rfl, HK⟩ := hrel
    by_cases hlt : k < 4
    · have hc0 : w1.cell? ⟨g, k, none⟩ = some (.int .i64 (nn k)) := HC.out k (by omega)
      by_cases hz : nn k = 0
      · rw [hz] at hc0
        go_wp2
        go_round
        case rel => exact ⟨k + 1, by omega, by go_num, ⟨by have H := HK.out; rw [show 4 - k = (4 - (k + 1)) + 1 by omega, utFrom, if_pos hz] at H; exact H⟩⟩
        case measure => simp [intOf]; omega
      · have hc1 : w1.cell? ⟨g, k + 1, none⟩ = some (.int .i64 (nn (k + 1))) := HC.out (k + 1) (by omega)
        have H := HK.out
        rw [show 4 - k = (4 - (k + 1)) + 1 by omega, utFrom, if_neg hz] at H
        unfold utAt at H
        obtain ⟨t, ht, H⟩ := Option.bind_eq_some_iff.mp H
        have A1 := Aside0.mk ht
        clear ht HK
        split at H
        · rename_i hsz
          have hzb : (nn k == 0) = false := beq_eq_false_iff_ne.mpr hz
          generalize nn k = p at hc0 hzb A1
          generalize hq : nn (k + 1) = q at hc1 H
          have hcc := hc0
          go_wp2
          have e1 : IntKind.i64.wrap ((k : Int) + 1) = (k : Int) + 1 := IntWalk.i64_in _ (by omega)
          have e2 : ((k : Int) + 1).toNat = k + 1 := by omega
          have e3 : (0 : Int) ≤ (k : Int) + 1 := by omega
          have e4 : (k : Int) ≤ (k : Int) + 1 := by omega
          have e5 : (k : Int) + 1 ≤ 4 := by omega
          have e6 : (0 : Int) ≤ (k : Int) := by omega
          have e7 : (k : Int) < 5 := by omega
          have f1 : (9223372036854775807 < sg.size + t.size) = False := eq_false (by omega)
          have f1' : (sg.size + t.size ≤ 9223372036854775807) = True := eq_true (by omega)
          have f2 : (9223372036854775807 < (sg ++ t).size + (dhms.extract k (k + 1)).size) = False := eq_false (by have h4 : dhms.size = 4 := rfl; rw [ByteArray.size_append, ByteArray.size_extract]; omega)
          unfold dhms at f2
          have f3 := f2
          obtain ⟨z_, hz_⟩ : ∃ z_ : Nat, z_ = (sg ++ t).size + ((⟨#[100, 104, 109, 115]⟩ : ByteArray).extract k (k + 1)).size := ⟨_, rfl⟩
          rw [← hz_] at f3
          simp [go_sem] at hz_
          rw [hz_] at f3
          clear hz_ z_
          go_region_held3 (fun w' => w'.cell? ⟨g, k, none⟩ = some (.int .i64 p) ∧ w'.cell? ⟨g, k + 1, none⟩ = some (.int .i64 q) ∧ Below w1.heap.size w1 w' ∧ g < w'.heap.size) (first | exact ⟨hc0, hc1, below_drew1 (Below.refl _ _), HL.out⟩ | assumption)
            (first | (go_at_call 8; refine (impl_digitsOf.calls p t _ A1.out ?_).mono ?_; (exact HM1.out.below (by have := ‹_ ∧ _ ∧ Below w1.heap.size w1 _ ∧ _›.2.2.1; exact this)); rintro e w9 ⟨rfl, hb9⟩; have hS9 := utKeep (g := g) (k := k) (a := .int .i64 p) (b := .int .i64 q) (w1 := w1) (by assumption) hb9))
          have HS := Aside0.mk hS9
          obtain ⟨hd0, hd1, hbw, hgl⟩ := hS9
          clear hb9
          have hw9 := Aside0.mk hbw
          clear hbw hc0 hc1 hcc
          by_cases hq0 : q = 0
          · rw [if_pos hq0] at H
            obtain rfl := Option.some.inj H
            subst hq0
            have HD := Aside0.mk (show Below w.heap.size w w9 from by have := HG.out; subst this; exact below_step HB.out hw9.out)
            go_wp2
            go_ret
            exact ⟨rfl, HD.out⟩
          · rw [if_neg hq0] at H
            obtain ⟨u, hu, H⟩ := Option.bind_eq_some_iff.mp H
            have A2 := Aside0.mk hu
            clear hu
            split at H
            · rename_i hsu
              obtain rfl := Option.some.inj H
              have hqb : (q != 0) = true := bne_iff_ne.mpr hq0
              have hd0' := hd0
              have hd1' := hd1
              have hgl' := hgl
              have hqn : (q == 0) = false := beq_eq_false_iff_ne.mpr hq0
              have e8 : IntKind.i64.wrap ((k : Int) + 2) = (k : Int) + 2 := IntWalk.i64_in _ (by omega)
              have hd2 : w9.cell? ⟨g, k + 1, none⟩ = some (.int .i64 q) := hd1
              clear f1 f1' f2 f3
              have hk3 : k < 3 := by
                rcases Nat.lt_or_ge k 3 with h' | h'
                · exact h'
                · exact absurd (by rw [← hq]; have : k + 1 = 4 := by omega
                                   rw [this]; exact H4.out) hq0
              have hw9' := hw9.out
              have e9 : (0 : Int) ≤ (k : Int) + 2 := by omega
              have e10 : ((k : Int) + 2).toNat = k + 2 := by omega
              have e11 : (k : Int) + 1 ≤ (k : Int) + 2 := by omega
              have e12 : (k : Int) + 2 ≤ 4 := by omega
              have e13 : (k : Int) + 1 < 5 := by omega
              have h4 : dhms.size = 4 := rfl
              have f1 : (9223372036854775807 < u.size + (dhms.extract (k + 1) (k + 2)).size) = False := eq_false (by rw [ByteArray.size_extract]; omega)
              have f2 : (9223372036854775807 < ((sg ++ t) ++ dhms.extract k (k + 1)).size + (u ++ dhms.extract (k + 1) (k + 2)).size) = False := eq_false (by rw [ByteArray.size_append, ByteArray.size_append, ByteArray.size_append, ByteArray.size_extract, ByteArray.size_extract]; omega)
              unfold dhms at f1 f2
              have f3 := f1
              have f4 := f2
              obtain ⟨z_, hz_⟩ : ∃ z_ : Nat, z_ = u.size + ((⟨#[100, 104, 109, 115]⟩ : ByteArray).extract (k + 1) (k + 2)).size := ⟨_, rfl⟩
              rw [← hz_] at f3
              simp [go_sem] at hz_
              rw [hz_] at f3
              clear hz_ z_
              obtain ⟨z_, hz_⟩ : ∃ z_ : Nat, z_ = ((sg ++ t) ++ (⟨#[100, 104, 109, 115]⟩ : ByteArray).extract k (k + 1)).size + (u ++ (⟨#[100, 104, 109, 115]⟩ : ByteArray).extract (k + 1) (k + 2)).size := ⟨_, rfl⟩
              rw [← hz_] at f4
              simp [go_sem] at hz_
              rw [hz_] at f4
              clear hz_ z_ h4
              go_wp2
              go_region_held3 (fun w' => w'.cell? ⟨g, k, none⟩ = some (.int .i64 p) ∧ w'.cell? ⟨g, k + 1, none⟩ = some (.int .i64 q) ∧ Below w1.heap.size w1 w' ∧ g < w'.heap.size) (first | exact ⟨hd0, hd1, below_drew1 hw9', hgl⟩ | assumption)
                (first | (go_at_call 8; refine (impl_digitsOf.calls q u _ A2.out ?_).mono ?_; (exact HM1.out.below (by have := ‹_ ∧ _ ∧ Below w1.heap.size w1 _ ∧ _›.2.2.1; exact this)); rintro e w10 ⟨rfl, hb10⟩; have hS10 := utKeep (g := g) (k := k) (a := .int .i64 p) (b := .int .i64 q) (w1 := w1) (by assumption) hb10))
              obtain ⟨_, _, hbw10, _⟩ := hS10
              have HD := Aside0.mk (show Below w.heap.size w w10 from by have := HG.out; subst this; exact below_step HB.out hbw10)
              go_wp2
              go_ret
              exact ⟨rfl, HD.out⟩
            · exact absurd H (by simp)
        · exact absurd H (by simp)
    · obtain rfl : k = 4 := by omega
      have H := HK.out
      obtain rfl : (⟨#[48, 115]⟩ : ByteArray) = r := Option.some.inj H
      have HD := Aside0.mk (show Below w.heap.size w w1 from by have := HG.out; subst this; exact HB.out)
      go_wp2
      go_ret
      exact ⟨rfl, HD.out⟩
set_option maxHeartbeats 4000000 in
set_option maxRecDepth 100000 in
theorem ut_time_neg (a0 : Int) (r : ByteArray) (w : World) (h0 : 0 < a0) (h1 : a0 ≤ 9223372036854775807) (h : utFrom ⟨#[45]⟩ (utPart a0) 4 0 = some r) (hmx : Mx w) :
    Calls Tryd.prog 5 #[.int .i64 (-a0), .int .i64 3] w fun e w' => e = .returned (.string r) ∧ Below w.heap.size w w' := by
  have hn : (-a0 == -9223372036854775808) = false := beq_eq_false_iff_ne.mpr (by omega)
  have hneg : decide (-a0 < 0) = true := decide_eq_true (by omega)
  have HMX := Aside0.mk hmx
  have HF := Aside0.mk h
  have hal : (Tryd.prog).arrayLen 30 = 5 := by kernel_rfl
  have h0' : 0 ≤ a0 := by omega
  clear h hmx
  go_enter Tryd.func5, Tryd.ntmps5
  go_wp2
  have HC := Aside0.mk (utCell w a0)
  have HB := Aside0.mk ((Below.refl w.heap.size w).alloc (Nat.le_refl _) (.cells #[.int .i64 (a0 / 86400), .int .i64 (a0 / 3600 % 24), .int .i64 (a0 / 60 % 60), .int .i64 (a0 % 60), .int .i64 0] 30))
  have HL := Aside0.mk (show w.heap.size < (w.alloc (.cells #[.int .i64 (a0 / 86400), .int .i64 (a0 / 3600 % 24), .int .i64 (a0 / 60 % 60), .int .i64 (a0 % 60), .int .i64 0] 30)).heap.size by simp)
  generalize w.alloc (.cells #[.int .i64 (a0 / 86400), .int .i64 (a0 / 3600 % 24), .int .i64 (a0 / 60 % 60), .int .i64 (a0 % 60), .int .i64 0] 30) = w1 at HC HB HL ⊢
  have HM1 := Aside0.mk (HMX.out.below HB.out)
  generalize hg : w.heap.size = g at HC HB HL ⊢
  have HG := Aside0.mk hg
  clear hg HMX
  have H4 := Aside0.mk (show utPart a0 4 = 0 from rfl)
  generalize utPart a0 = nn at HF HC H4 ⊢
  have hss : (⟨#[45]⟩ : ByteArray).size ≤ 1 := by decide
  generalize (⟨#[45]⟩ : ByteArray) = sg at hss HF ⊢
  go_loop [58] (fun v58 => ∃ k : Nat, k ≤ 4 ∧ v58 = .int .i64 k ∧ Aside0 (utFrom sg nn (4 - k) k = some r)) (fun v58 => 4 - (intOf v58).toNat)
  case atStart => exact ⟨0, by omega, rfl, HF⟩
  case round =>
    obtain ⟨k, hk, rfl, HK⟩ := hrel
    by_cases hlt : k < 4
    · have hc0 : w1.cell? ⟨g, k, none⟩ = some (.int .i64 (nn k)) := HC.out k (by omega)
      by_cases hz : nn k = 0
      · rw [hz] at hc0
        go_wp2
        go_round
        case rel => exact ⟨k + 1, by omega, by go_num, ⟨by have H := HK.out; rw [show 4 - k = (4 - (k + 1)) + 1 by omega, utFrom, if_pos hz] at H; exact H⟩⟩
        case measure => simp [intOf]; omega
      · have hc1 : w1.cell? ⟨g, k + 1, none⟩ = some (.int .i64 (nn (k + 1))) := HC.out (k + 1) (by omega)
        have H := HK.out
        rw [show 4 - k = (4 - (k + 1)) + 1 by omega, utFrom, if_neg hz] at H
        unfold utAt at H
        obtain ⟨t, ht, H⟩ := Option.bind_eq_some_iff.mp H
        have A1 := Aside0.mk ht
        clear ht HK
        split at H
        · rename_i hsz
          have hzb : (nn k == 0) = false := beq_eq_false_iff_ne.mpr hz
          generalize nn k = p at hc0 hzb A1
          generalize hq : nn (k + 1) = q at hc1 H
          have hcc := hc0
          go_wp2
          have e1 : IntKind.i64.wrap ((k : Int) + 1) = (k : Int) + 1 := IntWalk.i64_in _ (by omega)
          have e2 : ((k : Int) + 1).toNat = k + 1 := by omega
          have e3 : (0 : Int) ≤ (k : Int) + 1 := by omega
          have e4 : (k : Int) ≤ (k : Int) + 1 := by omega
          have e5 : (k : Int) + 1 ≤ 4 := by omega
          have e6 : (0 : Int) ≤ (k : Int) := by omega
          have e7 : (k : Int) < 5 := by omega
          have f1 : (9223372036854775807 < sg.size + t.size) = False := eq_false (by omega)
          have f1' : (sg.size + t.size ≤ 9223372036854775807) = True := eq_true (by omega)
          have f2 : (9223372036854775807 < (sg ++ t).size + (dhms.extract k (k + 1)).size) = False := eq_false (by have h4 : dhms.size = 4 := rfl; rw [ByteArray.size_append, ByteArray.size_extract]; omega)
          unfold dhms at f2
          have f3 := f2
          obtain ⟨z_, hz_⟩ : ∃ z_ : Nat, z_ = (sg ++ t).size + ((⟨#[100, 104, 109, 115]⟩ : ByteArray).extract k (k + 1)).size := ⟨_, rfl⟩
          rw [← hz_] at f3
          simp [go_sem] at hz_
          rw [hz_] at f3
          clear hz_ z_
          go_region_held3 (fun w' => w'.cell? ⟨g, k, none⟩ = some (.int .i64 p) ∧ w'.cell? ⟨g, k + 1, none⟩ = some (.int .i64 q) ∧ Below w1.heap.size w1 w' ∧ g < w'.heap.size) (first | exact ⟨hc0, hc1, below_drew1 (Below.refl _ _), HL.out⟩ | assumption)
            (first | (go_at_call 8; refine (impl_digitsOf.calls p t _ A1.out ?_).mono ?_; (exact HM1.out.below (by have := ‹_ ∧ _ ∧ Below w1.heap.size w1 _ ∧ _›.2.2.1; exact this)); rintro e w9 ⟨rfl, hb9⟩; have hS9 := utKeep (g := g) (k := k) (a := .int .i64 p) (b := .int .i64 q) (w1 := w1) (by assumption) hb9))
          have HS := Aside0.mk hS9
          obtain ⟨hd0, hd1, hbw, hgl⟩ := hS9
          clear hb9
          have hw9 := Aside0.mk hbw
          clear hbw hc0 hc1 hcc
          by_cases hq0 : q = 0
          · rw [if_pos hq0] at H
            obtain rfl := Option.some.inj H
            subst hq0
            have HD := Aside0.mk (show Below w.heap.size w w9 from by have := HG.out; subst this; exact below_step HB.out hw9.out)
            go_wp2
            go_ret
            exact ⟨rfl, HD.out⟩
          · rw [if_neg hq0] at H
            obtain ⟨u, hu, H⟩ := Option.bind_eq_some_iff.mp H
            have A2 := Aside0.mk hu
            clear hu
            split at H
            · rename_i hsu
              obtain rfl := Option.some.inj H
              have hqb : (q != 0) = true := bne_iff_ne.mpr hq0
              have hd0' := hd0
              have hd1' := hd1
              have hgl' := hgl
              have hqn : (q == 0) = false := beq_eq_false_iff_ne.mpr hq0
              have e8 : IntKind.i64.wrap ((k : Int) + 2) = (k : Int) + 2 := IntWalk.i64_in _ (by omega)
              have hd2 : w9.cell? ⟨g, k + 1, none⟩ = some (.int .i64 q) := hd1
              clear f1 f1' f2 f3
              have hk3 : k < 3 := by
                rcases Nat.lt_or_ge k 3 with h' | h'
                · exact h'
                · exact absurd (by rw [← hq]; have : k + 1 = 4 := by omega
                                   rw [this]; exact H4.out) hq0
              have hw9' := hw9.out
              have e9 : (0 : Int) ≤ (k : Int) + 2 := by omega
              have e10 : ((k : Int) + 2).toNat = k + 2 := by omega
              have e11 : (k : Int) + 1 ≤ (k : Int) + 2 := by omega
              have e12 : (k : Int) + 2 ≤ 4 := by omega
              have e13 : (k : Int) + 1 < 5 := by omega
              have h4 : dhms.size = 4 := rfl
              have f1 : (9223372036854775807 < u.size + (dhms.extract (k + 1) (k + 2)).size) = False := eq_false (by rw [ByteArray.size_extract]; omega)
              have f2 : (9223372036854775807 < ((sg ++ t) ++ dhms.extract k (k + 1)).size + (u ++ dhms.extract (k + 1) (k + 2)).size) = False := eq_false (by rw [ByteArray.size_append, ByteArray.size_append, ByteArray.size_append, ByteArray.size_extract, ByteArray.size_extract]; omega)
              unfold dhms at f1 f2
              have f3 := f1
              have f4 := f2
              obtain ⟨z_, hz_⟩ : ∃ z_ : Nat, z_ = u.size + ((⟨#[100, 104, 109, 115]⟩ : ByteArray).extract (k + 1) (k + 2)).size := ⟨_, rfl⟩
              rw [← hz_] at f3
              simp [go_sem] at hz_
              rw [hz_] at f3
              clear hz_ z_
              obtain ⟨z_, hz_⟩ : ∃ z_ : Nat, z_ = ((sg ++ t) ++ (⟨#[100, 104, 109, 115]⟩ : ByteArray).extract k (k + 1)).size + (u ++ (⟨#[100, 104, 109, 115]⟩ : ByteArray).extract (k + 1) (k + 2)).size := ⟨_, rfl⟩
              rw [← hz_] at f4
              simp [go_sem] at hz_
              rw [hz_] at f4
              clear hz_ z_ h4
              go_wp2
              go_region_held3 (fun w' => w'.cell? ⟨g, k, none⟩ = some (.int .i64 p) ∧ w'.cell? ⟨g, k + 1, none⟩ = some (.int .i64 q) ∧ Below w1.heap.size w1 w' ∧ g < w'.heap.size) (first | exact ⟨hd0, hd1, below_drew1 hw9', hgl⟩ | assumption)
                (first | (go_at_call 8; refine (impl_digitsOf.calls q u _ A2.out ?_).mono ?_; (exact HM1.out.below (by have := ‹_ ∧ _ ∧ Below w1.heap.size w1 _ ∧ _›.2.2.1; exact this)); rintro e w10 ⟨rfl, hb10⟩; have hS10 := utKeep (g := g) (k := k) (a := .int .i64 p) (b := .int .i64 q) (w1 := w1) (by assumption) hb10))
              obtain ⟨_, _, hbw10, _⟩ := hS10
              have HD := Aside0.mk (show Below w.heap.size w w10 from by have := HG.out; subst this; exact below_step HB.out hbw10)
              go_wp2
              go_ret
              exact ⟨rfl, HD.out⟩
            · exact absurd H (by simp)
        · exact absurd H (by simp)
    · obtain rfl : k = 4 := by omega
      have H := HK.out
      obtain rfl : (⟨#[48, 115]⟩ : ByteArray) = r := Option.some.inj H
      have HD := Aside0.mk (show Below w.heap.size w w1 from by have := HG.out; subst this; exact HB.out)
      go_wp2
      go_ret
      exact ⟨rfl, HD.out⟩
def utShare (sg : ByteArray) (v : Int) : Option ByteArray :=
  (impl_digitsOf.f (v / 10)).bind fun t => if t.size ≤ 1000000 then (impl_digitsOf.f (v % 10)).bind fun u => if u.size ≤ 1000000 then some ((((sg ++ t) ++ ⟨#[46]⟩) ++ u) ++ ⟨#[37]⟩) else none else none
set_option maxHeartbeats 4000000 in
set_option maxRecDepth 100000 in
theorem ut_share (a0 : Int) (r : ByteArray) (w : World) (h0 : 0 ≤ a0) (h1 : a0 ≤ 9223372036854775807) (h : utShare ⟨#[]⟩ a0 = some r) (hmx : Mx w) :
    Calls Tryd.prog 5 #[.int .i64 a0, .int .i64 4] w fun e w' => e = .returned (.string r) ∧ Below w.heap.size w w' := by
  have hn : (a0 == -9223372036854775808) = false := beq_eq_false_iff_ne.mpr (by omega)
  have hneg : decide (a0 < 0) = false := decide_eq_false (by omega)
  have HMX := Aside0.mk hmx
  have HB := Aside0.mk (Below.refl w.heap.size w)
  have hss : (⟨#[]⟩ : ByteArray).size ≤ 1 := by decide
  have hse : (⟨#[]⟩ : ByteArray).size = 0 := rfl
  unfold utShare at h
  obtain ⟨t, ht, h⟩ := Option.bind_eq_some_iff.mp h
  split at h
  · rename_i hts
    obtain ⟨u, hu, h⟩ := Option.bind_eq_some_iff.mp h
    split at h
    · rename_i hus
      obtain rfl := Option.some.inj h
      have A1 := Aside0.mk ht
      have A2 := Aside0.mk hu
      clear h ht hu hmx
      have f1 : (9223372036854775807 < (⟨#[]⟩ : ByteArray).size + t.size) = False := eq_false (by omega)
      have f2 : (9223372036854775807 < t.size) = False := eq_false (by omega)
      have f3 : (9223372036854775807 < 1 + t.size) = False := eq_false (by omega)
      have f4 : (9223372036854775807 < t.size + 1) = False := eq_false (by omega)
      have f5 : (9223372036854775807 < 1 + t.size + 1) = False := eq_false (by omega)
      have f6 : (9223372036854775807 < t.size + 1 + u.size) = False := eq_false (by omega)
      have f7 : (9223372036854775807 < 1 + t.size + 1 + u.size) = False := eq_false (by omega)
      have f8 : (9223372036854775807 < t.size + 1 + u.size + 1) = False := eq_false (by omega)
      have f9 : (9223372036854775807 < 1 + t.size + 1 + u.size + 1) = False := eq_false (by omega)
      have q1 : a0.tdiv 10 = a0 / 10 := by rw [Int.tdiv_eq_ediv_of_nonneg (by omega)]
      clear hse
      go_enter Tryd.func5, Tryd.ntmps5
      go_wp2_with (first | (go_at_call 8; (with_reducible refine (impl_digitsOf.calls (a0 / 10) t _ A1.out ?_).mono ?_); (first | exact HMX.out | exact HMX.out.below HB.out); rintro e w1 ⟨rfl, hb⟩; have HB1 := Aside0.mk (below_step HB.out hb); clear HB hb; have HB := HB1; clear HB1) | (go_at_call 8; (with_reducible refine (impl_digitsOf.calls (a0 % 10) u _ A2.out ?_).mono ?_); (first | exact HMX.out | exact HMX.out.below HB.out); rintro e w1 ⟨rfl, hb⟩; have HB1 := Aside0.mk (below_step HB.out hb); clear HB hb; have HB := HB1; clear HB1))
      go_ret
      exact ⟨by first | rfl | simp, HB.out⟩
    · exact absurd h (by simp)
  · exact absurd h (by simp)
set_option maxHeartbeats 4000000 in
set_option maxRecDepth 100000 in
theorem ut_share_neg (a0 : Int) (r : ByteArray) (w : World) (h0 : 0 < a0) (h1 : a0 ≤ 9223372036854775807) (h : utShare ⟨#[45]⟩ a0 = some r) (hmx : Mx w) :
    Calls Tryd.prog 5 #[.int .i64 (-a0), .int .i64 4] w fun e w' => e = .returned (.string r) ∧ Below w.heap.size w w' := by
  have hn : (-a0 == -9223372036854775808) = false := beq_eq_false_iff_ne.mpr (by omega)
  have hneg : decide (-a0 < 0) = true := decide_eq_true (by omega)
  have HMX := Aside0.mk hmx
  have HB := Aside0.mk (Below.refl w.heap.size w)
  have hss : (⟨#[45]⟩ : ByteArray).size ≤ 1 := by decide
  have hse : (⟨#[45]⟩ : ByteArray).size = 1 := rfl
  unfold utShare at h
  obtain ⟨t, ht, h⟩ := Option.bind_eq_some_iff.mp h
  split at h
  · rename_i hts
    obtain ⟨u, hu, h⟩ := Option.bind_eq_some_iff.mp h
    split at h
    · rename_i hus
      obtain rfl := Option.some.inj h
      have A1 := Aside0.mk ht
      have A2 := Aside0.mk hu
      clear h ht hu hmx
      have f1 : (9223372036854775807 < (⟨#[45]⟩ : ByteArray).size + t.size) = False := eq_false (by omega)
      have f2 : (9223372036854775807 < t.size) = False := eq_false (by omega)
      have f3 : (9223372036854775807 < 1 + t.size) = False := eq_false (by omega)
      have f4 : (9223372036854775807 < t.size + 1) = False := eq_false (by omega)
      have f5 : (9223372036854775807 < 1 + t.size + 1) = False := eq_false (by omega)
      have f6 : (9223372036854775807 < t.size + 1 + u.size) = False := eq_false (by omega)
      have f7 : (9223372036854775807 < 1 + t.size + 1 + u.size) = False := eq_false (by omega)
      have f8 : (9223372036854775807 < t.size + 1 + u.size + 1) = False := eq_false (by omega)
      have f9 : (9223372036854775807 < 1 + t.size + 1 + u.size + 1) = False := eq_false (by omega)
      have q1 : a0.tdiv 10 = a0 / 10 := by rw [Int.tdiv_eq_ediv_of_nonneg (by omega)]
      clear hse
      go_enter Tryd.func5, Tryd.ntmps5
      go_wp2_with (first | (go_at_call 8; (with_reducible refine (impl_digitsOf.calls (a0 / 10) t _ A1.out ?_).mono ?_); (first | exact HMX.out | exact HMX.out.below HB.out); rintro e w1 ⟨rfl, hb⟩; have HB1 := Aside0.mk (below_step HB.out hb); clear HB hb; have HB := HB1; clear HB1) | (go_at_call 8; (with_reducible refine (impl_digitsOf.calls (a0 % 10) u _ A2.out ?_).mono ?_); (first | exact HMX.out | exact HMX.out.below HB.out); rintro e w1 ⟨rfl, hb⟩; have HB1 := Aside0.mk (below_step HB.out hb); clear HB hb; have HB := HB1; clear HB1))
      go_ret
      exact ⟨by first | rfl | simp, HB.out⟩
    · exact absurd h (by simp)
  · exact absurd h (by simp)
set_option maxHeartbeats 4000000 in
set_option maxRecDepth 100000 in
theorem ut_none (a1 : Int) (w : World) : Calls Tryd.prog 5 #[.int .i64 (-9223372036854775808), .int .i64 a1] w fun e w' => e = .returned (.string ⟨#[]⟩) ∧ Below w.heap.size w w' := by
  go_enter Tryd.func5, Tryd.ntmps5
  go_wp2
  go_ret
  exact ⟨rfl, Below.refl _ _⟩
set_option maxHeartbeats 4000000 in
set_option maxRecDepth 100000 in
theorem ut_other (a0 a1 : Int) (w : World) (hn : (a0 == -9223372036854775808) = false) (n1 : (a1 == 1) = false) (n2 : (a1 == 2) = false) (n3 : (a1 == 3) = false) (n4 : (a1 == 4) = false) (n5 : (a1 == 5) = false) (hb : -9223372036854775808 ≤ a0) (hb2 : a0 ≤ 9223372036854775807) :
    Calls Tryd.prog 5 #[.int .i64 a0, .int .i64 a1] w fun e w' => e = .returned (.string ⟨#[]⟩) ∧ Below w.heap.size w w' := by
  by_cases hs : a0 < 0
  · have hneg : decide (a0 < 0) = true := decide_eq_true hs
    go_enter Tryd.func5, Tryd.ntmps5
    go_wp2
    go_ret
    exact ⟨rfl, Below.refl _ _⟩
  · have hneg : decide (a0 < 0) = false := decide_eq_false hs
    go_enter Tryd.func5, Tryd.ntmps5
    go_wp2
    go_ret
    exact ⟨rfl, Below.refl _ _⟩
set_option maxHeartbeats 4000000 in
set_option maxRecDepth 100000 in
theorem ut_plain (a0 : Int) (r : ByteArray) (w : World) (hn : (a0 == -9223372036854775808) = false) (h : impl_digitsOf.f a0 = some r) (hmx : Mx w) :
    Calls Tryd.prog 5 #[.int .i64 a0, .int .i64 1] w fun e w' => e = .returned (.string r) ∧ Below w.heap.size w w' := by
  have A1 := Aside0.mk h
  clear h
  by_cases hs : a0 < 0
  · have hneg : decide (a0 < 0) = true := decide_eq_true hs
    go_enter Tryd.func5, Tryd.ntmps5
    go_wp2_with (first | (go_at_call 8; (with_reducible refine (impl_digitsOf.calls a0 r _ A1.out hmx).mono ?_); rintro e w1 ⟨rfl, hb⟩))
    go_ret
    exact ⟨rfl, hb⟩
  · have hneg : decide (a0 < 0) = false := decide_eq_false hs
    go_enter Tryd.func5, Tryd.ntmps5
    go_wp2_with (first | (go_at_call 8; (with_reducible refine (impl_digitsOf.calls a0 r _ A1.out hmx).mono ?_); rintro e w1 ⟨rfl, hb⟩))
    go_ret
    exact ⟨rfl, hb⟩
set_option maxHeartbeats 4000000 in
set_option maxRecDepth 100000 in
theorem ut_bytes (a0 : Int) (r : ByteArray) (w : World) (hn : (a0 == -9223372036854775808) = false) (y : List ByteArray) (Ny : Aside0 (y = ([(⟨#[75, 105]⟩ : ByteArray), (⟨#[77, 105]⟩ : ByteArray), (⟨#[71, 105]⟩ : ByteArray), (⟨#[84, 105]⟩ : ByteArray), (⟨#[80, 105]⟩ : ByteArray), (⟨#[69, 105]⟩ : ByteArray)] : List ByteArray))) (h : impl_unitOf.f 100 a0 1024 y = some r) (hmx : Mx w) :
    Calls Tryd.prog 5 #[.int .i64 a0, .int .i64 2] w fun e w' => e = .returned (.string r) ∧ Below w.heap.size w w' := by
  have A1 := Aside0.mk h
  have HMX := Aside0.mk hmx
  clear h
  by_cases hs : a0 < 0
  · have hneg : decide (a0 < 0) = true := decide_eq_true hs
    go_enter Tryd.func5, Tryd.ntmps5
    go_wp2_with (first | ((with_reducible refine gate_dst (N := 25) rfl ?_); refine Kd.R_lit Kd.string _ 9 ?hg (N := 25) ?hd (xs := ([(⟨#[75, 105]⟩ : ByteArray), (⟨#[77, 105]⟩ : ByteArray), (⟨#[71, 105]⟩ : ByteArray), (⟨#[84, 105]⟩ : ByteArray), (⟨#[80, 105]⟩ : ByteArray), (⟨#[69, 105]⟩ : ByteArray)] : List ByteArray)) (inner := [.string (⟨#[75, 105]⟩ : ByteArray), .string (⟨#[77, 105]⟩ : ByteArray), .string (⟨#[71, 105]⟩ : ByteArray), .string (⟨#[84, 105]⟩ : ByteArray), .string (⟨#[80, 105]⟩ : ByteArray), .string (⟨#[69, 105]⟩ : ByteArray)]) (ok := fun _ => True) (okp := fun _ => True) ?hr ?hp (fun _ hk => hk) trivial (Below.refl _ _) (Nat.le_refl _) (by simp) ?_; (case hd => rfl); (case hg => rfl); (case hr => first | (go_simp; done) | (go_simp; rfl)); (case hp => exact (Reps.one (show Kd.M Kd.string _ _ _ (⟨#[75, 105]⟩ : ByteArray) [.string (⟨#[75, 105]⟩ : ByteArray)] from rfl) (Reps.one (show Kd.M Kd.string _ _ _ (⟨#[77, 105]⟩ : ByteArray) [.string (⟨#[77, 105]⟩ : ByteArray)] from rfl) (Reps.one (show Kd.M Kd.string _ _ _ (⟨#[71, 105]⟩ : ByteArray) [.string (⟨#[71, 105]⟩ : ByteArray)] from rfl) (Reps.one (show Kd.M Kd.string _ _ _ (⟨#[84, 105]⟩ : ByteArray) [.string (⟨#[84, 105]⟩ : ByteArray)] from rfl) (Reps.one (show Kd.M Kd.string _ _ _ (⟨#[80, 105]⟩ : ByteArray) [.string (⟨#[80, 105]⟩ : ByteArray)] from rfl) (Reps.one (show Kd.M Kd.string _ _ _ (⟨#[69, 105]⟩ : ByteArray) [.string (⟨#[69, 105]⟩ : ByteArray)] from rfl) (Reps.none _ _)))))))); intro v120 w20 ho21 hb hg_ hnew_; clear hg_ hnew_; (first | rw [← Ny.out] at ho21 | (simp only [Int.reduceToNat] at ho21; rw [← Ny.out] at ho21)); have HO := Aside0.mk ho21; have HB := Aside0.mk hb; clear ho21 hb; obtain ⟨Ao22, co22, eo22⟩ := Kd.R_slice HO.out; subst eo22) | (go_at_call 9; (with_reducible refine (impl_unitOf.calls 100 a0 1024 _ _ y r _ ?side1 ?side2 A1.out ?side3).mono ?_); (case side1 => exact (Kd.R_reads' HO.out).2.2); (case side2 => exact (Kd.R_reads' HO.out).2.1); (case side3 => exact Mx.below HMX.out HB.out); rintro e w23 ⟨rfl, hb⟩))
    go_ret
    exact ⟨rfl, below_step HB.out hb⟩
  · have hneg : decide (a0 < 0) = false := decide_eq_false hs
    go_enter Tryd.func5, Tryd.ntmps5
    go_wp2_with (first | ((with_reducible refine gate_dst (N := 25) rfl ?_); refine Kd.R_lit Kd.string _ 9 ?hg (N := 25) ?hd (xs := ([(⟨#[75, 105]⟩ : ByteArray), (⟨#[77, 105]⟩ : ByteArray), (⟨#[71, 105]⟩ : ByteArray), (⟨#[84, 105]⟩ : ByteArray), (⟨#[80, 105]⟩ : ByteArray), (⟨#[69, 105]⟩ : ByteArray)] : List ByteArray)) (inner := [.string (⟨#[75, 105]⟩ : ByteArray), .string (⟨#[77, 105]⟩ : ByteArray), .string (⟨#[71, 105]⟩ : ByteArray), .string (⟨#[84, 105]⟩ : ByteArray), .string (⟨#[80, 105]⟩ : ByteArray), .string (⟨#[69, 105]⟩ : ByteArray)]) (ok := fun _ => True) (okp := fun _ => True) ?hr ?hp (fun _ hk => hk) trivial (Below.refl _ _) (Nat.le_refl _) (by simp) ?_; (case hd => rfl); (case hg => rfl); (case hr => first | (go_simp; done) | (go_simp; rfl)); (case hp => exact (Reps.one (show Kd.M Kd.string _ _ _ (⟨#[75, 105]⟩ : ByteArray) [.string (⟨#[75, 105]⟩ : ByteArray)] from rfl) (Reps.one (show Kd.M Kd.string _ _ _ (⟨#[77, 105]⟩ : ByteArray) [.string (⟨#[77, 105]⟩ : ByteArray)] from rfl) (Reps.one (show Kd.M Kd.string _ _ _ (⟨#[71, 105]⟩ : ByteArray) [.string (⟨#[71, 105]⟩ : ByteArray)] from rfl) (Reps.one (show Kd.M Kd.string _ _ _ (⟨#[84, 105]⟩ : ByteArray) [.string (⟨#[84, 105]⟩ : ByteArray)] from rfl) (Reps.one (show Kd.M Kd.string _ _ _ (⟨#[80, 105]⟩ : ByteArray) [.string (⟨#[80, 105]⟩ : ByteArray)] from rfl) (Reps.one (show Kd.M Kd.string _ _ _ (⟨#[69, 105]⟩ : ByteArray) [.string (⟨#[69, 105]⟩ : ByteArray)] from rfl) (Reps.none _ _)))))))); intro v120 w20 ho21 hb hg_ hnew_; clear hg_ hnew_; (first | rw [← Ny.out] at ho21 | (simp only [Int.reduceToNat] at ho21; rw [← Ny.out] at ho21)); have HO := Aside0.mk ho21; have HB := Aside0.mk hb; clear ho21 hb; obtain ⟨Ao22, co22, eo22⟩ := Kd.R_slice HO.out; subst eo22) | (go_at_call 9; (with_reducible refine (impl_unitOf.calls 100 a0 1024 _ _ y r _ ?side1 ?side2 A1.out ?side3).mono ?_); (case side1 => exact (Kd.R_reads' HO.out).2.2); (case side2 => exact (Kd.R_reads' HO.out).2.1); (case side3 => exact Mx.below HMX.out HB.out); rintro e w23 ⟨rfl, hb⟩))
    go_ret
    exact ⟨rfl, below_step HB.out hb⟩
set_option maxHeartbeats 4000000 in
set_option maxRecDepth 100000 in
theorem ut_short (a0 : Int) (r : ByteArray) (w : World) (hn : (a0 == -9223372036854775808) = false) (y : List ByteArray) (Ny : Aside0 (y = ([(⟨#[107]⟩ : ByteArray), (⟨#[77]⟩ : ByteArray), (⟨#[71]⟩ : ByteArray), (⟨#[84]⟩ : ByteArray), (⟨#[80]⟩ : ByteArray), (⟨#[69]⟩ : ByteArray)] : List ByteArray))) (h : impl_unitOf.f 100 a0 1000 y = some r) (hmx : Mx w) :
    Calls Tryd.prog 5 #[.int .i64 a0, .int .i64 5] w fun e w' => e = .returned (.string r) ∧ Below w.heap.size w w' := by
  have A1 := Aside0.mk h
  have HMX := Aside0.mk hmx
  clear h
  by_cases hs : a0 < 0
  · have hneg : decide (a0 < 0) = true := decide_eq_true hs
    go_enter Tryd.func5, Tryd.ntmps5
    go_wp2_with (first | ((with_reducible refine gate_dst (N := 30) rfl ?_); refine Kd.R_lit Kd.string _ 9 ?hg (N := 30) ?hd (xs := ([(⟨#[107]⟩ : ByteArray), (⟨#[77]⟩ : ByteArray), (⟨#[71]⟩ : ByteArray), (⟨#[84]⟩ : ByteArray), (⟨#[80]⟩ : ByteArray), (⟨#[69]⟩ : ByteArray)] : List ByteArray)) (inner := [.string (⟨#[107]⟩ : ByteArray), .string (⟨#[77]⟩ : ByteArray), .string (⟨#[71]⟩ : ByteArray), .string (⟨#[84]⟩ : ByteArray), .string (⟨#[80]⟩ : ByteArray), .string (⟨#[69]⟩ : ByteArray)]) (ok := fun _ => True) (okp := fun _ => True) ?hr ?hp (fun _ hk => hk) trivial (Below.refl _ _) (Nat.le_refl _) (by simp) ?_; (case hd => rfl); (case hg => rfl); (case hr => first | (go_simp; done) | (go_simp; rfl)); (case hp => exact (Reps.one (show Kd.M Kd.string _ _ _ (⟨#[107]⟩ : ByteArray) [.string (⟨#[107]⟩ : ByteArray)] from rfl) (Reps.one (show Kd.M Kd.string _ _ _ (⟨#[77]⟩ : ByteArray) [.string (⟨#[77]⟩ : ByteArray)] from rfl) (Reps.one (show Kd.M Kd.string _ _ _ (⟨#[71]⟩ : ByteArray) [.string (⟨#[71]⟩ : ByteArray)] from rfl) (Reps.one (show Kd.M Kd.string _ _ _ (⟨#[84]⟩ : ByteArray) [.string (⟨#[84]⟩ : ByteArray)] from rfl) (Reps.one (show Kd.M Kd.string _ _ _ (⟨#[80]⟩ : ByteArray) [.string (⟨#[80]⟩ : ByteArray)] from rfl) (Reps.one (show Kd.M Kd.string _ _ _ (⟨#[69]⟩ : ByteArray) [.string (⟨#[69]⟩ : ByteArray)] from rfl) (Reps.none _ _)))))))); intro v120 w20 ho21 hb hg_ hnew_; clear hg_ hnew_; (first | rw [← Ny.out] at ho21 | (simp only [Int.reduceToNat] at ho21; rw [← Ny.out] at ho21)); have HO := Aside0.mk ho21; have HB := Aside0.mk hb; clear ho21 hb; obtain ⟨Ao22, co22, eo22⟩ := Kd.R_slice HO.out; subst eo22) | (go_at_call 9; (with_reducible refine (impl_unitOf.calls 100 a0 1000 _ _ y r _ ?side1 ?side2 A1.out ?side3).mono ?_); (case side1 => exact (Kd.R_reads' HO.out).2.2); (case side2 => exact (Kd.R_reads' HO.out).2.1); (case side3 => exact Mx.below HMX.out HB.out); rintro e w23 ⟨rfl, hb⟩))
    go_ret
    exact ⟨rfl, below_step HB.out hb⟩
  · have hneg : decide (a0 < 0) = false := decide_eq_false hs
    go_enter Tryd.func5, Tryd.ntmps5
    go_wp2_with (first | ((with_reducible refine gate_dst (N := 30) rfl ?_); refine Kd.R_lit Kd.string _ 9 ?hg (N := 30) ?hd (xs := ([(⟨#[107]⟩ : ByteArray), (⟨#[77]⟩ : ByteArray), (⟨#[71]⟩ : ByteArray), (⟨#[84]⟩ : ByteArray), (⟨#[80]⟩ : ByteArray), (⟨#[69]⟩ : ByteArray)] : List ByteArray)) (inner := [.string (⟨#[107]⟩ : ByteArray), .string (⟨#[77]⟩ : ByteArray), .string (⟨#[71]⟩ : ByteArray), .string (⟨#[84]⟩ : ByteArray), .string (⟨#[80]⟩ : ByteArray), .string (⟨#[69]⟩ : ByteArray)]) (ok := fun _ => True) (okp := fun _ => True) ?hr ?hp (fun _ hk => hk) trivial (Below.refl _ _) (Nat.le_refl _) (by simp) ?_; (case hd => rfl); (case hg => rfl); (case hr => first | (go_simp; done) | (go_simp; rfl)); (case hp => exact (Reps.one (show Kd.M Kd.string _ _ _ (⟨#[107]⟩ : ByteArray) [.string (⟨#[107]⟩ : ByteArray)] from rfl) (Reps.one (show Kd.M Kd.string _ _ _ (⟨#[77]⟩ : ByteArray) [.string (⟨#[77]⟩ : ByteArray)] from rfl) (Reps.one (show Kd.M Kd.string _ _ _ (⟨#[71]⟩ : ByteArray) [.string (⟨#[71]⟩ : ByteArray)] from rfl) (Reps.one (show Kd.M Kd.string _ _ _ (⟨#[84]⟩ : ByteArray) [.string (⟨#[84]⟩ : ByteArray)] from rfl) (Reps.one (show Kd.M Kd.string _ _ _ (⟨#[80]⟩ : ByteArray) [.string (⟨#[80]⟩ : ByteArray)] from rfl) (Reps.one (show Kd.M Kd.string _ _ _ (⟨#[69]⟩ : ByteArray) [.string (⟨#[69]⟩ : ByteArray)] from rfl) (Reps.none _ _)))))))); intro v120 w20 ho21 hb hg_ hnew_; clear hg_ hnew_; (first | rw [← Ny.out] at ho21 | (simp only [Int.reduceToNat] at ho21; rw [← Ny.out] at ho21)); have HO := Aside0.mk ho21; have HB := Aside0.mk hb; clear ho21 hb; obtain ⟨Ao22, co22, eo22⟩ := Kd.R_slice HO.out; subst eo22) | (go_at_call 9; (with_reducible refine (impl_unitOf.calls 100 a0 1000 _ _ y r _ ?side1 ?side2 A1.out ?side3).mono ?_); (case side1 => exact (Kd.R_reads' HO.out).2.2); (case side2 => exact (Kd.R_reads' HO.out).2.1); (case side3 => exact Mx.below HMX.out HB.out); rintro e w23 ⟨rfl, hb⟩))
    go_ret
    exact ⟨rfl, below_step HB.out hb⟩
def impl_UnitText.f (a0 a1 : Int) : Option ByteArray :=
  if -9223372036854775808 ≤ a0 ∧ a0 ≤ 9223372036854775807 then
   (if a0 = -9223372036854775808 then some ⟨#[]⟩
    else if a1 = 1 then impl_digitsOf.f a0
    else if a1 = 2 then impl_unitOf.f 100 a0 1024 [(⟨#[75, 105]⟩ : ByteArray), (⟨#[77, 105]⟩ : ByteArray), (⟨#[71, 105]⟩ : ByteArray), (⟨#[84, 105]⟩ : ByteArray), (⟨#[80, 105]⟩ : ByteArray), (⟨#[69, 105]⟩ : ByteArray)]
    else if a1 = 5 then impl_unitOf.f 100 a0 1000 [(⟨#[107]⟩ : ByteArray), (⟨#[77]⟩ : ByteArray), (⟨#[71]⟩ : ByteArray), (⟨#[84]⟩ : ByteArray), (⟨#[80]⟩ : ByteArray), (⟨#[69]⟩ : ByteArray)]
    else if a1 = 4 then (if a0 < 0 then utShare ⟨#[45]⟩ (-a0) else utShare ⟨#[]⟩ a0)
    else if a1 = 3 then (if a0 < 0 then utFrom ⟨#[45]⟩ (utPart (-a0)) 4 0 else utFrom ⟨#[]⟩ (utPart a0) 4 0)
    else some ⟨#[]⟩) else none
theorem impl_UnitText.calls (a0 a1 : Int) (r : ByteArray) (w : World) (h : impl_UnitText.f a0 a1 = some r) (hmx : Mx w := by first | exact HMX.out | exact Mx.below HMX.out (by repeat (first | (with_reducible first | exact HB.out | apply below_alloc | apply pw_below_drewN | apply below_drew1 | refine below_set ?_ (Aside0.out (by assumption))) | exact Below.refl _ _ | exact HB.out))) :
    Calls Tryd.prog 5 #[.int .i64 a0, .int .i64 a1] w fun e w' => e = .returned (.string r) ∧ Below w.heap.size w w' := by
  unfold impl_UnitText.f at h
  split at h
  · rename_i hr
    obtain ⟨hl, hu⟩ := hr
    split at h
    · rename_i hm
      subst hm
      obtain rfl := Option.some.inj h
      exact ut_none a1 w
    · rename_i hm
      have hn : (a0 == -9223372036854775808) = false := beq_eq_false_iff_ne.mpr hm
      split at h
      · rename_i h1; subst h1; exact ut_plain a0 r w hn h hmx
      · split at h
        · rename_i h1; subst h1; exact ut_bytes a0 r w hn _ ⟨rfl⟩ h hmx
        · split at h
          · rename_i h1; subst h1; exact ut_short a0 r w hn _ ⟨rfl⟩ h hmx
          · split at h
            · rename_i h1
              subst h1
              split at h
              · have := ut_share_neg (-a0) r w (by omega) (by omega) h hmx
                rwa [Int.neg_neg] at this
              · exact ut_share a0 r w (by omega) (by omega) h hmx
            · split at h
              · rename_i h1
                subst h1
                split at h
                · have := ut_time_neg (-a0) r w (by omega) (by omega) h hmx
                  rwa [Int.neg_neg] at this
                · exact ut_time a0 r w (by omega) (by omega) h hmx
              · obtain rfl := Option.some.inj h
                exact ut_other a0 a1 w hn (by simpa using ‹¬a1 = 1›) (by simpa using ‹¬a1 = 2›) (by simpa using ‹¬a1 = 3›) (by simpa using ‹¬a1 = 4›) (by simpa using ‹¬a1 = 5›) hl hu
  · exact absurd h (by simp)

/-! ### laws_FnExactUnitText: function 3 -/
def laws_FnExactUnitText.f (k : Nat) (a0 : Int) (a1 : Int) : Option (Bool) := (spec_UnitText.f k a0 a1).bind fun t148 => ((impl_UnitText.f a0 a1).bind fun t149 => (if t149.toList = t148.toList then (some true) else (some false)))
theorem laws_FnExactUnitText.mono : ∀ a0 a1 k, LeO (laws_FnExactUnitText.f k a0 a1) (laws_FnExactUnitText.f (k + 1) a0 a1) := by
  intro a0 a1 k
  unfold laws_FnExactUnitText.f
  repeat' first
      | (with_reducible exact spec_UnitText.mono _ _ _)
      | (with_reducible exact LeO.refl _)
      | (with_reducible exact LeO.none _)
      | (with_reducible refine LeO.ite ?_ ?_)
      | (with_reducible refine LeO.bind ?_ (fun _ => ?_))
      | exact spec_UnitText.mono _ _ _
      | exact LeO.none _
      | refine LeO.ite ?_ ?_
      | refine LeO.bind ?_ (fun _ => ?_)
set_option maxHeartbeats 8000000 in
set_option maxRecDepth 100000 in
theorem laws_FnExactUnitText.calls (k : Nat) (a0 : Int) (a1 : Int) (r : Bool) (w : World) (h : laws_FnExactUnitText.f k a0 a1 = some r) (hmx : Mx w := by first | exact HMX.out | exact Mx.below HMX.out (by repeat (first | (with_reducible first | exact HB.out | apply below_alloc | apply pw_below_drewN | apply below_drew1 | refine below_set ?_ (Aside0.out (by assumption))) | exact Below.refl _ _ | exact HB.out))) :
    Calls Tryd.prog 3 #[.int .i64 a0, .int .i64 a1] w fun e w' => e = .returned (.bool r) ∧ Below w.heap.size w w' := by
  have HMX := Aside0.mk hmx
  have HB := Aside0.mk (Below.refl w.heap.size w)
  have H : ((spec_UnitText.f k a0 a1).bind fun t148 => ((impl_UnitText.f a0 a1).bind fun t149 => (if t149.toList = t148.toList then (some true) else (some false)))) = some r := h
  clear h
  replace H := Option.bind_eq_some_iff.mp H
  obtain ⟨t148, A30, H⟩ := H
  replace H : ((impl_UnitText.f a0 a1).bind fun t149 => (if t149.toList = t148.toList then (some true) else (some false))) = some r := H
  have A3 := Aside0.mk A30
  clear A30
  replace H := Option.bind_eq_some_iff.mp H
  obtain ⟨t149, A40, H⟩ := H
  replace H : (if t149.toList = t148.toList then (some true) else (some false)) = some r := H
  have A4 := Aside0.mk A40
  clear A40
  by_cases c5 : t149.toList = t148.toList
  · rw [if_pos c5] at H
    have c5b0 : (t149.toList == t148.toList) = true := beq_iff_eq.mpr c5
    have c5b1 : (t149.toList != t148.toList) = false := bne_eq_false_iff_eq.mpr c5
    clear c5
    obtain rfl := Option.some.inj H
    go_enter Tryd.func3, Tryd.ntmps3
    go_wp2_with (first | ((with_reducible refine gate_callee (f := 4) rfl ?_); refine goesL_ (some 9) rfl rfl Tryd.func4 (by kernel_rfl) rfl #[.int .i64 a0, .int .i64 a1] rfl (by (try simp only [List.map_toArray, List.map_cons, List.map_nil]); first | done | rfl | (simp only [List.length_drop, List.length_take]; rfl)) ?_; (with_reducible refine (spec_UnitText.calls k a0 a1 t148 _ A3.out).mono ?_); rintro e w6 ⟨rfl, hb⟩; refine ⟨_, rfl, ?_⟩; have n0_ := Aside0.mk (below_step (by repeat (first | (with_reducible first | exact HB.out | apply below_alloc | apply pw_below_drewN | apply below_drew1) | exact HB.out)) hb); clear HB; have HB := n0_; clear n0_; (try clear hb); (try clear hb2); (try clear hk); (try clear hi)) | ((with_reducible refine gate_callee (f := 5) rfl ?_); refine goesL_ (some 12) rfl rfl Tryd.func5 (by kernel_rfl) rfl #[.int .i64 a0, .int .i64 a1] rfl (by (try simp only [List.map_toArray, List.map_cons, List.map_nil]); first | done | rfl | (simp only [List.length_drop, List.length_take]; rfl)) ?_; (with_reducible refine (impl_UnitText.calls a0 a1 t149 _ A4.out).mono ?_); rintro e w7 ⟨rfl, hb⟩; refine ⟨_, rfl, ?_⟩; have n0_ := Aside0.mk (below_step (by repeat (first | (with_reducible first | exact HB.out | apply below_alloc | apply pw_below_drewN | apply below_drew1) | exact HB.out)) hb); clear HB; have HB := n0_; clear n0_; (try clear hb); (try clear hb2); (try clear hk); (try clear hi)))
    go_ret
    exact ⟨by first | rfl | (simp [errW_none, errW_some] <;> rfl) | (simp [*, errW_none, errW_some] <;> rfl), by repeat (first | (with_reducible first | exact HB.out | apply below_alloc | apply pw_below_drewN | apply below_drew1) | exact HB.out)⟩
  · rw [if_neg c5] at H
    have c5b0 : (t149.toList == t148.toList) = false := beq_eq_false_iff_ne.mpr c5
    have c5b1 : (t149.toList != t148.toList) = true := bne_iff_ne.mpr c5
    obtain rfl := Option.some.inj H
    go_enter Tryd.func3, Tryd.ntmps3
    go_wp2_with (first | ((with_reducible refine gate_callee (f := 4) rfl ?_); refine goesL_ (some 9) rfl rfl Tryd.func4 (by kernel_rfl) rfl #[.int .i64 a0, .int .i64 a1] rfl (by (try simp only [List.map_toArray, List.map_cons, List.map_nil]); first | done | rfl | (simp only [List.length_drop, List.length_take]; rfl)) ?_; (with_reducible refine (spec_UnitText.calls k a0 a1 t148 _ A3.out).mono ?_); rintro e w8 ⟨rfl, hb⟩; refine ⟨_, rfl, ?_⟩; have n0_ := Aside0.mk (below_step (by repeat (first | (with_reducible first | exact HB.out | apply below_alloc | apply pw_below_drewN | apply below_drew1) | exact HB.out)) hb); clear HB; have HB := n0_; clear n0_; (try clear hb); (try clear hb2); (try clear hk); (try clear hi)) | ((with_reducible refine gate_callee (f := 5) rfl ?_); refine goesL_ (some 12) rfl rfl Tryd.func5 (by kernel_rfl) rfl #[.int .i64 a0, .int .i64 a1] rfl (by (try simp only [List.map_toArray, List.map_cons, List.map_nil]); first | done | rfl | (simp only [List.length_drop, List.length_take]; rfl)) ?_; (with_reducible refine (impl_UnitText.calls a0 a1 t149 _ A4.out).mono ?_); rintro e w9 ⟨rfl, hb⟩; refine ⟨_, rfl, ?_⟩; have n0_ := Aside0.mk (below_step (by repeat (first | (with_reducible first | exact HB.out | apply below_alloc | apply pw_below_drewN | apply below_drew1) | exact HB.out)) hb); clear HB; have HB := n0_; clear n0_; (try clear hb); (try clear hb2); (try clear hk); (try clear hi)))
    go_ret
    exact ⟨by first | rfl | (simp [errW_none, errW_some] <;> rfl) | (simp [*, errW_none, errW_some] <;> rfl), by repeat (first | (with_reducible first | exact HB.out | apply below_alloc | apply pw_below_drewN | apply below_drew1) | exact HB.out)⟩

/-- THE ONE PURE STATEMENT of laws_FnExactUnitText: yours. -/
def laws_FnExactUnitText.Pure : Prop := ∀ (a0 : Int) (a1 : Int), (Lit.int .i64 a0).wf = true → (Lit.int .i64 a1).wf = true → ∃ k, laws_FnExactUnitText.f k a0 a1 = some true
theorem laws_FnExactUnitText.walk (P : laws_FnExactUnitText.Pure) (a0 : Int) (a1 : Int) (w : World) (w0 : (Lit.int .i64 a0).wf = true) (w1 : (Lit.int .i64 a1).wf = true) (hmx : Mx w := by first | exact HMX.out | exact Mx.below HMX.out (by repeat (first | (with_reducible first | exact HB.out | apply below_alloc | apply pw_below_drewN | apply below_drew1 | refine below_set ?_ (Aside0.out (by assumption))) | exact Below.refl _ _ | exact HB.out))) :
    Calls Tryd.prog 3 #[.int .i64 a0, .int .i64 a1] w fun e w' => e = .returned (.bool true) ∧ Below w.heap.size w w' := by
  have HMX := Aside0.mk hmx
  obtain ⟨k, h⟩ := P a0 a1 w0 w1
  refine (laws_FnExactUnitText.calls k a0 a1 true w h).mono ?_
  rintro e w' ⟨rfl, hd⟩
  exact ⟨rfl, hd⟩

end Go.Proofs.YtffclnopnhodoaaDoor.P
