/- Plain laws on printed functions: a number by steps of a size; UnitText. -/
import Derived.Test.YtffclnopnhodoaaDoorD1
namespace Go.Proofs.YtffclnopnhodoaaDoor.L
open Go.RowKit Go.Proofs.YtffclnopnhodoaaDoor.P Go.Proofs.YtffclnopnhodoaaDoorW.PrintWords Go.Proofs.YtffclnopnhodoaaDoorW.PrintLast
set_option linter.unusedVariables false

theorem itoa_ok (x : Int) (h0 : -9223372036854775808 ≤ x) (h1 : x ≤ 9223372036854775807) : impl_digitsOf.f x = some (numB x) := by
  unfold impl_digitsOf.f strconv_Itoa.f
  rw [if_pos ⟨h0, h1⟩]
  rfl
theorem fmtU_ok (u : Nat) (h : u < 18446744073709551616) : strconv_FormatUint.f (u : Int) 10 = some (decB u) := by
  unfold strconv_FormatUint.f
  rw [if_pos ⟨by omega, by omega, rfl⟩]
  rfl
theorem wrapN {n : Nat} (h : n ≤ 9223372036854775807) : wrap64 (n : Int) = n := wrap_in' (by omega) (by omega)
theorem u64N {n : Nat} (h : n < 18446744073709551616) : IntKind.u64.wrap (n : Int) = n := u64_in' (by omega) (by omega)
theorem l2Nat {n : Nat} (h : n ≤ 9223372036854775807) (k : Nat) (hk : 21 ≤ k) : spec_l2Num.f k (n : Int) = some (decB n) := by rw [l2Num_ok _ (by omega) (by omega) k hk, numB_nat]
theorem tdivN (v u : Nat) : Int.tdiv (v : Int) (u : Int) = ((v / u : Nat) : Int) := rfl
theorem tmodN (v u : Nat) : Int.tmod (v : Int) (u : Int) = ((v % u : Nat) : Int) := rfl
/-- What both come to at a size u with a name. -/
def scaleB (sg nm : ByteArray) (v u : Nat) : ByteArray := (((sg ++ decB (v / u)) ++ (⟨#[46]⟩ : ByteArray)) ++ decB (v % u * 10 / u)) ++ nm
theorem tenth_ok (v u : Nat) (hv : v < 9223372036854775808) (hu : 0 < u) (hu2 : u ≤ 1152921504606846976) : spec_l25Tenth.f (v : Int) (u : Int) = some ((v % u * 10 / u : Nat) : Int) := by
  unfold spec_l25Tenth.f
  have hm : v % u < u := Nat.mod_lt _ hu
  have hq : v % u * 10 / u < 10 := Nat.div_lt_of_lt_mul (by omega)
  rw [u64N (n := u) (by omega), if_neg (by omega), if_neg (by omega), tmodN, u64N (n := v % u) (by omega),
    show (10 * ((v % u : Nat) : Int)) = ((v % u * 10 : Nat) : Int) by omega, u64N (n := v % u * 10) (by omega), tdivN, u64N (by omega), wrapN (by omega)]
theorem scale_fin (sg : ByteArray) (hsg : sg.size ≤ 1) (names : List ByteArray) (hn : ∀ x ∈ names, x.size ≤ 2) (v u kk : Nat) (hv : v < 9223372036854775808) (hu : 0 < u) (hu2 : u ≤ 1152921504606846976) (hkk : kk < names.length) (hl : names.length ≤ 6) :
    (∀ k, 21 ≤ k → ((spec_l2Num.f k (wrap64 (Int.tdiv (v : Int) (u : Int)))).bind fun t108 => (if sg.size + t108.size ≤ 9223372036854775807 then (if (sg ++ t108).size + 1 ≤ 9223372036854775807 then ((spec_l25Tenth.f (v : Int) (u : Int)).bind fun t109 => ((spec_l2Num.f k t109).bind fun t110 => (if ((sg ++ t108) ++ (⟨#[46]⟩ : ByteArray)).size + t110.size ≤ 9223372036854775807 then (if 0 ≤ (kk : Int) then (if (kk : Int) < (names.length : Int) then (if (((sg ++ t108) ++ (⟨#[46]⟩ : ByteArray)) ++ t110).size + (rdOf ByteArray.empty names (kk : Int)).size ≤ 9223372036854775807 then (some ((((sg ++ t108) ++ (⟨#[46]⟩ : ByteArray)) ++ t110) ++ (rdOf ByteArray.empty names (kk : Int)))) else (none)) else (none)) else (none)) else (none)))) else (none)) else (none))) = some (scaleB sg (rdOf ByteArray.empty names (kk : Int)) v u)) ∧
    (∀ k a0, impl_unitOf.j2 (k + 1) a0 names sg (v : Int) (u : Int) ((kk : Int) + 1) = some (scaleB sg (rdOf ByteArray.empty names (kk : Int)) v u)) := by
  have hd : v / u < 9223372036854775808 := Nat.lt_of_le_of_lt (Nat.div_le_self _ _) hv
  have hm : v % u < u := Nat.mod_lt _ hu
  have hq : v % u * 10 / u < 10 := Nat.div_lt_of_lt_mul (by omega)
  have s1 := decB_size (u := v / u) (by omega)
  have s2 := decB_size (u := v % u * 10 / u) (by omega)
  have s0 : (⟨#[46]⟩ : ByteArray).size = 1 := rfl
  have s3 : (rdOf ByteArray.empty names (kk : Int)).size ≤ 2 := by
    unfold rdOf
    rw [Int.toNat_natCast, List.getD_eq_getElem?_getD, List.getElem?_eq_getElem hkk]
    exact hn _ (List.getElem_mem _)
  constructor
  · intro k hk
    rw [tdivN, wrapN (by omega), l2Nat (by omega) k hk, Option.bind_some, if_pos (by omega), if_pos (by rw [ByteArray.size_append]; omega), tenth_ok v u hv hu hu2, Option.bind_some,
      l2Nat (by omega) k hk, Option.bind_some, if_pos (by simp only [ByteArray.size_append]; omega), if_pos (by omega), if_pos (by omega), if_pos (by simp only [ByteArray.size_append]; omega)]
    rfl
  · intro k a0
    have hw : wrap64 ((kk : Int) + 1 - 1) = kk := by rw [wrap_in' (by omega) (by omega)]; omega
    simp only [impl_unitOf.j2]
    rw [if_neg (by omega), if_neg (by omega), tdivN, u64N (by omega), fmtU_ok _ (by omega), Option.bind_some, if_pos (by omega), if_pos (by rw [ByteArray.size_append]; omega), tmodN,
      show (((v % u : Nat) : Int) * 10) = ((v % u * 10 : Nat) : Int) by omega, u64N (n := v % u * 10) (by omega), tdivN, u64N (by omega), fmtU_ok _ (by omega), Option.bind_some,
      if_pos (by simp only [ByteArray.size_append]; omega), hw, if_pos (by omega), if_pos (by omega), if_pos (by simp only [ByteArray.size_append]; omega)]
    rfl
theorem scale_l (sg : ByteArray) (hsg : sg.size ≤ 1) (names : List ByteArray) (hn : ∀ x ∈ names, x.size ≤ 2) (hl : names.length = 6) (v b : Nat) (hv : v < 9223372036854775808) (hb : b ≤ 1024) (hb1 : 1 < b) (a0 : Int) :
    ∀ (d kk u : Nat), 5 - kk = d → kk ≤ 5 → 0 < u → u ≤ 1024 ^ (kk + 1) → ∀ k k', 30 ≤ k → 30 ≤ k' → ∃ r, spec_l25Scaled.l0 (k + d) (v : Int) (b : Int) names sg (u : Int) (kk : Int) = some r ∧ impl_unitOf.l0 (k' + d) a0 (b : Int) names sg (v : Int) (u : Int) ((kk : Int) + 1) = some r := by
  intro d
  induction d with
  | zero =>
    intro kk u hd hk hu hu2 k k' h1 h2
    obtain ⟨k, rfl⟩ : ∃ m, k = m + 1 := ⟨k - 1, by omega⟩
    obtain ⟨k', rfl⟩ : ∃ m, k' = m + 2 := ⟨k' - 2, by omega⟩
    obtain rfl : kk = 5 := by omega
    obtain ⟨f1, f2⟩ := scale_fin sg hsg names hn v u 5 hv hu (by simpa using hu2) (by omega) (by omega)
    refine ⟨scaleB sg (rdOf ByteArray.empty names ((5 : Nat) : Int)) v u, ?_, ?_⟩
    · simp only [spec_l25Scaled.l0]
      rw [wrap_in' (by omega) (by omega), if_neg (by omega), if_neg (by omega)]
      exact f1 k (by omega)
    · show impl_unitOf.l0 (k' + 1 + 1) _ _ _ _ _ _ _ = _
      rw [impl_unitOf.l0, if_neg (by omega)]
      exact f2 k' a0
  | succ d ih =>
    intro kk u hd hk hu hu2 k k' h1 h2
    have hpow : 1024 ^ (kk + 1) ≤ 1024 ^ 5 := Nat.pow_le_pow_right (by omega) (by omega)
    have hdv : v / u < 9223372036854775808 := Nat.lt_of_le_of_lt (Nat.div_le_self _ _) hv
    have e5 : (1024 ^ 5 : Nat) = 1125899906842624 := by decide
    have hub : u * b ≤ 1024 ^ (kk + 1 + 1) := by rw [Nat.pow_succ]; exact Nat.mul_le_mul hu2 hb
    have hub2 : u * b ≤ 1152921504606846976 := by
      have : 1024 ^ (kk + 1 + 1) ≤ 1024 ^ 6 := Nat.pow_le_pow_right (by omega) (by omega)
      have e6 : (1024 ^ 6 : Nat) = 1152921504606846976 := by decide
      omega
    have hubp : 0 < u * b := Nat.mul_pos hu (by omega)
    have hcast : (u : Int) * (b : Int) = ((u * b : Nat) : Int) := by simp
    have q1 : impl_unitOf.l0 (k' + (d + 1)) a0 (b : Int) names sg (v : Int) (u : Int) ((kk : Int) + 1) = if ((v / u : Nat) : Int) ≥ (b : Int) then impl_unitOf.l0 (k' + d) a0 (b : Int) names sg (v : Int) ((u * b : Nat) : Int) ((((kk + 1 : Nat) : Int)) + 1) else impl_unitOf.j2 (k' + d) a0 names sg (v : Int) (u : Int) ((kk : Int) + 1) := by
      show impl_unitOf.l0 (k' + d + 1) _ _ _ _ _ _ _ = _
      rw [impl_unitOf.l0, if_pos (by omega), if_neg (by omega), tdivN, u64N (by omega), hcast, u64N (n := u * b) (by omega), wrap_in' (i := (kk : Int) + 1 + 1) (by omega) (by omega)]
      rfl
    rw [q1]
    show ∃ r, spec_l25Scaled.l0 (k + d + 1) _ _ _ _ _ _ = _ ∧ _
    rw [spec_l25Scaled.l0, wrap_in' (i := (kk : Int) + 1) (by omega) (by omega), if_pos (by omega), if_neg (by omega), tdivN, wrapN (n := v / u) (by omega), hcast, wrapN (n := u * b) (by omega)]
    by_cases hc : ((v / u : Nat) : Int) ≥ (b : Int)
    · rw [if_pos hc, if_pos hc]
      exact ih (kk + 1) (u * b) (by omega) (by omega) hubp hub k k' h1 h2
    · rw [if_neg hc, if_neg hc]
      obtain ⟨f1, f2⟩ := scale_fin sg hsg names hn v u kk hv hu (by omega) (by omega) (by omega)
      obtain ⟨m, hm⟩ : ∃ m, k' + d = m + 1 := ⟨k' + d - 1, by omega⟩
      rw [tdivN, wrapN (n := v / u) (by omega)] at f1
      rw [hm]
      exact ⟨_, f1 (k + d) (by omega), f2 m a0⟩
theorem scale_eq (names : List ByteArray) (hn : ∀ x ∈ names, x.size ≤ 2) (hl : names.length = 6) (b : Nat) (hb : b ≤ 1024) (hb1 : 1 < b) (a0 : Int) (h0 : -9223372036854775808 < a0) (h1 : a0 ≤ 9223372036854775807) :
    ∃ r, spec_l25Scaled.f 60 a0 (b : Int) names = some r ∧ impl_unitOf.f 100 a0 (b : Int) names = some r := by
  -- both lead a size v with a sign sg on
  have key : ∀ (sg : ByteArray) (v : Nat), sg.size ≤ 1 → v < 9223372036854775808 → numB a0 = sg ++ decB v → ∃ r, spec_l25Scaled.j0 60 (v : Int) (b : Int) names sg = some r ∧ impl_unitOf.j0 100 a0 (b : Int) names sg (v : Int) = some r := by
    intro sg v hsg hv hnum
    have s1 := decB_size (u := v) (by omega)
    have hv1 : Int.tdiv (v : Int) 1 = (v : Int) := Int.tdiv_one _
    have q1 : impl_unitOf.j0 100 a0 (b : Int) names sg (v : Int) = if (v : Int) ≥ (b : Int) then impl_unitOf.l0 (93 + 5) a0 (b : Int) names sg (v : Int) (b : Int) ((0 : Nat) + 1 : Int) else impl_unitOf.j2 (97 + 1) a0 names sg (v : Int) 1 0 := by
      show impl_unitOf.j0 (98 + 1 + 1) _ _ _ _ _ = _
      rw [impl_unitOf.j0, impl_unitOf.l0, if_pos (by omega), if_neg (by decide), hv1, u64N (by omega), show (1 : Int) * (b : Int) = (b : Int) by omega, u64N (by omega), show wrap64 (0 + 1) = ((0 : Nat) : Int) + 1 by rw [wrap_in' (by omega) (by omega)]; rfl]
    rw [q1]
    show ∃ r, spec_l25Scaled.j0 (54 + 5 + 1) _ _ _ _ = _ ∧ _
    rw [spec_l25Scaled.j0]
    by_cases hc : (v : Int) < (b : Int)
    · refine ⟨numB a0, ?_, ?_⟩
      · rw [if_pos hc, l2Nat (by omega) (54 + 5) (by omega), Option.bind_some, if_pos (by omega), hnum]
      · rw [if_neg (by omega), impl_unitOf.j2, if_pos rfl, itoa_ok a0 (by omega) h1]
        rfl
    · obtain ⟨r, e1, e2⟩ := scale_l sg hsg names hn hl v b hv hb hb1 a0 5 0 b rfl (by omega) (by omega) (by omega) 54 93 (by omega) (by omega)
      refine ⟨r, ?_, ?_⟩
      · rw [if_neg hc]
        exact e1
      · rw [if_pos (by omega)]
        exact e2
  unfold spec_l25Scaled.f impl_unitOf.f
  by_cases hs : a0 < 0
  · obtain ⟨v, rfl⟩ : ∃ v : Nat, a0 = -(v : Int) := ⟨a0.natAbs, by omega⟩
    rw [if_pos hs, if_pos hs]
    have e1 : wrap64 (- -(v : Int)) = v := by rw [wrap_in' (by omega) (by omega)]; omega
    have e2 : IntKind.u64.wrap (-(IntKind.u64.wrap (-(v : Int)))) = v := by simp only [IntKind.wrap_u64]; omega
    rw [e1, e2]
    exact key _ v (by decide) (by omega) (numB_neg v (by omega))
  · obtain ⟨v, rfl⟩ : ∃ v : Nat, a0 = (v : Int) := ⟨a0.natAbs, by omega⟩
    rw [if_neg hs, if_neg hs, u64N (by omega)]
    refine key _ v (by decide) (by omega) ?_
    rw [numB_nat]
    show decB v = ⟨([] : List UInt8).toArray⟩ ++ decB v
    unfold decB
    rw [ba_app, List.nil_append]
def dhmsL : List ByteArray := [(⟨#[100]⟩ : ByteArray), (⟨#[104]⟩ : ByteArray), (⟨#[109]⟩ : ByteArray), (⟨#[115]⟩ : ByteArray)]
theorem dhms_at : ∀ i : Nat, i < 4 → rdOf ByteArray.empty dhmsL (i : Int) = dhms.extract i (i + 1)
  | 0, _ => by decide
  | 1, _ => by decide
  | 2, _ => by decide
  | 3, _ => by decide
theorem dhms_len (i : Nat) : (dhms.extract i (i + 1)).size ≤ 1 := by
  rw [ByteArray.size_extract]
  omega
/-- The parts of a span of time, from a place on. -/
theorem time_l (sg : ByteArray) (hsg : sg.size ≤ 1) (L : List Int) (nn : Nat → Int) (hL : L.length = 4) (hr : ∀ i : Nat, i < 4 → rd L (i : Int) = nn i) (h4 : nn 4 = 0) (hb : ∀ i, 0 ≤ nn i ∧ nn i ≤ 9223372036854775807) : ∀ (d i : Nat), 4 - i = d → i ≤ 4 → ∀ k, 30 ≤ k →
    ∃ r, spec_UnitText.l0 (k + d + 1) sg L L (L.length : Int) (i : Int) = some r ∧ utFrom sg nn d i = some r := by
  intro d
  induction d with
  | zero =>
    intro i hd hi k hk
    refine ⟨⟨#[48, 115]⟩, ?_, rfl⟩
    rw [spec_UnitText.l0, if_neg (by omega)]
  | succ d ih =>
    intro i hd hi k hk
    rw [show k + (d + 1) + 1 = (k + d + 1) + 1 by omega, spec_UnitText.l0, if_pos (by omega), if_pos (by omega), if_pos (by omega), hr i (by omega), utFrom]
    have hw : wrap64 ((i : Int) + 1) = ((i + 1 : Nat) : Int) := by rw [wrap_in' (by omega) (by omega)]; omega
    rw [hw]
    by_cases h0 : nn i = 0
    · rw [if_pos h0, if_pos h0]
      exact ih (i + 1) (by omega) (by omega) k hk
    · rw [if_neg h0, if_neg h0]
      have hn := hb i
      have hm := hb (i + 1)
      have s1 := numB_size (nn i) (by omega) (by omega)
      have s2 := numB_size (nn (i + 1)) (by omega) (by omega)
      have s3 := dhms_len i
      have s4 := dhms_len (i + 1)
      unfold utAt
      rw [itoa_ok _ (by omega) (by omega), Option.bind_some, if_pos (by omega), l2Num_ok _ (by omega) (by omega) _ (by omega), Option.bind_some, if_pos (by omega), Option.bind_some]
      have hlen : (([(⟨#[100]⟩ : ByteArray), (⟨#[104]⟩ : ByteArray), (⟨#[109]⟩ : ByteArray), (⟨#[115]⟩ : ByteArray)] : List ByteArray).length : Int) = 4 := rfl
      have e1 := dhms_at i (by omega)
      unfold dhmsL at e1
      rw [hlen, e1, if_pos (by omega), if_pos (by simp only [ByteArray.size_append]; omega)]
      by_cases h3 : (i : Int) < 3
      · have e2 := dhms_at (i + 1) (by omega)
        unfold dhmsL at e2
        rw [if_pos h3, if_pos (by omega), if_pos (by omega), hr (i + 1) (by omega)]
        by_cases hz : nn (i + 1) = 0
        · rw [if_pos hz, if_pos hz]
          exact ⟨_, rfl, rfl⟩
        · rw [if_neg hz, if_neg hz, itoa_ok _ (by omega) (by omega), Option.bind_some, if_pos (by omega), l2Num_ok _ (by omega) (by omega) _ (by omega), Option.bind_some, Option.bind_some, hlen, e2, if_pos (by omega), if_pos (by omega), if_pos (by simp only [ByteArray.size_append]; omega)]
          exact ⟨_, rfl, rfl⟩
      · obtain rfl : i = 3 := by omega
        rw [if_neg h3, if_pos h4]
        exact ⟨_, rfl, rfl⟩
theorem share_l (sg : ByteArray) (hsg : sg.size ≤ 1) (v : Nat) (hv : v < 9223372036854775808) : ∃ r, ((spec_l2Num.f 60 (wrap64 (Int.tdiv (v : Int) 10))).bind fun t117 => (if sg.size + t117.size ≤ 9223372036854775807 then (if (sg ++ t117).size + 1 ≤ 9223372036854775807 then ((spec_l2Num.f 60 (Int.tmod (v : Int) 10)).bind fun t118 => (if ((sg ++ t117) ++ (⟨#[46]⟩ : ByteArray)).size + t118.size ≤ 9223372036854775807 then (if (((sg ++ t117) ++ (⟨#[46]⟩ : ByteArray)) ++ t118).size + 1 ≤ 9223372036854775807 then (some ((((sg ++ t117) ++ (⟨#[46]⟩ : ByteArray)) ++ t118) ++ (⟨#[37]⟩ : ByteArray))) else (none)) else (none))) else (none)) else (none))) = some r ∧ utShare sg (v : Int) = some r := by
  have s1 := decB_size (u := v / 10) (by omega)
  have s2 := decB_size (u := v % 10) (by omega)
  have s0 : (⟨#[46]⟩ : ByteArray).size = 1 := rfl
  have d1 : Int.tdiv (v : Int) 10 = ((v / 10 : Nat) : Int) := rfl
  have d2 : Int.tmod (v : Int) 10 = ((v % 10 : Nat) : Int) := rfl
  have d3 : (v : Int) / 10 = ((v / 10 : Nat) : Int) := rfl
  have d4 : (v : Int) % 10 = ((v % 10 : Nat) : Int) := rfl
  unfold utShare
  rw [d1, d2, d3, d4, wrapN (by omega), l2Nat (by omega) 60 (by omega), l2Nat (by omega) 60 (by omega), itoa_ok _ (by omega) (by omega), itoa_ok _ (by omega) (by omega), numB_nat, numB_nat, Option.bind_some, Option.bind_some, Option.bind_some, Option.bind_some,
    if_pos (by omega), if_pos (by simp only [ByteArray.size_append]; omega), if_pos (by simp only [ByteArray.size_append]; omega), if_pos (by simp only [ByteArray.size_append]; omega), if_pos (by omega), if_pos (by omega)]
  exact ⟨_, rfl, rfl⟩
theorem law_unit (a0 a1 : Int) (w0 : (Lit.int .i64 a0).wf = true) : ∃ k, laws_FnExactUnitText.f k a0 a1 = some true := by
  have hb : -9223372036854775808 ≤ a0 ∧ a0 ≤ 9223372036854775807 := by
    simpa [Lit.wf, IntKind.min, IntKind.max, IntKind.signed, IntKind.bits] using w0
  have key : ∃ r, spec_UnitText.f 61 a0 a1 = some r ∧ impl_UnitText.f a0 a1 = some r := by
    unfold spec_UnitText.f impl_UnitText.f
    rw [if_pos hb]
    by_cases hm : a0 = -9223372036854775808
    · rw [if_pos hm, if_pos hm]
      exact ⟨_, rfl, rfl⟩
    · rw [if_neg hm, if_neg hm]
      -- the sign and the size
      obtain ⟨sg, v, hsg, hv, hsp, hsh, hti, hval⟩ : ∃ (sg : ByteArray) (v : Nat), sg.size ≤ 1 ∧ v < 9223372036854775808 ∧
          (if a0 < 0 then (spec_UnitText.j0 61 a0 a1 (⟨#[45]⟩ : ByteArray) (wrap64 (-a0))) else (spec_UnitText.j0 61 a0 a1 (⟨#[]⟩ : ByteArray) a0)) = spec_UnitText.j0 61 a0 a1 sg (v : Int) ∧
          (if a0 < 0 then utShare ⟨#[45]⟩ (-a0) else utShare ⟨#[]⟩ a0) = utShare sg (v : Int) ∧
          (if a0 < 0 then utFrom ⟨#[45]⟩ (utPart (-a0)) 4 0 else utFrom ⟨#[]⟩ (utPart a0) 4 0) = utFrom sg (utPart (v : Int)) 4 0 ∧ True := by
        by_cases hs : a0 < 0
        · obtain ⟨v, rfl⟩ : ∃ v : Nat, a0 = -(v : Int) := ⟨a0.natAbs, by omega⟩
          have e1 : wrap64 (- -(v : Int)) = v := by rw [wrap_in' (by omega) (by omega)]; omega
          refine ⟨⟨#[45]⟩, v, by decide, by omega, ?_, ?_, ?_, trivial⟩
          · rw [if_pos hs, e1]
          · rw [if_pos hs, Int.neg_neg]
          · rw [if_pos hs, Int.neg_neg]
        · obtain ⟨v, rfl⟩ : ∃ v : Nat, a0 = (v : Int) := ⟨a0.natAbs, by omega⟩
          refine ⟨⟨#[]⟩, v, by decide, by omega, ?_, ?_, ?_, trivial⟩
          · rw [if_neg hs]
          · rw [if_neg hs]
          · rw [if_neg hs]
      rw [hsp, hsh, hti]
      show ∃ r, spec_UnitText.j0 (60 + 1) _ _ _ _ = _ ∧ _
      rw [spec_UnitText.j0]
      by_cases c1 : a1 = 1
      · rw [if_pos c1, if_pos c1, l2Num_ok a0 hb.1 hb.2 60 (by omega), itoa_ok a0 hb.1 hb.2]
        exact ⟨_, rfl, rfl⟩
      · rw [if_neg c1, if_neg c1]
        by_cases c2 : a1 = 2
        · obtain ⟨r, e1, e2⟩ := scale_eq [(⟨#[75, 105]⟩ : ByteArray), (⟨#[77, 105]⟩ : ByteArray), (⟨#[71, 105]⟩ : ByteArray), (⟨#[84, 105]⟩ : ByteArray), (⟨#[80, 105]⟩ : ByteArray), (⟨#[69, 105]⟩ : ByteArray)] (by decide) rfl 1024 (by omega) (by omega) a0 (by omega) hb.2
          rw [if_neg (by omega), if_neg (by omega), if_pos c2, if_pos c2]
          exact ⟨r, by rw [show ((1024 : Nat) : Int) = 1024 from rfl] at e1; rw [e1]; rfl, e2⟩
        · rw [if_neg c2, if_neg c2]
          by_cases c5 : a1 = 5
          · obtain ⟨r, e1, e2⟩ := scale_eq [(⟨#[107]⟩ : ByteArray), (⟨#[77]⟩ : ByteArray), (⟨#[71]⟩ : ByteArray), (⟨#[84]⟩ : ByteArray), (⟨#[80]⟩ : ByteArray), (⟨#[69]⟩ : ByteArray)] (by decide) rfl 1000 (by omega) (by omega) a0 (by omega) hb.2
            rw [if_neg (by omega), if_pos c5, if_pos c5]
            exact ⟨r, by rw [show ((1000 : Nat) : Int) = 1000 from rfl] at e1; rw [e1]; rfl, e2⟩
          · rw [if_neg c5, if_neg c5]
            by_cases c4 : a1 = 4
            · rw [if_pos c4, if_pos c4]
              exact share_l sg hsg v hv
            · rw [if_neg c4, if_neg c4]
              by_cases c3 : a1 = 3
              · rw [if_pos c3, if_pos c3, Option.bind_some]
                have hL := time_l sg hsg [wrap64 (Int.tdiv (v : Int) 86400), Int.tmod (wrap64 (Int.tdiv (v : Int) 3600)) 24, Int.tmod (wrap64 (Int.tdiv (v : Int) 60)) 60, Int.tmod (v : Int) 60] (utPart (v : Int)) rfl ?_ rfl ?_ 4 0 rfl (by omega) 55 (by omega)
                · exact hL
                · have q1 : wrap64 (Int.tdiv (v : Int) 86400) = (v : Int) / 86400 := by rw [show Int.tdiv (v : Int) 86400 = ((v / 86400 : Nat) : Int) from rfl, wrapN (by omega)]; rfl
                  have q2 : Int.tmod (wrap64 (Int.tdiv (v : Int) 3600)) 24 = (v : Int) / 3600 % 24 := by rw [show Int.tdiv (v : Int) 3600 = ((v / 3600 : Nat) : Int) from rfl, wrapN (by omega)]; rfl
                  have q3 : Int.tmod (wrap64 (Int.tdiv (v : Int) 60)) 60 = (v : Int) / 60 % 60 := by rw [show Int.tdiv (v : Int) 60 = ((v / 60 : Nat) : Int) from rfl, wrapN (by omega)]; rfl
                  have q4 : Int.tmod (v : Int) 60 = (v : Int) % 60 := rfl
                  intro i hi
                  rw [q1, q2, q3, q4]
                  match i, hi with
                  | 0, _ => rfl
                  | 1, _ => rfl
                  | 2, _ => rfl
                  | 3, _ => rfl
                · intro i
                  match i with
                  | 0 => show 0 ≤ (v : Int) / 86400 ∧ _; exact ⟨by omega, by show (v : Int) / 86400 ≤ _; omega⟩
                  | 1 => show 0 ≤ (v : Int) / 3600 % 24 ∧ _; exact ⟨by omega, by show (v : Int) / 3600 % 24 ≤ _; omega⟩
                  | 2 => show 0 ≤ (v : Int) / 60 % 60 ∧ _; exact ⟨by omega, by show (v : Int) / 60 % 60 ≤ _; omega⟩
                  | 3 => show 0 ≤ (v : Int) % 60 ∧ _; exact ⟨by omega, by show (v : Int) % 60 ≤ _; omega⟩
                  | 4 => exact ⟨Int.le_refl 0, by show (0 : Int) ≤ _; omega⟩
                  | i + 5 => exact ⟨by simp [utPart], by simp [utPart]⟩
              · rw [if_neg c3, if_neg c3]
                exact ⟨_, rfl, rfl⟩
  obtain ⟨r, h1, h2⟩ := key
  refine ⟨61, ?_⟩
  unfold laws_FnExactUnitText.f
  rw [h1, Option.bind_some, h2, Option.bind_some, if_pos rfl]
end Go.Proofs.YtffclnopnhodoaaDoor.L
