/- Plain laws: what the two programs tell of a form and a text; the law. -/
import Derived.Test.YtllllfbnbndegaaM4
namespace Go.Proofs.Ytllllfbnbndegaa.L
open Go.RowKit Go.Proofs.Ytllllfbnbndegaa.Q Go.Proofs.YtllllfbnbndegaaW.PrintWords Go.Proofs.YtllllfbnbndegaaW.PrintLast
open Go.Proofs.YtllllfbnbndegaaU
set_option linter.unusedVariables false

def ptR (s : ByteArray) : Option (List S62 × Nat) → List S62 × Bool
  | some c => (sortLabs c.1, decide (c.2 = s.size))
  | none => ([], false)
theorem ext_all (s : ByteArray) : s.extract 0 s.size = s := by simp
theorem fr_empty (s p : ByteArray) (h : p.size = 0) : fr s p = true := by
  unfold fr
  rw [h, decide_eq_true_iff]
  apply ba_ext
  have := toList_nil.2 h
  rw [this, toList_nil]
  simp
theorem rd_first (out : List S108) (t : ByteArray) : (rd_T108 (out ++ [⟨t, ⟨#[]⟩⟩]) 0).f0 = hd out t := by
  cases out with
  | nil => rfl
  | cons h r => rfl
theorem impl_pt (s : ByteArray) (hs : s.size ≤ 500) (b : List S108 × ByteArray) (hb : FmInv b.1 b.2 1000) (k : Nat) (hk : 4000 ≤ k) : impl_partsOf.f k (b.1 ++ [⟨b.2, ⟨#[]⟩⟩]) s = some (ptR s (pt s b)) := by
  obtain ⟨out, t⟩ := b
  simp only at hb ⊢
  have hl := hb.len
  unfold impl_partsOf.f pt
  rw [rd_first, cutPrefix_ok, Option.bind_some, if_pos (by simp)]
  by_cases c : fr s (hd out t) = true
  · have hle := fr_le c
    rw [if_pos c, if_pos rfl, if_pos c]
    have e1 : wrap64 (((out ++ [(⟨t, ⟨#[]⟩⟩ : S108)]).length : Int) - 1) = (out.length : Int) := by
      rw [show ((out ++ [(⟨t, ⟨#[]⟩⟩ : S108)]).length : Int) - 1 = (out.length : Int) by simp]
      exact wrap_in (by omega) (by omega)
    rw [e1, if_pos (by omega), if_pos (by simp; omega), Option.bind_some, Int.toNat_natCast, List.take_left]
    have h := impl_parts_l s (by omega) out hl t out [] (hd out t).size [] k rfl hle rfl (by omega) (fun h hh => (hb.each h hh).2) hb.size
    rw [show (([] : List S108).length : Int) = 0 from rfl] at h
    show impl_partsOf.l0 k _ _ _ _ _ _ = _
    rw [h]
    cases pm s (nx out t) (hd out t).size <;> rfl
  · rw [if_neg c, if_neg (by simp), if_neg c]
    rfl
theorem spec_pt (f s : ByteArray) (hf : f.size ≤ 2000000) (hs : s.size ≤ 500) (b : List S108 × ByteArray) (hfm : form f = some b) (k : Nat) (hk : 4000000 ≤ k) : spec_l22Parts.f k f s = some (ptR s (pt s b)) := by
  have hb := form_inv hfm
  have hsz : b.1.length ≤ 100 := form_len hfm
  unfold spec_l22Parts.f
  rw [spec_form f hf k hk, Option.bind_some, hfm]
  obtain ⟨out, t⟩ := b
  simp only at hb hsz
  simp only [fmS]
  have hl := hb.len
  have hL : (tg out ++ tl t).length ≤ 5000 := by
    have h1 := tg_length out
    have h2 := tl_length t
    rw [List.length_append]; omega
  have hgo : ∀ (pre : List (ByteArray × Bool)) (kk : Nat), tg out ++ tl t = pre ++ pX out t → (hd out t).size ≤ s.size → 20000 ≤ kk → spec_l22Parts.l0 kk s (fst_ (tg out ++ tl t)) (snd_ (tg out ++ tl t)) [] ((hd out t).size : Int) (fst_ (tg out ++ tl t)) ((fst_ (tg out ++ tl t)).length : Int) (pre.length : Int) = some (ptR s (pm s (nx out t) (hd out t).size)) := by
    intro pre kk hpre hle hkk
    rw [spec_parts_l s (by omega) t hb.size _ hL out pre (hd out t).size [] kk hpre hle (by omega) hb.diff hb.each hb.mid (by simp; omega) (by simp)]
    cases e : pm s (nx out t) (hd out t).size with
    | none => rfl
    | some c =>
      show some (c.1.foldl (fun l x => ins x l) [], decide (c.2 = s.size)) = some (sortLabs c.1, decide (c.2 = s.size))
      rw [same_end hb.diff e]
  unfold pt
  by_cases c0 : (hd out t).size = 0
  · have h := hgo [] k (by rw [tg_pX]; unfold tl; rw [if_pos c0]) (by omega) (by omega)
    rw [c0] at h
    rw [if_pos (fr_empty s _ c0), c0]
    exact h
  · obtain ⟨k, rfl⟩ : ∃ m, k = m + 1 := ⟨k - 1, by omega⟩
    have htl : tl (hd out t) = [(hd out t, false)] := by unfold tl; rw [if_neg c0]
    have hX := tg_pX out t
    rw [htl] at hX
    have hflen : (fst_ (tg out ++ tl t)).length = 1 + (pX out t).length := by rw [hX]; simp [fst_]; omega
    have hglen : (snd_ (tg out ++ tl t)).length = 1 + (pX out t).length := by rw [hX]; simp [snd_]; omega
    have e1 : rdOf false (snd_ (tg out ++ tl t)) 0 = false := by rw [hX]; rfl
    have e2 : rdOf ByteArray.empty (fst_ (tg out ++ tl t)) 0 = hd out t := by rw [hX]; rfl
    simp only [spec_l22Parts.l0]
    rw [if_pos (by omega), if_pos (by omega), if_pos (by omega), if_pos (by omega), e1, e2, if_neg (by simp), if_pos (by omega), if_pos (by omega), show (0 : Int).toNat = 0 from rfl, ext_all, head_fr, Option.bind_some]
    by_cases c : fr s (hd out t) = true
    · have hle := fr_le c
      rw [if_pos c, if_pos c, wrap_in (i := (0 : Int) + ((hd out t).size : Int)) (by omega) (by omega), wrap_in (i := (0 : Int) + 1) (by omega) (by omega), Int.zero_add]
      exact hgo [(hd out t, false)] k hX hle (by omega)
    · rw [if_neg c, if_neg c]
      rfl
theorem told_spec (f s : ByteArray) (hf : f.size ≤ 2000000) (hs : s.size ≤ 2000000) (k : Nat) (hk : 4000001 ≤ k) : spec_PartsOf.f k f s = some (told f s) := by
  obtain ⟨k, rfl⟩ : ∃ m, k = m + 1 := ⟨k - 1, by omega⟩
  unfold spec_PartsOf.f told
  rw [spec_form f hf _ (by omega), Option.bind_some]
  cases e : form f with
  | none =>
    show (if false = true then _ else _) = _
    rw [if_neg (by simp)]
    simp only [spec_PartsOf.j0]
    rfl
  | some b =>
    show (if decide (0 < b.1.length) = true then _ else _) = some (if 0 < b.1.length ∧ s.size ≤ 500 ∧ printedB s = true then _ else _)
    by_cases c0 : 0 < b.1.length
    · rw [if_pos (decide_eq_true c0)]
      unfold spec_l22Text.f
      by_cases c1 : s.size ≤ 500
      · rw [if_pos (by omega), spec_print s _ (by omega) (by omega), Option.bind_some, Option.bind_some]
        simp only [spec_PartsOf.j0]
        by_cases c2 : printedB s = true
        · rw [if_neg (by simp [c2]), if_pos ⟨c0, c1, c2⟩, spec_pt f s hf c1 b e k (by omega), Option.bind_some]
          cases pt s b with
          | none => rfl
          | some c => by_cases c3 : c.2 = s.size <;> simp [ptR, c3]
        · rw [if_pos (by simp [c2]), if_neg (fun h => c2 h.2.2)]
      · rw [if_neg (by omega), Option.bind_some, if_neg (fun h => c1 h.2.1)]
        simp only [spec_PartsOf.j0]
        rfl
    · rw [if_neg (by simpa using c0), if_neg (fun h => c0 h.1)]
      simp only [spec_PartsOf.j0]
      rfl
theorem told_impl (f s : ByteArray) (hf : f.size ≤ 2000000) (hs : s.size ≤ 2000000) (k : Nat) (hk : 4000001 ≤ k) : impl_PartsOf.f k f s = some (told f s) := by
  obtain ⟨k, rfl⟩ : ∃ m, k = m + 1 := ⟨k - 1, by omega⟩
  unfold impl_PartsOf.f told
  rw [impl_form f hf, Option.bind_some]
  cases e : form f with
  | none =>
    show (if false = true then _ else _) = _
    rw [if_neg (by simp)]
    simp only [impl_PartsOf.j0]
    rfl
  | some b =>
    show (if decide (0 < b.1.length) = true then _ else _) = some (if 0 < b.1.length ∧ s.size ≤ 500 ∧ printedB s = true then _ else _)
    by_cases c0 : 0 < b.1.length
    · rw [if_pos (decide_eq_true c0), impl_print s 500 _ (by omega) (by omega), Option.bind_some]
      simp only [impl_PartsOf.j0]
      by_cases c1 : s.size ≤ 500
      · by_cases c2 : printedB s = true
        · rw [if_neg (by simp [c2]; omega), if_pos ⟨c0, c1, c2⟩]
          show (impl_partsOf.f k (b.1 ++ [⟨b.2, ⟨#[]⟩⟩]) s).bind _ = _
          rw [impl_pt s c1 b (form_inv e) k (by omega), Option.bind_some]
          cases pt s b with
          | none => rfl
          | some c => by_cases c3 : c.2 = s.size <;> simp [ptR, c3]
        · rw [if_pos (by simp [c2]), if_neg (fun h => c2 h.2.2)]
      · rw [if_pos (by simp; omega), if_neg (fun h => c1 h.2.1)]
    · rw [if_neg (by simpa using c0), if_neg (fun h => c0 h.1)]
      simp only [impl_PartsOf.j0]
      rfl
theorem pm_length (s : ByteArray) (out : List S108) (t : ByteArray) (a : Nat) (b : List S62 × Nat) (h : pm s (nx out t) a = some b) : b.1.length = out.length := by
  have := congrArg List.length (pm_names s t out a b h)
  simpa using this
theorem told_len (f s : ByteArray) : (told f s).1.length ≤ 1000 := by
  unfold told
  cases e : form f with
  | none => simp
  | some b =>
    have hb := (form_inv e).len
    show (if 0 < b.1.length ∧ s.size ≤ 500 ∧ printedB s = true then _ else _ : List S62 × Bool).1.length ≤ 1000
    split
    · cases e2 : pt s b with
      | none => simp
      | some c =>
        show (if c.2 = s.size then (sortLabs c.1, true) else ([], false) : List S62 × Bool).1.length ≤ 1000
        split
        · unfold pt at e2
          split at e2
          · have h1 := pm_length s b.1 b.2 _ c e2
            have h2 : (sortLabs c.1).length = c.1.length := sortBy_length cmpLab swoLab c.1
            show (sortLabs c.1).length ≤ 1000
            omega
          · cases e2
        · simp
    · simp
theorem law_parts (f s : ByteArray) : ∃ k, laws_FnExactPartsOf.f k f s = some true := by
  refine ⟨5000000, ?_⟩
  unfold laws_FnExactPartsOf.f
  by_cases c : (f.size : Int) > 1048576
  · rw [if_pos c]
  · by_cases c' : (s.size : Int) > 1048576
    · rw [if_neg c, if_pos c']
    · have hl := told_len f s
      rw [if_neg c, if_neg c', told_spec f s (by omega) (by omega) _ (by omega), Option.bind_some, told_impl f s (by omega) (by omega) _ (by omega), Option.bind_some, eqLabelS_self _ (by omega) _ (by omega), Option.bind_some, if_pos rfl]
      rw [show (5000000 : Nat) = 4999999 + 1 from rfl]
      simp only [laws_FnExactPartsOf.j0]
      rw [if_neg (by simp), markLabelS_ok _ (by omega) _ (by omega), Option.bind_some, heldLabelS_ok _ (by omega) _ (by omega), Option.bind_some, if_neg (by omega), if_pos rfl, told_impl f s (by omega) (by omega) _ (by omega), Option.bind_some, eqLabelS_self _ (by omega) _ (by omega), Option.bind_some, if_pos rfl]
      rw [show (4999999 : Nat) = 4999998 + 1 from rfl]
      simp only [laws_FnExactPartsOf.j1]
      rw [if_neg (by simp), heldLabelS_ok _ (by omega) _ (by omega), Option.bind_some, if_neg (by omega), if_pos rfl]
end Go.Proofs.Ytllllfbnbndegaa.L
