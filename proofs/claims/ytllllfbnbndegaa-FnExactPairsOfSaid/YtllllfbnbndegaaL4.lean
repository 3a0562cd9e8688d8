/- Plain laws on the pieces of a text. -/
import Derived.Test.YtllllfbnbndegaaL3
namespace Go.Proofs.Ytllllfbnbndegaa.L
open Go.RowKit Go.Proofs.Ytllllfbnbndegaa.P Go.Proofs.YtllllfbnbndegaaW.PrintWords Go.Proofs.YtllllfbnbndegaaW.PrintLast
set_option linter.unusedVariables false

theorem ext_app (s : ByteArray) {a b c : Nat} (h1 : a ≤ b) (h2 : b ≤ c) : s.extract a b ++ s.extract b c = s.extract a c := by
  rw [ByteArray.extract_append_extract, Nat.min_eq_left h1, Nat.max_eq_right h2]
theorem ext_self (s : ByteArray) (a : Nat) : (⟨#[]⟩ : ByteArray) = s.extract a a := by
  apply ba_ext
  rw [toList_eq, toList_eq]
  simp
theorem ext_size (s : ByteArray) {a b : Nat} (h : b ≤ s.size) : (s.extract a b).size = b - a := by
  rw [ByteArray.size_extract, Nat.min_eq_left h]
theorem spec_pieces_l (s : ByteArray) (hs : s.size ≤ 1000) : ∀ m k i fr q out, s.size < i + m → i ≤ s.size → fr ≤ i → out.length ≤ i → 2 * m ≤ k →
    spec_l22Pieces.l0 k s out (s.extract fr i) q (i : Int) = some (out ++ pcF s m i fr q) := by
  intro m
  induction m with
  | zero => intro k i fr q out h1 h2 h3 h4 h5; omega
  | succ m ih =>
    intro k i fr q out h1 h2 h3 h4 h5
    obtain ⟨k, rfl⟩ : ∃ n, k = n + 2 := ⟨k - 2, by omega⟩
    simp only [spec_l22Pieces.l0, pcF]
    rw [wrap_in (i := (i : Int) + 1) (by omega) (by omega)]
    by_cases c0 : i < s.size
    · rw [if_pos (by omega), if_pos c0]
      have hF : ∀ b : Bool, b = false → ¬ (q = true ∧ bt s (i : Int) = 92 ∧ i + 1 < s.size) → spec_l22Pieces.j1 (k + 1) s out (s.extract fr i) q (i : Int) b = some (out ++ if bt s (i : Int) = 32 ∧ q = false then s.extract fr i :: pcF s m (i + 1) (i + 1) q
       else if q = true ∧ bt s (i : Int) = 92 ∧ i + 1 < s.size then pcF s m (i + 2) fr q
       else if bt s (i : Int) = 34 then pcF s m (i + 1) fr (!q)
       else pcF s m (i + 1) fr q) := by
        intro b hb hne
        subst hb
        simp only [spec_l22Pieces.j1]
        rw [if_neg (by simp), if_pos (by omega), if_pos (by omega), wrap_in (i := (i : Int) + 1) (by omega) (by omega), show ((i : Int) + 1) = ((i + 1 : Nat) : Int) from rfl]
        simp only [Int.toNat_natCast]
        rw [if_neg hne, ext_app s h3 (by omega : i ≤ i + 1), ext_size s h2, ext_size s (by omega : i + 1 ≤ s.size)]
        by_cases c1 : bt s (i : Int) = 34
        · rw [if_pos c1, if_pos (by omega), if_pos (by omega), if_pos (by omega), if_neg (by omega), if_pos c1]
          exact ih k (i + 1) fr (!q) out (by omega) (by omega) (by omega) (by omega) (by omega)
        · rw [if_neg c1]
          by_cases c2 : bt s (i : Int) = 32
          · rw [if_pos c2]
            cases q with
            | true =>
              rw [if_pos rfl, if_pos (by omega), if_pos (by omega), if_pos (by omega), if_neg (by simp), if_neg c1]
              exact ih k (i + 1) fr true out (by omega) (by omega) (by omega) (by omega) (by omega)
            | false =>
              rw [if_neg (by simp), if_pos (by omega), if_pos ⟨c2, rfl⟩]
              rw [ext_self s (i + 1), ih k (i + 1) (i + 1) false _ (by omega) (by omega) (by omega) (by simp; omega) (by omega)]
              simp
          · rw [if_neg c2, if_pos (by omega), if_pos (by omega), if_pos (by omega), if_neg (fun h => c2 h.1), if_neg c1]
            exact ih k (i + 1) fr q out (by omega) (by omega) (by omega) (by omega) (by omega)
      by_cases c3 : q = true
      · rw [if_pos c3, if_pos (by omega)]
        by_cases c4 : bt s (i : Int) = 92
        · rw [if_pos c4]
          by_cases c5 : i + 1 < s.size
          · rw [decide_eq_true (by omega)]
            simp only [spec_l22Pieces.j1]
            rw [if_pos trivial, if_pos (by omega), wrap_in (i := (i : Int) + 2) (by omega) (by omega), wrap_in (i := (i : Int) + 1) (by omega) (by omega), show ((i : Int) + 2) = ((i + 2 : Nat) : Int) from rfl]
            simp only [Int.toNat_natCast]
            rw [ext_size s h2, ext_size s (by omega : i + 2 ≤ s.size), ext_app s h3 (by omega : i ≤ i + 2), if_pos (by omega), if_pos (by omega), if_pos (by omega), wrap_in (i := (i : Int) + 1 + 1) (by omega) (by omega), show (i : Int) + 1 + 1 = ((i + 2 : Nat) : Int) from rfl]
            rw [if_neg (by omega), if_pos ⟨c3, c4, c5⟩]
            exact ih k (i + 2) fr q out (by omega) (by omega) (by omega) (by omega) (by omega)
          · rw [decide_eq_false (by omega)]
            exact hF _ rfl (fun h => c5 h.2.2)
        · rw [if_neg c4]
          exact hF _ rfl (fun h => c4 h.2.1)
      · rw [if_neg c3]
        exact hF _ rfl (fun h => c3 h.1)
    · rw [if_neg (by omega), if_neg c0, if_pos (by omega)]
      rw [show i = s.size by omega]
theorem impl_pieces_l (s : ByteArray) (hs : s.size ≤ 1000) : ∀ m k i fr q out, s.size < i + m → i ≤ s.size → fr ≤ i → out.length ≤ i → 2 * m + 1 ≤ k →
    impl_pieces.l0 k s out (fr : Int) q (i : Int) = some (out ++ (pcF s m i fr q).filter fun p => decide (0 < p.size)) := by
  intro m
  induction m with
  | zero => intro k i fr q out h1 h2 h3 h4 h5; omega
  | succ m ih =>
    intro k i fr q out h1 h2 h3 h4 h5
    obtain ⟨k, rfl⟩ : ∃ n, k = n + 3 := ⟨k - 3, by omega⟩
    simp only [impl_pieces.l0, pcF]
    rw [if_pos (by omega)]
    by_cases c0 : i < s.size
    · rw [if_neg (by omega), if_pos (by omega), if_pos (by omega), if_pos c0]
      have hT : ∀ b : Bool, b = true → bt s (i : Int) = 32 → q = false → impl_pieces.j1 (k + 2) s out (fr : Int) q (i : Int) b = some (out ++ (s.extract fr i :: pcF s m (i + 1) (i + 1) q).filter fun p => decide (0 < p.size)) := by
        intro b hb c1 c2
        subst hb
        simp only [impl_pieces.j1]
        rw [if_pos trivial, wrap_in (i := (i : Int) + 1) (by omega) (by omega), show ((i : Int) + 1) = ((i + 1 : Nat) : Int) from rfl]
        simp only [Int.toNat_natCast]
        have hz := ext_size s (a := fr) h2
        by_cases c3 : fr < i
        · rw [if_pos (by omega), if_pos (by omega), if_pos (by omega), if_pos (by omega), if_pos (by omega)]
          rw [ih (k + 1) (i + 1) (i + 1) q _ (by omega) (by omega) (by omega) (by simp; omega) (by omega)]
          rw [List.filter_cons_of_pos (by rw [hz]; exact decide_eq_true (by omega))]
          simp
        · rw [if_neg (by omega)]
          rw [ih (k + 1) (i + 1) (i + 1) q _ (by omega) (by omega) (by omega) (by omega) (by omega)]
          rw [List.filter_cons_of_neg (by rw [hz]; simp; omega)]
      have hF : ∀ b : Bool, b = false → ¬ (bt s (i : Int) = 32 ∧ q = false) → impl_pieces.j1 (k + 2) s out (fr : Int) q (i : Int) b = some (out ++ (if q = true ∧ bt s (i : Int) = 92 ∧ i + 1 < s.size then pcF s m (i + 2) fr q
       else if bt s (i : Int) = 34 then pcF s m (i + 1) fr (!q)
       else pcF s m (i + 1) fr q).filter fun p => decide (0 < p.size)) := by
        intro b hb hne
        subst hb
        simp only [impl_pieces.j1]
        rw [if_neg (by simp), if_pos (by omega), if_pos (by omega), wrap_in (i := (i : Int) + 1) (by omega) (by omega), show ((i : Int) + 1) = ((i + 1 : Nat) : Int) from rfl]
        rw [ih (k + 1) (i + 1) fr (!q) out (by omega) (by omega) (by omega) (by omega) (by omega), ih (k + 1) (i + 1) fr q out (by omega) (by omega) (by omega) (by omega) (by omega)]
        by_cases c1 : bt s (i : Int) = 34
        · rw [if_pos c1, if_neg (by omega), if_pos c1]
        · rw [if_neg c1, if_neg c1]
          by_cases c2 : bt s (i : Int) = 92
          · rw [if_pos c2]
            by_cases c3 : q = true
            · rw [if_pos c3]
              by_cases c4 : i + 1 < s.size
              · rw [if_pos (by omega), if_pos ⟨c3, c2, c4⟩, wrap_in (by omega) (by omega), show ((i + 1 : Nat) : Int) + 1 = ((i + 2 : Nat) : Int) from rfl]
                exact ih (k + 1) (i + 2) fr q out (by omega) (by omega) (by omega) (by omega) (by omega)
              · rw [if_neg (by omega), if_neg (fun h => c4 h.2.2)]
            · rw [if_neg c3, if_neg (fun h => c3 h.1)]
          · rw [if_neg c2, if_neg (fun h => c2 h.2.1)]
      by_cases c1 : bt s (i : Int) = 32
      · rw [if_pos c1]
        cases q with
        | false => rw [if_pos ⟨c1, rfl⟩]; exact hT _ rfl c1 rfl
        | true => rw [if_neg (fun h => by cases h.2)]; exact hF _ rfl (fun h => by cases h.2)
      · rw [if_neg c1, if_neg (fun h => c1 h.1)]
        exact hF _ rfl (fun h => c1 h.1)
    · have hi : i = s.size := by omega
      subst hi
      rw [if_pos rfl, if_neg c0]
      simp only [impl_pieces.j1]
      rw [if_pos trivial, wrap_in (by omega) (by omega)]
      have hz := ext_size s (a := fr) h2
      by_cases c3 : fr < s.size
      · rw [if_pos (by omega), if_pos (by omega), if_pos (by omega), if_pos (by omega), if_pos (by omega)]
        rw [List.filter_cons_of_pos (by rw [hz]; exact decide_eq_true (by omega))]
        simp only [impl_pieces.l0]
        rw [if_neg (by omega)]
        rfl
      · rw [if_neg (by omega)]
        rw [List.filter_cons_of_neg (by rw [hz]; simp; omega)]
        simp only [impl_pieces.l0]
        rw [if_neg (by omega)]
        simp
/-- The pieces of a text. -/
def pcs (s : ByteArray) : List ByteArray := pcF s (s.size + 1) 0 0 false
theorem spec_pieces (s : ByteArray) (hs : s.size ≤ 1000) (k : Nat) (hk : 2 * s.size + 3 ≤ k) : spec_l22Pieces.f k s = some (pcs s) := by
  unfold spec_l22Pieces.f
  rw [ext_self s 0]
  have h := spec_pieces_l s hs (s.size + 1) k 0 0 false [] (by omega) (by omega) (by omega) (by simp) (by omega)
  exact h
theorem impl_pcs (s : ByteArray) (hs : s.size ≤ 1000) (k : Nat) (hk : 2 * s.size + 5 ≤ k) : impl_pieces.f k s = some ((pcs s).filter fun p => decide (0 < p.size)) := by
  unfold impl_pieces.f
  have h := impl_pieces_l s hs (s.size + 1) k 0 0 false [] (by omega) (by omega) (by omega) (by simp) (by omega)
  exact h
theorem pcF_size (s : ByteArray) : ∀ m i fr q p, p ∈ pcF s m i fr q → p.size ≤ s.size := by
  intro m
  induction m with
  | zero => intro i fr q p h; simp [pcF] at h
  | succ m ih =>
    intro i fr q p h
    simp only [pcF] at h
    split at h
    · split at h
      · rcases List.mem_cons.1 h with rfl | h
        · rw [ByteArray.size_extract]; omega
        · exact ih _ _ _ _ h
      · split at h
        · exact ih _ _ _ _ h
        · split at h
          · exact ih _ _ _ _ h
          · exact ih _ _ _ _ h
    · simp at h
      rw [h, ByteArray.size_extract]; omega
theorem pcF_length (s : ByteArray) : ∀ m i fr q, (pcF s m i fr q).length ≤ m := by
  intro m
  induction m with
  | zero => intro i fr q; simp [pcF]
  | succ m ih =>
    intro i fr q
    simp only [pcF]
    split
    · split
      · have := ih (i + 1) (i + 1) q; simp; omega
      · split
        · have := ih (i + 2) fr q; omega
        · split
          · have := ih (i + 1) fr (!q); omega
          · have := ih (i + 1) fr q; omega
    · simp
end Go.Proofs.Ytllllfbnbndegaa.L
