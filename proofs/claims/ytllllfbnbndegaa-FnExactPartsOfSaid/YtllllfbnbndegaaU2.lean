/- Words of my own: a map of strings to bools that the call made, as a set of strings. -/
import Derived.Test.YtllllfbnbndegaaWWords
import Derived.Maps.OwnOps
import Derived.Maps.OwnSet
import Derived.Maps.Views
import Derived.StringKeys
namespace Go.Proofs.YtllllfbnbndegaaU
open Go.RowKit Go.Proofs.YtllllfbnbndegaaW.PrintWords Go.Maps Go.WideMaps
set_option linter.unusedVariables false

/-- Block b is a map[string]bool of at most n entries; what it says of a key is f. -/
def MapS (P : Program) (K E : TypeId) (w : World) (b n : Nat) (f : ByteArray → Bool) : Prop :=
  ∃ D : DataW Unit, w.ownsMap P K (plainElem P E) b n D ∧ ∀ s : ByteArray, s.size ≤ maxLen → D.atKey (.string s.data.toList) (.lit (.bool false)) = .lit (.bool (f s))

theorem plainElem_bool_inv {H : Type} {P : Program} {e : TypeId} (he : P.underlying e = some .bool) {v : Value} {z : DataW H × List MemPlace} (h : plainElem P e v = some z) : ∃ a, v = .bool a ∧ z = (.lit (.bool a), []) := by
  unfold plainElem at h
  rw [he] at h
  cases v <;> simp at h
  exact ⟨_, rfl, h.symm⟩

theorem MapS.made {P : Program} {K E : TypeId} (w : World) : MapS P K E (w.alloc (.map #[] 0)) w.heap.size 0 (fun _ => false) :=
  ⟨.map [], World.ownsMap_made _ _ _ _, fun s _ => rfl⟩

theorem MapS.kept {P : Program} {K E : TypeId} {w w' : World} {b n : Nat} {f : ByteArray → Bool} {row : Option Nat} (h : MapS P K E w b n f) (hg : w.grownBy w' row) (hne : some b ≠ row) : MapS P K E w' b n f := by
  obtain ⟨D, h1, h2⟩ := h
  exact ⟨D, h1.kept hg hne, h2⟩

theorem MapS.below {P : Program} {K E : TypeId} {w w' : World} {b n : Nat} {f : ByteArray → Bool} (h : MapS P K E w b n f) (hb : Below w.heap.size w w') : MapS P K E w' b n f :=
  h.kept (grown_of_below hb none) (by simp)

theorem MapS.lt {P : Program} {K E : TypeId} {w : World} {b n : Nat} {f : ByteArray → Bool} (h : MapS P K E w b n f) : b < w.heap.size := by
  obtain ⟨D, h1, _⟩ := h
  exact h1.lt

theorem MapS.isMap {P : Program} {K E : TypeId} {w : World} {b n : Nat} {f : ByteArray → Bool} (h : MapS P K E w b n f) : ∃ es c, w.heap[b]? = some (.map es c) := by
  obtain ⟨D, ⟨es, c, h1, _⟩, _⟩ := h
  exact ⟨es, c, h1⟩

/-- A row's block is none of the map's. -/
theorem MapS.ne_row {P : Program} {K E : TypeId} {w : World} {b n : Nat} {f : ByteArray → Bool} (h : MapS P K E w b n f) {base : Nat} {e : TypeId} {size m : Nat} {v : Value} {xs : List Value} (ho : w.ownsRow base e size v m xs) : some b ≠ v.ownBlock := by
  intro hb
  obtain ⟨es, c, h1⟩ := h.isMap
  obtain ⟨cells, h2⟩ := own_typed ho b hb.symm
  rw [h1] at h2
  cases h2

section
variable {P : Program} {ops : Array Oper} {rest : List Oper} {o : Oper} {a : Act} {Q : Exit → Act → World → Prop}

/-- 'm[s]', without 'ok'. -/
theorem MapS.run {K E t : TypeId} {w : World} {b n : Nat} {f : ByteArray → Bool} (h : MapS P K E w b n f) (hK : P.underlying K = some .string) (hE : P.underlying E = some .bool) (ht : P.underlying t = some (.map K E)) (hz : (zeroValue E).run P w = .ok (.bool false) w) (s : ByteArray) (hs : s.size ≤ maxLen) :
    (Instr.lookup t (.map (some b)) (.string s) false).run P w = .ok (.bool (f s)) w := by
  obtain ⟨D, h1, h2⟩ := h
  obtain ⟨v, ps, hrun, hv⟩ := h1.lookup (string_keyed hK) ht hz (plainElem_bool hE false) (keyOf_string_mk hK hs)
  rw [h2 s hs] at hv
  obtain ⟨x, rfl, he⟩ := plainElem_bool_inv hE hv
  simp only [Prod.mk.injEq, DataW.lit.injEq, Lit.bool.injEq] at he
  rw [he.1]
  exact hrun

/-- .. at the operation. -/
theorem MapS.look (hg : o.guard = none) (m x : Operand) {t K E : TypeId} (hop : o.op = Op.lookup t m x false) {w : World} {b n : Nat} {f : ByteArray → Bool} (h : MapS P K E w b n f)
    (hK : P.underlying K = some .string) (hE : P.underlying E = some .bool) (ht : P.underlying t = some (.map K E)) (hz : (zeroValue E).run P w = .ok (.bool false) w) (s : ByteArray) (hs : s.size ≤ maxLen)
    (hm : a.eval m = .map (some b)) (hx : a.eval x = .string s) (hK' : wpList P ops Q rest (a.put o.dst (.bool (f s))) w) : wpList P ops Q (o :: rest) a w := by
  refine wpList_plain hg fun K' hK'' => ?_
  have hrun := h.run hK hE ht hz s hs
  unfold Oper.wp
  simp [execOp, hop, hm, hx, hrun, Result.andThen]
  exact hK'' _ _ hK'

theorem sameKey_string (s t : ByteArray) : ((Lit.string s.data.toList) = (Lit.string t.data.toList)) ↔ s = t := by
  constructor
  · intro h
    injection h with h
    obtain ⟨⟨s⟩⟩ := s
    obtain ⟨⟨t⟩⟩ := t
    simp at h
    rw [h]
  · rintro rfl
    rfl

/-- 'm[s] = true'. -/
theorem MapS.put (hg : o.guard = none) (m x v : Operand) {t K E : TypeId} (hop : o.op = Op.mapUpdate t m x v) {w : World} {b n : Nat} {f : ByteArray → Bool} (h : MapS P K E w b n f)
    (hK : P.underlying K = some .string) (hE : P.underlying E = some .bool) (ht : P.underlying t = some (.map K E)) (hn : n < maxLen) (s : ByteArray) (hs : s.size ≤ maxLen)
    (hm : a.eval m = .map (some b)) (hx : a.eval x = .string s) (hv : a.eval v = .bool true)
    (hK' : ∀ w', MapS P K E w' b (n + 1) (fun u => decide (u = s) || f u) → w.grownBy w' (some b) → wpList P ops Q rest (a.put o.dst undef) w') :
    wpList P ops Q (o :: rest) a w := by
  obtain ⟨D, h1, h2⟩ := h
  refine wpList_mapUpdate_own w hg m x v t hop K E (string_keyed hK) ht (plainElem P E) b n D hm h1 hn (.string s) (.bool true) (.string s.data.toList) hx hv (keyOf_string_mk hK hs) (.lit (.bool true)) [] (plainElem_bool hE true) ?_
  intro w' h3 h4
  refine hK' w' ⟨_, h3, fun u hu => ?_⟩ h4
  by_cases e : u = s
  · subst e
    rw [Maps.atKey_put_same h1.isMap (by first | trivial | simp [WideAt.IsKeyLit] | exact ⟨_, rfl⟩)]
    simp
  · rw [Maps.atKey_put_other (fun h => e ((sameKey_string _ _).1 h))]
    rw [h2 u hu]
    simp [e]
end
end Go.Proofs.YtllllfbnbndegaaU
