/- Words of my own: a row that grows beside a map that is a set of names. -/
import Derived.Test.YtllllfbnbndegaaU2
import Derived.Test.YtllllfbnbndegaaU1
import Derived.Test.YtllllfbnbndegaaWLast
import Derived.Test.YtllllfbnbndegaaWInvWords
namespace Go.Proofs.YtllllfbnbndegaaU
open Go.RowKit Go.Proofs.YtllllfbnbndegaaW.PrintWords Go.Proofs.YtllllfbnbndegaaW.PrintLast Go.Maps Go.WideMaps
set_option linter.unusedVariables false

/-- Block mb is a set of at most i names, told by f; v is an own row of what was made behind it. -/
structure SetInv {α : Type} (P : Program) (K E : TypeId) (d : Kd α) (e : TypeId) (w : World) (mb B2 i : Nat) (o : List α) (f : ByteArray → Bool) (v : Value) (wr : World) : Prop where
  own : Kd.R d e wr B2 (fun _ => True) v o
  map : ∃ n, n ≤ i ∧ MapS P K E wr mb n f
  bel : Below w.heap.size w wr
  le : B2 ≤ wr.heap.size
  lo : mb < B2
  up : w.heap.size ≤ mb
variable {α : Type} {P : Program} {K E e : TypeId} {d : Kd α} {w wr w1 w2 : World} {mb B2 i j n : Nat} {o o2 : List α} {f g : ByteArray → Bool} {v v4 : Value} {row : Option Nat}
theorem SetInv.keep (h : SetInv P K E d e w mb B2 i o f v wr) (hb : Below wr.heap.size wr w1) (hij : i ≤ j) : SetInv P K E d e w mb B2 j o f v w1 where
  own := Kd.R_below h.own hb
  map := by
    obtain ⟨n, h1, h2⟩ := h.map
    exact ⟨n, Nat.le_trans h1 hij, h2.below hb⟩
  bel := h.bel.trans (hb.mono h.bel.size)
  le := Nat.le_trans h.le hb.size
  lo := h.lo
  up := h.up
theorem SetInv.keepAt (h : SetInv P K E d e w mb B2 i o f v wr) (_hg : w1.grownBy w2 row) (hb : Below wr.heap.size wr w1) : SetInv P K E d e w mb B2 i o f v w1 := h.keep hb (Nat.le_refl _)
theorem SetInv.base (h : SetInv P K E d e w mb B2 i o f v wr) {k : Nat} (hk : some k = v.ownBlock) : B2 ≤ k := by
  obtain ⟨inner, hin⟩ := Kd.R_own h.own
  exact own_base hin k hk.symm
theorem SetInv.put (h : SetInv P K E d e w mb B2 i o f v wr) (hn : n ≤ i) (hm : MapS P K E w1 mb (n + 1) g) (hg : wr.grownBy w1 (some mb))
    (ho : Kd.R d e w2 B2 (fun _ => True) v4 o2) (hg2 : w1.grownBy w2 v.ownBlock) : SetInv P K E d e w mb B2 (i + 1) o2 g v4 w2 where
  own := ho
  map := by
    have h1 : some mb ≠ v.ownBlock := fun e => by have := h.base e; have := h.lo; omega
    exact ⟨n + 1, by omega, hm.kept hg2 h1⟩
  bel := (h.bel.grown hg h.bel.size (fun k e => by injection e with e; have := h.up; omega)).grown hg2 (Nat.le_trans h.bel.size hg.size) (fun k e => by have := h.base e.symm; have := h.lo; have := h.up; omega)
  le := Nat.le_trans h.le (Nat.le_trans hg.size hg2.size)
  lo := h.lo
  up := h.up
/-- The row grows alone. -/
theorem SetInv.grow (h : SetInv P K E d e w mb B2 i o f v wr) (ho : Kd.R d e w2 B2 (fun _ => True) v4 o2) (hb : Below wr.heap.size wr w1) (hg2 : w1.grownBy w2 v.ownBlock) : SetInv P K E d e w mb B2 i o2 f v4 w2 where
  own := ho
  map := by
    have h1 : some mb ≠ v.ownBlock := fun e => by have := h.base e; have := h.lo; omega
    obtain ⟨n, h2, h3⟩ := h.map
    exact ⟨n, h2, (h3.below hb).kept hg2 h1⟩
  bel := (h.bel.trans (hb.mono h.bel.size)).grown hg2 (Nat.le_trans h.bel.size hb.size) (fun k e => by have := h.base e.symm; have := h.lo; have := h.up; omega)
  le := Nat.le_trans h.le (Nat.le_trans hb.size hg2.size)
  lo := h.lo
  up := h.up
/-- At the map's row update, the own row stays. -/
theorem SetInv.ownPut (h : SetInv P K E d e w mb B2 i o f v wr) (hg : wr.grownBy w1 (some mb)) : Kd.R d e w1 B2 (fun _ => True) v o :=
  Kd.R_mono (Kd.R_grown (Kd.R_bound h.own) hg (fun k hk e => by have h1 := hk.2.1; have h2 := h.lo; injection e with e; omega)) (fun _ _ => trivial)
end Go.Proofs.YtllllfbnbndegaaU
