/-
  WHAT STAYS while a statement about costumes runs: the drum, a plot made of numbers in a box, and what came before.
-/
import Derived.Test.YtoipcbmbhjajfaaGreatDoorPlo
import Derived.Test.YtoipcbmbhjajfaaGreatDoorKdo
import Derived.Test.YtoipcbmbhjajfaaGreatDoorCnw
namespace Go.Proofs.YtoipcbmbhjajfaaGreatDoor
open Go.RowKit

structure LF (D X : Nat) (p : Plot) (vp vw vd vq : Value) (w0 w : World) : Prop where
  beat : Beat D w
  plot : PlotAt (some D) w vp vw vd vq p
  c0 : w.cell? ⟨X, 0, none⟩ = some vp
  c1 : w.cell? ⟨X, 1, none⟩ = some vw
  c2 : w.cell? ⟨X, 2, none⟩ = some vd
  c3 : w.cell? ⟨X, 3, none⟩ = some vq
  xd : X ≠ D
  below : Below w0.heap.size w0 w
  hD : w0.heap.size ≤ D
theorem LF.go {D X : Nat} {p : Plot} {vp vw vd vq : Value} {w0 w w' : World} (k : LF D X p vp vw vd vq w0 w) (h1 : Beat D w') (h2 : w.grownBy w' (some D)) : LF D X p vp vw vd vq w0 w' :=
  ⟨h1, k.plot.kept h2, cell_gb h2 k.xd k.c0, cell_gb h2 k.xd k.c1, cell_gb h2 k.xd k.c2, cell_gb h2 k.xd k.c3, k.xd, k.below.grown h2 k.below.size (fun g e => by cases e; exact k.hD), k.hD⟩
theorem LF.later {D X : Nat} {p : Plot} {vp vw vd vq : Value} {w0 w w' : World} (k : LF D X p vp vw vd vq w0 w) (h : Below w.heap.size w w') : LF D X p vp vw vd vq w0 w' := k.go (k.beat.gb h) (gb_below h _)
theorem LF.any {D X : Nat} {p : Plot} {vp vw vd vq : Value} {w0 w : World} (k : LF D X p vp vw vd vq w0 w) : PlotAt none w vp vw vd vq p := k.plot.any
/-- the plot's box is new -/
theorem LF.start {D : Nat} {p : Plot} {vp vw vd vq : Value} {w0 w : World} (hb : Beat D w) (hp : PlotAt (some D) w vp vw vd vq p) (hw : Below w0.heap.size w0 w) (hD : w0.heap.size ≤ D) (t : TypeId) :
    LF D w.heap.size p vp vw vd vq w0 (w.alloc (.cells #[vp, vw, vd, vq] t)) :=
  ⟨hb.gb (below_alloc _ _), hp.below (below_alloc _ _), cell_at rfl rfl, cell_at rfl rfl, cell_at rfl rfl, cell_at rfl rfl, by have := hb.lt; omega, hw.trans ((below_alloc _ _).mono hw.size), hD⟩
theorem LF.name {D X : Nat} {p : Plot} {vp vw vd vq : Value} {w0 w : World} (k : LF D X p vp vw vd vq w0 w) : ∃ w', w = w' ∧ LF D X p vp vw vd vq w0 w' := ⟨w, rfl, k⟩
end Go.Proofs.YtoipcbmbhjajfaaGreatDoor
