/-
  ARGUMENTS THAT CAME IN: a wing by value.
-/
import Derived.Test.YtgfipifgijohhaaDoorRaw
namespace Go.Proofs.YtgfipifgijohhaaDoor
open Go.ChangeShapes Go.WideShapes Go.ChangeAt Go.WideMaps Go.WideElems Go.RowKit Go.Joins Go.Deep

variable {H : Type} {enc : TypeId × Value → H} {W : World} {base b0 fuel : Nat} {sp : Nat → Bool} {held : Bool}

set_option maxRecDepth 100000 in
theorem open_wing {v : Value} {d : DataW H} {p : List MemPlace} (h : DataW.Trod enc Tryd.prog W base sp held 29 v d p) (hv : Value.okWide Tryd.prog W .any b0 29 v) :
    ∃ y : Wing, v = .agg #[.string y.name, .int .i64 y.len, .int .i64 y.lo, .int .i64 y.hi] := by
  obtain ⟨cs, rfl, hsz⟩ := okWide_struct Tryd.underlying29 hv
  obtain ⟨c0, c1, c2, c3, rfl⟩ := array4 (hsz.trans cells_wing)
  obtain ⟨fuel, hf⟩ := h
  obtain ⟨y, hy⟩ := open_wing_cells hf
  refine ⟨y, ?_⟩
  simp [Value.cells, wingCells] at hy
  obtain ⟨rfl, rfl, rfl, rfl⟩ := hy
  rfl
end Go.Proofs.YtgfipifgijohhaaDoor
