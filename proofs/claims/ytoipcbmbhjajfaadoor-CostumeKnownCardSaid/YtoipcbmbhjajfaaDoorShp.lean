/-
  PLAIN: some of a plot's parts, the answer of Short.
-/
import Derived.Test.YtoipcbmbhjajfaaDoorCsv
import Derived.Test.YtoipcbmbhjajfaaDoorCht
namespace Go.Proofs.YtoipcbmbhjajfaaDoor
open Go.RowKit

theorem someL_snoc (p : Plot) (l : List Int) (k : Nat) (hk : k < l.length) : someL p (l.take (k + 1)) = someL p (l.take k) ++ [pt p.parts (nm l k).toNat] := by
  have e : nm l k = l[k] := by unfold nm; rw [List.getD_eq_getElem?_getD, List.getElem?_eq_getElem hk]; rfl
  unfold someL
  rw [List.take_succ_eq_append_getElem hk, List.map_append, e]
  rfl
def shortL (p : Plot) (items : List Item) : List Int := if smallErr p items = 0 then shortS p items p.parts.length else []
def ShortPost (p : Plot) (items : List Item) (w : World) (e : Ending) (w' : World) : Prop :=
  ∃ v', e = .returned (.tuple #[v', .int .i64 (smallErr p items)]) ∧ OwnInts w.heap.size w' v' (shortL p items) ∧ Below w.heap.size w w'
end Go.Proofs.YtoipcbmbhjajfaaDoor
