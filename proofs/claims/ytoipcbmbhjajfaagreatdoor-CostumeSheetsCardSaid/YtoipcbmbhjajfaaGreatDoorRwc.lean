/-
  THE ROWS' COMMON PART: the witness's world; a list of numbers that came in.
-/
import Derived.Test.YtoipcbmbhjajfaaGreatDoorCco
import Derived.Test.YtoipcbmbhjajfaaGreatDoorRows
import Derived.ProofKit
import Derived.Lay
import Derived.OpenShut
import Derived.Stop.Joined
import Derived.SevenTiedAt
import Derived.Lib.SmallJoins
import Derived.Deep.Slices
import Derived.Deep.Strs
namespace Go.Proofs.YtoipcbmbhjajfaaGreatDoor
open Go.ChangeShapes Go.WideShapes Go.ChangeAt Go.WideMaps Go.WideElems Go.RowKit

theorem own : ownKnob Tryz.prog.godebug = none := by kernel_rfl
theorem under_ints : Tryz.prog.underlying 24 = some (.slice 3) := Tryz.underlying24
theorem cells_int : Tryz.prog.cellsOf 3 = 1 := by kernel_rfl

/-- a list of numbers that came in -/
theorem open_nums {H : Type} {enc : TypeId × Value → H} {W : World} {base fuel : Nat} {sp : Nat → Bool} {held : Bool} {v : Value} {x : DataW H × List MemPlace} (h : DataW.trod enc Tryz.prog W base sp held fuel 24 [v] = some x) :
    ∃ xs : List Int, IntsAt none W v xs ∧ xs.length ≤ 9223372036854775807 := by
  rcases open_ints under_ints Tryz.underlying3 cells_int h with ⟨hcs, hx⟩ | ⟨a, len, cap, zs, hcs, _, hl, hm, hz, hx, hcell, hwz⟩
  · have : v = .slice none 0 0 := by simpa using hcs
    subst this
    exact ⟨[], IntsAt.nil _ _, by simp⟩
  · have : v = .slice (some a) len cap := by simpa using hcs
    subst this
    have hlz : len ≤ zs.length := by rw [hz]; split <;> omega
    have hml : maxLen = 9223372036854775807 := rfl
    refine ⟨zs.take len, ⟨some a, cap, by rw [List.length_take, Nat.min_eq_left hlz], fun h0 => ?_⟩, by rw [List.length_take]; omega⟩
    rw [List.length_take, Nat.min_eq_left hlz] at h0 ⊢
    obtain ⟨b, off, rfl, hc⟩ := ints_at hcell (by omega)
    refine ⟨b, off, rfl, hl, hm, by simp, World.block_lt_of_cell? W ⟨b, off + 0, none⟩ (hc 0 (by omega)), fun i hi => ?_⟩
    rw [hc i (by omega)]
    simp [nm, List.getD_eq_getElem?_getD, hi]
set_option maxRecDepth 100000 in
theorem open_nums' {H : Type} {enc : TypeId × Value → H} {W : World} {base : Nat} {sp : Nat → Bool} {held : Bool} {v : Value} {d : DataW H} {p : List MemPlace} (h : DataW.Trod enc Tryz.prog W 0 sp held 24 v d p) (hv : Value.okWide Tryz.prog W .any base 24 v) :
    ∃ xs : List Int, IntsAt none W v xs ∧ xs.length ≤ 9223372036854775807 := by
  obtain ⟨a0, len, cap, rfl⟩ := okWide_slice Tryz.underlying24 hv
  obtain ⟨fuel, hf⟩ := h
  exact open_nums hf
end Go.Proofs.YtoipcbmbhjajfaaGreatDoor
