/-
  THE COMMON PART OF THE CARDS: the witness's world; a list of numbers that came in; what stays as it was.
  ARGUMENTS THAT CAME IN: schools, wings, rules, out of a reading of them.
  ARGUMENTS THAT CAME IN: a wing by value.
-/
import Derived.Test.YtefdopifebhgiaaGreatDoorAw
import Derived.Test.YtefdopifebhgiaaGreatDoorRows
import Derived.Test.YtefdopifebhgiaaGreatDoorTie
import Derived.ProofKit
import Derived.Lay
import Derived.OpenShut
import Derived.Stop.Joined
import Derived.SevenTiedAt
import Derived.Lib.SmallJoins
import Derived.Deep.Slices
import Derived.Deep.Strs
namespace Go.Proofs.YtefdopifebhgiaaGreatDoor
open Go.ChangeShapes Go.WideShapes Go.ChangeAt Go.WideMaps Go.WideElems Go.RowKit

theorem own : ownKnob Tryz.prog.godebug = none := by kernel_rfl
theorem under_ints : Tryz.prog.underlying 25 = some (.slice 3) := Tryz.underlying25
theorem cells_int : Tryz.prog.cellsOf 3 = 1 := by kernel_rfl

def laid : List (String × DataW Unit) := Rows.paradePapersRow.laid

theorem laid_fits (os : Os) : (World.holding Tryz.prog os ⟨#[], #[], []⟩).layFits Tryz.prog laid [] = true := by kernel_rfl
theorem laid_ifaces (os : Os) : (World.holding Tryz.prog os ⟨#[], #[], []⟩).layIfaces Tryz.prog laid (World.laidAll Tryz.prog os laid) = true := by kernel_rfl
theorem laid_met (os : Os) (args : Array Value) : laidMetH Tryz.prog laid ((World.laidAll Tryz.prog os laid).forCall (fun _ _ => 0) ⟨#[], args, []⟩).memory := by
  rw [MakeChecks.laidMetH_plain _ _ _ (by kernel_rfl)]
  exact laidMet_laidAll args (laid_fits os) (laid_ifaces os)
theorem laid_shaped (os : Os) (args : Array Value) : ((World.laidAll Tryz.prog os laid).forCall (fun _ _ => 0) ⟨#[], args, []⟩).Shaped Tryz.prog := World.shaped_of_ZipB (by kernel_rfl) (by kernel_rfl)

/-- a list of numbers that came in -/
theorem open_nums {H : Type} {enc : TypeId × Value → H} {W : World} {base fuel : Nat} {sp : Nat → Bool} {held : Bool} {v : Value} {x : DataW H × List MemPlace} (h : DataW.trod enc Tryz.prog W base sp held fuel 25 [v] = some x) :
    ∃ xs : List Int, IntsAt none W v xs ∧ xs.length ≤ 9223372036854775807 := by
  rcases open_ints under_ints Tryz.underlying3 cells_int h with ⟨hcs, hx⟩ | ⟨a, len, cap, zs, hcs, _, hl, hm, hz, hx, hcell, hwz⟩
  · have : v = .slice none 0 0 := by simpa using hcs
    subst this
    exact ⟨[], IntsAt.nil _ _, by simp⟩
  · have : v = .slice (some a) len cap := by simpa using hcs
    subst this
    have hlz : len ≤ zs.length := by rw [hz]; split <;> omega
    have hml : maxLen = 9223372036854775807 := rfl
    refine ⟨zs.take len, ⟨some a, cap, by rw [List.length_take, Nat.min_eq_left hlz], fun h0 => ?_⟩, by rw [List.length_take]; omega⟩
    rw [List.length_take, Nat.min_eq_left hlz] at h0 ⊢
    obtain ⟨b, off, rfl, hc⟩ := ints_at hcell (by omega)
    refine ⟨b, off, rfl, hl, hm, by simp, World.block_lt_of_cell? W ⟨b, off + 0, none⟩ (hc 0 (by omega)), fun i hi => ?_⟩
    rw [hc i (by omega)]
    simp [nm, List.getD_eq_getElem?_getD, List.getElem?_take, hi]
set_option maxRecDepth 100000 in
theorem open_nums' {H : Type} {enc : TypeId × Value → H} {W : World} {base : Nat} {sp : Nat → Bool} {held : Bool} {v : Value} {d : DataW H} {p : List MemPlace} (h : DataW.Trod enc Tryz.prog W 0 sp held 25 v d p) (hv : Value.okWide Tryz.prog W .any base 25 v) :
    ∃ xs : List Int, IntsAt none W v xs ∧ xs.length ≤ 9223372036854775807 := by
  obtain ⟨a0, len, cap, rfl⟩ := okWide_slice Tryz.underlying25 hv
  obtain ⟨fuel, hf⟩ := h
  exact open_nums hf
set_option maxRecDepth 100000 in
theorem laidOut : laidOutB Tryz.prog = true := by kernel_rfl
end Go.Proofs.YtefdopifebhgiaaGreatDoor

namespace Go.Proofs.YtefdopifebhgiaaGreatDoor
open Go.ChangeShapes Go.WideShapes Go.ChangeAt Go.WideMaps Go.WideElems Go.RowKit Go.Joins Go.Deep

theorem cells_string : Tryz.prog.cellsOf 9 = 1 := by kernel_rfl
theorem cells_span : Tryz.prog.cellsOf 43 = 2 := by kernel_rfl
theorem cells_wing : Tryz.prog.cellsOf 45 = 4 := by kernel_rfl
theorem cells_school : Tryz.prog.cellsOf 24 = 2 := by kernel_rfl
theorem cells_rules : Tryz.prog.cellsOf 54 = 3 := by kernel_rfl

variable {H : Type} {enc : TypeId × Value → H} {W : World} {base b0 fuel : Nat} {sp : Nat → Bool} {held : Bool}

theorem int_cell {c : Value} {x : DataW H × List MemPlace} (h : DataW.trod enc Tryz.prog W base sp held fuel 3 [c] = some x) : ∃ z : Int, c = .int .i64 z ∧ (Lit.int .i64 z).wf = true := by
  obtain ⟨z, e, _, hw⟩ := DataW.trod_int Tryz.underlying3 h
  exact ⟨z, by simpa using e, hw⟩
theorem string_cell {c : Value} {x : DataW H × List MemPlace} (h : DataW.trod enc Tryz.prog W base sp held fuel 9 [c] = some x) : ∃ s : ByteArray, c = .string s ∧ s.size ≤ maxLen := by
  obtain ⟨z, e, _, hw⟩ := DataW.trod_string Tryz.underlying9 h
  exact ⟨z, by simpa using e, hw⟩

set_option maxRecDepth 100000 in
theorem open_span_cells {c0 c1 : Value} {x : DataW H × List MemPlace} (h : DataW.trod enc Tryz.prog W base sp held fuel 43 [c0, c1] = some x) : ∃ lo hi : Int, c0 = .int .i64 lo ∧ c1 = .int .i64 hi := by
  obtain ⟨y0, y1, n, _, _, h0, h1⟩ := trod_struct2 Tryz.underlying43 h
  simp only [cells_int, List.drop_zero, List.drop_succ_cons, List.take_succ_cons, List.take_zero] at h0 h1
  obtain ⟨lo, rfl, _⟩ := int_cell h0
  obtain ⟨hi, rfl, _⟩ := int_cell h1
  exact ⟨lo, hi, rfl, rfl⟩

set_option maxRecDepth 100000 in
theorem open_wing_cells {cs : List Value} {x : DataW H × List MemPlace} (h : DataW.trod enc Tryz.prog W base sp held fuel 45 cs = some x) : ∃ y : Wing, cs = wingCells y := by
  obtain ⟨y0, y1, y2, n, _, hl, h0, h1, h2⟩ := trod_struct3 Tryz.underlying45 h
  rw [cells_wing] at hl
  match cs, hl with
  | [c0, c1, c2, c3], _ =>
    simp only [cells_int, cells_string, cells_span, List.drop_zero, List.drop_succ_cons, List.take_succ_cons, List.take_zero] at h0 h1 h2
    obtain ⟨s, rfl, _⟩ := string_cell h0
    obtain ⟨z, rfl, _⟩ := int_cell h1
    obtain ⟨lo, hi, rfl, rfl⟩ := open_span_cells h2
    exact ⟨⟨s, z, lo, hi⟩, rfl⟩

set_option maxRecDepth 100000 in
theorem open_wings {v : Value} {x : DataW H × List MemPlace} (h : DataW.trod enc Tryz.prog W base sp held fuel 22 [v] = some x) : ∃ ws : List Wing, WgAt none W v ws ∧ Sound v := by
  rcases open_slice Tryz.underlying22 h with ⟨hcs, _⟩ | ⟨a, len, cap, m, n, D, Pl, hcs, _, hl, hm, hmm, _, hx⟩
  · have : v = .slice none 0 0 := by simpa using hcs
    subst this
    exact ⟨[], WgAt.nil _ _, fun n c e => by cases e; exact ⟨rfl, rfl⟩⟩
  · have : v = .slice (some a) len cap := by simpa using hcs
    subst this
    have hlm : len ≤ m := by rw [hmm]; split <;> omega
    have hw : ∀ i, i < len → ∃ y : Wing, ∀ j u, (wingCells y)[j]? = some u → W.cell? ((a.add (i * 4)).add j) = some u := fun i hi => by
      obtain ⟨cs', h1, h2⟩ := hx i (by omega)
      rw [cells_wing] at h1
      obtain ⟨y, rfl⟩ := open_wing_cells h2
      obtain ⟨_, _, h3⟩ := World.cells?_some h1
      refine ⟨y, fun j u hj => ?_⟩
      have hj4 : j < 4 := by have := (List.getElem?_eq_some_iff.1 hj).1; simpa [wingCells] using this
      rw [h3 j hj4]; exact hj
    have hinh : Inhabited Wing := ⟨noWing⟩
    obtain ⟨Y, hY⟩ := choose_lt (α := Wing) (p := fun i y => ∀ j u, (wingCells y)[j]? = some u → W.cell? ((a.add (i * 4)).add j) = some u) hw
    refine ⟨(List.range len).map Y, ⟨some a, cap, by simp, fun h0 => ?_⟩, fun n c e => by cases e⟩
    have h0' : 0 < len := by simpa using h0
    obtain ⟨b, off, spot⟩ := a
    have hspot : spot = none := by
      have := hY 0 h0' 0 (.string (Y 0).name) rfl
      have := World.cell?_spot this
      simpa [Addr.add] using this
    subst hspot
    have hat : ∀ i, i < len → ∀ j u, (wingCells (Y i))[j]? = some u → W.cell? ⟨b, off + i * 4 + j, none⟩ = some u := fun i hi j u hu => by
      have := hY i hi j u hu
      rwa [addr_add, addr_add] at this
    have hwg : ∀ i, i < len → wg ((List.range len).map Y) i = Y i := fun i hi => by simp [wg, List.getD_eq_getElem?_getD, List.getElem?_range hi]
    refine ⟨b, off, rfl, by simpa using hl, hm, by simp, World.block_lt_of_cell? W ⟨b, off + 0 * 4 + 0, none⟩ (hat 0 h0' 0 _ rfl), fun i hi => ?_⟩
    have hi' : i < len := by simpa using hi
    rw [hwg i hi']
    exact ⟨hat i hi' 0 _ rfl, hat i hi' 1 _ rfl, hat i hi' 2 _ rfl, hat i hi' 3 _ rfl⟩

set_option maxRecDepth 100000 in
theorem open_school {v : Value} {d : DataW H} {p : List MemPlace} (h : DataW.Trod enc Tryz.prog W base sp held 24 v d p) (hv : Value.okWide Tryz.prog W .any b0 24 v) :
    ∃ (route : Int) (vw : Value) (ws : List Wing), v = .agg #[.int .i64 route, vw] ∧ WgAt none W vw ws ∧ Sound vw := by
  obtain ⟨c0, c1, y0, y1, n, rfl, _, _, h0, h1⟩ := open_agg2 Tryz.underlying24 (by kernel_rfl) cells_school hv h
  obtain ⟨route, rfl, _⟩ := int_cell h0
  obtain ⟨ws, hw, hs⟩ := open_wings h1
  exact ⟨route, c1, ws, rfl, hw, hs⟩

set_option maxRecDepth 100000 in
theorem open_rules {v : Value} {d : DataW H} {p : List MemPlace} (h : DataW.Trod enc Tryz.prog W base sp held 54 v d p) (hv : Value.okWide Tryz.prog W .any b0 54 v) :
    ∃ a b c : Int, v = .agg #[.int .i64 a, .int .i64 b, .int .i64 c] := by
  obtain ⟨c0, c1, c2, y0, y1, y2, n, rfl, _, _, h0, h1, h2⟩ := open_agg3 Tryz.underlying54 (by kernel_rfl) cells_rules hv h
  obtain ⟨a, rfl, _⟩ := int_cell h0
  obtain ⟨b, rfl, _⟩ := int_cell h1
  obtain ⟨c, rfl, _⟩ := int_cell h2
  exact ⟨a, b, c, rfl⟩
set_option maxRecDepth 100000 in
theorem open_nums2 {v : Value} {d : DataW H} {p : List MemPlace} (h : DataW.Trod enc Tryz.prog W 0 sp held 25 v d p) (hv : Value.okWide Tryz.prog W .any b0 25 v) :
    ∃ xs : List Int, IntsAt none W v xs ∧ xs.length ≤ 9223372036854775807 ∧ Sound v := by
  obtain ⟨xs, h1, h2⟩ := open_nums' h hv
  obtain ⟨fuel, hf⟩ := h
  obtain ⟨a0, len, cap, rfl⟩ := okWide_slice Tryz.underlying25 hv
  refine ⟨xs, h1, h2, ?_⟩
  rcases open_ints under_ints Tryz.underlying3 cells_int hf with ⟨hcs, hx⟩ | ⟨a, len', cap', zs, hcs, _, hl, hm, hz, hx, hcell, hwz⟩
  · have : Value.slice a0 len cap = .slice none 0 0 := by have h2 : [Value.slice a0 len cap] = [.slice none 0 0] := hcs; simpa using h2
    rw [this]
    intro n c e; cases e; exact ⟨rfl, rfl⟩
  · have : Value.slice a0 len cap = .slice (some a) len' cap' := by have h2 : [Value.slice a0 len cap] = [.slice (some a) len' cap'] := hcs; simpa using h2
    rw [this]
    intro n c e; cases e

set_option maxRecDepth 100000 in
theorem open_num {v : Value} {d : DataW H} {p : List MemPlace} (h : DataW.Trod enc Tryz.prog W base sp held 3 v d p) (hv : Value.okWide Tryz.prog W .any b0 3 v) : ∃ z : Int, v = .int .i64 z ∧ (-9223372036854775808 ≤ z ∧ z ≤ 9223372036854775807) := by
  obtain ⟨z, rfl, rfl, rfl, hw⟩ := open_int Tryz.underlying3 hv h
  exact ⟨z, rfl, bounds_i64 hw⟩
end Go.Proofs.YtefdopifebhgiaaGreatDoor

namespace Go.Proofs.YtefdopifebhgiaaGreatDoor
open Go.ChangeShapes Go.WideShapes Go.ChangeAt Go.WideMaps Go.WideElems Go.RowKit Go.Joins Go.Deep

variable {H : Type} {enc : TypeId × Value → H} {W : World} {base b0 fuel : Nat} {sp : Nat → Bool} {held : Bool}

set_option maxRecDepth 100000 in
theorem open_wing {v : Value} {d : DataW H} {p : List MemPlace} (h : DataW.Trod enc Tryz.prog W base sp held 45 v d p) (hv : Value.okWide Tryz.prog W .any b0 45 v) :
    ∃ y : Wing, v = .agg #[.string y.name, .int .i64 y.len, .int .i64 y.lo, .int .i64 y.hi] := by
  obtain ⟨cs, rfl, hsz⟩ := okWide_struct Tryz.underlying45 hv
  obtain ⟨c0, c1, c2, c3, rfl⟩ := array4 (hsz.trans cells_wing)
  obtain ⟨fuel, hf⟩ := h
  obtain ⟨y, hy⟩ := open_wing_cells hf
  refine ⟨y, ?_⟩
  simp [Value.cells, wingCells] at hy
  obtain ⟨rfl, rfl, rfl, rfl⟩ := hy
  rfl
end Go.Proofs.YtefdopifebhgiaaGreatDoor
