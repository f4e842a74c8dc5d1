/-
  WALKS: copies of the kit's: Ints, Spans, OwnItems; Inside.
  A COPY OF A PLOT: its lists are the call's own, in blocks of different kinds. No function is walked here.
  WALK: Lists, the copy of a list of lists.
  WALK: OwnPlot, the copy of a plot: all its lists are the call's own.
-/
import Derived.Test.YtoipcbmbhjajfaaGreatDoorCpo
import Derived.Test.YtoipcbmbhjajfaaGreatDoorCwd
import Derived.Test.YtoipcbmbhjajfaaGreatDoorFlow
namespace Go.Proofs.YtoipcbmbhjajfaaGreatDoor
open Go.RowKit

end Go.Proofs.YtoipcbmbhjajfaaGreatDoor

namespace Go.Proofs.YtoipcbmbhjajfaaGreatDoor
open Go.RowKit

/-- blocks of different types are different blocks -/
theorem OwnR.apart {α β : Type} {enc : α → List Value} {enc' : β → List Value} {k k' : Nat} {e e' : TypeId} {base base' : Nat} {w : World} {v v' : Value} {xs : List α} {ys : List β}
    (h : OwnR enc k e base w v xs) (h' : OwnR enc' k' e' base' w v' ys) (hne : e ≠ e') : v.ownBlock = none ∨ v.ownBlock ≠ v'.ownBlock := by
  rcases h.2 with ⟨rfl, _⟩ | ⟨g, cap, cur, rfl, _, hg, _⟩
  · exact .inl rfl
  · right
    rcases h'.2 with ⟨rfl, _⟩ | ⟨g', cap', cur', rfl, _, hg', _⟩
    · intro h; cases h
    · intro h
      have hgg : g = g' := Option.some.inj h
      subst hgg
      rw [hg] at hg'
      have hcc := Option.some.inj hg'
      injection hcc with h1 h2
      exact hne h2

/-- a list of rows, all of the call's own -/
structure RowsO (base : Nat) (w : World) (v : Value) (vs : List Value) (rs : List (List Int)) : Prop where
  own : OwnR encV 1 24 base w v vs
  len : vs.length = rs.length
  row : ∀ j, j < rs.length → OwnR encInt 1 3 base w (vs.getD j undef) (lst rs j)
theorem RowsO.nil (base : Nat) (w : World) : RowsO base w (.slice none 0 0) [] [] := ⟨OwnR.nil _ _ _ _ _, rfl, fun j hj => by simp at hj⟩
theorem RowsO.later {base : Nat} {w w' : World} {v : Value} {vs : List Value} {rs : List (List Int)} (h : RowsO base w v vs rs) (hb : Below w.heap.size w w') : RowsO base w' v vs rs := ⟨h.own.later hb, h.len, fun j hj => (h.row j hj).later hb⟩
theorem RowsO.go {base d : Nat} {w w' : World} {v : Value} {vs : List Value} {rs : List (List Int)} (h : RowsO base w v vs rs) (hd : d < base) (hg : w.grownBy w' (some d)) : RowsO base w' v vs rs := ⟨h.own.go hd hg, h.len, fun j hj => (h.row j hj).go hd hg⟩
theorem RowsO.base {base b' : Nat} {w : World} {v : Value} {vs : List Value} {rs : List (List Int)} (h : RowsO base w v vs rs) (hb : b' ≤ base) : RowsO b' w v vs rs := ⟨h.own.base' hb, h.len, fun j hj => (h.row j hj).base' hb⟩
/-- a block of another type changes -/
theorem RowsO.other {β : Type} {enc : β → List Value} {k : Nat} {e : TypeId} {base base' : Nat} {w w' : World} {v u : Value} {vs : List Value} {rs : List (List Int)} {ys : List β} (h : RowsO base w v vs rs) (hu : OwnR enc k e base' w u ys) (h1 : 24 ≠ e) (h2 : 3 ≠ e) (hg : w.grownBy w' u.ownBlock) : RowsO base w' v vs rs :=
  ⟨h.own.kept hg (h.own.apart hu h1), h.len, fun j hj => (h.row j hj).kept hg ((h.row j hj).apart hu h2)⟩
theorem RowsO.snoc {base : Nat} {w w' : World} {v v' u : Value} {vs : List Value} {rs : List (List Int)} {r : List Int} (h : RowsO base w v vs rs) (hr : OwnR encInt 1 3 base w u r)
    (hown : OwnR encV 1 24 base w' v' (vs ++ [u])) (hg : w.grownBy w' v.ownBlock) : RowsO base w' v' (vs ++ [u]) (rs ++ [r]) := by
  refine ⟨hown, by simp [h.len], fun j hj => ?_⟩
  rw [List.length_append, List.length_singleton] at hj
  by_cases e : j < rs.length
  · rw [getD_snoc_old (by rw [h.len]; exact e), lst_snoc_old e]
    exact (h.row j e).kept hg ((h.row j e).apart h.own (by decide))
  · obtain rfl : j = rs.length := by omega
    rw [lst_snoc_new, ← h.len, getD_snoc_new]
    exact hr.kept hg (hr.apart h.own (by decide))
theorem RowsO.lists {base : Nat} {w : World} {v : Value} {vs : List Value} {rs : List (List Int)} (h : RowsO base w v vs rs) {d : Option Nat} (hd : ∀ j, d = some j → j < base) : ListsAt d w v rs := by
  have := h.own.recs (d := d) undef (fun x _ => x) (fun _ => rfl) (fun x j hj => by obtain rfl : j = 0 := (by omega); rfl) hd
  rw [h.len] at this
  exact ⟨fun i => vs.getD i undef, this, fun i hi => OwnInts.at (own_int.1 (h.row i hi)) hd⟩

/-- a plot whose lists are all the call's own -/
structure OwnP (base : Nat) (w : World) (vp vw vd vq : Value) (p : Plot) : Prop where
  persons : OwnR encSpan 2 58 base w vp p.persons
  walk : ∃ vs, RowsO base w vw vs p.walk
  dress : OwnR encInt 1 3 base w vd p.dress
  parts : OwnR encPart 5 60 base w vq p.parts
theorem OwnP.later {base : Nat} {w w' : World} {vp vw vd vq : Value} {p : Plot} (h : OwnP base w vp vw vd vq p) (hb : Below w.heap.size w w') : OwnP base w' vp vw vd vq p :=
  ⟨h.persons.later hb, (by obtain ⟨vs, hv⟩ := h.walk; exact ⟨vs, hv.later hb⟩), h.dress.later hb, h.parts.later hb⟩
theorem OwnP.go {base d : Nat} {w w' : World} {vp vw vd vq : Value} {p : Plot} (h : OwnP base w vp vw vd vq p) (hd : d < base) (hg : w.grownBy w' (some d)) : OwnP base w' vp vw vd vq p :=
  ⟨h.persons.go hd hg, (by obtain ⟨vs, hv⟩ := h.walk; exact ⟨vs, hv.go hd hg⟩), h.dress.go hd hg, h.parts.go hd hg⟩
theorem OwnP.base {base b' : Nat} {w : World} {vp vw vd vq : Value} {p : Plot} (h : OwnP base w vp vw vd vq p) (hb : b' ≤ base) : OwnP b' w vp vw vd vq p :=
  ⟨h.persons.base' hb, (by obtain ⟨vs, hv⟩ := h.walk; exact ⟨vs, hv.base hb⟩), h.dress.base' hb, h.parts.base' hb⟩
/-- other parts -/
theorem OwnP.turn {base : Nat} {w w' : World} {vp vw vd vq vq' : Value} {p : Plot} {ps : List Part} (h : OwnP base w vp vw vd vq p) (hq : OwnR encPart 5 60 base w' vq' ps) (hg : w.grownBy w' vq.ownBlock) : OwnP base w' vp vw vd vq' { p with parts := ps } :=
  ⟨h.persons.kept hg (h.persons.apart h.parts (by decide)), (by obtain ⟨vs, hv⟩ := h.walk; exact ⟨vs, hv.other h.parts (by decide) (by decide) hg⟩), h.dress.kept hg (h.dress.apart h.parts (by decide)), hq⟩
theorem OwnP.at {base : Nat} {w : World} {vp vw vd vq : Value} {p : Plot} (h : OwnP base w vp vw vd vq p) {d : Option Nat} (hd : ∀ j, d = some j → j < base) : PlotAt d w vp vw vd vq p := by
  obtain ⟨vs, hv⟩ := h.walk
  exact ⟨h.persons.spans hd, hv.lists hd, OwnInts.at (own_int.1 h.dress) hd, h.parts.parts hd⟩
theorem OwnR.offB {α : Type} {enc : α → List Value} {k : Nat} {e : TypeId} {base : Nat} {w : World} {v : Value} {xs : List α} (h : OwnR enc k e base w v xs) {Z : Nat} {cs : Array Value} {e' : TypeId} {x : Nat × Nat} (hz : w.heap[Z]? = some (.cells cs e' x)) (hne : e ≠ e') : v.ownBlock = none ∨ v.ownBlock ≠ some Z := by
  rcases h.2 with ⟨rfl, _⟩ | ⟨g, cap, cur, rfl, _, hg, _⟩
  · exact .inl rfl
  · right
    intro h
    have hgg : g = Z := Option.some.inj h
    subst hgg
    rw [hg] at hz
    have hcc := Option.some.inj hz
    injection hcc with h1 h2
    exact hne h2
theorem OwnP.wform {base : Nat} {w : World} {vp vw vd vq : Value} {p : Plot} (h : OwnP base w vp vw vd vq p) : ∃ a c, vw = .slice a p.walk.length c := by
  obtain ⟨us, h⟩ := h.walk
  obtain ⟨a, c, e⟩ := h.own.form
  rw [h.len] at e
  exact ⟨a, c, e⟩
theorem OwnP.off {base : Nat} {w w' : World} {vp vw vd vq : Value} {p : Plot} (h : OwnP base w vp vw vd vq p) {Z : Nat} {cs : Array Value} {x : Nat × Nat} (hz : w.heap[Z]? = some (.cells cs 27 x)) (hg : w.grownBy w' (some Z)) : OwnP base w' vp vw vd vq p := by
  obtain ⟨us, hv⟩ := h.walk
  exact ⟨h.persons.kept hg (h.persons.offB hz (by decide)), ⟨us, hv.own.kept hg (hv.own.offB hz (by decide)), hv.len, fun j hj => (hv.row j hj).kept hg ((hv.row j hj).offB hz (by decide))⟩, h.dress.kept hg (h.dress.offB hz (by decide)), h.parts.kept hg (h.parts.offB hz (by decide))⟩
theorem cell_row {w w' : World} {r : Option Nat} (hg : w.grownBy w' r) {b o : Nat} {u : Value} (hb : some b ≠ r) (h : w.cell? ⟨b, o, none⟩ = some u) : w'.cell? ⟨b, o, none⟩ = some u :=
  (World.cell?_of_block (a := ⟨b, o, none⟩) (hg.block b (World.block_lt_of_cell? w ⟨b, o, none⟩ h) hb)).trans h
/-- a list of lists, each slice of it without a hidden room -/
def ListsS (d : Option Nat) (w : World) (v : Value) (xs : List (List Int)) : Prop := ∃ f : Nat → Value, RecAt d w v xs.length 1 (fun i _ => f i) ∧ ∀ i, i < xs.length → IntsAt d w (f i) (lst xs i) ∧ Sound0 (f i)
theorem ListsS.kept {d : Option Nat} {w w' : World} {v : Value} {xs : List (List Int)} (h : ListsS d w v xs) (hg : w.grownBy w' d) : ListsS d w' v xs := by
  obtain ⟨f, h1, h2⟩ := h
  exact ⟨f, h1.kept hg, fun i hi => ⟨(h2 i hi).1.kept hg, (h2 i hi).2⟩⟩
theorem ListsS.at {d : Option Nat} {w : World} {v : Value} {xs : List (List Int)} (h : ListsS d w v xs) : ListsAt d w v xs := by
  obtain ⟨f, h1, h2⟩ := h
  exact ⟨f, h1, fun i hi => (h2 i hi).1⟩
theorem ListsS.form {d : Option Nat} {w : World} {v : Value} {xs : List (List Int)} (h : ListsS d w v xs) : ∃ a c, v = .slice a xs.length c := by
  obtain ⟨f, ⟨a, c, rfl, _⟩, _⟩ := h
  exact ⟨a, c, rfl⟩
/-- a plot, no slice of which has a hidden room -/
structure PlotS (d : Option Nat) (w : World) (vp vw vd vq : Value) (p : Plot) : Prop where
  persons : SpansAt d w vp p.persons ∧ Sound0 vp
  walk : ListsS d w vw p.walk
  dress : IntsAt d w vd p.dress ∧ Sound0 vd
  parts : PartsAt d w vq p.parts ∧ Sound0 vq
theorem PlotS.kept {d : Option Nat} {w w' : World} {vp vw vd vq : Value} {p : Plot} (h : PlotS d w vp vw vd vq p) (hg : w.grownBy w' d) : PlotS d w' vp vw vd vq p :=
  ⟨⟨RecAt.kept h.persons.1 hg, h.persons.2⟩, h.walk.kept hg, ⟨h.dress.1.kept hg, h.dress.2⟩, ⟨RecAt.kept h.parts.1 hg, h.parts.2⟩⟩
theorem PlotS.below {d : Option Nat} {w w' : World} {vp vw vd vq : Value} {p : Plot} (h : PlotS d w vp vw vd vq p) (hb : Below w.heap.size w w') : PlotS d w' vp vw vd vq p := h.kept (gb_below hb d)
theorem PlotS.at {d : Option Nat} {w : World} {vp vw vd vq : Value} {p : Plot} (h : PlotS d w vp vw vd vq p) : PlotAt d w vp vw vd vq p := ⟨h.persons.1, h.walk.at, h.dress.1, h.parts.1⟩
theorem PlotS.ofValid {d : Option Nat} {w : World} {vp vw vd vq : Value} {p : Plot} (h : PlotAt d w vp vw vd vq p) (v : Valid p) (hs : Sound0 vq) : PlotS d w vp vw vd vq p := by
  obtain ⟨f, h1, h2⟩ := h.walk
  refine ⟨⟨h.persons, RecAt.sound h.persons (by have := v.persons; omega)⟩, ⟨f, h1, fun i hi => ⟨h2 i hi, (h2 i hi).soundI ?_⟩⟩, ⟨h.dress, h.dress.soundI (by have := v.dress; omega)⟩, ⟨h.parts, hs⟩⟩
  have := (rowE_zero (v.rows i hi)).1
  omega
theorem OwnP.sound {base : Nat} {w : World} {vp vw vd vq : Value} {p : Plot} (h : OwnP base w vp vw vd vq p) {d : Option Nat} (hd : ∀ j, d = some j → j < base) : PlotS d w vp vw vd vq p := by
  obtain ⟨vs, hv⟩ := h.walk
  have := hv.own.recs (d := d) undef (fun x _ => x) (fun _ => rfl) (fun x j hj => by obtain rfl : j = 0 := (by omega); rfl) hd
  rw [hv.len] at this
  exact ⟨⟨h.persons.spans hd, h.persons.sound⟩, ⟨fun i => vs.getD i undef, this, fun i hi => ⟨OwnInts.at (own_int.1 (hv.row i hi)) hd, (hv.row i hi).sound⟩⟩, ⟨OwnInts.at (own_int.1 h.dress) hd, h.dress.sound⟩, ⟨h.parts.parts hd, h.parts.sound⟩⟩
end Go.Proofs.YtoipcbmbhjajfaaGreatDoor

namespace Go.Proofs.YtoipcbmbhjajfaaGreatDoor
open Go.RowKit

theorem lst_take {rs : List (List Int)} {k : Nat} (h : k < rs.length) : rs.take (k + 1) = rs.take k ++ [lst rs k] := by
  rw [List.take_succ_eq_append_getElem h]
  congr 1
  unfold lst
  rw [List.getD_eq_getElem?_getD, List.getElem?_eq_getElem h]
  rfl
end Go.Proofs.YtoipcbmbhjajfaaGreatDoor

namespace Go.Proofs.YtoipcbmbhjajfaaGreatDoor
open Go.RowKit

/-- what OwnPlot wants of the plot that it copies: no hidden room, and no more than a million of anything -/
structure PlotN (p : Plot) : Prop where
  persons : p.persons.length ≤ 1000
  walk : p.walk.length ≤ 1000
  rows : ∀ i, i < p.walk.length → (lst p.walk i).length ≤ 1000
  dress : p.dress.length ≤ 1000
  parts : p.parts.length ≤ 1000
theorem PlotN.ofValid {p : Plot} (v : Valid p) : PlotN p :=
  ⟨by have := v.persons; omega, by have := v.walk; omega, fun i hi => by have := (rowE_zero (v.rows i hi)).1; have := v.walk; omega, by have := v.dress; omega, by have := v.few; omega⟩

theorem put4_cells {w : World} {R : Nat} {a b c d a0 b0 c0 d0 : Value} (h0 : w.cell? ⟨R, 0, none⟩ = some a0) (h1 : w.cell? ⟨R, 1, none⟩ = some b0) (h2 : w.cell? ⟨R, 2, none⟩ = some c0) (h3 : w.cell? ⟨R, 3, none⟩ = some d0) :
    ((((w.setCell ⟨R, 0, none⟩ a).setCell ⟨R, 1, none⟩ b).setCell ⟨R, 2, none⟩ c).setCell ⟨R, 3, none⟩ d).cell? ⟨R, 0, none⟩ = some a ∧ ((((w.setCell ⟨R, 0, none⟩ a).setCell ⟨R, 1, none⟩ b).setCell ⟨R, 2, none⟩ c).setCell ⟨R, 3, none⟩ d).cell? ⟨R, 1, none⟩ = some b ∧
    ((((w.setCell ⟨R, 0, none⟩ a).setCell ⟨R, 1, none⟩ b).setCell ⟨R, 2, none⟩ c).setCell ⟨R, 3, none⟩ d).cell? ⟨R, 2, none⟩ = some c ∧ ((((w.setCell ⟨R, 0, none⟩ a).setCell ⟨R, 1, none⟩ b).setCell ⟨R, 2, none⟩ c).setCell ⟨R, 3, none⟩ d).cell? ⟨R, 3, none⟩ = some d := by
  have go : ∀ (w : World) (i j : Nat) (x y : Value), i ≠ j → w.cell? ⟨R, j, none⟩ = some y → (w.setCell ⟨R, i, none⟩ x).cell? ⟨R, j, none⟩ = some y := fun w i j x y hij h =>
    (World.cell?_setCell_other _ _ _ _ (by intro e; cases e; exact hij rfl)).trans h
  refine ⟨?_, ?_, ?_, ?_⟩
  · exact go _ 3 0 _ _ (by decide) (go _ 2 0 _ _ (by decide) (go _ 1 0 _ _ (by decide) (World.cell?_setCell_same _ _ _ h0)))
  · exact go _ 3 1 _ _ (by decide) (go _ 2 1 _ _ (by decide) (World.cell?_setCell_same _ _ _ (go _ 0 1 _ _ (by decide) h1)))
  · exact go _ 3 2 _ _ (by decide) (World.cell?_setCell_same _ _ _ (go _ 1 2 _ _ (by decide) (go _ 0 2 _ _ (by decide) h2)))
  · exact World.cell?_setCell_same _ _ _ (go _ 2 3 _ _ (by decide) (go _ 1 3 _ _ (by decide) (go _ 0 3 _ _ (by decide) h3)))

end Go.Proofs.YtoipcbmbhjajfaaGreatDoor
