/-
  A PLOT THAT IS BEING MADE: the cells of its box, its lists, and what stays. No function is walked here.
-/
import Derived.Test.YtefdopifebhgiaaGreatDoorCro
namespace Go.Proofs.YtefdopifebhgiaaGreatDoor
open Go.RowKit

def encSpan (x : Int × Int) : List Value := [.int .i64 x.1, .int .i64 x.2]
def encPart (x : Part) : List Value := [.int .i64 x.person, .int .i64 x.place, .int .i64 x.kind, .int .i64 x.start, .int .i64 x.stop]
def encItem (x : Item) : List Value := [.int .i64 x.kind, .int .i64 x.lo, .int .i64 x.hi, .int .i64 x.cost, .int .i64 x.clean]
def encInt (x : Int) : List Value := [.int .i64 x]
def encV (x : Value) : List Value := [x]
theorem infoSpan : (Tryz.prog.info? 43).map (fun i => (i.zero.map (·.cells.size), i.size, i.bytes)) = some (some 2, 2, 16) := by kernel_rfl
theorem infoInt' : (Tryz.prog.info? 3).map (fun i => (i.zero.map (·.cells.size), i.size, i.bytes)) = some (some 1, 1, 8) := by kernel_rfl
theorem infoSl' : (Tryz.prog.info? 25).map (fun i => (i.zero.map (·.cells.size), i.size, i.bytes)) = some (some 1, 1, 24) := by kernel_rfl
theorem encSpan_one : ∀ x u, u ∈ encSpan x → u.oneCell' = true := by intro x u h; simp [encSpan] at h; rcases h with rfl | rfl <;> rfl
theorem encPart_one : ∀ x u, u ∈ encPart x → u.oneCell' = true := by intro x u h; simp [encPart] at h; rcases h with rfl | rfl | rfl | rfl | rfl <;> rfl
theorem encItem_one : ∀ x u, u ∈ encItem x → u.oneCell' = true := by intro x u h; simp [encItem] at h; rcases h with rfl | rfl | rfl | rfl | rfl <;> rfl
theorem encInt_one : ∀ x u, u ∈ encInt x → u.oneCell' = true := by intro x u h; simp [encInt] at h; rcases h with rfl; rfl
theorem encSpan_at : ∀ (x : Int × Int) j, j < 2 → (encSpan x)[j]? = some (spanCell x j) := by
  intro x j h; rcases (by omega : j = 0 ∨ j = 1) with rfl | rfl <;> rfl
theorem encPart_at : ∀ (x : Part) j, j < 5 → (encPart x)[j]? = some (partCell x j) := by
  intro x j h; rcases (by omega : j = 0 ∨ j = 1 ∨ j = 2 ∨ j = 3 ∨ j = 4) with rfl | rfl | rfl | rfl | rfl <;> rfl
theorem encItem_at : ∀ (x : Item) j, j < 5 → (encItem x)[j]? = some (itemCell x j) := by
  intro x j h; rcases (by omega : j = 0 ∨ j = 1 ∨ j = 2 ∨ j = 3 ∨ j = 4) with rfl | rfl | rfl | rfl | rfl <;> rfl
theorem flat_int (xs : List Int) : xs.flatMap encInt = xs.map (Value.int .i64) := by
  induction xs with
  | nil => rfl
  | cons x xs ih => rw [List.flatMap_cons, ih]; rfl
theorem own_int {base : Nat} {w : World} {v : Value} {xs : List Int} : OwnR encInt 1 3 base w v xs ↔ OwnInts base w v xs := by
  unfold OwnR OwnInts; rw [flat_int]

theorem OwnR.spans {base : Nat} {w : World} {v : Value} {xs : List (Int × Int)} {d : Option Nat} (h : OwnR encSpan 2 43 base w v xs) (hd : ∀ j, d = some j → j < base) : SpansAt d w v xs := h.recs (0, 0) spanCell (fun _ => rfl) encSpan_at hd
theorem Src.spans {w : World} {v : Value} {xs : List (Int × Int)} {d : Option Nat} (h : SpansAt d w v xs) (hs : Sound0 v) : Src encSpan w v xs := Src.ofRec (0, 0) spanCell (by decide) (fun _ => rfl) encSpan_at h hs
theorem Src.ints {w : World} {v : Value} {xs : List Int} {d : Option Nat} (h : IntsAt d w v xs) (hs : Sound0 v) : Src encInt w v xs := by
  refine Src.ofRec (k := 1) (d := d) 0 (fun x _ => .int .i64 x) (by decide) (fun _ => rfl) (fun x j hj => by obtain rfl : j = 0 := (by omega); rfl) ?_ hs
  obtain ⟨a, cap, rfl, hh⟩ := h
  refine ⟨a, cap, rfl, fun h0 => ?_⟩
  obtain ⟨b, off, rfl, h1, h2, h3, h4, h5⟩ := hh h0
  refine ⟨b, off, rfl, h1, h2, h3, h4, fun i hi j hj => ?_⟩
  obtain rfl : j = 0 := by omega
  rw [Nat.mul_one, Nat.add_zero]
  exact h5 i hi

/-! ### what a list's block is -/
/-- the list lies between block P and block B -/
def Low (P B : Nat) (v : Value) : Prop := ∀ b, v.ownBlock = some b → b < B ∧ P < b
theorem Low.mono {P B B' : Nat} {v : Value} (h : Low P B v) (hb : B ≤ B') : Low P B' v := fun b e => ⟨Nat.lt_of_lt_of_le (h b e).1 hb, (h b e).2⟩
theorem OwnR.low {α : Type} {enc : α → List Value} {k : Nat} {e : TypeId} {base : Nat} {w : World} {v : Value} {xs : List α} (h : OwnR enc k e base w v xs) {P B : Nat} (hP : P < base) (hB : w.heap.size ≤ B) : Low P B v :=
  fun b hb => by have := h.lt hb; exact ⟨by omega, by omega⟩
theorem RecAt.low {q : Option Nat} {w w' : World} {v : Value} {n k : Nat} {f : Nat → Nat → Value} (h : RecAt q w v n k f) {P B : Nat} (hl : Low P B v) (hb : Below B w w') : RecAt q w' v n k f := by
  obtain ⟨a, cap, rfl, hh⟩ := h
  refine ⟨a, cap, rfl, fun h0 => ?_⟩
  obtain ⟨b, off, rfl, h1, h2, h3, h4, h5⟩ := hh h0
  exact ⟨b, off, rfl, h1, h2, h3, Nat.lt_of_lt_of_le h4 hb.size, fun i hi j hj => cell_back hb (hl b rfl).1 (h5 i hi j hj)⟩
theorem RecAt.putZ {q : Option Nat} {w : World} {v : Value} {n k : Nat} {f : Nat → Nat → Value} (h : RecAt q w v n k f) {P B Z : Nat} (hl : Low P B v) (hZ : Z ≤ P) (o : Nat) (u : Value) : RecAt q (w.setCell ⟨Z, o, none⟩ u) v n k f := by
  obtain ⟨a, cap, rfl, hh⟩ := h
  refine ⟨a, cap, rfl, fun h0 => ?_⟩
  obtain ⟨b, off, rfl, h1, h2, h3, h4, h5⟩ := hh h0
  exact ⟨b, off, rfl, h1, h2, h3, Nat.lt_of_lt_of_le h4 (gb_put w Z o u).size, fun i hi j hj => cell_set_far (by have := (hl b rfl).2; omega) (h5 i hi j hj)⟩
theorem RecAt.put {q : Option Nat} {w : World} {v : Value} {n k : Nat} {f : Nat → Nat → Value} (h : RecAt q w v n k f) {P B : Nat} (hl : Low P B v) (o : Nat) (u : Value) : RecAt q (w.setCell ⟨P, o, none⟩ u) v n k f := h.putZ hl (Nat.le_refl _) o u
theorem RecAt.any {q : Option Nat} {w : World} {v : Value} {n k : Nat} {f : Nat → Nat → Value} (h : RecAt q w v n k f) : RecAt none w v n k f := by
  obtain ⟨a, cap, rfl, hh⟩ := h
  refine ⟨a, cap, rfl, fun h0 => ?_⟩
  obtain ⟨b, off, rfl, h1, h2, h3, h4, h5⟩ := hh h0
  exact ⟨b, off, rfl, h1, h2, by simp, h4, h5⟩
theorem IntsAt.rec {q : Option Nat} {w : World} {v : Value} {xs : List Int} : IntsAt q w v xs ↔ RecAt q w v xs.length 1 fun i _ => .int .i64 (nm xs i) := by
  constructor
  · rintro ⟨a, cap, rfl, hh⟩
    refine ⟨a, cap, rfl, fun h0 => ?_⟩
    obtain ⟨b, off, rfl, h1, h2, h3, h4, h5⟩ := hh h0
    refine ⟨b, off, rfl, h1, h2, h3, h4, fun i hi j hj => ?_⟩
    obtain rfl : j = 0 := by omega
    rw [Nat.mul_one, Nat.add_zero]
    exact h5 i hi
  · rintro ⟨a, cap, rfl, hh⟩
    refine ⟨a, cap, rfl, fun h0 => ?_⟩
    obtain ⟨b, off, rfl, h1, h2, h3, h4, h5⟩ := hh h0
    refine ⟨b, off, rfl, h1, h2, h3, h4, fun i hi => ?_⟩
    have := h5 i hi 0 (by omega)
    rwa [Nat.mul_one, Nat.add_zero] at this
theorem IntsAt.lowI {q : Option Nat} {w w' : World} {v : Value} {xs : List Int} (h : IntsAt q w v xs) {P B : Nat} (hl : Low P B v) (hb : Below B w w') : IntsAt q w' v xs := IntsAt.rec.2 ((IntsAt.rec.1 h).low hl hb)
theorem IntsAt.putZ {q : Option Nat} {w : World} {v : Value} {xs : List Int} (h : IntsAt q w v xs) {P B Z : Nat} (hl : Low P B v) (hZ : Z ≤ P) (o : Nat) (u : Value) : IntsAt q (w.setCell ⟨Z, o, none⟩ u) v xs := IntsAt.rec.2 ((IntsAt.rec.1 h).putZ hl hZ o u)
theorem IntsAt.putI {q : Option Nat} {w : World} {v : Value} {xs : List Int} (h : IntsAt q w v xs) {P B : Nat} (hl : Low P B v) (o : Nat) (u : Value) : IntsAt q (w.setCell ⟨P, o, none⟩ u) v xs := IntsAt.rec.2 ((IntsAt.rec.1 h).put hl o u)
theorem IntsAt.anyI {q : Option Nat} {w : World} {v : Value} {xs : List Int} (h : IntsAt q w v xs) : IntsAt none w v xs := IntsAt.rec.2 (IntsAt.rec.1 h).any
theorem ListsAt.any {q : Option Nat} {w : World} {v : Value} {xs : List (List Int)} (h : ListsAt q w v xs) : ListsAt none w v xs := by
  obtain ⟨f, h1, h2⟩ := h
  exact ⟨f, h1.any, fun i hi => (h2 i hi).anyI⟩
/-- a list of rows, the slices being vs, all of them low -/
structure RowsAt (d P B : Nat) (w : World) (v : Value) (vs : List Value) (rs : List (List Int)) : Prop where
  spine : RecAt (some d) w v rs.length 1 fun i _ => vs.getD i undef
  low : Low P B v
  row : ∀ j, j < rs.length → IntsAt (some d) w (vs.getD j undef) (lst rs j) ∧ Low P B (vs.getD j undef)
theorem RowsAt.lists {d P B : Nat} {w : World} {v : Value} {vs : List Value} {rs : List (List Int)} (h : RowsAt d P B w v vs rs) : ListsAt (some d) w v rs := ⟨fun i => vs.getD i undef, h.spine, fun i hi => (h.row i hi).1⟩
theorem RowsAt.go {d P B : Nat} {w w' : World} {v : Value} {vs : List Value} {rs : List (List Int)} (h : RowsAt d P B w v vs rs) (hg : w.grownBy w' (some d)) : RowsAt d P B w' v vs rs := ⟨h.spine.kept hg, h.low, fun j hj => ⟨(h.row j hj).1.kept hg, (h.row j hj).2⟩⟩
theorem RowsAt.base {d P B : Nat} {w w' : World} {v : Value} {vs : List Value} {rs : List (List Int)} (h : RowsAt d P B w v vs rs) (hb : Below B w w') : RowsAt d P B w' v vs rs := ⟨h.spine.low h.low hb, h.low, fun j hj => ⟨(h.row j hj).1.lowI (h.row j hj).2 hb, (h.row j hj).2⟩⟩
theorem RowsAt.putZ {d P B Z : Nat} {w : World} {v : Value} {vs : List Value} {rs : List (List Int)} (h : RowsAt d P B w v vs rs) (hZ : Z ≤ P) (o : Nat) (u : Value) : RowsAt d P B (w.setCell ⟨Z, o, none⟩ u) v vs rs := ⟨h.spine.putZ h.low hZ o u, h.low, fun j hj => ⟨(h.row j hj).1.putZ (h.row j hj).2 hZ o u, (h.row j hj).2⟩⟩
theorem RowsAt.mono {d P B B' : Nat} {w : World} {v : Value} {vs : List Value} {rs : List (List Int)} (h : RowsAt d P B w v vs rs) (hB : B ≤ B') : RowsAt d P B' w v vs rs := ⟨h.spine, h.low.mono hB, fun j hj => ⟨(h.row j hj).1, (h.row j hj).2.mono hB⟩⟩
theorem RowsAt.put {d P B : Nat} {w : World} {v : Value} {vs : List Value} {rs : List (List Int)} (h : RowsAt d P B w v vs rs) (o : Nat) (u : Value) : RowsAt d P B (w.setCell ⟨P, o, none⟩ u) v vs rs := ⟨h.spine.put h.low o u, h.low, fun j hj => ⟨(h.row j hj).1.putI (h.row j hj).2 o u, (h.row j hj).2⟩⟩

/-- rows that are being made: the slice of them is the call's own -/
structure RowsK (d P base : Nat) (w : World) (v : Value) (vs : List Value) (rs : List (List Int)) : Prop where
  own : OwnR encV 1 25 base w v vs
  len : vs.length = rs.length
  hP : P < base
  row : ∀ j, j < rs.length → IntsAt (some d) w (vs.getD j undef) (lst rs j) ∧ ∀ b, (vs.getD j undef).ownBlock = some b → P < b ∧ b < w.heap.size ∧ v.ownBlock ≠ some b
theorem RowsK.nil (d : Nat) {P base : Nat} (w : World) (hP : P < base) : RowsK d P base w (.slice none 0 0) [] [] := ⟨OwnR.nil _ _ _ _ _, rfl, hP, fun j hj => by simp at hj⟩
theorem RowsK.go {d P base : Nat} {w w' : World} {v : Value} {vs : List Value} {rs : List (List Int)} (h : RowsK d P base w v vs rs) (hd : d < base) (hg : w.grownBy w' (some d)) : RowsK d P base w' v vs rs :=
  ⟨h.own.go hd hg, h.len, h.hP, fun j hj => ⟨(h.row j hj).1.kept hg, fun b hb => ⟨((h.row j hj).2 b hb).1, Nat.lt_of_lt_of_le ((h.row j hj).2 b hb).2.1 hg.size, ((h.row j hj).2 b hb).2.2⟩⟩⟩
theorem RowsK.put {d P base : Nat} {w : World} {v : Value} {vs : List Value} {rs : List (List Int)} (h : RowsK d P base w v vs rs) (o : Nat) (u : Value) : RowsK d P base (w.setCell ⟨P, o, none⟩ u) v vs rs :=
  ⟨h.own.put h.hP, h.len, h.hP, fun j hj => ⟨(h.row j hj).1.putI (P := P) (B := w.heap.size) (fun b hb => ⟨((h.row j hj).2 b hb).2.1, ((h.row j hj).2 b hb).1⟩) o u, fun b hb => ⟨((h.row j hj).2 b hb).1, Nat.lt_of_lt_of_le ((h.row j hj).2 b hb).2.1 (gb_put w P o u).size, ((h.row j hj).2 b hb).2.2⟩⟩⟩
theorem lst_snoc_old {rs : List (List Int)} {r : List Int} {j : Nat} (h : j < rs.length) : lst (rs ++ [r]) j = lst rs j := by
  unfold lst; rw [List.getD_eq_getElem?_getD, List.getD_eq_getElem?_getD, List.getElem?_append_left h]
theorem lst_snoc_new (rs : List (List Int)) (r : List Int) : lst (rs ++ [r]) rs.length = r := by
  unfold lst; rw [List.getD_eq_getElem?_getD, List.getElem?_append_right (Nat.le_refl _)]; simp
theorem getD_snoc_old {vs : List Value} {u : Value} {j : Nat} (h : j < vs.length) : (vs ++ [u]).getD j undef = vs.getD j undef := by
  rw [List.getD_eq_getElem?_getD, List.getD_eq_getElem?_getD, List.getElem?_append_left h]
theorem getD_snoc_new (vs : List Value) (u : Value) : (vs ++ [u]).getD vs.length undef = u := by
  rw [List.getD_eq_getElem?_getD, List.getElem?_append_right (Nat.le_refl _)]; simp
theorem IntsAt.blockB {q : Option Nat} {w : World} {v : Value} {xs : List Int} (h : IntsAt q w v xs) {w' : World} {r : Option Nat} (hg : w.grownBy w' r) (hne : ∀ b, v.ownBlock = some b → some b ≠ r) : IntsAt q w' v xs := by
  obtain ⟨a, cap, rfl, hh⟩ := h
  refine ⟨a, cap, rfl, fun h0 => ?_⟩
  obtain ⟨b, off, rfl, h1, h2, h3, h4, h5⟩ := hh h0
  exact ⟨b, off, rfl, h1, h2, h3, Nat.lt_of_lt_of_le h4 hg.size, fun i hi => (World.cell?_of_block (a := ⟨b, _, none⟩) (hg.block b h4 (hne b rfl))).trans (h5 i hi)⟩
/-- one row more -/
theorem RowsK.snoc {d P base : Nat} {w w' : World} {v v' u : Value} {vs : List Value} {rs : List (List Int)} {r : List Int} (h : RowsK d P base w v vs rs) (hr : IntsAt (some d) w u r) (hu : ∀ b, u.ownBlock = some b → P < b ∧ b < w.heap.size ∧ v.ownBlock ≠ some b)
    (hown : OwnR encV 1 25 base w' v' (vs ++ [u])) (hg : w.grownBy w' v.ownBlock) (hat : v'.ownBlock = v.ownBlock ∨ v'.ownBlock = some w.heap.size) : RowsK d P base w' v' (vs ++ [u]) (rs ++ [r]) := by
  have key : ∀ (x : Value) (xs : List Int), IntsAt (some d) w x xs → (∀ b, x.ownBlock = some b → P < b ∧ b < w.heap.size ∧ v.ownBlock ≠ some b) → IntsAt (some d) w' x xs ∧ ∀ b, x.ownBlock = some b → P < b ∧ b < w'.heap.size ∧ v'.ownBlock ≠ some b := fun x xs hx hb => by
    refine ⟨hx.blockB hg fun b e e2 => (hb b e).2.2 e2.symm, fun b e => ⟨(hb b e).1, Nat.lt_of_lt_of_le (hb b e).2.1 hg.size, fun e2 => ?_⟩⟩
    rcases hat with h1 | h1
    · rw [h1] at e2; exact (hb b e).2.2 e2
    · rw [h1] at e2; have := (hb b e).2.1; have := Option.some.inj e2; omega
  refine ⟨hown, by simp [h.len], h.hP, fun j hj => ?_⟩
  rw [List.length_append, List.length_singleton] at hj
  by_cases e : j < rs.length
  · rw [getD_snoc_old (by rw [h.len]; exact e), lst_snoc_old e]
    exact key _ _ (h.row j e).1 (h.row j e).2
  · obtain rfl : j = rs.length := by omega
    rw [lst_snoc_new, ← h.len, getD_snoc_new]
    exact key _ _ hr hu
theorem RowsK.done {d P base : Nat} {w : World} {v : Value} {vs : List Value} {rs : List (List Int)} (h : RowsK d P base w v vs rs) (hd : d < base) : RowsAt d P w.heap.size w v vs rs := by
  refine ⟨?_, h.own.low h.hP (Nat.le_refl _), fun j hj => ⟨(h.row j hj).1, fun b hb => ⟨((h.row j hj).2 b hb).2.1, ((h.row j hj).2 b hb).1⟩⟩⟩
  have := h.own.recs (d := some d) undef (fun x _ => x) (fun _ => rfl) (fun x j hj => by obtain rfl : j = 0 := (by omega); rfl) (fun j hj => by cases hj; exact hd)
  rw [h.len] at this
  exact this

/-- the box of a plot that is being made, and all that was there ahead of it -/
structure PS (d P base : Nat) (w0 : World) (c0 c1 c2 c3 : Value) (w : World) : Prop where
  gb : w0.grownBy w (some d)
  beat : Beat d w
  hd : d < w0.heap.size
  hP : w0.heap.size < P
  hb : P < base
  hs : base ≤ w.heap.size
  cell : w.cell? ⟨P, 0, none⟩ = some c0 ∧ w.cell? ⟨P, 1, none⟩ = some c1 ∧ w.cell? ⟨P, 2, none⟩ = some c2 ∧ w.cell? ⟨P, 3, none⟩ = some c3
  thaw : ∀ o, w.frozen? ⟨P, o, none⟩ = false
  res : (w.cell? ⟨w0.heap.size, 0, none⟩ = some (.slice none 0 0) ∧ w.cell? ⟨w0.heap.size, 1, none⟩ = some (.slice none 0 0) ∧ w.cell? ⟨w0.heap.size, 2, none⟩ = some (.slice none 0 0) ∧ w.cell? ⟨w0.heap.size, 3, none⟩ = some (.slice none 0 0)) ∧ ∀ o, w.frozen? ⟨w0.heap.size, o, none⟩ = false
section
variable {d P base : Nat} {w0 w w' : World} {c0 c1 c2 c3 : Value}
theorem PS.ltP (k : PS d P base w0 c0 c1 c2 c3 w) : P < w.heap.size := World.block_lt_of_cell? w ⟨P, 0, none⟩ k.cell.1
theorem PS.dP (k : PS d P base w0 c0 c1 c2 c3 w) : d < P := Nat.lt_trans k.hd k.hP
theorem PS.dB (k : PS d P base w0 c0 c1 c2 c3 w) : d < base := Nat.lt_trans k.dP k.hb
theorem PS.far (k : PS d P base w0 c0 c1 c2 c3 w) (hg : w0.grownBy w' (some d)) (hbt : Beat d w') (hs : base ≤ w'.heap.size) (h : ∀ b, (b = P ∨ b = w0.heap.size) → w'.heap[b]? = w.heap[b]?) : PS d P base w0 c0 c1 c2 c3 w' := by
  have hc : ∀ o, w'.cell? ⟨P, o, none⟩ = w.cell? ⟨P, o, none⟩ := fun o => World.cell?_of_block (a := ⟨P, o, none⟩) (h P (.inl rfl))
  have hr : ∀ o, w'.cell? ⟨w0.heap.size, o, none⟩ = w.cell? ⟨w0.heap.size, o, none⟩ := fun o => World.cell?_of_block (a := ⟨w0.heap.size, o, none⟩) (h _ (.inr rfl))
  refine ⟨hg, hbt, k.hd, k.hP, k.hb, hs, ?_, fun o => (World.frozen?_of_block (a := ⟨P, o, none⟩) (h P (.inl rfl))).trans (k.thaw o), ?_, fun o => (World.frozen?_of_block (a := ⟨w0.heap.size, o, none⟩) (h _ (.inr rfl))).trans (k.res.2 o)⟩
  · rw [hc, hc, hc, hc]; exact k.cell
  · rw [hr, hr, hr, hr]; exact k.res.1
theorem PS.go (k : PS d P base w0 c0 c1 c2 c3 w) (hg : w.grownBy w' (some d)) (hbt : Beat d w') : PS d P base w0 c0 c1 c2 c3 w' :=
  k.far (gb_trans k.gb hg) hbt (Nat.le_trans k.hs hg.size) fun b h => by
    have h1 := k.ltP
    have h2 := k.hP
    have h3 := k.hd
    exact hg.block b (by omega) (by intro e; have := Option.some.inj e; omega)
theorem PS.later (k : PS d P base w0 c0 c1 c2 c3 w) (hb : Below w.heap.size w w') : PS d P base w0 c0 c1 c2 c3 w' := k.go (gb_below hb _) (k.beat.gb hb)
theorem PS.under (k : PS d P base w0 c0 c1 c2 c3 w) (hb : Below base w w') : PS d P base w0 c0 c1 c2 c3 w' := by
  have h1 := k.dB
  have h2 := k.hb
  have h3 := k.hP
  refine k.far ?_ ?_ (Nat.le_trans k.hs hb.size) fun b h => hb.block b (by omega)
  · exact ⟨hb.os.trans k.gb.os, hb.tape.trans k.gb.tape, hb.output.trans k.gb.output, Nat.le_trans k.gb.size hb.size, fun i hi hn => (hb.block i (by omega)).trans (k.gb.block i hi hn)⟩
  · obtain ⟨u, q1, q2⟩ := k.beat
    exact ⟨u, cell_back hb h1 q1, (hb.frozen (p := ⟨d, 0, none⟩) h1).trans q2⟩
theorem PS.put (k : PS d P base w0 c0 c1 c2 c3 w) (o : Nat) (u : Value) :
    PS d P base w0 (if o = 0 then u else c0) (if o = 1 then u else c1) (if o = 2 then u else c2) (if o = 3 then u else c3) (w.setCell ⟨P, o, none⟩ u) := by
  have h1 := k.hP
  have hc : ∀ (i : Nat) (c : Value), w.cell? ⟨P, i, none⟩ = some c → (w.setCell ⟨P, o, none⟩ u).cell? ⟨P, i, none⟩ = some (if o = i then u else c) := fun i c h => by
    by_cases e : o = i
    · subst e; rw [if_pos rfl]; exact World.cell?_setCell_same _ _ _ h
    · rw [if_neg e]; exact (World.cell?_setCell_other _ _ _ _ (by intro e2; cases e2; exact e rfl)).trans h
  refine ⟨gb_out k.gb (by omega), k.beat.putFar (by have := k.dP; omega), k.hd, k.hP, k.hb, Nat.le_trans k.hs (gb_put w P o u).size, ⟨hc 0 _ k.cell.1, hc 1 _ k.cell.2.1, hc 2 _ k.cell.2.2.1, hc 3 _ k.cell.2.2.2⟩, fun i => (World.frozen?_setCell _ _ _ _).trans (k.thaw i), ?_, fun i => (World.frozen?_setCell _ _ _ _).trans (k.res.2 i)⟩
  have hr : ∀ i c, w.cell? ⟨w0.heap.size, i, none⟩ = some c → (w.setCell ⟨P, o, none⟩ u).cell? ⟨w0.heap.size, i, none⟩ = some c := fun i c h => cell_set_far (by omega) h
  exact ⟨hr 0 _ k.res.1.1, hr 1 _ k.res.1.2.1, hr 2 _ k.res.1.2.2.1, hr 3 _ k.res.1.2.2.2⟩
theorem PS.lift (k : PS d P base w0 c0 c1 c2 c3 w) {b' : Nat} (h1 : base ≤ b') (h2 : b' ≤ w.heap.size) : PS d P b' w0 c0 c1 c2 c3 w := ⟨k.gb, k.beat, k.hd, k.hP, Nat.lt_of_lt_of_le k.hb h1, h2, k.cell, k.thaw, k.res⟩
theorem PS.name (k : PS d P base w0 c0 c1 c2 c3 w) : ∃ w', w = w' ∧ PS d P base w0 c0 c1 c2 c3 w' := ⟨w, rfl, k⟩
end

/-! ### what is made is valid -/
/-- the first rows of the ways -/
def RowsMade (n : Nat) (rs : List (List Int)) : Prop := ∀ j, j < rs.length → (lst rs j).length = n ∧ ∀ k, k < n → 0 ≤ nm (lst rs j) k ∧ nm (lst rs j) k ≤ 7 ∧ (j = k → nm (lst rs j) k = 0)
theorem rows_made {n : Nat} {rs : List (List Int)} (h : RowsMade n rs) (hl : rs.length = n) : ∀ i, i < rs.length → rowE rs i = 0 := by
  intro i hi
  obtain ⟨h1, h2⟩ := h i hi
  rw [rowE_cells' (by rw [h1, hl])]
  refine firstBad_zero.2 fun k hk => ?_
  obtain ⟨a, b, c⟩ := h2 k (by omega)
  unfold cellE
  rw [if_neg (by rw [inB_true.2 ⟨by omega, by omega⟩]; simp), if_neg (by rintro ⟨e1, e2⟩; exact e2 (c e1))]
where rowE_cells' {walk : List (List Int)} {i : Nat} (h : (lst walk i).length = walk.length) : rowE walk i = firstBad (cellE (lst walk i) i) walk.length := by unfold rowE; rw [if_pos h]
theorem figE_fine {a b : Int} (h1 : 1 ≤ a) (h2 : a ≤ b) (h3 : b ≤ 300) : figE (a, b) = 0 := by
  unfold figE
  rw [if_neg (by rw [inB_true.2 ⟨h1, by omega⟩]; simp), if_neg (by rw [inB_true.2 ⟨by omega, h3⟩]; simp), if_neg (by show ¬ b < a; omega)]
theorem base_made {ps : List (Int × Int)} {rs : List (List Int)} {ds : List Int} {n : Nat} (h1 : 0 < ps.length ∧ ps.length ≤ 12) (h2 : ∀ i, i < ps.length → figE (sp ps i) = 0) (h3 : 0 < n ∧ n ≤ 8) (h4 : rs.length = n) (h5 : RowsMade n rs) (h6 : 0 < ds.length ∧ ds.length ≤ 8) (h7 : ∀ i, i < ds.length → 0 ≤ nm ds i ∧ nm ds i ≤ 1440) :
    plotErr ⟨ps, rs, ds, []⟩ = 0 :=
  plotErr_zero.2 { persons := h1, figures := h2, walk := by simp only [h4]; exact h3, rows := rows_made h5 h4, dress := h6, dresses := h7, few := by simp, parts := fun i hi => by simp at hi, twos := fun i hi => by simp at hi }
theorem sp_snoc_old {xs : List (Int × Int)} {x : Int × Int} {i : Nat} (h : i < xs.length) : sp (xs ++ [x]) i = sp xs i := by
  unfold sp; rw [List.getD_eq_getElem?_getD, List.getD_eq_getElem?_getD, List.getElem?_append_left h]
theorem sp_snoc_new (xs : List (Int × Int)) (x : Int × Int) : sp (xs ++ [x]) xs.length = x := by
  unfold sp; rw [List.getD_eq_getElem?_getD, List.getElem?_append_right (Nat.le_refl _)]; simp
theorem all_snoc {Q : Int × Int → Prop} {xs : List (Int × Int)} {x : Int × Int} (h : ∀ i, i < xs.length → Q (sp xs i)) (hx : Q x) : ∀ i, i < (xs ++ [x]).length → Q (sp (xs ++ [x]) i) := by
  intro i hi
  rw [List.length_append, List.length_singleton] at hi
  by_cases e : i < xs.length
  · rw [sp_snoc_old e]; exact h i e
  · obtain rfl : i = xs.length := by omega
    rw [sp_snoc_new]; exact hx
theorem alln_snoc {Q : Int → Prop} {xs : List Int} {x : Int} (h : ∀ i, i < xs.length → Q (nm xs i)) (hx : Q x) : ∀ i, i < (xs ++ [x]).length → Q (nm (xs ++ [x]) i) := by
  intro i hi
  rw [List.length_append, List.length_singleton] at hi
  by_cases e : i < xs.length
  · rw [nm_snoc_old e]; exact h i e
  · obtain rfl : i = xs.length := by omega
    rw [nm_snoc_new]; exact hx
theorem recs_lit {α : Type} (enc : α → List Value) {k : Nat} (z : α) (f : α → Nat → Value) (_ : 0 < k) (henc : ∀ x, (enc x).length = k) (hf : ∀ x j, j < k → (enc x)[j]? = some (f x j)) (q : Option Nat) (w : World) (hq : ∀ d, q = some d → d < w.heap.size) (xs : List α) (cs : Array Value) (e : cs.toList = xs.flatMap enc) (t : TypeId) (n : Nat) (hn : n = xs.length) (h0 : xs.length ≤ 1000) :
    RecAt q (w.alloc (.cells cs t)) (.slice (some ⟨w.heap.size, 0, none⟩) n n) xs.length k fun i j => f (xs.getD i z) j := by
  subst hn
  refine ⟨_, _, rfl, fun _ => ⟨_, _, rfl, Nat.le_refl _, by unfold maxLen; omega, by intro e; have := hq _ e.symm; omega, by simp, fun i hi j hj => cell_at rfl ?_⟩⟩
  have := flatMap_at (z := z) f henc hf xs i hi j hj
  rw [← e, Array.getElem?_toList] at this
  rw [Nat.zero_add]
  exact this
theorem spans_one (d : Nat) (w : World) (a b : Int) (hd : d < w.heap.size) : SpansAt (some d) (w.alloc (.cells #[.int .i64 a, .int .i64 b] 43)) (.slice (some ⟨w.heap.size, 0, none⟩) 1 1) [(a, b)] :=
  recs_lit encSpan (0, 0) spanCell (by decide) (fun _ => rfl) encSpan_at (some d) w (fun k e => by cases e; exact hd) [(a, b)] _ rfl _ 1 rfl (by simp)
theorem RecAt.sound {q : Option Nat} {w : World} {v : Value} {n k : Nat} {f : Nat → Nat → Value} (h : RecAt q w v n k f) (h0 : 0 < n) : Sound0 v := by
  obtain ⟨a, cap, rfl, hh⟩ := h
  obtain ⟨b, off, rfl, _⟩ := hh h0
  intro n c e; cases e
theorem IntsAt.soundI {q : Option Nat} {w : World} {v : Value} {xs : List Int} (h : IntsAt q w v xs) (h0 : 0 < xs.length) : Sound0 v := (IntsAt.rec.1 h).sound h0
theorem Beat.under {d B : Nat} {w w' : World} (h : Beat d w) (hb : Below B w w') (hd : d < B) : Beat d w' := by
  obtain ⟨u, q1, q2⟩ := h
  exact ⟨u, cell_back hb hd q1, (hb.frozen (p := ⟨d, 0, none⟩) hd).trans q2⟩
theorem gb_under {d : Option Nat} {a w w' : World} (h : a.grownBy w d) (hb : Below a.heap.size w w') : a.grownBy w' d :=
  ⟨hb.os.trans h.os, hb.tape.trans h.tape, hb.output.trans h.output, Nat.le_trans h.size hb.size, fun i hi hn => (hb.block i hi).trans (h.block i hi hn)⟩
theorem rows_snoc {n : Nat} {rs : List (List Int)} {r : List Int} (h : RowsMade n rs) (hl : r.length = n) (hr : ∀ t, t < n → 0 ≤ nm r t ∧ nm r t ≤ 7 ∧ (rs.length = t → nm r t = 0)) : RowsMade n (rs ++ [r]) := by
  intro j hj
  rw [List.length_append, List.length_singleton] at hj
  by_cases e : j < rs.length
  · rw [lst_snoc_old e]; exact h j e
  · obtain rfl : j = rs.length := by omega
    rw [lst_snoc_new]
    exact ⟨hl, hr⟩
theorem ints_one (d : Nat) (w : World) (x : Int) (hd : d < w.heap.size) : IntsAt (some d) (w.alloc (.cells #[.int .i64 x] 3)) (.slice (some ⟨w.heap.size, 0, none⟩) 1 1) [x] := by
  refine ⟨_, _, rfl, fun _ => ⟨_, _, rfl, Nat.le_refl _, by decide, by intro e; have := Option.some.inj e; omega, by simp, fun i hi => ?_⟩⟩
  obtain rfl : i = 0 := by simp at hi; omega
  exact cell_at rfl rfl

/-- a plot's box and its four lists, each of the call's own -/
structure PQ (d P B : Nat) (w0 : World) (c0 c1 c2 c3 : Value) (xs : List (Int × Int)) (vs : List Value) (rs : List (List Int)) (ds : List Int) (qs : List Part) (w : World) : Prop where
  ks : PS d P B w0 c0 c1 c2 c3 w
  s : SpansAt (some d) w c0 xs
  r : RowsAt d P B w c1 vs rs
  i : IntsAt (some d) w c2 ds
  p : PartsAt (some d) w c3 qs
  l0 : Low P B c0
  l2 : Low P B c2
  l3 : ∃ B', Low P B' c3
  s3 : Sound0 c3
section
variable {d P B : Nat} {w0 w w' : World} {c0 c1 c2 c3 : Value} {xs : List (Int × Int)} {vs : List Value} {rs : List (List Int)} {ds : List Int} {qs : List Part}
theorem PQ.go (k : PQ d P B w0 c0 c1 c2 c3 xs vs rs ds qs w) (hg : w.grownBy w' (some d)) (hb : Beat d w') : PQ d P B w0 c0 c1 c2 c3 xs vs rs ds qs w' :=
  ⟨k.ks.go hg hb, RecAt.kept k.s hg, k.r.go hg, k.i.kept hg, RecAt.kept k.p hg, k.l0, k.l2, k.l3, k.s3⟩
theorem PQ.later (k : PQ d P B w0 c0 c1 c2 c3 xs vs rs ds qs w) (hb : Below w.heap.size w w') : PQ d P B w0 c0 c1 c2 c3 xs vs rs ds qs w' := k.go (gb_below hb _) (k.ks.beat.gb hb)
theorem PQ.plot (k : PQ d P B w0 c0 c1 c2 c3 xs vs rs ds qs w) : PlotAt (some d) w c0 c1 c2 c3 ⟨xs, rs, ds, qs⟩ := ⟨k.s, k.r.lists, k.i, k.p⟩
theorem PQ.name (k : PQ d P B w0 c0 c1 c2 c3 xs vs rs ds qs w) : ∃ w', w = w' ∧ PQ d P B w0 c0 c1 c2 c3 xs vs rs ds qs w' := ⟨w, rfl, k⟩
/-- other parts -/
theorem PQ.turn (k : PQ d P B w0 c0 c1 c2 c3 xs vs rs ds qs w) {v : Value} {qs' : List Part} (hp : PartsAt (some d) w v qs') (hl : ∃ B', Low P B' v) (hs : Sound0 v) :
    PQ d P B w0 c0 c1 c2 v xs vs rs ds qs' ((((w.setCell ⟨P, 0, none⟩ c0).setCell ⟨P, 1, none⟩ c1).setCell ⟨P, 2, none⟩ c2).setCell ⟨P, 3, none⟩ v) := by
  obtain ⟨B', hl'⟩ := hl
  have k1 := ((((k.ks.put 0 c0).put 1 c1).put 2 c2).put 3 v)
  have k1 : PS d P B w0 c0 c1 c2 v ((((w.setCell ⟨P, 0, none⟩ c0).setCell ⟨P, 1, none⟩ c1).setCell ⟨P, 2, none⟩ c2).setCell ⟨P, 3, none⟩ v) := k1
  refine ⟨k1, ?_, (((k.r.put 0 c0).put 1 c1).put 2 c2).put 3 v, ?_, ?_, k.l0, k.l2, ⟨B', hl'⟩, hs⟩
  · exact RecAt.put (RecAt.put (RecAt.put (RecAt.put k.s k.l0 0 c0) k.l0 1 c1) k.l0 2 c2) k.l0 3 v
  · exact (((k.i.putI k.l2 0 c0).putI k.l2 1 c1).putI k.l2 2 c2).putI k.l2 3 v
  · exact RecAt.put (RecAt.put (RecAt.put (RecAt.put hp hl' 0 c0) hl' 1 c1) hl' 2 c2) hl' 3 v
/-- written to where the result lies -/
theorem PQ.ret (k : PQ d P B w0 c0 c1 c2 c3 xs vs rs ds qs w) : PlotAt (some d) ((((w.setCell ⟨w0.heap.size, 0, none⟩ c0).setCell ⟨w0.heap.size, 1, none⟩ c1).setCell ⟨w0.heap.size, 2, none⟩ c2).setCell ⟨w0.heap.size, 3, none⟩ c3) c0 c1 c2 c3 ⟨xs, rs, ds, qs⟩ := by
  obtain ⟨B', hl'⟩ := k.l3
  have hZ : w0.heap.size ≤ P := Nat.le_of_lt k.ks.hP
  refine ⟨RecAt.putZ (RecAt.putZ (RecAt.putZ (RecAt.putZ k.s k.l0 hZ 0 c0) k.l0 hZ 1 c1) k.l0 hZ 2 c2) k.l0 hZ 3 c3, ((((k.r.putZ hZ 0 c0).putZ hZ 1 c1).putZ hZ 2 c2).putZ hZ 3 c3).lists, (((k.i.putZ k.l2 hZ 0 c0).putZ k.l2 hZ 1 c1).putZ k.l2 hZ 2 c2).putZ k.l2 hZ 3 c3, RecAt.putZ (RecAt.putZ (RecAt.putZ (RecAt.putZ k.p hl' hZ 0 c0) hl' hZ 1 c1) hl' hZ 2 c2) hl' hZ 3 c3⟩
end
/-- a block that is new since a, of n numbers -/
structure NewBox (a w : World) (X n : Nat) : Prop where
  new : a.heap.size ≤ X
  cell : ∀ o, o < n → w.cell? ⟨X, o, none⟩ = some (.int .i64 0)
  thaw : ∀ o, w.frozen? ⟨X, o, none⟩ = false
theorem NewBox.lt {a w : World} {X n : Nat} (h : NewBox a w X n) (h0 : 0 < n) : X < w.heap.size := World.block_lt_of_cell? w ⟨X, 0, none⟩ (h.cell 0 h0)
theorem NewBox.go {a w w' : World} {X n d : Nat} (h : NewBox a w X n) (hd : d < a.heap.size) (h0 : 0 < n) (hg : w.grownBy w' (some d)) : NewBox a w' X n :=
  ⟨h.new, fun o ho => cell_gb hg (by have := h.new; omega) (h.cell o ho), fun o => frozen_gb hg (h.lt h0) (by have := h.new; omega) (h.thaw o)⟩
theorem RecAt.frm {q : Option Nat} {w : World} {v : Value} {n k : Nat} {f : Nat → Nat → Value} (h : RecAt q w v n k f) : ∃ a c, v = .slice a n c := by
  obtain ⟨a, c, e, _⟩ := h
  exact ⟨a, c, e⟩
theorem zero5 {o : Nat} (h : o < 5) : (#[Value.int .i64 0, .int .i64 0, .int .i64 0, .int .i64 0, .int .i64 0] : Array Value)[o]? = some (.int .i64 0) := by
  rcases (by omega : o = 0 ∨ o = 1 ∨ o = 2 ∨ o = 3 ∨ o = 4) with rfl | rfl | rfl | rfl | rfl <;> rfl
theorem NewBox.fill {a w : World} {X d : Nat} (h : NewBox a w X 5) (hg : a.grownBy w (some d)) (hb : Beat d w) (hd : d < a.heap.size) (x : Part) :
    a.grownBy (((((w.setCell ⟨X, 0, none⟩ (.int .i64 x.person)).setCell ⟨X, 1, none⟩ (.int .i64 x.place)).setCell ⟨X, 2, none⟩ (.int .i64 x.kind)).setCell ⟨X, 3, none⟩ (.int .i64 x.start)).setCell ⟨X, 4, none⟩ (.int .i64 x.stop)) (some d) ∧
    Beat d (((((w.setCell ⟨X, 0, none⟩ (.int .i64 x.person)).setCell ⟨X, 1, none⟩ (.int .i64 x.place)).setCell ⟨X, 2, none⟩ (.int .i64 x.kind)).setCell ⟨X, 3, none⟩ (.int .i64 x.start)).setCell ⟨X, 4, none⟩ (.int .i64 x.stop)) ∧
    (∀ j, j < 5 → (((((w.setCell ⟨X, 0, none⟩ (.int .i64 x.person)).setCell ⟨X, 1, none⟩ (.int .i64 x.place)).setCell ⟨X, 2, none⟩ (.int .i64 x.kind)).setCell ⟨X, 3, none⟩ (.int .i64 x.start)).setCell ⟨X, 4, none⟩ (.int .i64 x.stop)).cell? ⟨X, j, none⟩ = some (partCell x j)) := by
  have hn := h.new
  refine ⟨gb_out (gb_out (gb_out (gb_out (gb_out hg hn) hn) hn) hn) hn, ((((hb.putFar (by omega)).putFar (by omega)).putFar (by omega)).putFar (by omega)).putFar (by omega), fun j hj => ?_⟩
  have sm : ∀ {W : World} {o : Nat} {u v : Value}, W.cell? ⟨X, o, none⟩ = some v → (W.setCell ⟨X, o, none⟩ u).cell? ⟨X, o, none⟩ = some u := fun hv => World.cell?_setCell_same _ _ _ hv
  have ot : ∀ {W : World} {o o' : Nat} {u v : Value}, o' ≠ o → W.cell? ⟨X, o, none⟩ = some v → (W.setCell ⟨X, o', none⟩ u).cell? ⟨X, o, none⟩ = some v := fun {W o o' u v} n hv => (World.cell?_setCell_other _ _ _ _ (by intro e; cases e; exact n rfl)).trans hv
  rcases (by omega : j = 0 ∨ j = 1 ∨ j = 2 ∨ j = 3 ∨ j = 4) with rfl | rfl | rfl | rfl | rfl
  · exact ot (by decide) (ot (by decide) (ot (by decide) (ot (by decide) (sm (h.cell 0 (by decide))))))
  · exact ot (by decide) (ot (by decide) (ot (by decide) (sm (ot (by decide) (h.cell 1 (by decide))))))
  · exact ot (by decide) (ot (by decide) (sm (ot (by decide) (ot (by decide) (h.cell 2 (by decide))))))
  · exact ot (by decide) (sm (ot (by decide) (ot (by decide) (ot (by decide) (h.cell 3 (by decide))))))
  · exact sm (ot (by decide) (ot (by decide) (ot (by decide) (ot (by decide) (h.cell 4 (by decide))))))
/-- one record as a slice, in a block that is new since b0 -/
def LitR {α : Type} (enc : α → List Value) (b0 : Nat) (w : World) (v : Value) (x : α) : Prop := ∃ A, v = .slice (some ⟨A, 0, none⟩) 1 1 ∧ b0 ≤ A ∧ ∀ j u, (enc x)[j]? = some u → w.cell? ⟨A, j, none⟩ = some u
theorem LitR.new {α : Type} (enc : α → List Value) {b0 : Nat} {w : World} (hb : b0 ≤ w.heap.size) (x : α) (t : TypeId) : LitR enc b0 (w.alloc (.cells (enc x).toArray t)) (.slice (some ⟨w.heap.size, 0, none⟩) 1 1) x :=
  ⟨_, rfl, hb, fun j u hj => cell_at rfl (by simpa using hj)⟩
theorem LitR.go {α : Type} {enc : α → List Value} {b0 d : Nat} {w w' : World} {v : Value} {x : α} (h : LitR enc b0 w v x) (hd : d < b0) (hg : w.grownBy w' (some d)) : LitR enc b0 w' v x := by
  obtain ⟨A, e, hb, hc⟩ := h
  exact ⟨A, e, hb, fun j u hj => cell_gb hg (by omega) (hc j u hj)⟩
theorem LitR.apart {α : Type} {enc : α → List Value} {b0 E : Nat} {w w' : World} {v : Value} {x : α} (h : LitR enc b0 w v x) (he : ∃ u, (enc x)[0]? = some u) {t : TypeId} (hE : w.heap[E]? = some (.cells #[] t (0, 0))) (hg : w.grownBy w' (some E)) : LitR enc b0 w' v x := by
  obtain ⟨A, e, hb, hc⟩ := h
  obtain ⟨u, hu⟩ := he
  refine ⟨A, e, hb, fun j u hj => cell_gb hg ?_ (hc j u hj)⟩
  intro e2
  subst e2
  have := hc 0 _ hu
  simp only [World.cell?, hE] at this
  simp at this
theorem LitR.src {α : Type} {enc : α → List Value} {b0 : Nat} {w : World} {v : Value} {x : α} (h : LitR enc b0 w v x) : Src enc w v [x] := by
  obtain ⟨A, e, hb, hc⟩ := h
  exact .inl ⟨_, 1, e, fun j u hj => by rw [addr_off, Nat.zero_add]; exact hc j u (by simpa using hj)⟩
theorem OwnR.made {α : Type} (enc : α → List Value) (k : Nat) {e : TypeId} {base E : Nat} {w : World} (hb : base ≤ E) (hE : w.heap[E]? = some (.cells #[] e (0, 0))) : OwnR enc k e base w (.slice (some ⟨E, 0, none⟩) 0 0) [] :=
  ⟨by simp, .inr ⟨E, 0, #[], rfl, hb, hE, Nat.le_refl _, by unfold maxLen; omega, by simp, by simp⟩⟩
theorem box_new (w : World) (cs : Array Value) (t : TypeId) : (w.alloc (.cells cs t)).heap[w.heap.size]? = some (.cells cs t (0, 0)) := by
  show (w.heap.push _)[w.heap.size]? = _
  simp
end Go.Proofs.YtefdopifebhgiaaGreatDoor
