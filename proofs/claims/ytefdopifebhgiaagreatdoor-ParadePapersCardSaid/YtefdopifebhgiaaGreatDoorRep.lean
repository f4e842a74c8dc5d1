/-
  HOW THE DATA OF THE PROGRAM LIE IN MEMORY: lists of numbers and wings of a school, read in a world; what keeps them readable. No function of the program is walked here.
-/
import Derived.Test.YtefdopifebhgiaaGreatDoorProg
import Derived.WalkKit
import Derived.Deep.Draws
import Derived.Deep.QuietTactic
namespace Go.Proofs.YtefdopifebhgiaaGreatDoor
open Go.RowKit

/-- a fact kept from the walk -/
theorem hid {p : Prop} (h : p) : Hid p := h

/-- a wing -/
structure Wing where
  name : ByteArray
  len : Int
  lo : Int
  hi : Int

def noWing : Wing := ⟨ByteArray.empty, 0, 0, 0⟩
def wg (ws : List Wing) (i : Nat) : Wing := ws.getD i noWing
def nm (xs : List Int) (i : Nat) : Int := xs.getD i 0

/-- what an element of a slice holds, cell by cell -/
def wingCells (x : Wing) : List Value := [.string x.name, .int .i64 x.len, .int .i64 x.lo, .int .i64 x.hi]

/-- the slice v reads as the numbers xs; its block is none that d names -/
def IntsAt (d : Option Nat) (w : World) (v : Value) (xs : List Int) : Prop :=
  ∃ a cap, v = .slice a xs.length cap ∧ (0 < xs.length → ∃ b off, a = some ⟨b, off, none⟩ ∧ xs.length ≤ cap ∧ cap ≤ maxLen ∧ some b ≠ d ∧ b < w.heap.size ∧
    ∀ i, i < xs.length → w.cell? ⟨b, off + i, none⟩ = some (.int .i64 (nm xs i)))

/-- the slice v reads as the wings ws -/
def WgAt (d : Option Nat) (w : World) (v : Value) (ws : List Wing) : Prop :=
  ∃ a cap, v = .slice a ws.length cap ∧ (0 < ws.length → ∃ b off, a = some ⟨b, off, none⟩ ∧ ws.length ≤ cap ∧ cap ≤ maxLen ∧ some b ≠ d ∧ b < w.heap.size ∧
    ∀ i, i < ws.length → w.cell? ⟨b, off + i * 4, none⟩ = some (.string (wg ws i).name) ∧ w.cell? ⟨b, off + i * 4 + 1, none⟩ = some (.int .i64 (wg ws i).len) ∧
      w.cell? ⟨b, off + i * 4 + 2, none⟩ = some (.int .i64 (wg ws i).lo) ∧ w.cell? ⟨b, off + i * 4 + 2 + 1, none⟩ = some (.int .i64 (wg ws i).hi))

/-! ### frames -/

theorem gb_refl (w : World) (d : Option Nat) : w.grownBy w d := ⟨rfl, rfl, rfl, Nat.le_refl _, fun _ _ _ => rfl⟩
theorem gb_trans {a b c : World} {d : Option Nat} (h : a.grownBy b d) (k : b.grownBy c d) : a.grownBy c d :=
  ⟨k.os.trans h.os, k.tape.trans h.tape, k.output.trans h.output, Nat.le_trans h.size k.size, fun i hi hn => (k.block i (Nat.lt_of_lt_of_le hi h.size) hn).trans (h.block i hi hn)⟩
theorem gb_below {a b : World} (h : Below a.heap.size a b) (d : Option Nat) : a.grownBy b d := ⟨h.os, h.tape, h.output, h.size, fun i hi _ => h.block i hi⟩
theorem below_gb {a b : World} (h : a.grownBy b none) : Below a.heap.size a b := ⟨h.os, h.tape, h.output, h.size, fun i hi => h.block i hi (by simp)⟩
theorem below_trans {a b c : World} (h : Below a.heap.size a b) (k : Below b.heap.size b c) : Below a.heap.size a c := h.trans (k.mono h.size)

theorem IntsAt.kept {d : Option Nat} {w w' : World} {v : Value} {xs : List Int} (h : IntsAt d w v xs) (hg : w.grownBy w' d) : IntsAt d w' v xs := by
  obtain ⟨a, cap, rfl, hh⟩ := h
  refine ⟨a, cap, rfl, fun h0 => ?_⟩
  obtain ⟨b, off, rfl, h1, h2, h3, h4, h5⟩ := hh h0
  exact ⟨b, off, rfl, h1, h2, h3, Nat.lt_of_lt_of_le h4 hg.size, fun i hi => (World.cell?_of_block (a := ⟨b, _, none⟩) (hg.block b h4 h3)).trans (h5 i hi)⟩

theorem WgAt.kept {d : Option Nat} {w w' : World} {v : Value} {ws : List Wing} (h : WgAt d w v ws) (hg : w.grownBy w' d) : WgAt d w' v ws := by
  obtain ⟨a, cap, rfl, hh⟩ := h
  refine ⟨a, cap, rfl, fun h0 => ?_⟩
  obtain ⟨b, off, rfl, h1, h2, h3, h4, h5⟩ := hh h0
  have hc : ∀ o, w'.cell? ⟨b, o, none⟩ = w.cell? ⟨b, o, none⟩ := fun o => World.cell?_of_block (a := ⟨b, o, none⟩) (hg.block b h4 h3)
  refine ⟨b, off, rfl, h1, h2, h3, Nat.lt_of_lt_of_le h4 hg.size, fun i hi => ?_⟩
  rw [hc, hc, hc, hc]
  exact h5 i hi

theorem IntsAt.below {d : Option Nat} {w w' : World} {v : Value} {xs : List Int} (h : IntsAt d w v xs) (hg : Below w.heap.size w w') : IntsAt d w' v xs := h.kept (gb_below hg d)
theorem WgAt.below {d : Option Nat} {w w' : World} {v : Value} {ws : List Wing} (h : WgAt d w v ws) (hg : Below w.heap.size w w') : WgAt d w' v ws := h.kept (gb_below hg d)

theorem below_drewN {B : Nat} {a w : World} (h : Below B a w) (n : Nat) : Below B a (w.drewN n) := ⟨h.os, h.tape, h.output, h.size, h.block⟩

theorem cell_back {B : Nat} {w w' : World} (h : Below B w w') {b o : Nat} (hb : b < B) {v : Value} (hc : w.cell? ⟨b, o, none⟩ = some v) : w'.cell? ⟨b, o, none⟩ = some v := (h.cell (p := ⟨b, o, none⟩) hb).trans hc

theorem cell_at {w : World} {cs : Array Value} {t : TypeId} {b o : Nat} {v : Value} (hb : b = w.heap.size) (hv : cs[o]? = some v) : (w.alloc (.cells cs t)).cell? ⟨b, o, none⟩ = some v := by
  subst hb
  have : (w.alloc (.cells cs t)).heap[w.heap.size]? = some (.cells cs t) := by show (w.heap.push _)[w.heap.size]? = _; simp
  simp only [World.cell?, this]
  simpa using hv
theorem cell_up {w : World} {X : Obj} {b o : Nat} {v : Value} (h : w.cell? ⟨b, o, none⟩ = some v) : (w.alloc X).cell? ⟨b, o, none⟩ = some v :=
  (World.cell?_of_block (a := ⟨b, o, none⟩) (Below.heap_alloc w X b (World.block_lt_of_cell? w ⟨b, o, none⟩ h))).trans h
theorem frozen_at {w : World} {cs : Array Value} {t : TypeId} {b o : Nat} (hb : b = w.heap.size) : (w.alloc (.cells cs t)).frozen? ⟨b, o, none⟩ = false := by
  subst hb
  have : (w.alloc (.cells cs t)).heap[w.heap.size]? = some (.cells cs t) := by show (w.heap.push _)[w.heap.size]? = _; simp
  unfold World.frozen?
  rw [this]
  simp
theorem frozen_up {w : World} {X : Obj} {b o : Nat} (hb : b < w.heap.size) (h : w.frozen? ⟨b, o, none⟩ = false) : (w.alloc X).frozen? ⟨b, o, none⟩ = false :=
  (World.frozen?_of_block (a := ⟨b, o, none⟩) (Below.heap_alloc w X b hb)).trans h

/-- the box of a struct of two cells, in a later world -/
theorem boxed2 {w w' : World} {x y : Value} {t : TypeId} (h : Below (w.heap.size + 1) (w.alloc (.cells #[x, y] t)) w') :
    w'.cell? ⟨w.heap.size, 0, none⟩ = some x ∧ w'.cell? ⟨w.heap.size, 1, none⟩ = some y ∧ Below w.heap.size w w' ∧ w.heap.size + 1 ≤ w'.heap.size :=
  ⟨cell_back h (Nat.lt_succ_self _) (by simp), cell_back h (Nat.lt_succ_self _) (by simp), ((Below.refl _ w).alloc (Nat.le_refl _) _).trans (h.mono (Nat.le_succ _)), by have := h.size; simpa using this⟩

theorem below_go {B : Nat} {a b c : World} (h : Below B a b) (k : Below b.heap.size b c) (hB : B ≤ b.heap.size) : Below B a c := h.trans (k.mono hB)

/-! ### rows that a call has made -/

/-- a list of the call's own: numbers -/
def OwnInts (base : Nat) (w : World) (v : Value) (xs : List Int) : Prop := w.ownsRow base 3 1 v xs.length (xs.map (Value.int .i64))
/-- a list of the call's own: wings -/
def OwnWg (base : Nat) (w : World) (v : Value) (ws : List Wing) : Prop := w.ownsRow base 45 4 v ws.length (ws.flatMap wingCells)

theorem OwnInts.at {base : Nat} {w : World} {v : Value} {xs : List Int} (h : OwnInts base w v xs) {d : Option Nat} (hd : ∀ k, d = some k → k < base) : IntsAt d w v xs := by
  obtain ⟨_, h2⟩ := h
  rcases h2 with ⟨rfl, h0⟩ | ⟨g, cap, cur, rfl, hb, hh, h1, hm, hs, ht⟩
  · exact ⟨none, 0, by rw [h0], fun h => by omega⟩
  · refine ⟨some ⟨g, 0, none⟩, cap, rfl, fun _ => ⟨g, 0, rfl, h1, hm, fun e => ?_, (Array.getElem?_eq_some_iff.1 hh).1, fun i hi => ?_⟩⟩
    · have := hd g e.symm; omega
    · simp only [World.cell?, hh]
      have : (cur.toList.take (xs.length * 1))[i]? = (xs.map (Value.int .i64))[i]? := by rw [ht]
      rw [List.getElem?_take, if_pos (by omega), List.getElem?_map, List.getElem?_eq_getElem hi] at this
      simp only [Option.isSome_none, Bool.false_eq_true, if_false, Nat.zero_add]
      rw [← Array.getElem?_toList, this]
      simp [nm, List.getD_eq_getElem?_getD, List.getElem?_eq_getElem hi]

theorem wingCells_at (ws : List Wing) : ∀ i, i < ws.length → (ws.flatMap wingCells)[i * 4]? = some (.string (wg ws i).name) ∧ (ws.flatMap wingCells)[i * 4 + 1]? = some (.int .i64 (wg ws i).len) ∧
    (ws.flatMap wingCells)[i * 4 + 2]? = some (.int .i64 (wg ws i).lo) ∧ (ws.flatMap wingCells)[i * 4 + 3]? = some (.int .i64 (wg ws i).hi) := by
  induction ws with
  | nil => intro i hi; simp at hi
  | cons x ws ih =>
    intro i hi
    cases i with
    | zero => simp [wingCells, wg]
    | succ i =>
      have := ih i (by simpa using hi)
      have e : ∀ r, (i + 1) * 4 + r = (i * 4 + r) + 4 := fun r => by omega
      have e0 : (i + 1) * 4 = (i * 4) + 4 := by omega
      rw [e, e, e, e0]
      simpa [wingCells, wg] using this

theorem OwnWg.at {base : Nat} {w : World} {v : Value} {ws : List Wing} (h : OwnWg base w v ws) {d : Option Nat} (hd : ∀ k, d = some k → k < base) : WgAt d w v ws := by
  obtain ⟨_, h2⟩ := h
  rcases h2 with ⟨rfl, h0⟩ | ⟨g, cap, cur, rfl, hb, hh, h1, hm, hs, ht⟩
  · exact ⟨none, 0, by rw [h0], fun h => by omega⟩
  · refine ⟨some ⟨g, 0, none⟩, cap, rfl, fun _ => ⟨g, 0, rfl, h1, hm, fun e => ?_, (Array.getElem?_eq_some_iff.1 hh).1, fun i hi => ?_⟩⟩
    · have := hd g e.symm; omega
    · have hc : ∀ j u, j < ws.length * 4 → (ws.flatMap wingCells)[j]? = some u → w.cell? ⟨g, j, none⟩ = some u := fun j u hj hu => by
        rw [← ht, List.getElem?_take, if_pos hj, Array.getElem?_toList] at hu
        simp only [World.cell?, hh]
        simpa using hu
      obtain ⟨q0, q1, q2, q3⟩ := wingCells_at ws i hi
      refine ⟨?_, ?_, ?_, ?_⟩ <;> (simp only [Nat.zero_add]; first | exact hc _ _ (by omega) q0 | exact hc _ _ (by omega) q1 | exact hc _ _ (by omega) q2 | exact hc _ _ (by omega) q3)

theorem OwnInts.later {b : Nat} {w w' : World} {v : Value} {xs : List Int} (h : OwnInts b w v xs) (hb : Below w.heap.size w w') : OwnInts b w' v xs :=
  World.ownsRow.kept h (gb_below hb none) (by cases e : v.ownBlock <;> simp)
theorem OwnWg.later {b : Nat} {w w' : World} {v : Value} {xs : List Wing} (h : OwnWg b w v xs) (hb : Below w.heap.size w w') : OwnWg b w' v xs :=
  World.ownsRow.kept h (gb_below hb none) (by cases e : v.ownBlock <;> simp)

theorem IntsAt.nil (d : Option Nat) (w : World) : IntsAt d w (.slice none 0 0) [] := ⟨none, 0, rfl, fun h => by simp at h⟩
theorem WgAt.nil (d : Option Nat) (w : World) : WgAt d w (.slice none 0 0) [] := ⟨none, 0, rfl, fun h => by simp at h⟩

theorem below_alloc (w : World) (X : Obj) : Below w.heap.size w (w.alloc X) := (Below.refl _ w).alloc (Nat.le_refl _) X
theorem cell_set_far {w : World} {b b' o o' : Nat} {u x : Value} (hne : b' ≠ b) (h : w.cell? ⟨b, o, none⟩ = some u) : (w.setCell ⟨b', o', none⟩ x).cell? ⟨b, o, none⟩ = some u :=
  (World.cell?_setCell_other _ _ _ _ (by intro e; injection e with e; exact hne e)).trans h
theorem own_nil (b : Nat) (w : World) : OwnInts b w (.slice none 0 0) [] := World.ownsRow_nil w b _ _
theorem OwnInts.base' {b b' : Nat} {w : World} {v : Value} {xs : List Int} (h : OwnInts b w v xs) (hb : b' ≤ b) : OwnInts b' w v xs := by
  obtain ⟨h1, h2⟩ := h
  refine ⟨h1, ?_⟩
  rcases h2 with h2 | ⟨g, cap, cur, e, hg, hh⟩
  · exact .inl h2
  · exact .inr ⟨g, cap, cur, e, by omega, hh⟩

theorem eq_bool {a b : Int} (h : a = b) : (a == b) = true ∧ (a != b) = false := ⟨by simp [h], by simp [h]⟩
theorem ne_bool {a b : Int} (h : a ≠ b) : (a == b) = false ∧ (a != b) = true := ⟨beq_eq_false_iff_ne.2 h, by simp [h]⟩
theorem IntsAt.block {w : World} {v : Value} {xs : List Int} {o : Option Nat} (h : IntsAt o w v xs) (h0 : 0 < xs.length) : ∃ b, v.ownBlock = some b ∧ b < w.heap.size ∧ some b ≠ o := by
  obtain ⟨a, cap, rfl, hh⟩ := h
  obtain ⟨b, off, rfl, _, _, h3, h4, _⟩ := hh h0
  exact ⟨b, rfl, h4, h3⟩
theorem IntsAt.cell {q : Option Nat} {w : World} {b off n c : Nat} {xs : List Int} (h : IntsAt q w (.slice (some ⟨b, off, none⟩) n c) xs) {i : Nat} (hi : i < xs.length) : w.cell? ⟨b, off + i, none⟩ = some (.int .i64 (nm xs i)) := by
  obtain ⟨a, cap, e, hh⟩ := h
  cases e
  obtain ⟨b', off', e, _, _, _, _, h5⟩ := hh (by omega)
  cases e
  exact h5 i hi
theorem IntsAt.slice {q : Option Nat} {w : World} {v : Value} {xs : List Int} (h : IntsAt q w v xs) (h0 : 0 < xs.length) : ∃ b off c, v = .slice (some ⟨b, off, none⟩) xs.length c ∧ xs.length ≤ c ∧ c ≤ maxLen := by
  obtain ⟨a, cap, rfl, hh⟩ := h
  obtain ⟨b, off, rfl, h1, h2, _, _, _⟩ := hh h0
  exact ⟨b, off, cap, rfl, h1, h2⟩
end Go.Proofs.YtefdopifebhgiaaGreatDoor
