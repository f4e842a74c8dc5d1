/-
  WALKS: the drum of the statements: hit, Roll, Mid, Rare. What it gives is not told, but that it lies in its bounds.
-/
import Derived.Test.YtoipcbmbhjajfaaDoorChk
import Derived.Test.YtoipcbmbhjajfaaDoorRoundHeld
import Derived.Deep.QuietTactic
namespace Go.Proofs.YtoipcbmbhjajfaaDoor
open Go.RowKit

/-- block d is a drum's -/
def Beat (d : Nat) (w : World) : Prop := ∃ u, w.cell? ⟨d, 0, none⟩ = some (.int .u64 u) ∧ w.frozen? ⟨d, 0, none⟩ = false

theorem Beat.lt {d : Nat} {w : World} (h : Beat d w) : d < w.heap.size := by
  obtain ⟨u, h1, _⟩ := h
  exact World.block_lt_of_cell? w ⟨d, 0, none⟩ h1

theorem u64_bound (z : Int) : 0 ≤ IntKind.u64.wrap z ∧ IntKind.u64.wrap z < 18446744073709551616 := by
  unfold IntKind.wrap
  simp [IntKind.signed, IntKind.bits]
  omega

theorem gb_set (w : World) (d : Nat) (v : Value) : w.grownBy (w.setCell ⟨d, 0, none⟩ v) (some d) := grownBy_setCell' w d v

theorem cell_gb {d : Nat} {w w' : World} (h : w.grownBy w' (some d)) {b o : Nat} {v : Value} (hb : b ≠ d) (hc : w.cell? ⟨b, o, none⟩ = some v) : w'.cell? ⟨b, o, none⟩ = some v :=
  (World.cell?_of_block (a := ⟨b, o, none⟩) (h.block b (World.block_lt_of_cell? w ⟨b, o, none⟩ hc) (by simpa using hb))).trans hc

theorem frozen_gb {d : Nat} {w w' : World} (h : w.grownBy w' (some d)) {b o : Nat} (hlt : b < w.heap.size) (hb : b ≠ d) (hc : w.frozen? ⟨b, o, none⟩ = false) : w'.frozen? ⟨b, o, none⟩ = false :=
  (World.frozen?_of_block (a := ⟨b, o, none⟩) (h.block b hlt (by simpa using hb))).trans hc

theorem gb_put (w : World) (b o : Nat) (v : Value) : w.grownBy (w.setCell ⟨b, o, none⟩ v) (some b) :=
  ⟨rfl, rfl, rfl, (KeepsWalks.setCell w _ v).size, fun k _ hk => Below.heap_setCell _ _ _ k (fun e => hk (by rw [e]))⟩
theorem Beat.putFar {d b o : Nat} {w : World} {u : Value} (h : Beat d w) (hb : b ≠ d) : Beat d (w.setCell ⟨b, o, none⟩ u) := by
  obtain ⟨x, h1, h2⟩ := h
  exact ⟨x, cell_set_far hb h1, (World.frozen?_setCell _ _ _ _).trans h2⟩
theorem gb_out {d : Option Nat} {b o : Nat} {w w' : World} {u : Value} (h : w.grownBy w' d) (hb : w.heap.size ≤ b) : w.grownBy (w'.setCell ⟨b, o, none⟩ u) d :=
  ⟨h.os, h.tape, h.output, Nat.le_trans h.size (gb_put w' b o u).size, fun i hi hn => ((gb_put w' b o u).block i (Nat.lt_of_lt_of_le hi h.size) (by intro e; cases e; omega)).trans (h.block i hi hn)⟩

theorem Beat.gb {d : Nat} {w w' : World} (h : Beat d w) (hb : Below w.heap.size w w') : Beat d w' := by
  obtain ⟨u, h1, h2⟩ := h
  have hlt := World.block_lt_of_cell? w ⟨d, 0, none⟩ h1
  exact ⟨u, cell_back hb hlt h1, (hb.frozen (p := ⟨d, 0, none⟩) hlt).trans h2⟩

/-- a slice that was just written, of two or three numbers -/
theorem ints_two (d : Nat) (w : World) (x y : Int) (hd : d < w.heap.size) : IntsAt (some d) (w.alloc (.cells #[.int .i64 x, .int .i64 y] 3)) (.slice (some ⟨w.heap.size, 0, none⟩) 2 2) [x, y] :=
  ⟨_, _, rfl, fun _ => ⟨_, _, rfl, by simp, by unfold maxLen; omega, by simp; omega, by simp, fun i hi => by
    match i, hi with
    | 0, _ => exact cell_at rfl rfl
    | 1, _ => exact cell_at rfl rfl⟩⟩

theorem ints_three (d : Nat) (w : World) (x y z : Int) (hd : d < w.heap.size) : IntsAt (some d) (w.alloc (.cells #[.int .i64 x, .int .i64 y, .int .i64 z] 3)) (.slice (some ⟨w.heap.size, 0, none⟩) 3 3) [x, y, z] :=
  ⟨_, _, rfl, fun _ => ⟨_, _, rfl, by simp, by unfold maxLen; omega, by simp; omega, by simp, fun i hi => by
    match i, hi with
    | 0, _ => exact cell_at rfl rfl
    | 1, _ => exact cell_at rfl rfl
    | 2, _ => exact cell_at rfl rfl⟩⟩
theorem any_three {a b c lo hi : Int} (h1 : lo ≤ a ∧ a ≤ hi) (h2 : lo ≤ b ∧ b ≤ hi) (h3 : lo ≤ c ∧ c ≤ hi) {j : Nat} (hj : j < [a, b, c].length) : lo ≤ nm [a, b, c] j ∧ nm [a, b, c] j ≤ hi := by
  match j, hj with
  | 0, _ => exact h1
  | 1, _ => exact h2
  | 2, _ => exact h3
theorem any_three_ex {a b c lo hi : Int} (h1 : lo ≤ a ∧ a ≤ hi) (h2 : lo ≤ b ∧ b ≤ hi) (h3 : lo ≤ c ∧ c ≤ hi) {j : Nat} (hj : j < [a, b, c].length) : ∃ z, nm [a, b, c] j = z ∧ lo ≤ z ∧ z ≤ hi :=
  ⟨_, rfl, any_three h1 h2 h3 hj⟩
theorem any_two {a b lo hi : Int} (h1 : lo ≤ a ∧ a ≤ hi) (h2 : lo ≤ b ∧ b ≤ hi) {j : Nat} (hj : j < [a, b].length) : lo ≤ nm [a, b] j ∧ nm [a, b] j ≤ hi := by
  match j, hj with
  | 0, _ => exact h1
  | 1, _ => exact h2
end Go.Proofs.YtoipcbmbhjajfaaDoor
