/-
  WALKS: the drum of the statements: hit, Roll, Mid, Rare. What it gives is not told, but that it lies in its bounds.
-/
import Derived.Test.YtefdopifebhgiaaGreatDoorChk
import Derived.Test.YtefdopifebhgiaaGreatDoorRoundHeld
import Derived.Deep.QuietTactic
namespace Go.Proofs.YtefdopifebhgiaaGreatDoor
open Go.RowKit

/-- block d is a drum's -/
def Beat (d : Nat) (w : World) : Prop := ∃ u, w.cell? ⟨d, 0, none⟩ = some (.int .u64 u) ∧ w.frozen? ⟨d, 0, none⟩ = false

theorem Beat.lt {d : Nat} {w : World} (h : Beat d w) : d < w.heap.size := by
  obtain ⟨u, h1, _⟩ := h
  exact World.block_lt_of_cell? w ⟨d, 0, none⟩ h1

theorem u64_bound (z : Int) : 0 ≤ IntKind.u64.wrap z ∧ IntKind.u64.wrap z < 18446744073709551616 := by
  unfold IntKind.wrap
  simp [IntKind.signed, IntKind.bits]
  omega

theorem gb_set (w : World) (d : Nat) (v : Value) : w.grownBy (w.setCell ⟨d, 0, none⟩ v) (some d) := grownBy_setCell' w d v

theorem cell_gb {d : Nat} {w w' : World} (h : w.grownBy w' (some d)) {b o : Nat} {v : Value} (hb : b ≠ d) (hc : w.cell? ⟨b, o, none⟩ = some v) : w'.cell? ⟨b, o, none⟩ = some v :=
  (World.cell?_of_block (a := ⟨b, o, none⟩) (h.block b (World.block_lt_of_cell? w ⟨b, o, none⟩ hc) (by simpa using hb))).trans hc

theorem frozen_gb {d : Nat} {w w' : World} (h : w.grownBy w' (some d)) {b o : Nat} (hlt : b < w.heap.size) (hb : b ≠ d) (hc : w.frozen? ⟨b, o, none⟩ = false) : w'.frozen? ⟨b, o, none⟩ = false :=
  (World.frozen?_of_block (a := ⟨b, o, none⟩) (h.block b hlt (by simpa using hb))).trans hc

theorem gb_put (w : World) (b o : Nat) (v : Value) : w.grownBy (w.setCell ⟨b, o, none⟩ v) (some b) :=
  ⟨rfl, rfl, rfl, (KeepsWalks.setCell w _ v).size, fun k _ hk => Below.heap_setCell _ _ _ k (fun e => hk (by rw [e]))⟩
theorem Beat.putFar {d b o : Nat} {w : World} {u : Value} (h : Beat d w) (hb : b ≠ d) : Beat d (w.setCell ⟨b, o, none⟩ u) := by
  obtain ⟨x, h1, h2⟩ := h
  exact ⟨x, cell_set_far hb h1, (World.frozen?_setCell _ _ _ _).trans h2⟩
theorem gb_out {d : Option Nat} {b o : Nat} {w w' : World} {u : Value} (h : w.grownBy w' d) (hb : w.heap.size ≤ b) : w.grownBy (w'.setCell ⟨b, o, none⟩ u) d :=
  ⟨h.os, h.tape, h.output, Nat.le_trans h.size (gb_put w' b o u).size, fun i hi hn => ((gb_put w' b o u).block i (Nat.lt_of_lt_of_le hi h.size) (by intro e; cases e; omega)).trans (h.block i hi hn)⟩

set_option maxHeartbeats 1000000 in
set_option maxRecDepth 100000 in
theorem hit_any (d : Nat) (w : World) (h : Beat d w) :
    Calls Tryz.prog 26 #[.pointer (some ⟨d, 0, none⟩)] w
     fun e w' => ∃ u : Int, e = .returned (.int .u64 u) ∧ 0 ≤ u ∧ u < 18446744073709551616 ∧ Beat d w' ∧ w.grownBy w' (some d) := by
  obtain ⟨u, hu, hf⟩ := h
  go_enter Tryz.func26, Tryz.ntmps26
  go_wp2
  go_ret
  refine ⟨_, rfl, (u64_bound _).1, (u64_bound _).2, ?_, ?_⟩
  · exact ⟨_, World.cell?_setCell_same _ _ _ hu, (World.frozen?_setCell _ _ _ _).trans hf⟩
  · exact gb_set _ _ _

theorem Beat.gb {d : Nat} {w w' : World} (h : Beat d w) (hb : Below w.heap.size w w') : Beat d w' := by
  obtain ⟨u, h1, h2⟩ := h
  have hlt := World.block_lt_of_cell? w ⟨d, 0, none⟩ h1
  exact ⟨u, cell_back hb hlt h1, (hb.frozen (p := ⟨d, 0, none⟩) hlt).trans h2⟩

set_option maxHeartbeats 1000000 in
set_option maxRecDepth 100000 in
theorem roll_any (d : Nat) (n : Int) (w : World) (h : Beat d w) (hn : n ≤ 1000000000000000000) :
    Calls Tryz.prog 25 #[.pointer (some ⟨d, 0, none⟩), .int .i64 n] w
     fun e w' => ∃ r : Int, e = .returned (.int .i64 r) ∧ 0 ≤ r ∧ r < max n 1 ∧ Beat d w' ∧ w.grownBy w' (some d) := by
  have H := hid h
  clear h
  by_cases h2 : n < 2
  · go_enter Tryz.func25, Tryz.ntmps25
    go_wp2
    go_ret
    exact ⟨0, rfl, by omega, by omega, H.out, gb_refl _ _⟩
  · have hnz : (n == 0) = false := beq_eq_false_iff_ne.2 (by omega)
    have z1 : IntKind.u64.wrap n = n := IntWalk.u64_in _ (by omega)
    go_enter Tryz.func25, Tryz.ntmps25
    go_wp2_with (go_at_call 26; refine (hit_any _ _ H.out).mono ?_; rintro e w1 ⟨u, rfl, hu1, hu2, hbt, hgb⟩)
    go_ret
    have b1 := Int.emod_nonneg (u / 2) (b := n) (by omega)
    have b2 := Int.emod_lt_of_pos (u / 2) (b := n) (by omega)
    have z2 : wrap64 (u / 2 % n) = u / 2 % n := by unfold wrap64; omega
    exact ⟨u / 2 % n, ret_int z2, b1, by omega, hbt, hgb⟩

set_option maxHeartbeats 1000000 in
set_option maxRecDepth 100000 in
theorem mid_any (d : Nat) (lo hi : Int) (w : World) (h : Beat d w) (h1 : -1000000000 ≤ lo) (h2 : lo ≤ 1000000000) (h3 : -1000000000 ≤ hi) (h4 : hi ≤ 1000000000) :
    Calls Tryz.prog 22 #[.pointer (some ⟨d, 0, none⟩), .int .i64 lo, .int .i64 hi] w
     fun e w' => ∃ r : Int, e = .returned (.int .i64 r) ∧ lo ≤ r ∧ r ≤ max lo hi ∧ Beat d w' ∧ w.grownBy w' (some d) := by
  have H := hid h
  clear h
  go_enter Tryz.func22, Tryz.ntmps22
  go_wp2_with (go_at_call 25; refine (roll_any _ _ _ H.out (by omega)).mono ?_; rintro e w1 ⟨r, rfl, hr1, hr2, hbt, hgb⟩)
  go_ret
  exact ⟨lo + r, rfl, by omega, by omega, hbt, hgb⟩

set_option maxHeartbeats 1000000 in
set_option maxRecDepth 100000 in
theorem any_any (d : Nat) (xs : List Int) (v : Value) (w : World) (h : Beat d w) (hX : IntsAt (some d) w v xs) (h0 : 0 < xs.length) (hn : xs.length ≤ 1000) :
    Calls Tryz.prog 23 #[.pointer (some ⟨d, 0, none⟩), v] w
     fun e w' => ∃ i, i < xs.length ∧ e = .returned (.int .i64 (nm xs i)) ∧ Beat d w' ∧ w.grownBy w' (some d) := by
  have H := hid h
  clear h
  obtain ⟨a, cap, rfl, hh⟩ := hX
  obtain ⟨b, off, rfl, _, _, hne, hb, hL⟩ := hh h0
  clear hh
  have hnz : ((xs.length : Int) == 0) = false := beq_eq_false_iff_ne.2 (by omega)
  go_enter Tryz.func23, Tryz.ntmps23
  go_wp2_with (go_at_call 25; refine (roll_any _ _ _ H.out (by omega)).mono ?_; rintro e w1 ⟨r, rfl, hr1, hr2, hbt, hgb⟩; obtain ⟨k, rfl⟩ := Int.eq_ofNat_of_zero_le hr1; have hk : k < xs.length := (by omega); have hc := cell_gb hgb (fun e => hne (congrArg some e)) (hL k hk))
  go_ret
  exact ⟨k, hk, rfl, hbt, hgb⟩

/-- a slice that was just written, of two or three numbers -/
theorem ints_two (d : Nat) (w : World) (x y : Int) (hd : d < w.heap.size) : IntsAt (some d) (w.alloc (.cells #[.int .i64 x, .int .i64 y] 3)) (.slice (some ⟨w.heap.size, 0, none⟩) 2 2) [x, y] :=
  ⟨_, _, rfl, fun _ => ⟨_, _, rfl, by simp, by unfold maxLen; omega, by simp; omega, by simp, fun i hi => by
    match i, hi with
    | 0, _ => exact cell_at rfl rfl
    | 1, _ => exact cell_at rfl rfl⟩⟩

theorem ints_three (d : Nat) (w : World) (x y z : Int) (hd : d < w.heap.size) : IntsAt (some d) (w.alloc (.cells #[.int .i64 x, .int .i64 y, .int .i64 z] 3)) (.slice (some ⟨w.heap.size, 0, none⟩) 3 3) [x, y, z] :=
  ⟨_, _, rfl, fun _ => ⟨_, _, rfl, by simp, by unfold maxLen; omega, by simp; omega, by simp, fun i hi => by
    match i, hi with
    | 0, _ => exact cell_at rfl rfl
    | 1, _ => exact cell_at rfl rfl
    | 2, _ => exact cell_at rfl rfl⟩⟩
theorem any_three {a b c lo hi : Int} (h1 : lo ≤ a ∧ a ≤ hi) (h2 : lo ≤ b ∧ b ≤ hi) (h3 : lo ≤ c ∧ c ≤ hi) {j : Nat} (hj : j < [a, b, c].length) : lo ≤ nm [a, b, c] j ∧ nm [a, b, c] j ≤ hi := by
  match j, hj with
  | 0, _ => exact h1
  | 1, _ => exact h2
  | 2, _ => exact h3
theorem any_three_ex {a b c lo hi : Int} (h1 : lo ≤ a ∧ a ≤ hi) (h2 : lo ≤ b ∧ b ≤ hi) (h3 : lo ≤ c ∧ c ≤ hi) {j : Nat} (hj : j < [a, b, c].length) : ∃ z, nm [a, b, c] j = z ∧ lo ≤ z ∧ z ≤ hi :=
  ⟨_, rfl, any_three h1 h2 h3 hj⟩
theorem any_two {a b lo hi : Int} (h1 : lo ≤ a ∧ a ≤ hi) (h2 : lo ≤ b ∧ b ≤ hi) {j : Nat} (hj : j < [a, b].length) : lo ≤ nm [a, b] j ∧ nm [a, b] j ≤ hi := by
  match j, hj with
  | 0, _ => exact h1
  | 1, _ => exact h2
end Go.Proofs.YtefdopifebhgiaaGreatDoor
