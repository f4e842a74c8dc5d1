/-
  WALKS: DrumOf; copies and comparisons of lists.
-/
import Derived.Test.YtefdopifebhgiaaGreatDoorKd
namespace Go.Proofs.YtefdopifebhgiaaGreatDoor
open Go.RowKit

theorem Beat.set {d : Nat} {w : World} {u : Int} (hu : w.cell? ⟨d, 0, none⟩ = some (.int .u64 u)) (hf : w.frozen? ⟨d, 0, none⟩ = false) (x : Int) : Beat d (w.setCell ⟨d, 0, none⟩ (.int .u64 x)).drew := by
  have h1 : (w.setCell ⟨d, 0, none⟩ (.int .u64 x)).drew.cell? ⟨d, 0, none⟩ = some (.int .u64 x) := World.cell?_setCell_same w ⟨d, 0, none⟩ (.int .u64 x) hu
  have h2 : (w.setCell ⟨d, 0, none⟩ (.int .u64 x)).drew.frozen? ⟨d, 0, none⟩ = false := (World.frozen?_setCell _ _ _ _).trans hf
  exact ⟨x, h1, h2⟩

set_option maxHeartbeats 1000000 in
set_option maxRecDepth 100000 in
theorem drumOf_any (xs : List Int) (v : Value) (w : World) (hX : IntsAt none w v xs) (hn : xs.length ≤ 9223372036854775807) :
    Calls Tryz.prog 8 #[v] w
     fun e w' => e = .returned (.pointer (some ⟨w.heap.size, 0, none⟩)) ∧ Beat w.heap.size w' ∧ Below w.heap.size w w' := by
  obtain ⟨a, cap, rfl, hh⟩ := hX
  go_enter Tryz.func8, Tryz.ntmps8
  go_wp2
  go_loopw [4] (fun i wr => ∃ k : Nat, k ≤ xs.length ∧ i = .int .i64 k ∧ Beat w.heap.size wr ∧ Below w.heap.size w wr)
    (fun i _ => xs.length - (intOf i).toNat)
  case atStart => exact ⟨0, by omega, rfl, ⟨_, cell_at rfl rfl, frozen_at rfl⟩, (Below.refl _ w).alloc (Nat.le_refl _) _⟩
  case round =>
    obtain ⟨k, hk, rfl, hbt, hkr⟩ := hrel
    by_cases hlt : k < xs.length
    · obtain ⟨b, off, rfl, _, _, _, hb, hL⟩ := hh (by omega)
      obtain ⟨u, hu, hf⟩ := hbt
      have r4 := cell_back hkr hb (hL k hlt)
      have Hkr := hid hkr
      clear hL hh hkr
      go_wp2
      have r4' : wr.drew.cell? ⟨b, off + k, none⟩ = some (.int .i64 (nm xs k)) := r4
      have hu' : wr.drew.cell? ⟨w.heap.size, 0, none⟩ = some (.int .u64 u) := hu
      have hf' : wr.drew.frozen? ⟨w.heap.size, 0, none⟩ = false := hf
      go_region
      all_goals (
        go_wp2_with (go_at_call 26; refine (hit_any w.heap.size _ (Beat.set hu hf _)).mono ?_; rintro e w1 ⟨u1, rfl, hu1, hu2, hbt, hgb⟩)
        go_roundw
        case rel => exact ⟨k + 1, by omega, by go_num, hbt, (Hkr.out.setCell (p := ⟨w.heap.size, 0, none⟩) (by simp) _).drew.grown hgb (by have := World.block_lt_of_cell? wr ⟨w.heap.size, 0, none⟩ hu; simp at this ⊢; omega) (by intro k hk; simp at hk; omega)⟩
        case measure => simp [intOf] <;> omega)
    · go_wp2
      go_ret
      exact ⟨rfl, hbt, hkr⟩

set_option maxHeartbeats 1000000 in
set_option maxRecDepth 100000 in
theorem fit_any (x n : Int) (w : World) (_ : -9223372036854775808 ≤ x ∧ x ≤ 9223372036854775807) (hn : n ≤ 1000000000000) :
    Calls Tryz.prog 34 #[.int .i64 x, .int .i64 n] w
     fun e w' => ∃ r : Int, e = .returned (.int .i64 r) ∧ 0 ≤ r ∧ r < max n 1 ∧ w = w' := by
  by_cases h2 : n < 2
  · go_enter Tryz.func34, Tryz.ntmps34
    go_wp2
    go_ret
    exact ⟨0, rfl, by omega, by omega, rfl⟩
  · have hnz : (n == 0) = false := beq_eq_false_iff_ne.2 (by omega)
    go_enter Tryz.func34, Tryz.ntmps34
    go_wp2
    all_goals (
      have b1 := Int.tmod_lt_of_pos x (b := n) (by omega)
      have b2 := Int.lt_tmod_of_pos x (b := n) (by omega))
    · go_ret
      have z1 : wrap64 (x.tmod n + n) = x.tmod n + n := by unfold wrap64; omega
      exact ⟨_, ret_int z1, by omega, by omega, rfl⟩
    · go_ret
      exact ⟨_, rfl, by omega, by omega, rfl⟩
end Go.Proofs.YtefdopifebhgiaaGreatDoor
