/-
  WALKS: the reference's lists of paces; the seconds and places of fronts, for true paces.
-/
import Derived.Test.YtgfipifgijohhaaDoorApp
import Derived.WalkSpells
import Derived.WalkLawsBesides
import Derived.BigQuiet
namespace Go.Proofs.YtgfipifgijohhaaDoor
open Go.RowKit

theorem take_snoc {α : Type} (l : List α) (k : Nat) (h : k < l.length) (d : α) : l.take k ++ [l.getD k d] = l.take (k + 1) := by
  rw [List.take_succ_eq_append_getElem h]; simp [List.getD_eq_getElem?_getD, List.getElem?_eq_getElem h]

theorem map_wg {α : Type} (f : Wing → α) (ws : List Wing) (k : Nat) (h : k < ws.length) : (ws.map f).take k ++ [f (wg ws k)] = (ws.map f).take (k + 1) := by
  rw [List.take_succ_eq_append_getElem (by simpa using h)]; simp [wg, List.getD_eq_getElem?_getD, List.getElem?_eq_getElem h]

theorem OwnInts.base {b b' : Nat} {w : World} {v : Value} {xs : List Int} (h : OwnInts b w v xs) (hb : b' ≤ b) : OwnInts b' w v xs := by
  obtain ⟨h1, h2⟩ := h
  exact ⟨h1, h2.imp id (fun ⟨g, cap, cur, e, hg, r⟩ => ⟨g, cap, cur, e, Nat.le_trans hb hg, r⟩)⟩

set_option maxHeartbeats 400000 in
set_option maxRecDepth 100000 in
theorem slow_any (ws : List Wing) (route : Int) (vw : Value) (d : Option Nat) (w : World) (hW : WgAt d w vw ws) (hn : ws.length ≤ 100) :
    Calls Tryd.prog 50 #[.agg #[.int .i64 route, vw]] w fun e w' => ∃ v, e = .returned v ∧ OwnInts w.heap.size w' v (ws.map Wing.lo) ∧ Below w.heap.size w w' := by
  obtain ⟨a, cap, rfl, hh⟩ := hW
  go_enter Tryd.func50, Tryd.ntmps50
  go_wp2
  go_loopw [3, 4] (fun v i wr => ∃ k : Nat, k ≤ ws.length ∧ i = .int .i64 k ∧ OwnInts (w.heap.size + 1) wr v ((ws.map Wing.lo).take k) ∧ Below w.heap.size w wr ∧
      wr.cell? ⟨w.heap.size, 1, none⟩ = some (.slice a ws.length cap) ∧ w.heap.size + 1 ≤ wr.heap.size)
    (fun _ i _ => ws.length - (intOf i).toNat)
  case atStart =>
    exact ⟨0, by omega, rfl, World.ownsRow_nil _ _ _ _, (Below.refl _ _).alloc (Nat.le_refl _) _, by simp, by simp⟩
  case round =>
    obtain ⟨k, hk, rfl, hown, hbel, hcb, hsz⟩ := hrel
    by_cases hlt : k < ws.length
    · obtain ⟨b, off, rfl, h1, h2, _, h4, h5⟩ := hh (by omega)
      have f1 : wr.cell? ⟨b, off + k * 4 + 2, none⟩ = some (.int .i64 (wg ws k).lo) := (hbel.cell (p := ⟨b, _, none⟩) h4).trans (h5 k hlt).2.2.1
      clear h5
      go_wp2_with (at_builtin; refine app_int rfl _ _ rfl (w.heap.size + 1) ((ws.map Wing.lo).take k) (wg ws k).lo _ hown rfl rfl (by simp; omega) hsz ?_; intro v1 w1 hown1 hbel1 _ _)
      have hbel2 := hbel.trans (hbel1.mono (Nat.le_succ _))
      have hcb2 := (hbel1.cell (p := ⟨w.heap.size, 1, none⟩) (by simp)).trans hcb
      have hsz2 : w.heap.size + 1 ≤ w1.heap.size := Nat.le_trans hsz hbel1.size
      go_roundw
      case rel => exact ⟨k + 1, by omega, by go_num, by rw [← map_wg _ _ _ hlt]; exact hown1, hbel2, hcb2, hsz2⟩
      case measure => simp [intOf]; omega
    · go_wp2
      go_ret
      obtain rfl : k = ws.length := by omega
      refine ⟨_, rfl, ?_, hbel⟩
      rw [List.take_of_length_le (by simp)] at hown
      exact hown.base (Nat.le_succ _)
set_option maxHeartbeats 400000 in
set_option maxRecDepth 100000 in
theorem fast_any (ws : List Wing) (route : Int) (vw : Value) (d : Option Nat) (w : World) (hW : WgAt d w vw ws) (hn : ws.length ≤ 100) :
    Calls Tryd.prog 51 #[.agg #[.int .i64 route, vw]] w fun e w' => ∃ v, e = .returned v ∧ OwnInts w.heap.size w' v (ws.map Wing.hi) ∧ Below w.heap.size w w' := by
  obtain ⟨a, cap, rfl, hh⟩ := hW
  go_enter Tryd.func51, Tryd.ntmps51
  go_wp2
  go_loopw [3, 4] (fun v i wr => ∃ k : Nat, k ≤ ws.length ∧ i = .int .i64 k ∧ OwnInts (w.heap.size + 1) wr v ((ws.map Wing.hi).take k) ∧ Below w.heap.size w wr ∧
      wr.cell? ⟨w.heap.size, 1, none⟩ = some (.slice a ws.length cap) ∧ w.heap.size + 1 ≤ wr.heap.size)
    (fun _ i _ => ws.length - (intOf i).toNat)
  case atStart =>
    exact ⟨0, by omega, rfl, World.ownsRow_nil _ _ _ _, (Below.refl _ _).alloc (Nat.le_refl _) _, by simp, by simp⟩
  case round =>
    obtain ⟨k, hk, rfl, hown, hbel, hcb, hsz⟩ := hrel
    by_cases hlt : k < ws.length
    · obtain ⟨b, off, rfl, h1, h2, _, h4, h5⟩ := hh (by omega)
      have f1 : wr.cell? ⟨b, off + k * 4 + 2 + 1, none⟩ = some (.int .i64 (wg ws k).hi) := (hbel.cell (p := ⟨b, _, none⟩) h4).trans (h5 k hlt).2.2.2
      clear h5
      go_wp2_with (at_builtin; refine app_int rfl _ _ rfl (w.heap.size + 1) ((ws.map Wing.hi).take k) (wg ws k).hi _ hown rfl rfl (by simp; omega) hsz ?_; intro v1 w1 hown1 hbel1 _ _)
      have hbel2 := hbel.trans (hbel1.mono (Nat.le_succ _))
      have hcb2 := (hbel1.cell (p := ⟨w.heap.size, 1, none⟩) (by simp)).trans hcb
      have hsz2 : w.heap.size + 1 ≤ w1.heap.size := Nat.le_trans hsz hbel1.size
      go_roundw
      case rel => exact ⟨k + 1, by omega, by go_num, by rw [← map_wg _ _ _ hlt]; exact hown1, hbel2, hcb2, hsz2⟩
      case measure => simp [intOf]; omega
    · go_wp2
      go_ret
      obtain rfl : k = ws.length := by omega
      refine ⟨_, rfl, ?_, hbel⟩
      rw [List.take_of_length_le (by simp)] at hown
      exact hown.base (Nat.le_succ _)
end Go.Proofs.YtgfipifgijohhaaDoor
