/-
  WALKS: OwnSchool, EqInts, EqSchools (of equal ones).
-/
import Derived.Test.YtefdopifebhgiaaGreatDoorKeq
import Derived.Test.YtefdopifebhgiaaGreatDoorKow
namespace Go.Proofs.YtefdopifebhgiaaGreatDoor
open Go.RowKit

theorem twoBelowK {w w' : World} {X Y : Obj} (h : Below (w.heap.size + 2) ((w.alloc X).alloc Y) w') : Below w.heap.size w w' :=
  (((Below.refl _ w).alloc (Nat.le_refl _) X).alloc (by simp) Y).trans (h.mono (by omega))
theorem OwnWg.form {base : Nat} {w : World} {v : Value} {xs : List Wing} (h : OwnWg base w v xs) : ∃ a c, v = .slice a xs.length c := by
  obtain ⟨_, h2⟩ := h
  rcases h2 with ⟨rfl, h0⟩ | ⟨g, cap, cur, rfl, hb, hh, h1, hm, hs, ht⟩
  · exact ⟨none, 0, by rw [h0]⟩
  · exact ⟨_, _, rfl⟩
theorem OwnInts.form {base : Nat} {w : World} {v : Value} {xs : List Int} (h : OwnInts base w v xs) : ∃ a c, v = .slice a xs.length c := by
  obtain ⟨_, h2⟩ := h
  rcases h2 with ⟨rfl, h0⟩ | ⟨g, cap, cur, rfl, hb, hh, h1, hm, hs, ht⟩
  · exact ⟨none, 0, by rw [h0]⟩
  · exact ⟨_, _, rfl⟩
theorem OwnWg.put {base b o : Nat} {w : World} {v u : Value} {xs : List Wing} (h : OwnWg base w v xs) (hb : b < base) : OwnWg base (w.setCell ⟨b, o, none⟩ u) v xs :=
  World.ownsRow.kept h (gb_put w b o u) (by
    cases e : v.ownBlock with
    | none => exact .inl rfl
    | some k => exact .inr (fun e2 => by have := (World.ownsRow.lt h k e).1; cases e2; omega))
theorem OwnInts.put {base b o : Nat} {w : World} {v u : Value} {xs : List Int} (h : OwnInts base w v xs) (hb : b < base) : OwnInts base (w.setCell ⟨b, o, none⟩ u) v xs :=
  World.ownsRow.kept h (gb_put w b o u) (by
    cases e : v.ownBlock with
    | none => exact .inl rfl
    | some k => exact .inr (fun e2 => by have := (World.ownsRow.lt h k e).1; cases e2; omega))

theorem OwnWg.base {b b' : Nat} {w : World} {v : Value} {xs : List Wing} (h : OwnWg b w v xs) (hb : b' ≤ b) : OwnWg b' w v xs := by
  obtain ⟨h1, h2⟩ := h
  exact ⟨h1, h2.imp id (fun ⟨g, cap, cur, e, hg, r⟩ => ⟨g, cap, cur, e, Nat.le_trans hb hg, r⟩)⟩

set_option maxHeartbeats 2000000 in
set_option maxRecDepth 100000 in
theorem eqSchools_same (ws : List Wing) (route : Int) (va vb : Value) (d d' : Option Nat) (w : World) (hA : WgAt d w va ws) (hB : WgAt d' w vb ws) (hn : ws.length ≤ 1000000) :
    Calls Tryz.prog 14 #[.agg #[.int .i64 route, va], .agg #[.int .i64 route, vb]] w fun e w' => e = .returned (.bool true) ∧ Below w.heap.size w w' := by
  obtain ⟨aa, ca, rfl, ha⟩ := hA
  obtain ⟨ab, cb, rfl, hb⟩ := hB
  obtain ⟨l1, l2⟩ := eq_bool (a := (ws.length : Int)) (b := (ws.length : Int)) rfl
  obtain ⟨l3, l4⟩ := eq_bool (a := route) (b := route) rfl
  have hb0 := hid (Below.refl (w.heap.size + 2) ((w.alloc (.cells #[.int .i64 route, .slice aa ws.length ca] 24)).alloc (.cells #[.int .i64 route, .slice ab ws.length cb] 24)))
  obtain ⟨w1, hw1⟩ : ∃ w1, ((w.alloc (.cells #[.int .i64 route, .slice aa ws.length ca] 24)).alloc (.cells #[.int .i64 route, .slice ab ws.length cb] 24)) = w1 := ⟨_, rfl⟩
  have kb : Hid (Below w.heap.size w w1) := hid (by rw [← hw1]; exact (twoBelowK hb0.out))
  have hlt1 : w1.heap.size = w.heap.size + 2 := by rw [← hw1]; simp
  have s0 : w1.cell? ⟨w.heap.size, 0, none⟩ = some (.int .i64 route) := by rw [← hw1]; exact cell_up (cell_at rfl rfl)
  have s1 : w1.cell? ⟨w.heap.size, 1, none⟩ = some (.slice aa ws.length ca) := by rw [← hw1]; exact cell_up (cell_at rfl rfl)
  have q0 : w1.cell? ⟨w.heap.size + 1, 0, none⟩ = some (.int .i64 route) := by rw [← hw1]; exact cell_at (by simp) rfl
  have q1 : w1.cell? ⟨w.heap.size + 1, 1, none⟩ = some (.slice ab ws.length cb) := by rw [← hw1]; exact cell_at (by simp) rfl
  have Hw1 := hid hw1
  clear hw1 hb0
  go_enter Tryz.func14, Tryz.ntmps14
  go_wp2
  rw [Hw1.out]
  go_loopw [5] (fun i wr => ∃ k : Nat, k ≤ ws.length ∧ i = .int .i64 k ∧ Below w1.heap.size w1 wr)
    (fun i _ => ws.length - (intOf i).toNat)
  case atStart => exact ⟨0, by omega, rfl, Below.refl _ w1⟩
  case round =>
    obtain ⟨k, hk, rfl, hkr⟩ := hrel
    obtain ⟨wo, rfl⟩ : ∃ wo : World, wo = wr := ⟨_, rfl⟩
    have s1 := cell_now hkr s1
    have q1 := cell_now hkr q1
    have Hkr := hid hkr
    have kall := kb.out.trans (hkr.mono kb.out.size)
    clear hkr
    by_cases hlt : k < ws.length
    · obtain ⟨b1, o1, rfl, _, _, _, hb1, hL1⟩ := ha (by omega)
      obtain ⟨b2, o2, rfl, _, _, _, hb2, hL2⟩ := hb (by omega)
      obtain ⟨x0, x1, x2, x3⟩ := hL1 k hlt
      obtain ⟨y0, y1, y2, y3⟩ := hL2 k hlt
      have x0 := cell_back kall hb1 x0
      have x1 := cell_back kall hb1 x1
      have x2 := cell_back kall hb1 x2
      have x3 := cell_back kall hb1 x3
      have y0 := cell_back kall hb2 y0
      have y1 := cell_back kall hb2 y1
      have y2 := cell_back kall hb2 y2
      have y3 := cell_back kall hb2 y3
      clear hL1 hL2 ha hb kall
      go_wp2
      go_quiet (fail)
      go_wp2
      go_roundw
      case rel => exact ⟨k + 1, by omega, by go_num, below_drewN Hkr.out _⟩
      case measure => simp [intOf] <;> omega
    · go_wp2
      go_ret
      exact ⟨rfl, kall⟩
end Go.Proofs.YtefdopifebhgiaaGreatDoor
