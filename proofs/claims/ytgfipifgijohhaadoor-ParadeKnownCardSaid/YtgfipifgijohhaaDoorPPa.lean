/-
  WALKS: the program's Passes.
-/
import Derived.Test.YtgfipifgijohhaaDoorPBt
namespace Go.Proofs.YtgfipifgijohhaaDoor
open Go.RowKit

/-- the error of a school, starts, a wing and a place -/
def passErr (route : Int) (ws : List Wing) (st : List Int) (wing place : Int) : Int :=
  if checkStarts route ws st = 0 then (if inB wing 0 ((ws.length : Int) - 1) = false then 7 else if inB place 0 100000 = false then 2 else 0) else checkStarts route ws st
def passSpan (route : Int) (ws : List Wing) (st : List Int) (wing place : Int) : Int × Int :=
  if passErr route ws st wing place = 0 then (passed (Ln ws) (nm st) (Hi ws) wing.toNat place, passed (Ln ws) (nm st) (Lo ws) wing.toNat place) else (0, 0)

theorem passErr_st {route : Int} {ws : List Wing} {st : List Int} {wing place : Int} (h : checkStarts route ws st ≠ 0) : passErr route ws st wing place = checkStarts route ws st := by unfold passErr; rw [if_neg h]
theorem passErr_7 {route : Int} {ws : List Wing} {st : List Int} {wing place : Int} (h : checkStarts route ws st = 0) (h1 : inB wing 0 ((ws.length : Int) - 1) = false) : passErr route ws st wing place = 7 := by unfold passErr; rw [if_pos h, if_pos h1]
theorem passErr_2 {route : Int} {ws : List Wing} {st : List Int} {wing place : Int} (h : checkStarts route ws st = 0) (h1 : inB wing 0 ((ws.length : Int) - 1) = true) (h2 : inB place 0 100000 = false) : passErr route ws st wing place = 2 := by unfold passErr; rw [if_pos h, if_neg (by simp [h1]), if_pos h2]
theorem passErr_0 {route : Int} {ws : List Wing} {st : List Int} {wing place : Int} (h : checkStarts route ws st = 0) (h1 : inB wing 0 ((ws.length : Int) - 1) = true) (h2 : inB place 0 100000 = true) : passErr route ws st wing place = 0 := by unfold passErr; rw [if_pos h, if_neg (by simp [h1]), if_neg (by simp [h2])]
theorem passSpan_ne {route : Int} {ws : List Wing} {st : List Int} {wing place : Int} (h : passErr route ws st wing place ≠ 0) : passSpan route ws st wing place = (0, 0) := by unfold passSpan; rw [if_neg h]
theorem passSpan_0 {route : Int} {ws : List Wing} {st : List Int} {wing place : Int} (h : passErr route ws st wing place = 0) : passSpan route ws st wing place = (passed (Ln ws) (nm st) (Hi ws) wing.toNat place, passed (Ln ws) (nm st) (Lo ws) wing.toNat place) := by unfold passSpan; rw [if_pos h]

set_option maxHeartbeats 1000000 in
set_option maxRecDepth 100000 in
theorem pass1_any (ws : List Wing) (st : List Int) (kk place e : Int) (vw vs : Value) (pb qb : Nat) (w : World) (hW : WgAt none w vw ws) (hS : IntsAt none w vs st)
    (h0 : 0 ≤ kk) (ht : Tr ws st kk.toNat e) (hpl : 0 ≤ place) (hpl2 : place ≤ 10000000) (hp : w.cell? ⟨pb, 0, none⟩ = some (.int .i64 kk)) (hq : w.cell? ⟨qb, 0, none⟩ = some (.int .i64 place)) :
    Calls Tryd.prog 87 #[.agg #[vw, vs, .int .i64 e], .pointer (some ⟨pb, 0, none⟩), .pointer (some ⟨qb, 0, none⟩)] w
     fun e' w' => e' = .returned (.int .i64 (passed (Ln ws) (nm st) (endOf ws e) kk.toNat place)) ∧ Below w.heap.size w w' := by
  have hW2 := hid hW
  have hS2 := hid hS
  obtain ⟨aw, cap, rfl, _⟩ := hW
  obtain ⟨ags, caps, rfl, _⟩ := hS
  have hb0 := hid (Below.refl (w.heap.size + 1) (w.alloc (.cells #[.slice aw ws.length cap, .slice ags st.length caps, .int .i64 e] 109)))
  have hp1 : pb < w.heap.size := World.block_lt_of_cell? w ⟨pb, 0, none⟩ hp
  have hq1 : qb < w.heap.size := World.block_lt_of_cell? w ⟨qb, 0, none⟩ hq
  go_enter Tryd.func87, Tryd.ntmps87
  go_wp2_with (go_at_call 88; refine (passes_any ws st _ _ _ _ _ _ (hW2.out.below (boxed3 hb0.out).2.2.2.1) (hS2.out.below (boxed3 hb0.out).2.2.2.1) h0 ht hpl hpl2).mono ?_; rintro e' w2 ⟨rfl, hb2⟩)
  go_ret
  exact ⟨rfl, (boxed3 (below_go hb0.out hb2 (by simp))).2.2.2.1⟩

theorem fourBelow {w w' : World} {X Y Z U : Obj} (h : Below (w.heap.size + 4) ((((w.alloc X).alloc Y).alloc Z).alloc U) w') : Below w.heap.size w w' :=
  ((((Below.refl _ w).alloc (Nat.le_refl _) X).alloc (by simp) Y).alloc (by simp; omega) Z).alloc (by simp; omega) U |>.trans (h.mono (by omega))

set_option maxHeartbeats 2000000 in
set_option maxRecDepth 100000 in
theorem ppasses_any (ws : List Wing) (st : List Int) (route wing place : Int) (vw vs : Value) (w : World) (hW : WgAt none w vw ws) (hS : IntsAt none w vs st) (hn : ws.length ≤ 100) (hnm : ∀ i, i < ws.length → (wg ws i).name.size ≤ 1000000) (hns : st.length ≤ 1000000) :
    Calls Tryd.prog 41 #[.agg #[.int .i64 route, vw], vs, .int .i64 wing, .int .i64 place] w
     fun e w' => e = .returned (.tuple #[.agg #[.int .i64 (passSpan route ws st wing place).1, .int .i64 (passSpan route ws st wing place).2], .int .i64 (passErr route ws st wing place)]) ∧ Below w.heap.size w w' := by
  have hW2 := hid hW
  have hS2 := hid hS
  obtain ⟨aw, cap, rfl, _⟩ := hW
  obtain ⟨ags, caps, rfl, _⟩ := hS
  have hmf : ∀ (fn : Fn) (first cap : Array Value) (w : World), (Instr.makeFunc fn first cap).run Tryd.prog w = .ok (.func fn first cap) w := fun _ _ _ _ => rfl
  have hb0 := hid (Below.refl (w.heap.size + 4) ((((w.alloc (.cells #[.int .i64 route, .slice aw ws.length cap] 24)).alloc (.cells #[.int .i64 wing] 3)).alloc (.cells #[.int .i64 place] 3)).alloc (.cells #[.int .i64 0, .int .i64 0] 27)))
  by_cases hc : checkStarts route ws st = 0
  · obtain ⟨c1, c2⟩ := eq_bool hc
    have Hc := hid hc
    clear hc
    cases hin : inB wing 0 ((ws.length : Int) - 1) with
    | false =>
      go_enter Tryd.func41, Tryd.ntmps41
      go_wp2_with (first
        | (go_at_call 29; refine (pstarts_any ws st route _ _ _ (hW2.out.below (fourBelow hb0.out)) (hS2.out.below (fourBelow hb0.out)) hn hnm hns).mono ?_; rintro e w1 ⟨rfl, hb1⟩; have hk1 := hid (below_go hb0.out hb1 (by simp)); have s0 : w1.cell? ⟨w.heap.size, 0, none⟩ = some (.int .i64 route) := cell_back hk1.out (by omega) (cell_up (cell_up (cell_up (cell_at rfl rfl)))); have s1 : w1.cell? ⟨w.heap.size, 1, none⟩ = some (.slice aw ws.length cap) := cell_back hk1.out (by omega) (cell_up (cell_up (cell_up (cell_at rfl rfl)))); have s2 : w1.cell? ⟨w.heap.size + 1, 0, none⟩ = some (.int .i64 wing) := cell_back hk1.out (by omega) (cell_up (cell_up (cell_at (by simp) rfl))); have s3 : w1.cell? ⟨w.heap.size + 1 + 1, 0, none⟩ = some (.int .i64 place) := cell_back hk1.out (by omega) (cell_up (cell_at (by simp) rfl)); have rc0 : w1.cell? ⟨w.heap.size + 1 + 1 + 1, 0, none⟩ = some (.int .i64 0) := cell_back hk1.out (by omega) (cell_at (by simp) rfl); have rc1 : w1.cell? ⟨w.heap.size + 1 + 1 + 1, 1, none⟩ = some (.int .i64 0) := cell_back hk1.out (by omega) (cell_at (by simp) rfl); have rf : w1.frozen? ⟨w.heap.size + 1 + 1 + 1, 0, none⟩ = false := (hk1.out.frozen (p := ⟨w.heap.size + 1 + 1 + 1, 0, none⟩) (by simp)).trans (frozen_at (by simp)); have rf1 : w1.frozen? ⟨w.heap.size + 1 + 1 + 1, 1, none⟩ = false := (hk1.out.frozen (p := ⟨w.heap.size + 1 + 1 + 1, 1, none⟩) (by simp)).trans (frozen_at (by simp)))
        | (go_at_call 74; refine (in_any _ _ _ _).mono ?_; rintro e w' ⟨rfl, rfl⟩))
      refine bodyPost_ret (v := .tuple #[.agg #[.int .i64 0, .int .i64 0], .int .i64 7]) (by simp [results, Tryd.results41, go_sem, rc0, rc1]) rfl ⟨by rw [passSpan_ne (by rw [passErr_7 Hc.out hin]; decide), passErr_7 Hc.out hin], ?_⟩
      exact ((fourBelow hk1.out).setCell (p := ⟨w.heap.size + 1 + 1 + 1, 0, none⟩) (by simp; omega) _).setCell (p := ⟨w.heap.size + 1 + 1 + 1, 1, none⟩) (by simp; omega) _
    | true =>
      cases hin2 : inB place 0 100000 with
      | false =>
        go_enter Tryd.func41, Tryd.ntmps41
        go_wp2_with (first
          | (go_at_call 29; refine (pstarts_any ws st route _ _ _ (hW2.out.below (fourBelow hb0.out)) (hS2.out.below (fourBelow hb0.out)) hn hnm hns).mono ?_; rintro e w1 ⟨rfl, hb1⟩; have hk1 := hid (below_go hb0.out hb1 (by simp)); have s0 : w1.cell? ⟨w.heap.size, 0, none⟩ = some (.int .i64 route) := cell_back hk1.out (by omega) (cell_up (cell_up (cell_up (cell_at rfl rfl)))); have s1 : w1.cell? ⟨w.heap.size, 1, none⟩ = some (.slice aw ws.length cap) := cell_back hk1.out (by omega) (cell_up (cell_up (cell_up (cell_at rfl rfl)))); have s2 : w1.cell? ⟨w.heap.size + 1, 0, none⟩ = some (.int .i64 wing) := cell_back hk1.out (by omega) (cell_up (cell_up (cell_at (by simp) rfl))); have s3 : w1.cell? ⟨w.heap.size + 1 + 1, 0, none⟩ = some (.int .i64 place) := cell_back hk1.out (by omega) (cell_up (cell_at (by simp) rfl)); have rc0 : w1.cell? ⟨w.heap.size + 1 + 1 + 1, 0, none⟩ = some (.int .i64 0) := cell_back hk1.out (by omega) (cell_at (by simp) rfl); have rc1 : w1.cell? ⟨w.heap.size + 1 + 1 + 1, 1, none⟩ = some (.int .i64 0) := cell_back hk1.out (by omega) (cell_at (by simp) rfl); have rf : w1.frozen? ⟨w.heap.size + 1 + 1 + 1, 0, none⟩ = false := (hk1.out.frozen (p := ⟨w.heap.size + 1 + 1 + 1, 0, none⟩) (by simp)).trans (frozen_at (by simp)); have rf1 : w1.frozen? ⟨w.heap.size + 1 + 1 + 1, 1, none⟩ = false := (hk1.out.frozen (p := ⟨w.heap.size + 1 + 1 + 1, 1, none⟩) (by simp)).trans (frozen_at (by simp)))
          | (go_at_call 74; refine (in_any _ _ _ _).mono ?_; rintro e w' ⟨rfl, rfl⟩))
        refine bodyPost_ret (v := .tuple #[.agg #[.int .i64 0, .int .i64 0], .int .i64 2]) (by simp [results, Tryd.results41, go_sem, rc0, rc1]) rfl ⟨by rw [passSpan_ne (by rw [passErr_2 Hc.out hin hin2]; decide), passErr_2 Hc.out hin hin2], ?_⟩
        exact ((fourBelow hk1.out).setCell (p := ⟨w.heap.size + 1 + 1 + 1, 0, none⟩) (by simp; omega) _).setCell (p := ⟨w.heap.size + 1 + 1 + 1, 1, none⟩) (by simp; omega) _
      | true =>
        have hi1 := hid (inB_true.1 hin)
        have hi2 := hid (inB_true.1 hin2)
        go_enter Tryd.func41, Tryd.ntmps41
        go_wp2_with (first
          | (go_at_call 29; refine (pstarts_any ws st route _ _ _ (hW2.out.below (fourBelow hb0.out)) (hS2.out.below (fourBelow hb0.out)) hn hnm hns).mono ?_; rintro e w1 ⟨rfl, hb1⟩; have hk1 := hid (below_go hb0.out hb1 (by simp)); have s0 : w1.cell? ⟨w.heap.size, 0, none⟩ = some (.int .i64 route) := cell_back hk1.out (by omega) (cell_up (cell_up (cell_up (cell_at rfl rfl)))); have s1 : w1.cell? ⟨w.heap.size, 1, none⟩ = some (.slice aw ws.length cap) := cell_back hk1.out (by omega) (cell_up (cell_up (cell_up (cell_at rfl rfl)))); have s2 : w1.cell? ⟨w.heap.size + 1, 0, none⟩ = some (.int .i64 wing) := cell_back hk1.out (by omega) (cell_up (cell_up (cell_at (by simp) rfl))); have s3 : w1.cell? ⟨w.heap.size + 1 + 1, 0, none⟩ = some (.int .i64 place) := cell_back hk1.out (by omega) (cell_up (cell_at (by simp) rfl)); have rc0 : w1.cell? ⟨w.heap.size + 1 + 1 + 1, 0, none⟩ = some (.int .i64 0) := cell_back hk1.out (by omega) (cell_at (by simp) rfl); have rc1 : w1.cell? ⟨w.heap.size + 1 + 1 + 1, 1, none⟩ = some (.int .i64 0) := cell_back hk1.out (by omega) (cell_at (by simp) rfl); have rf : w1.frozen? ⟨w.heap.size + 1 + 1 + 1, 0, none⟩ = false := (hk1.out.frozen (p := ⟨w.heap.size + 1 + 1 + 1, 0, none⟩) (by simp)).trans (frozen_at (by simp)); have rf1 : w1.frozen? ⟨w.heap.size + 1 + 1 + 1, 1, none⟩ = false := (hk1.out.frozen (p := ⟨w.heap.size + 1 + 1 + 1, 1, none⟩) (by simp)).trans (frozen_at (by simp)))
          | (go_at_call 74; refine (in_any _ _ _ _).mono ?_; rintro e w' ⟨rfl, rfl⟩))
        have hbw := hid (fourBelow hk1.out)
        have hlt : w.heap.size + 4 ≤ w1.heap.size := by have := hk1.out.size; simp at this; omega
        refine (betweenP_any _ _ _ _ _ _ _ _ route (fun e => passed (Ln ws) (nm st) (endOf ws e) wing.toNat place) _ (fun e he W' hb => pass1_any ws st wing place e _ _ _ _ _ (hW2.out.below (below_trans hbw.out hb.out)) (hS2.out.below (below_trans hbw.out hb.out)) (by have := hi1.out; omega)
          (starts_tr Hc.out (by have := hi1.out; omega) he) (by have := hi2.out; omega) (by have := hi2.out; omega) (cell_back hb.out (by omega) s2) (cell_back hb.out (by omega) s3))).mono ?_
        rintro e w2 ⟨rfl, hb2⟩
        have rc0 := cell_now hb2 rc0
        have rc1 := cell_now hb2 rc1
        have rf : w2.frozen? ⟨w.heap.size + 1 + 1 + 1, 0, none⟩ = false := (hb2.frozen (p := ⟨w.heap.size + 1 + 1 + 1, 0, none⟩) (by simp only; omega)).trans rf
        have rf1 : w2.frozen? ⟨w.heap.size + 1 + 1 + 1, 1, none⟩ = false := (hb2.frozen (p := ⟨w.heap.size + 1 + 1 + 1, 1, none⟩) (by simp only; omega)).trans rf1
        go_wp2
        refine bodyPost_ret (v := .tuple #[.agg #[.int .i64 (passed (Ln ws) (nm st) (Hi ws) wing.toNat place), .int .i64 (passed (Ln ws) (nm st) (Lo ws) wing.toNat place)], .int .i64 0]) (by simp [results, Tryd.results41, go_sem, rc0, rc1, endOf_0, endOf_1]) rfl ⟨by rw [passSpan_0 (passErr_0 Hc.out hin hin2), passErr_0 Hc.out hin hin2], ?_⟩
        exact ((hbw.out.trans (hb2.mono hbw.out.size)).setCell (p := ⟨w.heap.size + 1 + 1 + 1, 0, none⟩) (by simp; omega) _).setCell (p := ⟨w.heap.size + 1 + 1 + 1, 1, none⟩) (by simp; omega) _
  · obtain ⟨c1, c2⟩ := ne_bool hc
    have Hc := hid hc
    clear hc
    go_enter Tryd.func41, Tryd.ntmps41
    go_wp2_with (first
      | (go_at_call 29; refine (pstarts_any ws st route _ _ _ (hW2.out.below (fourBelow hb0.out)) (hS2.out.below (fourBelow hb0.out)) hn hnm hns).mono ?_; rintro e w1 ⟨rfl, hb1⟩; have hk1 := hid (below_go hb0.out hb1 (by simp)); have s0 : w1.cell? ⟨w.heap.size, 0, none⟩ = some (.int .i64 route) := cell_back hk1.out (by omega) (cell_up (cell_up (cell_up (cell_at rfl rfl)))); have s1 : w1.cell? ⟨w.heap.size, 1, none⟩ = some (.slice aw ws.length cap) := cell_back hk1.out (by omega) (cell_up (cell_up (cell_up (cell_at rfl rfl)))); have s2 : w1.cell? ⟨w.heap.size + 1, 0, none⟩ = some (.int .i64 wing) := cell_back hk1.out (by omega) (cell_up (cell_up (cell_at (by simp) rfl))); have s3 : w1.cell? ⟨w.heap.size + 1 + 1, 0, none⟩ = some (.int .i64 place) := cell_back hk1.out (by omega) (cell_up (cell_at (by simp) rfl)); have rc0 : w1.cell? ⟨w.heap.size + 1 + 1 + 1, 0, none⟩ = some (.int .i64 0) := cell_back hk1.out (by omega) (cell_at (by simp) rfl); have rc1 : w1.cell? ⟨w.heap.size + 1 + 1 + 1, 1, none⟩ = some (.int .i64 0) := cell_back hk1.out (by omega) (cell_at (by simp) rfl); have rf : w1.frozen? ⟨w.heap.size + 1 + 1 + 1, 0, none⟩ = false := (hk1.out.frozen (p := ⟨w.heap.size + 1 + 1 + 1, 0, none⟩) (by simp)).trans (frozen_at (by simp)); have rf1 : w1.frozen? ⟨w.heap.size + 1 + 1 + 1, 1, none⟩ = false := (hk1.out.frozen (p := ⟨w.heap.size + 1 + 1 + 1, 1, none⟩) (by simp)).trans (frozen_at (by simp)))
      | (go_at_call 74; refine (in_any _ _ _ _).mono ?_; rintro e w' ⟨rfl, rfl⟩))
    refine bodyPost_ret (v := .tuple #[.agg #[.int .i64 0, .int .i64 0], .int .i64 (checkStarts route ws st)]) (by simp [results, Tryd.results41, go_sem, rc0, rc1]) rfl ⟨by rw [passSpan_ne (by rw [passErr_st Hc.out]; exact Hc.out), passErr_st Hc.out], ?_⟩
    exact ((fourBelow hk1.out).setCell (p := ⟨w.heap.size + 1 + 1 + 1, 0, none⟩) (by simp; omega) _).setCell (p := ⟨w.heap.size + 1 + 1 + 1, 1, none⟩) (by simp; omega) _
end Go.Proofs.YtgfipifgijohhaaDoor
