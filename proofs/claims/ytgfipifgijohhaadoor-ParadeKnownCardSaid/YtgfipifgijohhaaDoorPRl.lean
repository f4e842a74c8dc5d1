/-
  WALKS: the program's checkRules, both, Lasts.
-/
import Derived.Test.YtgfipifgijohhaaDoorPLa
namespace Go.Proofs.YtgfipifgijohhaaDoor
open Go.RowKit

/-- the error of rules -/
def rulesErr (a b c : Int) : Int :=
  if inB a 0 100000 = false then 2 else if inB b 0 100000 = false then 2 else if inB c 0 20000 = false then 2 else if b < a then 9 else 0

set_option maxHeartbeats 1000000 in
set_option maxRecDepth 100000 in
theorem prules_any (a b c : Int) (w : World) :
    Calls Tryd.prog 107 #[.agg #[.int .i64 a, .int .i64 b, .int .i64 c]] w
     fun e w' => e = .returned (.int .i64 (rulesErr a b c)) ∧ Below w.heap.size w w' := by
  have kb : Hid (Below w.heap.size w (w.alloc (.cells #[.int .i64 a, .int .i64 b, .int .i64 c] 50))) := hid ((Below.refl _ w).alloc (Nat.le_refl _) _)
  cases h1 : inB a 0 100000 with
  | false =>
    go_enter Tryd.func107, Tryd.ntmps107
    go_wp2_with (go_at_call 74; refine (in_any _ _ _ _).mono ?_; rintro e w' ⟨rfl, rfl⟩)
    go_ret
    exact ⟨ret_int (by unfold rulesErr; rw [if_pos h1]), kb.out⟩
  | true =>
    cases h2 : inB b 0 100000 with
    | false =>
      go_enter Tryd.func107, Tryd.ntmps107
      go_wp2_with (go_at_call 74; refine (in_any _ _ _ _).mono ?_; rintro e w' ⟨rfl, rfl⟩)
      go_ret
      exact ⟨ret_int (by unfold rulesErr; rw [if_neg (by simp [h1]), if_pos h2]), kb.out⟩
    | true =>
      cases h3 : inB c 0 20000 with
      | false =>
        go_enter Tryd.func107, Tryd.ntmps107
        go_wp2_with (go_at_call 74; refine (in_any _ _ _ _).mono ?_; rintro e w' ⟨rfl, rfl⟩)
        go_ret
        exact ⟨ret_int (by unfold rulesErr; rw [if_neg (by simp [h1]), if_neg (by simp [h2]), if_pos h3]), kb.out⟩
      | true =>
        by_cases h4 : b < a
        · go_enter Tryd.func107, Tryd.ntmps107
          go_wp2_with (go_at_call 74; refine (in_any _ _ _ _).mono ?_; rintro e w' ⟨rfl, rfl⟩)
          go_ret
          exact ⟨ret_int (by unfold rulesErr; rw [if_neg (by simp [h1]), if_neg (by simp [h2]), if_neg (by simp [h3]), if_pos h4]), kb.out⟩
        · go_enter Tryd.func107, Tryd.ntmps107
          go_wp2_with (go_at_call 74; refine (in_any _ _ _ _).mono ?_; rintro e w' ⟨rfl, rfl⟩)
          go_ret
          exact ⟨ret_int (by unfold rulesErr; rw [if_neg (by simp [h1]), if_neg (by simp [h2]), if_neg (by simp [h3]), if_neg (by omega)]), kb.out⟩

/-- the error of a school, starts and rules -/
def bothErr (route : Int) (ws : List Wing) (st : List Int) (a b c : Int) : Int :=
  if checkStarts route ws st = 0 then rulesErr a b c else checkStarts route ws st

set_option maxHeartbeats 1000000 in
set_option maxRecDepth 100000 in
theorem pboth_any (ws : List Wing) (st : List Int) (route a b c : Int) (vw vs : Value) (w : World) (hW : WgAt none w vw ws) (hS : IntsAt none w vs st) (hn : ws.length ≤ 100) (hnm : ∀ i, i < ws.length → (wg ws i).name.size ≤ 1000000) (hns : st.length ≤ 1000000) :
    Calls Tryd.prog 83 #[.agg #[.int .i64 route, vw], vs, .agg #[.int .i64 a, .int .i64 b, .int .i64 c]] w
     fun e w' => e = .returned (.int .i64 (bothErr route ws st a b c)) ∧ Below w.heap.size w w' := by
  have hW2 := hid hW
  have hS2 := hid hS
  obtain ⟨aw, cap, rfl, _⟩ := hW
  obtain ⟨ags, caps, rfl, _⟩ := hS
  have hb0 := hid (Below.refl (w.heap.size + 2) ((w.alloc (.cells #[.int .i64 route, .slice aw ws.length cap] 24)).alloc (.cells #[.int .i64 a, .int .i64 b, .int .i64 c] 50)))
  by_cases hc : checkStarts route ws st = 0
  · obtain ⟨c1, c2⟩ := eq_bool hc
    have Hc := hid hc
    clear hc
    go_enter Tryd.func83, Tryd.ntmps83
    go_wp2_with (first
      | (go_at_call 29; refine (pstarts_any ws st route _ _ _ (hW2.out.below (twoBelow hb0.out)) (hS2.out.below (twoBelow hb0.out)) hn hnm hns).mono ?_; rintro e w1 ⟨rfl, hb1⟩; have hk1 := hid (below_go hb0.out hb1 (by simp)); have hk3 := hid (twoBelow hk1.out); have s0 : w1.cell? ⟨w.heap.size + 1, 0, none⟩ = some (.int .i64 a) := cell_back hk1.out (by omega) (cell_at (by simp) rfl); have s1 : w1.cell? ⟨w.heap.size + 1, 1, none⟩ = some (.int .i64 b) := cell_back hk1.out (by omega) (cell_at (by simp) rfl); have s2 : w1.cell? ⟨w.heap.size + 1, 2, none⟩ = some (.int .i64 c) := cell_back hk1.out (by omega) (cell_at (by simp) rfl))
      | (go_at_call 107; refine (prules_any _ _ _ _).mono ?_; rintro e w2 ⟨rfl, hb2⟩))
    go_ret
    exact ⟨ret_int (by unfold bothErr; rw [if_pos Hc.out]), hk3.out.trans (hb2.mono hk3.out.size)⟩
  · obtain ⟨c1, c2⟩ := ne_bool hc
    have Hc := hid hc
    clear hc
    go_enter Tryd.func83, Tryd.ntmps83
    go_wp2_with (go_at_call 29; refine (pstarts_any ws st route _ _ _ (hW2.out.below (twoBelow hb0.out)) (hS2.out.below (twoBelow hb0.out)) hn hnm hns).mono ?_; rintro e w1 ⟨rfl, hb1⟩; have hk1 := hid (below_go hb0.out hb1 (by simp)))
    go_ret
    exact ⟨ret_int (by unfold bothErr; rw [if_neg Hc.out]), twoBelow hk1.out⟩
end Go.Proofs.YtgfipifgijohhaaDoor
