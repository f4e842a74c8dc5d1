/-
  WALKS: the program's Lasts.
-/
import Derived.Test.YtgfipifgijohhaaDoorPRl
namespace Go.Proofs.YtgfipifgijohhaaDoor
open Go.RowKit

/-- the verdict on a span of seconds -/
def verdictOf (a b lo hi : Int) : Int := if a ≤ lo ∧ hi ≤ b then 1 else if hi < a ∨ b < lo then 2 else 3
/-- what Lasts returns: the verdict, both ends -/
def lastsRes (route : Int) (ws : List Wing) (st : List Int) (a b c : Int) : Int × Int × Int :=
  if bothErr route ws st a b c = 0 then (verdictOf a b (longOf route ws st (Hi ws)) (longOf route ws st (Lo ws)), longOf route ws st (Hi ws), longOf route ws st (Lo ws)) else (0, 0, 0)

theorem both_zero {route : Int} {ws : List Wing} {st : List Int} {a b c : Int} (h : bothErr route ws st a b c = 0) : checkStarts route ws st = 0 ∧ rulesErr a b c = 0 := by
  unfold bothErr at h
  by_cases hc : checkStarts route ws st = 0
  · rw [if_pos hc] at h; exact ⟨hc, h⟩
  · rw [if_neg hc] at h; exact absurd h hc

theorem long_le {route : Int} {ws : List Wing} {st : List Int} (h : checkStarts route ws st = 0) : longOf route ws st (Hi ws) ≤ longOf route ws st (Lo ws) := by
  have h1 := check_zero (starts_zero h).1
  unfold longOf
  have h2 : passed (Ln ws) (nm st) (Hi ws) (ws.length - 1) (route + Ln ws (ws.length - 1)) ≤ passed (Ln ws) (nm st) (Lo ws) (ws.length - 1) (route + Ln ws (ws.length - 1)) :=
    passed_mono_P (fun i hi => by have := h1.2.2.2.2 i (by omega); show 0 < (wg ws i).lo; omega) (fun i hi => by have := h1.2.2.2.2 i (by omega); show (wg ws i).lo ≤ (wg ws i).hi; omega) (fun i hi => by have := h1.2.2.2.2 i (by omega); show 0 ≤ (wg ws i).len; omega)
      (by have := h1.2.2.2.2 (ws.length - 1) (by omega); show 0 ≤ route + (wg ws (ws.length - 1)).len; omega)
  omega

set_option maxHeartbeats 4000000 in
set_option maxRecDepth 100000 in
theorem pLasts_any (ws : List Wing) (st : List Int) (route a b c : Int) (vw vs : Value) (w : World) (hW : WgAt none w vw ws) (hS : IntsAt none w vs st) (hn : ws.length ≤ 100) (hnm : ∀ i, i < ws.length → (wg ws i).name.size ≤ 1000000) (hns : st.length ≤ 1000000) :
    Calls Tryd.prog 37 #[.agg #[.int .i64 route, vw], vs, .agg #[.int .i64 a, .int .i64 b, .int .i64 c]] w
     fun e w' => e = .returned (.tuple #[.int .i64 (lastsRes route ws st a b c).1, .agg #[.int .i64 (lastsRes route ws st a b c).2.1, .int .i64 (lastsRes route ws st a b c).2.2], .int .i64 (bothErr route ws st a b c)]) ∧ Below w.heap.size w w' := by
  have hW2 := hid hW
  have hS2 := hid hS
  obtain ⟨aw, cap, rfl, _⟩ := hW
  obtain ⟨ags, caps, rfl, _⟩ := hS
  have hb0 := hid (Below.refl (w.heap.size + 3) (((w.alloc (.cells #[.int .i64 route, .slice aw ws.length cap] 24)).alloc (.cells #[.int .i64 a, .int .i64 b, .int .i64 c] 50)).alloc (.cells #[.int .i64 0, .int .i64 0] 27)))
  obtain ⟨w1, hw1⟩ : ∃ w1, (((w.alloc (.cells #[.int .i64 route, .slice aw ws.length cap] 24)).alloc (.cells #[.int .i64 a, .int .i64 b, .int .i64 c] 50)).alloc (.cells #[.int .i64 0, .int .i64 0] 27)) = w1 := ⟨_, rfl⟩
  have kb : Hid (Below w.heap.size w w1) := hid (by rw [← hw1]; exact (threeBelow hb0.out))
  have hlt : w.heap.size + 3 ≤ w1.heap.size := by rw [← hw1]; simp
  have s0 : w1.cell? ⟨w.heap.size, 0, none⟩ = some (.int .i64 route) := by rw [← hw1]; exact cell_up (cell_up (cell_at rfl rfl))
  have s1 : w1.cell? ⟨w.heap.size, 1, none⟩ = some (.slice aw ws.length cap) := by rw [← hw1]; exact cell_up (cell_up (cell_at rfl rfl))
  have r0 : w1.cell? ⟨w.heap.size + 1, 0, none⟩ = some (.int .i64 a) := by rw [← hw1]; exact cell_up (cell_at (by simp) rfl)
  have r1 : w1.cell? ⟨w.heap.size + 1, 1, none⟩ = some (.int .i64 b) := by rw [← hw1]; exact cell_up (cell_at (by simp) rfl)
  have r2 : w1.cell? ⟨w.heap.size + 1, 2, none⟩ = some (.int .i64 c) := by rw [← hw1]; exact cell_up (cell_at (by simp) rfl)
  have rc0 : w1.cell? ⟨w.heap.size + 1 + 1, 0, none⟩ = some (.int .i64 0) := by rw [← hw1]; exact cell_at (by simp) rfl
  have rc1 : w1.cell? ⟨w.heap.size + 1 + 1, 1, none⟩ = some (.int .i64 0) := by rw [← hw1]; exact cell_at (by simp) rfl
  have rf : w1.frozen? ⟨w.heap.size + 1 + 1, 0, none⟩ = false := by rw [← hw1]; exact frozen_at (by simp)
  have rf1 : w1.frozen? ⟨w.heap.size + 1 + 1, 1, none⟩ = false := by rw [← hw1]; exact frozen_at (by simp)
  have Hw1 := hid hw1
  clear hw1 hb0
  by_cases hc : bothErr route ws st a b c = 0
  · obtain ⟨c1, c2⟩ := eq_bool hc
    have Hc := hid hc
    have hst := hid (both_zero hc).1
    have hle := long_le hst.out
    have hval : (lastsRes route ws st a b c) = (verdictOf a b (longOf route ws st (Hi ws)) (longOf route ws st (Lo ws)), longOf route ws st (Hi ws), longOf route ws st (Lo ws)) := by unfold lastsRes; rw [if_pos hc]
    have HL := hid (fun W h1 h2 => plasts_any ws st route (.slice aw ws.length cap) (.slice ags st.length caps) W h1 h2 hst.out)
    rw [hval]
    clear hc hval
    generalize longOf route ws st (Hi ws) = lo at *
    generalize longOf route ws st (Lo ws) = hi at *
    cases q1 : inB lo a b <;> cases q2 : inB hi a b <;> by_cases d1 : b < lo <;> by_cases d2 : hi < a
    all_goals (
      have q1' := q1
      have q2' := q2
      unfold inB at q1' q2'
      simp only [decide_eq_true_eq, decide_eq_false_iff_not] at q1' q2')
    all_goals first | (exfalso; omega) | skip
    all_goals (
      go_enter Tryd.func37, Tryd.ntmps37
      go_wp2_with (first
        | (go_at_call 83; rw [Hw1.out]; refine (pboth_any ws st route _ _ _ _ _ _ (hW2.out.below kb.out) (hS2.out.below kb.out) hn hnm hns).mono ?_; rintro e w2 ⟨rfl, hb2⟩; have hlt := Nat.le_trans hlt hb2.size; have s0 := cell_now hb2 s0; have s1 := cell_now hb2 s1; have r0 := cell_now hb2 r0; have r1 := cell_now hb2 r1; have r2 := cell_now hb2 r2; have rf : w2.frozen? ⟨w.heap.size + 1 + 1, 0, none⟩ = false := frozen_now hb2 rc0 rf; have rf1 : w2.frozen? ⟨w.heap.size + 1 + 1, 1, none⟩ = false := frozen_now hb2 rc1 rf1; have rc0 := cell_now hb2 rc0; have rc1 := cell_now hb2 rc1; have kb := hb_go kb hb2)
        | (go_at_call 84; refine (HL.out _ (hW2.out.below kb.out) (hS2.out.below kb.out)).mono ?_; rintro e w2 ⟨rfl, hb2⟩; have hlt := Nat.le_trans hlt hb2.size; have s0 := cell_now hb2 s0; have s1 := cell_now hb2 s1; have r0 := cell_now hb2 r0; have r1 := cell_now hb2 r1; have r2 := cell_now hb2 r2; have rf : w2.frozen? ⟨w.heap.size + 1 + 1, 0, none⟩ = false := frozen_now hb2 rc0 rf; have rf1 : w2.frozen? ⟨w.heap.size + 1 + 1, 1, none⟩ = false := frozen_now hb2 rc1 rf1; have rc0 := cell_now hb2 rc0; have rc1 := cell_now hb2 rc1; have kb := hb_go kb hb2; have t0 : (w2.alloc (.cells #[.int .i64 lo, .int .i64 hi] 27)).cell? ⟨w.heap.size + 1, 0, none⟩ = some (.int .i64 a) := cell_up r0; have t1 : (w2.alloc (.cells #[.int .i64 lo, .int .i64 hi] 27)).cell? ⟨w.heap.size + 1, 1, none⟩ = some (.int .i64 b) := cell_up r1; have t2 : (w2.alloc (.cells #[.int .i64 lo, .int .i64 hi] 27)).cell? ⟨w.heap.size + 1, 2, none⟩ = some (.int .i64 c) := cell_up r2)
        | (go_at_call 74; refine (in_any _ _ _ _).mono ?_; rintro e w' ⟨rfl, rfl⟩)))
    all_goals (
      obtain ⟨w3, hw3⟩ : ∃ w3, (w2.alloc (.cells #[.int .i64 lo, .int .i64 hi] 27)) = w3 := ⟨_, rfl⟩
      have kd : Hid (Below w.heap.size w w3.drew) := hid (by rw [← hw3]; exact (kb.out.alloc kb.out.size _).drew)
      have v0 : w3.drew.cell? ⟨w2.heap.size, 0, none⟩ = some (.int .i64 lo) := by rw [← hw3]; exact cell_at rfl rfl
      have v1 : w3.drew.cell? ⟨w2.heap.size, 1, none⟩ = some (.int .i64 hi) := by rw [← hw3]; exact cell_at rfl rfl
      have x0 : w3.drew.cell? ⟨w.heap.size + 1 + 1, 0, none⟩ = some (.int .i64 0) := by rw [← hw3]; exact cell_up rc0
      have x1 : w3.drew.cell? ⟨w.heap.size + 1 + 1, 1, none⟩ = some (.int .i64 0) := by rw [← hw3]; exact cell_up rc1
      have y0 : w3.drew.frozen? ⟨w.heap.size + 1 + 1, 0, none⟩ = false := by rw [← hw3]; exact frozen_up (World.block_lt_of_cell? w2 ⟨_, _, none⟩ rc0) rf
      have y1 : w3.drew.frozen? ⟨w.heap.size + 1 + 1, 1, none⟩ = false := by rw [← hw3]; exact frozen_up (World.block_lt_of_cell? w2 ⟨_, _, none⟩ rc1) rf1
      have v0' : w3.cell? ⟨w2.heap.size, 0, none⟩ = some (.int .i64 lo) := v0
      have v1' : w3.cell? ⟨w2.heap.size, 1, none⟩ = some (.int .i64 hi) := v1
      have x0' : w3.cell? ⟨w.heap.size + 1 + 1, 0, none⟩ = some (.int .i64 0) := x0
      have x1' : w3.cell? ⟨w.heap.size + 1 + 1, 1, none⟩ = some (.int .i64 0) := x1
      have y0' : w3.frozen? ⟨w.heap.size + 1 + 1, 0, none⟩ = false := y0
      have y1' : w3.frozen? ⟨w.heap.size + 1 + 1, 1, none⟩ = false := y1
      rw [hw3]
      clear hw3 t0 t1 t2 s0 s1 r0 r1 r2 rc0 rc1 rf rf1 hb2
      go_region
      all_goals (
        go_wp2
        first
          | (have hver : verdictOf a b lo hi = 1 := by unfold verdictOf; rw [if_pos (by omega)]
             refine bodyPost_ret (v := .tuple #[.int .i64 1, .agg #[.int .i64 lo, .int .i64 hi], .int .i64 0]) (by simp [results, Tryd.results37, go_sem, x0, x1, x0', x1']) rfl ⟨by rw [hver, Hc.out], ?_⟩)
          | (have hver : verdictOf a b lo hi = 2 := by unfold verdictOf; rw [if_neg (by omega), if_pos (by omega)]
             refine bodyPost_ret (v := .tuple #[.int .i64 2, .agg #[.int .i64 lo, .int .i64 hi], .int .i64 0]) (by simp [results, Tryd.results37, go_sem, x0, x1, x0', x1']) rfl ⟨by rw [hver, Hc.out], ?_⟩)
          | (have hver : verdictOf a b lo hi = 3 := by unfold verdictOf; rw [if_neg (by omega), if_neg (by omega)]
             refine bodyPost_ret (v := .tuple #[.int .i64 3, .agg #[.int .i64 lo, .int .i64 hi], .int .i64 0]) (by simp [results, Tryd.results37, go_sem, x0, x1, x0', x1']) rfl ⟨by rw [hver, Hc.out], ?_⟩)
        exact ((kd.out.setCell (p := ⟨w.heap.size + 1 + 1, 0, none⟩) (by simp; omega) _).setCell (p := ⟨w.heap.size + 1 + 1, 1, none⟩) (by simp; omega) _)))
  · obtain ⟨c1, c2⟩ := ne_bool hc
    have Hc := hid hc
    have hval : (lastsRes route ws st a b c) = (0, 0, 0) := by unfold lastsRes; rw [if_neg hc]
    rw [hval]
    clear hc hval
    go_enter Tryd.func37, Tryd.ntmps37
    go_wp2_with (go_at_call 83; rw [Hw1.out]; refine (pboth_any ws st route _ _ _ _ _ _ (hW2.out.below kb.out) (hS2.out.below kb.out) hn hnm hns).mono ?_; rintro e w2 ⟨rfl, hb2⟩; have rc0 := cell_now hb2 rc0; have rc1 := cell_now hb2 rc1; have rf : w2.frozen? ⟨w.heap.size + 1 + 1, 0, none⟩ = false := (hb2.frozen (p := ⟨w.heap.size + 1 + 1, 0, none⟩) (by simp only; omega)).trans rf; have rf1 : w2.frozen? ⟨w.heap.size + 1 + 1, 1, none⟩ = false := (hb2.frozen (p := ⟨w.heap.size + 1 + 1, 1, none⟩) (by simp only; omega)).trans rf1)
    refine bodyPost_ret (v := .tuple #[.int .i64 0, .agg #[.int .i64 0, .int .i64 0], .int .i64 (bothErr route ws st a b c)]) (by simp [results, Tryd.results37, go_sem, rc0, rc1]) rfl ⟨rfl, ?_⟩
    exact ((kb.out.trans (hb2.mono kb.out.size)).setCell (p := ⟨w.heap.size + 1 + 1, 0, none⟩) (by simp; omega) _).setCell (p := ⟨w.heap.size + 1 + 1, 1, none⟩) (by simp; omega) _
end Go.Proofs.YtgfipifgijohhaaDoor
