/-
  WALKS: the program's between (at each of the two functions that it is handed), Passes.
-/
import Derived.Test.YtgfipifgijohhaaDoorPWh
namespace Go.Proofs.YtgfipifgijohhaaDoor
open Go.RowKit

set_option maxHeartbeats 2000000 in
set_option maxRecDepth 100000 in
theorem betweenP_any (aw ags : Option Addr) (nw cw ns cs pb qb : Nat) (route : Int) (r : Int → Int) (w : World)
    (h : ∀ e : Int, (e = 0 ∨ e = 1) → ∀ W', Hid (Below w.heap.size w W') → Calls Tryd.prog 87 #[.agg #[.slice aw nw cw, .slice ags ns cs, .int .i64 e], .pointer (some ⟨pb, 0, none⟩), .pointer (some ⟨qb, 0, none⟩)] W' fun e' w' => e' = .returned (.int .i64 (r e)) ∧ Below W'.heap.size W' w') :
    Calls Tryd.prog 86 #[.agg #[.int .i64 route, .slice aw nw cw], .slice ags ns cs, .func (.func 87) #[] #[.pointer (some ⟨pb, 0, none⟩), .pointer (some ⟨qb, 0, none⟩)]] w
     fun e w' => e = .returned (.agg #[.int .i64 (r 1), .int .i64 (r 0)]) ∧ Below w.heap.size w w' := by
  have H0 := hid h
  clear h
  have hb0 := hid (Below.refl (w.heap.size + 2) ((w.alloc (.cells #[.int .i64 route, .slice aw nw cw] 24)).alloc (.cells #[.int .i64 0, .int .i64 0] 27)))
  obtain ⟨w1, hw1⟩ : ∃ w1, ((w.alloc (.cells #[.int .i64 route, .slice aw nw cw] 24)).alloc (.cells #[.int .i64 0, .int .i64 0] 27)) = w1 := ⟨_, rfl⟩
  have kb : Hid (Below w.heap.size w w1.drew) := hid (by rw [← hw1]; exact (twoBelow hb0.out).drew)
  have s0 : w1.drew.cell? ⟨w.heap.size, 0, none⟩ = some (.int .i64 route) := by rw [← hw1]; exact cell_up (cell_at rfl rfl)
  have s1 : w1.drew.cell? ⟨w.heap.size, 1, none⟩ = some (.slice aw nw cw) := by rw [← hw1]; exact cell_up (cell_at rfl rfl)
  have rc0 : w1.drew.cell? ⟨w.heap.size + 1, 0, none⟩ = some (.int .i64 0) := by rw [← hw1]; exact cell_at (by simp) rfl
  have rc1 : w1.drew.cell? ⟨w.heap.size + 1, 1, none⟩ = some (.int .i64 0) := by rw [← hw1]; exact cell_at (by simp) rfl
  have rf : w1.drew.frozen? ⟨w.heap.size + 1, 0, none⟩ = false := by rw [← hw1]; exact frozen_at (by simp)
  have rf1 : w1.drew.frozen? ⟨w.heap.size + 1, 1, none⟩ = false := by rw [← hw1]; exact frozen_at (by simp)
  have Hw1 := hid hw1
  clear hw1 hb0
  go_enter Tryd.func86, Tryd.ntmps86
  go_wp2
  rw [Hw1.out]
  go_region_held3 (fun w' => w'.cell? ⟨w.heap.size, 0, none⟩ = some (.int .i64 route) ∧ w'.cell? ⟨w.heap.size, 1, none⟩ = some (.slice aw nw cw))
    (first | exact ⟨s0, s1⟩ | go_keep) (first
    | (go_at_call 97; refine (truthOf_any _ _ _ _ _ _ _ _ _).mono ?_; rintro e w2 ⟨rfl, hb2⟩; have kb := hb_go (by first | assumption | exact kb) hb2; have s0 := cell_now (b := w.heap.size) (o := 0) (v := .int .i64 route) hb2 (by first | assumption | exact s0); have s1 := cell_now (b := w.heap.size) (o := 1) (v := .slice aw nw cw) hb2 (by first | assumption | exact s1); have rf := frozen_now (b := w.heap.size + 1) (o := 0) (v := .int .i64 0) hb2 (by first | assumption | exact rc0) (by first | assumption | exact rf); have rf1 := frozen_now (b := w.heap.size + 1) (o := 1) (v := .int .i64 0) hb2 (by first | assumption | exact rc1) (by first | assumption | exact rf1); have rc0 := cell_now (b := w.heap.size + 1) (o := 0) (v := .int .i64 0) hb2 (by first | assumption | exact rc0); have rc1 := cell_now (b := w.heap.size + 1) (o := 1) (v := .int .i64 0) hb2 (by first | assumption | exact rc1))
    | (go_at_call 87; refine (H0.out _ (by simp) _ (by assumption)).mono ?_; rintro e w2 ⟨rfl, hb2⟩; have kb := hb_go (by first | assumption | exact kb) hb2; have s0 := cell_now (b := w.heap.size) (o := 0) (v := .int .i64 route) hb2 (by first | assumption | exact s0); have s1 := cell_now (b := w.heap.size) (o := 1) (v := .slice aw nw cw) hb2 (by first | assumption | exact s1); have rf := frozen_now (b := w.heap.size + 1) (o := 0) (v := .int .i64 0) hb2 (by first | assumption | exact rc0) (by first | assumption | exact rf); have rf1 := frozen_now (b := w.heap.size + 1) (o := 1) (v := .int .i64 0) hb2 (by first | assumption | exact rc1) (by first | assumption | exact rf1); have rc0 := cell_now (b := w.heap.size + 1) (o := 0) (v := .int .i64 0) hb2 (by first | assumption | exact rc0); have rc1 := cell_now (b := w.heap.size + 1) (o := 1) (v := .int .i64 0) hb2 (by first | assumption | exact rc1)))
  all_goals (
    go_wp2
    refine bodyPost_ret (v := .agg #[.int .i64 (r 1), .int .i64 (r 0)]) (by simp [results, Tryd.results86, go_sem, rc0, rc1]) rfl ⟨rfl, ?_⟩
    exact (kb.out.setCell (p := ⟨w.heap.size + 1, 0, none⟩) (by simp) _).setCell (p := ⟨w.heap.size + 1, 1, none⟩) (by simp) _)

set_option maxHeartbeats 2000000 in
set_option maxRecDepth 100000 in
theorem betweenL_any (aw ags : Option Addr) (nw cw ns cs pb qb : Nat) (route : Int) (r : Int → Int) (w : World)
    (h : ∀ e : Int, (e = 0 ∨ e = 1) → ∀ W', Hid (Below w.heap.size w W') → Calls Tryd.prog 122 #[.agg #[.slice aw nw cw, .slice ags ns cs, .int .i64 e], .pointer (some ⟨pb, 0, none⟩), .pointer (some ⟨qb, 0, none⟩)] W' fun e' w' => e' = .returned (.int .i64 (r e)) ∧ Below W'.heap.size W' w') :
    Calls Tryd.prog 86 #[.agg #[.int .i64 route, .slice aw nw cw], .slice ags ns cs, .func (.func 122) #[] #[.pointer (some ⟨pb, 0, none⟩), .pointer (some ⟨qb, 0, none⟩)]] w
     fun e w' => e = .returned (.agg #[.int .i64 (r 1), .int .i64 (r 0)]) ∧ Below w.heap.size w w' := by
  have H0 := hid h
  clear h
  have hb0 := hid (Below.refl (w.heap.size + 2) ((w.alloc (.cells #[.int .i64 route, .slice aw nw cw] 24)).alloc (.cells #[.int .i64 0, .int .i64 0] 27)))
  obtain ⟨w1, hw1⟩ : ∃ w1, ((w.alloc (.cells #[.int .i64 route, .slice aw nw cw] 24)).alloc (.cells #[.int .i64 0, .int .i64 0] 27)) = w1 := ⟨_, rfl⟩
  have kb : Hid (Below w.heap.size w w1.drew) := hid (by rw [← hw1]; exact (twoBelow hb0.out).drew)
  have s0 : w1.drew.cell? ⟨w.heap.size, 0, none⟩ = some (.int .i64 route) := by rw [← hw1]; exact cell_up (cell_at rfl rfl)
  have s1 : w1.drew.cell? ⟨w.heap.size, 1, none⟩ = some (.slice aw nw cw) := by rw [← hw1]; exact cell_up (cell_at rfl rfl)
  have rc0 : w1.drew.cell? ⟨w.heap.size + 1, 0, none⟩ = some (.int .i64 0) := by rw [← hw1]; exact cell_at (by simp) rfl
  have rc1 : w1.drew.cell? ⟨w.heap.size + 1, 1, none⟩ = some (.int .i64 0) := by rw [← hw1]; exact cell_at (by simp) rfl
  have rf : w1.drew.frozen? ⟨w.heap.size + 1, 0, none⟩ = false := by rw [← hw1]; exact frozen_at (by simp)
  have rf1 : w1.drew.frozen? ⟨w.heap.size + 1, 1, none⟩ = false := by rw [← hw1]; exact frozen_at (by simp)
  have Hw1 := hid hw1
  clear hw1 hb0
  go_enter Tryd.func86, Tryd.ntmps86
  go_wp2
  rw [Hw1.out]
  go_region_held3 (fun w' => w'.cell? ⟨w.heap.size, 0, none⟩ = some (.int .i64 route) ∧ w'.cell? ⟨w.heap.size, 1, none⟩ = some (.slice aw nw cw))
    (first | exact ⟨s0, s1⟩ | go_keep) (first
    | (go_at_call 97; refine (truthOf_any _ _ _ _ _ _ _ _ _).mono ?_; rintro e w2 ⟨rfl, hb2⟩; have kb := hb_go (by first | assumption | exact kb) hb2; have s0 := cell_now (b := w.heap.size) (o := 0) (v := .int .i64 route) hb2 (by first | assumption | exact s0); have s1 := cell_now (b := w.heap.size) (o := 1) (v := .slice aw nw cw) hb2 (by first | assumption | exact s1); have rf := frozen_now (b := w.heap.size + 1) (o := 0) (v := .int .i64 0) hb2 (by first | assumption | exact rc0) (by first | assumption | exact rf); have rf1 := frozen_now (b := w.heap.size + 1) (o := 1) (v := .int .i64 0) hb2 (by first | assumption | exact rc1) (by first | assumption | exact rf1); have rc0 := cell_now (b := w.heap.size + 1) (o := 0) (v := .int .i64 0) hb2 (by first | assumption | exact rc0); have rc1 := cell_now (b := w.heap.size + 1) (o := 1) (v := .int .i64 0) hb2 (by first | assumption | exact rc1))
    | (go_at_call 122; refine (H0.out _ (by simp) _ (by assumption)).mono ?_; rintro e w2 ⟨rfl, hb2⟩; have kb := hb_go (by first | assumption | exact kb) hb2; have s0 := cell_now (b := w.heap.size) (o := 0) (v := .int .i64 route) hb2 (by first | assumption | exact s0); have s1 := cell_now (b := w.heap.size) (o := 1) (v := .slice aw nw cw) hb2 (by first | assumption | exact s1); have rf := frozen_now (b := w.heap.size + 1) (o := 0) (v := .int .i64 0) hb2 (by first | assumption | exact rc0) (by first | assumption | exact rf); have rf1 := frozen_now (b := w.heap.size + 1) (o := 1) (v := .int .i64 0) hb2 (by first | assumption | exact rc1) (by first | assumption | exact rf1); have rc0 := cell_now (b := w.heap.size + 1) (o := 0) (v := .int .i64 0) hb2 (by first | assumption | exact rc0); have rc1 := cell_now (b := w.heap.size + 1) (o := 1) (v := .int .i64 0) hb2 (by first | assumption | exact rc1)))
  all_goals (
    go_wp2
    refine bodyPost_ret (v := .agg #[.int .i64 (r 1), .int .i64 (r 0)]) (by simp [results, Tryd.results86, go_sem, rc0, rc1]) rfl ⟨rfl, ?_⟩
    exact (kb.out.setCell (p := ⟨w.heap.size + 1, 0, none⟩) (by simp) _).setCell (p := ⟨w.heap.size + 1, 1, none⟩) (by simp) _)

end Go.Proofs.YtgfipifgijohhaaDoor
