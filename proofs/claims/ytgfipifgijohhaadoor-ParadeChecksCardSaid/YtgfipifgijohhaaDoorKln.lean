/-
  WALKS: Less, In, Inside.
-/
import Derived.Test.YtgfipifgijohhaaDoorLo
namespace Go.Proofs.YtgfipifgijohhaaDoor
open Go.RowKit

theorem DK.second {d B : Nat} {cs cs' : List Value} {w0 w : World} {t : TypeId} (k : DK d B cs w0 w) : DK d w.heap.size cs' w0 (w.alloc (.cells cs'.toArray t)) where
  gb := (k.alloc _).gb
  beat := (k.alloc _).beat
  hd := k.hd
  hR := k.gb.size
  hlt := by simp
  cells := fun i v hv => cell_at rfl (by simpa using hv)
  fr := fun i => frozen_at rfl

set_option maxHeartbeats 1000000 in
set_option maxRecDepth 100000 in
theorem less_any (d : Nat) (lo hi : Int) (w : World) (h : Beat d w) (h1 : -1000000000 ≤ lo) (h2 : lo ≤ hi) (h4 : hi ≤ 1000000000) :
    Calls Tryd.prog 53 #[.pointer (some ⟨d, 0, none⟩), .agg #[.int .i64 lo, .int .i64 hi]] w
     fun e w' => ∃ a b : Int, e = .returned (.agg #[.int .i64 a, .int .i64 b]) ∧ lo ≤ a ∧ a ≤ b ∧ b ≤ hi ∧ Beat d w' ∧ w.grownBy w' (some d) := by
  have K := hid (DK.start (t := 27) (cs := [.int .i64 lo, .int .i64 hi]) h)
  have R := hid ((K.out.second (t := 27) (cs' := [.int .i64 0, .int .i64 0])).drew)
  have K := hid (K.out.alloc (.cells #[.int .i64 0, .int .i64 0] 27)).drew
  have hd := h.lt
  clear h
  have e1 : (w.alloc (.cells #[.int .i64 lo, .int .i64 hi] 27)).heap.size = w.heap.size + 1 := by simp
  have K : Hid (DK d w.heap.size [.int .i64 lo, .int .i64 hi] w ((w.alloc (.cells #[.int .i64 lo, .int .i64 hi] 27)).alloc (.cells #[.int .i64 0, .int .i64 0] 27)).drew) := K
  have R : Hid (DK d (w.heap.size + 1) [.int .i64 0, .int .i64 0] w ((w.alloc (.cells #[.int .i64 lo, .int .i64 hi] 27)).alloc (.cells #[.int .i64 0, .int .i64 0] 27)).drew) := hid (by have := R.out; rw [e1] at this; exact this)
  clear e1
  go_enter Tryd.func53, Tryd.ntmps53
  go_wp2
  go_region_held3 (fun w' => w'.cell? ⟨w.heap.size, 0, none⟩ = some (.int .i64 lo) ∧ w'.cell? ⟨w.heap.size, 1, none⟩ = some (.int .i64 hi))
    (first | exact ⟨K.out.c0, K.out.c1⟩) (first
    | (go_at_call 85; refine (of_any d _ _ _ K.out.beat (by omega) (by omega) (by omega)).mono ?_; rintro e w1 ⟨r, rfl, hr1, hr2, hbt, hgb⟩; have K := hid (K.out.go hgb hbt); have R := hid (R.out.go hgb hbt); clear hgb hbt; have c0 := R.out.c0; have c1 := R.out.c1; have f0 := R.out.fr 0; have f1 := R.out.fr 1; first | (have hx : ra = ra := rfl; clear hx; obtain ⟨rb, rfl⟩ : ∃ x, x = r := ⟨r, rfl⟩) | (obtain ⟨ra, rfl⟩ : ∃ x, x = r := ⟨r, rfl⟩)))
  go_wp2
  refine bodyPost_ret (v := .agg #[.int .i64 (min ra rb), .int .i64 (max ra rb)]) (by simp [results, Tryd.results53, go_sem, c0, c1]) rfl ⟨min ra rb, max ra rb, rfl, by omega, by omega, by omega, ?_, ?_⟩
  · exact Beat.putFar (Beat.putFar K.out.beat (by omega)) (by omega)
  · exact gb_out (gb_out K.out.gb (by omega)) (by omega)

set_option maxHeartbeats 1000000 in
set_option maxRecDepth 100000 in
theorem kin_any (lo hi n : Int) (w : World) :
    Calls Tryd.prog 52 #[.agg #[.int .i64 lo, .int .i64 hi], .int .i64 n] w fun e w' => e = .returned (.bool (inB n lo hi)) ∧ Below w.heap.size w w' := by
  have kb := hid (below_alloc w (.cells #[.int .i64 lo, .int .i64 hi] 27))
  by_cases h1 : lo ≤ n
  · by_cases h2 : n ≤ hi
    · go_enter Tryd.func52, Tryd.ntmps52
      go_wp2
      go_ret
      exact ⟨ret_bool (by unfold inB; simp [h1, h2]), kb.out⟩
    · go_enter Tryd.func52, Tryd.ntmps52
      go_wp2
      go_ret
      exact ⟨ret_bool (by unfold inB; simp; omega), kb.out⟩
  · go_enter Tryd.func52, Tryd.ntmps52
    go_wp2
    go_ret
    exact ⟨ret_bool (by unfold inB; simp; omega), kb.out⟩

set_option maxHeartbeats 1000000 in
set_option maxRecDepth 100000 in
theorem inside_any (a b lo hi : Int) (w : World) (h1 : lo ≤ a) (h2 : b ≤ hi) :
    Calls Tryd.prog 54 #[.agg #[.int .i64 a, .int .i64 b], .agg #[.int .i64 lo, .int .i64 hi]] w fun e w' => e = .returned (.bool true) ∧ Below w.heap.size w w' := by
  have kb := hid (below_trans (below_alloc w (.cells #[.int .i64 a, .int .i64 b] 27)) (below_alloc _ (.cells #[.int .i64 lo, .int .i64 hi] 27)))
  go_enter Tryd.func54, Tryd.ntmps54
  go_wp2
  go_ret
  exact ⟨rfl, kb.out⟩
end Go.Proofs.YtgfipifgijohhaaDoor
