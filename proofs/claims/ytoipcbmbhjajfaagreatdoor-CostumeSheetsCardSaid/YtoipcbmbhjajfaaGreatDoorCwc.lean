/-
  WALKS: the program's look at a plot: in, isMinute, figure, count, inTime, between, way.
  WALKS: the program's look at one part of a plot.
  WALKS: the program's look at a plot: Check.
-/
import Derived.Test.YtoipcbmbhjajfaaGreatDoorCpl
import Derived.Test.YtoipcbmbhjajfaaGreatDoorChk
import Derived.Test.YtoipcbmbhjajfaaGreatDoorHk
import Derived.Deep.CutRange
import Derived.Deep.RegionHeld3
import Derived.StillTailTactics
import Derived.Outline
namespace Go.Proofs.YtoipcbmbhjajfaaGreatDoor
open Go.RowKit

set_option maxHeartbeats 400000 in
theorem cin_any (n lo hi : Int) (w : World) :
    Calls Tryz.prog 46 #[.int .i64 n, .int .i64 lo, .int .i64 hi] w fun e w' => e = .returned (.bool (inB n lo hi)) ∧ w = w' := by
  go_enter Tryz.func46, Tryz.ntmps46
  go_wp2
  · go_ret
    exact ⟨ret_bool (by unfold inB; simp [*]), rfl⟩
  · go_ret
    exact ⟨ret_bool (by unfold inB; simp; omega), rfl⟩

set_option maxHeartbeats 400000 in
theorem minute_any (n : Int) (w : World) :
    Calls Tryz.prog 55 #[.int .i64 n] w fun e w' => e = .returned (.bool (inB n 0 1440)) ∧ w = w' := by
  go_enter Tryz.func55, Tryz.ntmps55
  go_wp2_with (go_at_call 46; refine (cin_any _ _ _ _).mono ?_; rintro e w' ⟨rfl, rfl⟩)
  go_ret
  exact ⟨rfl, rfl⟩

set_option maxHeartbeats 1000000 in
theorem figure_any (a b : Int) (w : World) :
    Calls Tryz.prog 54 #[.agg #[.int .i64 a, .int .i64 b]] w fun e w' => e = .returned (.int .i64 (figE (a, b))) ∧ Below w.heap.size w w' := by
  have hb := hid (below_alloc w (.cells #[.int .i64 a, .int .i64 b] 58))
  cases h1 : inB a 1 300 with
  | false =>
    go_enter Tryz.func54, Tryz.ntmps54
    go_wp2_with (go_at_call 46; refine (cin_any _ _ _ _).mono ?_; rintro e w' ⟨rfl, rfl⟩)
    go_ret
    exact ⟨ret_int (by unfold figE; rw [if_pos h1]), hb.out⟩
  | true =>
    cases h2 : inB b 1 300 with
    | false =>
      go_enter Tryz.func54, Tryz.ntmps54
      go_wp2_with (go_at_call 46; refine (cin_any _ _ _ _).mono ?_; rintro e w' ⟨rfl, rfl⟩)
      go_ret
      exact ⟨ret_int (by unfold figE; rw [if_neg (by simp [h1]), if_pos h2]), hb.out⟩
    | true =>
      by_cases h3 : b < a
      · go_enter Tryz.func54, Tryz.ntmps54
        go_wp2_with (go_at_call 46; refine (cin_any _ _ _ _).mono ?_; rintro e w' ⟨rfl, rfl⟩)
        go_ret
        exact ⟨ret_int (by unfold figE; rw [if_neg (by simp [h1]), if_neg (by simp [h2]), if_pos h3]), hb.out⟩
      · go_enter Tryz.func54, Tryz.ntmps54
        go_wp2_with (go_at_call 46; refine (cin_any _ _ _ _).mono ?_; rintro e w' ⟨rfl, rfl⟩)
        go_ret
        exact ⟨ret_int (by unfold figE; rw [if_neg (by simp [h1]), if_neg (by simp [h2]), if_neg (show ¬ b < a from by omega)]), hb.out⟩

set_option maxHeartbeats 1000000 in
theorem count_any (n m : Nat) (w : World) :
    Calls Tryz.prog 53 #[.int .i64 n, .int .i64 m] w fun e w' => e = .returned (.int .i64 (countE n m)) ∧ w = w' := by
  by_cases h1 : n = 0
  · obtain ⟨d1, d2⟩ := eq_bool (a := (n : Int)) (b := 0) (by omega)
    go_enter Tryz.func53, Tryz.ntmps53
    go_wp2
    go_ret
    exact ⟨ret_int (by unfold countE; rw [if_pos h1]), rfl⟩
  · obtain ⟨d1, d2⟩ := ne_bool (a := (n : Int)) (b := 0) (by omega)
    by_cases h2 : m < n
    · have h2' : (m : Int) < (n : Int) := by omega
      go_enter Tryz.func53, Tryz.ntmps53
      go_wp2
      go_ret
      exact ⟨ret_int (by unfold countE; rw [if_neg h1, if_pos h2]), rfl⟩
    · have h2' : ¬ (m : Int) < (n : Int) := by omega
      go_enter Tryz.func53, Tryz.ntmps53
      go_wp2
      go_ret
      exact ⟨ret_int (by unfold countE; rw [if_neg h1, if_neg h2]), rfl⟩

theorem HK.box5 {cs : Cells} {w0 w : World} (k : HK cs w0 w) {n : Nat} (hn : n = w.heap.size) (x y z u v : Value) (t : TypeId) : HK ((n, 0, x) :: (n, 1, y) :: (n, 2, z) :: (n, 3, u) :: (n, 4, v) :: cs) w0 (w.alloc (.cells #[x, y, z, u, v] t)) := by
  subst hn
  exact (((((k.alloc _).add k.below.size (cell_at rfl rfl) (frozen_at rfl)).add k.below.size (cell_at rfl rfl) (frozen_at rfl)).add k.below.size (cell_at rfl rfl) (frozen_at rfl)).add k.below.size (cell_at rfl rfl) (frozen_at rfl)).add k.below.size (cell_at rfl rfl) (frozen_at rfl)

/-- a part as a value -/
abbrev partV (x : Part) : Value := .agg #[.int .i64 x.person, .int .i64 x.place, .int .i64 x.kind, .int .i64 x.start, .int .i64 x.stop]

set_option maxHeartbeats 1000000 in
set_option maxRecDepth 100000 in
theorem inTime_any (y x : Part) (w : World) :
    Calls Tryz.prog 90 #[partV y, partV x] w fun e w' => e = .returned (.tuple #[partV (inTime y x).1, partV (inTime y x).2]) ∧ Below w.heap.size w w' := by
  by_cases h : x.start < y.start
  · have e : inTime y x = (x, y) := by unfold inTime; rw [if_pos h]
    rw [e]
    go_enter Tryz.func90, Tryz.ntmps90
    go_wp2_with fail
    go_region
    all_goals (
      go_wp2
      refine bodyPost_ret (v := .tuple #[partV x, partV y]) (by simp [results, Tryz.results90, go_sem]) rfl ⟨rfl, ?_⟩
      exact ((((below_alloc w _).alloc (by simp) _).alloc (by simp; omega) _).alloc (by simp; omega) _).drew)
  · have e : inTime y x = (y, x) := by unfold inTime; rw [if_neg h]
    rw [e]
    go_enter Tryz.func90, Tryz.ntmps90
    go_wp2_with fail
    go_region
    all_goals (
      go_wp2
      refine bodyPost_ret (v := .tuple #[partV y, partV x]) (by simp [results, Tryz.results90, go_sem]) rfl ⟨rfl, ?_⟩
      exact ((((below_alloc w _).alloc (by simp) _).alloc (by simp; omega) _).alloc (by simp; omega) _).drew)

def Timed (x : Part) : Prop := 0 ≤ x.start ∧ x.start ≤ 1440 ∧ 0 ≤ x.stop ∧ x.stop ≤ 1440
theorem timed_inTime {y x : Part} (hy : Timed y) (hx : Timed x) : Timed (inTime y x).1 ∧ Timed (inTime y x).2 := by
  unfold inTime
  split
  · exact ⟨hx, hy⟩
  · exact ⟨hy, hx⟩

set_option maxHeartbeats 2000000 in
set_option maxRecDepth 100000 in
theorem between_any (y x : Part) (w : World) (hy : Timed y) (hx : Timed x) :
    Calls Tryz.prog 76 #[partV y, partV x] w fun e w' => e = .returned (.int .i64 (betweenP y x)) ∧ Below w.heap.size w w' := by
  have hT := timed_inTime hy hx
  have HT := hid (fun W => inTime_any y x W)
  have e0 : betweenP y x = (inTime y x).2.start - (inTime y x).1.stop := rfl
  rw [e0]
  obtain ⟨A, B, hAB⟩ : ∃ A B, inTime y x = (A, B) := ⟨_, _, rfl⟩
  rw [hAB] at HT hT ⊢
  dsimp only at hT HT ⊢
  obtain ⟨⟨a1, a2, a3, a4⟩, ⟨b1, b2, b3, b4⟩⟩ := hT
  have z1 : IntKind.i64.wrap (B.start - A.stop) = B.start - A.stop := IntWalk.i64_in _ (by omega)
  clear hAB e0
  have K := hid (((HK.start w).box5 (n := w.heap.size) rfl (.int .i64 y.person) (.int .i64 y.place) (.int .i64 y.kind) (.int .i64 y.start) (.int .i64 y.stop) 60).box5 (n := w.heap.size + 1) (by simp) (.int .i64 x.person) (.int .i64 x.place) (.int .i64 x.kind) (.int .i64 x.start) (.int .i64 x.stop) 60)
  go_enter Tryz.func76, Tryz.ntmps76
  go_wp2_with (go_at_call 90; refine (HT.out _).mono ?_; rintro e w1 ⟨rfl, hb1⟩; have K := hid (K.out.later hb1); clear hb1; have c00 := K.out.c (b := w.heap.size) (o := 0) (v := .int .i64 y.person) (by simp); have f00 := K.out.f (b := w.heap.size) (o := 0) (v := .int .i64 y.person) (by simp); have c01 := K.out.c (b := w.heap.size) (o := 1) (v := .int .i64 y.place) (by simp); have f01 := K.out.f (b := w.heap.size) (o := 1) (v := .int .i64 y.place) (by simp); have c02 := K.out.c (b := w.heap.size) (o := 2) (v := .int .i64 y.kind) (by simp); have f02 := K.out.f (b := w.heap.size) (o := 2) (v := .int .i64 y.kind) (by simp); have c03 := K.out.c (b := w.heap.size) (o := 3) (v := .int .i64 y.start) (by simp); have f03 := K.out.f (b := w.heap.size) (o := 3) (v := .int .i64 y.start) (by simp); have c04 := K.out.c (b := w.heap.size) (o := 4) (v := .int .i64 y.stop) (by simp); have f04 := K.out.f (b := w.heap.size) (o := 4) (v := .int .i64 y.stop) (by simp); have c10 := K.out.c (b := w.heap.size + 1) (o := 0) (v := .int .i64 x.person) (by simp); have f10 := K.out.f (b := w.heap.size + 1) (o := 0) (v := .int .i64 x.person) (by simp); have c11 := K.out.c (b := w.heap.size + 1) (o := 1) (v := .int .i64 x.place) (by simp); have f11 := K.out.f (b := w.heap.size + 1) (o := 1) (v := .int .i64 x.place) (by simp); have c12 := K.out.c (b := w.heap.size + 1) (o := 2) (v := .int .i64 x.kind) (by simp); have f12 := K.out.f (b := w.heap.size + 1) (o := 2) (v := .int .i64 x.kind) (by simp); have c13 := K.out.c (b := w.heap.size + 1) (o := 3) (v := .int .i64 x.start) (by simp); have f13 := K.out.f (b := w.heap.size + 1) (o := 3) (v := .int .i64 x.start) (by simp); have c14 := K.out.c (b := w.heap.size + 1) (o := 4) (v := .int .i64 x.stop) (by simp); have f14 := K.out.f (b := w.heap.size + 1) (o := 4) (v := .int .i64 x.stop) (by simp))
  go_ret
  exact ⟨rfl, ((((((((((K.out.below.setCell (p := ⟨w.heap.size, 0, none⟩) (by simp) _).setCell (p := ⟨w.heap.size, 1, none⟩) (by simp) _).setCell (p := ⟨w.heap.size, 2, none⟩) (by simp) _).setCell (p := ⟨w.heap.size, 3, none⟩) (by simp) _).setCell (p := ⟨w.heap.size, 4, none⟩) (by simp) _).setCell (p := ⟨w.heap.size + 1, 0, none⟩) (by simp) _).setCell (p := ⟨w.heap.size + 1, 1, none⟩) (by simp) _).setCell (p := ⟨w.heap.size + 1, 2, none⟩) (by simp) _).setCell (p := ⟨w.heap.size + 1, 3, none⟩) (by simp) _).setCell (p := ⟨w.heap.size + 1, 4, none⟩) (by simp) _)⟩

abbrev plotV (vp vw vd vq : Value) : Value := .agg #[vp, vw, vd, vq]
theorem HK.box4m {cs : Cells} {w0 w : World} (k : HK cs w0 w) {n : Nat} (hn : n = w.heap.size) (x y z u : Value) (t : TypeId) : HK ((n, 0, x) :: (n, 1, y) :: (n, 2, z) :: (n, 3, u) :: cs) w0 (w.alloc (.cells #[x, y, z, u] t)) := by
  subst hn
  exact ((((k.alloc _).add k.below.size (cell_at rfl rfl) (frozen_at rfl)).add k.below.size (cell_at rfl rfl) (frozen_at rfl)).add k.below.size (cell_at rfl rfl) (frozen_at rfl)).add k.below.size (cell_at rfl rfl) (frozen_at rfl)

theorem HK.putO {cs : Cells} {w0 w : World} (k : HK cs w0 w) {b o : Nat} {v : Value} (h : (b, o, v) ∈ cs) (u : Value) : HK (upd cs b o u) w0 (w.setCell ⟨b, o, none⟩ u) := by
  obtain ⟨hb0, hc, hf⟩ := k.cell b o v h
  refine ⟨k.below.setCell (p := ⟨b, o, none⟩) hb0 u, fun b' o' u' hm => ?_⟩
  unfold upd at hm
  rw [List.mem_map] at hm
  obtain ⟨⟨x1, x2, x3⟩, hx, e⟩ := hm
  split at e
  · cases e
    exact ⟨hb0, World.cell?_setCell_same _ _ _ hc, (World.frozen?_setCell _ _ _ _).trans hf⟩
  · rename_i hne
    cases e
    obtain ⟨g1, g2, g3⟩ := k.cell _ _ _ hx
    exact ⟨g1, (World.cell?_setCell_other _ _ _ _ (by intro e; cases e; exact hne ⟨rfl, rfl⟩)).trans g2, (World.frozen?_setCell _ _ _ _).trans g3⟩
theorem HK.put5 {cs : Cells} {w0 w : World} {Z : Nat} {x0 x1 x2 x3 x4 : Value} (k : HK ((Z, 0, x0) :: (Z, 1, x1) :: (Z, 2, x2) :: (Z, 3, x3) :: (Z, 4, x4) :: cs) w0 w) (h : ∀ b o v, (b, o, v) ∈ cs → b ≠ Z) (y0 y1 y2 y3 y4 : Value) :
    HK ((Z, 0, y0) :: (Z, 1, y1) :: (Z, 2, y2) :: (Z, 3, y3) :: (Z, 4, y4) :: cs) w0 (((((w.setCell ⟨Z, 0, none⟩ y0).setCell ⟨Z, 1, none⟩ y1).setCell ⟨Z, 2, none⟩ y2).setCell ⟨Z, 3, none⟩ y3).setCell ⟨Z, 4, none⟩ y4) := by
  have e : ∀ o u, upd cs Z o u = cs := fun o u => upd_far h
  have k0 := k.putO (b := Z) (o := 0) (v := x0) (by simp) y0
  rw [show upd ((Z, 0, x0) :: (Z, 1, x1) :: (Z, 2, x2) :: (Z, 3, x3) :: (Z, 4, x4) :: cs) Z 0 y0 = (Z, 0, y0) :: (Z, 1, x1) :: (Z, 2, x2) :: (Z, 3, x3) :: (Z, 4, x4) :: cs from by have := e 0 y0; unfold upd at *; simp [this]] at k0
  have k1 := k0.putO (b := Z) (o := 1) (v := x1) (by simp) y1
  rw [show upd ((Z, 0, y0) :: (Z, 1, x1) :: (Z, 2, x2) :: (Z, 3, x3) :: (Z, 4, x4) :: cs) Z 1 y1 = (Z, 0, y0) :: (Z, 1, y1) :: (Z, 2, x2) :: (Z, 3, x3) :: (Z, 4, x4) :: cs from by have := e 1 y1; unfold upd at *; simp [this]] at k1
  have k2 := k1.putO (b := Z) (o := 2) (v := x2) (by simp) y2
  rw [show upd ((Z, 0, y0) :: (Z, 1, y1) :: (Z, 2, x2) :: (Z, 3, x3) :: (Z, 4, x4) :: cs) Z 2 y2 = (Z, 0, y0) :: (Z, 1, y1) :: (Z, 2, y2) :: (Z, 3, x3) :: (Z, 4, x4) :: cs from by have := e 2 y2; unfold upd at *; simp [this]] at k2
  have k3 := k2.putO (b := Z) (o := 3) (v := x3) (by simp) y3
  rw [show upd ((Z, 0, y0) :: (Z, 1, y1) :: (Z, 2, y2) :: (Z, 3, x3) :: (Z, 4, x4) :: cs) Z 3 y3 = (Z, 0, y0) :: (Z, 1, y1) :: (Z, 2, y2) :: (Z, 3, y3) :: (Z, 4, x4) :: cs from by have := e 3 y3; unfold upd at *; simp [this]] at k3
  have k4 := k3.putO (b := Z) (o := 4) (v := x4) (by simp) y4
  rw [show upd ((Z, 0, y0) :: (Z, 1, y1) :: (Z, 2, y2) :: (Z, 3, y3) :: (Z, 4, x4) :: cs) Z 4 y4 = (Z, 0, y0) :: (Z, 1, y1) :: (Z, 2, y2) :: (Z, 3, y3) :: (Z, 4, y4) :: cs from by have := e 4 y4; unfold upd at *; simp [this]] at k4
  exact k4
theorem HK.subs {cs cs2 : Cells} {w0 w : World} (k : HK cs w0 w) (h : ∀ x, x ∈ cs2 → x ∈ cs) : HK cs2 w0 w := ⟨k.below, fun b o v hm => k.cell b o v (h _ hm)⟩

/-- a part that stands somewhere, in some costume -/
def Placed (p : Plot) (x : Part) : Prop := (0 ≤ x.place ∧ x.place < p.walk.length) ∧ (0 ≤ x.kind ∧ x.kind < p.dress.length)
theorem placed_inTime {p : Plot} {y x : Part} (hy : Placed p y) (hx : Placed p x) : Placed p (inTime y x).1 ∧ Placed p (inTime y x).2 := by
  unfold inTime
  split
  · exact ⟨hx, hy⟩
  · exact ⟨hy, hx⟩
/-- a plot whose ways are all there, and no number of it is large -/
structure Square (p : Plot) : Prop where
  row : ∀ i, i < p.walk.length → (lst p.walk i).length = p.walk.length ∧ ∀ k, k < p.walk.length → 0 ≤ nm (lst p.walk i) k ∧ nm (lst p.walk i) k ≤ 1440
  dress : ∀ i, i < p.dress.length → 0 ≤ nm p.dress i ∧ nm p.dress i ≤ 1440

set_option maxHeartbeats 2000000 in
set_option maxRecDepth 100000 in
theorem way_any (p : Plot) (y x : Part) (d : Bool) (vp vw vd vq : Value) (w : World) (h : PlotAt none w vp vw vd vq p) (hs : Square p) (hy : Placed p y) (hx : Placed p x) :
    Calls Tryz.prog 77 #[plotV vp vw vd vq, partV y, partV x, .bool d] w fun e w' => e = .returned (.int .i64 (wayP p y x d)) ∧ Below w.heap.size w w' := by
  have hT := placed_inTime hy hx
  have HT := hid (fun W => inTime_any y x W)
  have e0 : wayP p y x d = nm (lst p.walk (inTime y x).1.place.toNat) (inTime y x).2.place.toNat + (if d = true then nm p.dress (inTime y x).2.kind.toNat else 0) := rfl
  rw [e0]
  obtain ⟨⟨a1, a2, a3, a4, a5⟩, ⟨b1, b2, b3, b4, b5⟩, hAB⟩ : ∃ A B, inTime y x = (A, B) := ⟨_, _, rfl⟩
  rw [hAB] at HT hT ⊢
  dsimp only at hT HT ⊢
  obtain ⟨⟨⟨q1, q2⟩, q3, q4⟩, ⟨r1, r2⟩, r3, r4⟩ := hT
  dsimp only at q1 q2 q3 q4 r1 r2 r3 r4
  obtain ⟨m, rfl⟩ : ∃ m : Nat, a2 = m := ⟨a2.toNat, by omega⟩
  obtain ⟨n, rfl⟩ : ∃ n : Nat, b2 = n := ⟨b2.toNat, by omega⟩
  obtain ⟨q, rfl⟩ : ∃ q : Nat, b3 = q := ⟨b3.toNat, by omega⟩
  simp only [Int.toNat_natCast]
  have hm : m < p.walk.length := by omega
  have hn : n < p.walk.length := by omega
  have hq : q < p.dress.length := by omega
  obtain ⟨aw, cw, rfl⟩ := h.walk.form
  obtain ⟨bw, ow, u, rfl, hbw, cu, hu⟩ := h.walk.row hm
  obtain ⟨hrl, hrb⟩ := hs.row m hm
  obtain ⟨br, or', cr, rfl, _, _⟩ := hu.slice (by omega)
  have cn := hu.cell (i := n) (by omega)
  obtain ⟨bd, od, cd, rfl, _, _⟩ := h.dress.slice (by omega)
  have cq := h.dress.cell hq
  have hbr := World.block_lt_of_cell? w ⟨br, or' + n, none⟩ cn
  have hbd := World.block_lt_of_cell? w ⟨bd, od + q, none⟩ cq
  have hN := hrb n hn
  have hQ := hs.dress q hq
  obtain ⟨N, hNe⟩ : ∃ N, nm (lst p.walk m) n = N := ⟨_, rfl⟩
  obtain ⟨D, hDe⟩ : ∃ D, nm p.dress q = D := ⟨_, rfl⟩
  rw [hNe] at cn hN ⊢
  rw [hDe] at cq hQ ⊢
  rw [hrl] at cu
  have z1 : IntKind.i64.wrap (N + D) = N + D := IntWalk.i64_in _ (by omega)
  have CU := hid (show ∀ W', Below w.heap.size w W' → W'.cell? ⟨bw, ow + m, none⟩ = some (.slice (some ⟨br, or', none⟩) p.walk.length cr) ∧ W'.cell? ⟨br, or' + n, none⟩ = some (.int .i64 N) ∧ W'.cell? ⟨bd, od + q, none⟩ = some (.int .i64 D) from fun W' hb => ⟨cell_back hb hbw cu, cell_back hb hbr cn, cell_back hb hbd cq⟩)
  have i1 : (m : Int) < (p.walk.length : Int) := by omega
  have i2 : (n : Int) < (p.walk.length : Int) := by omega
  have i3 : (q : Int) < (p.dress.length : Int) := by omega
  clear hAB e0 h hs hy hx hu hrl hrb cu cn cq hNe hDe q1 q2 q3 q4 r1 r2 r3 r4
  have K := hid ((((HK.start w).box4m (n := w.heap.size) rfl vp (.slice (some ⟨bw, ow, none⟩) p.walk.length cw) (.slice (some ⟨bd, od, none⟩) p.dress.length cd) vq 27).box5 (n := w.heap.size + 1) (by simp) (.int .i64 y.person) (.int .i64 y.place) (.int .i64 y.kind) (.int .i64 y.start) (.int .i64 y.stop) 60).box5 (n := w.heap.size + 1 + 1) (by simp) (.int .i64 x.person) (.int .i64 x.place) (.int .i64 x.kind) (.int .i64 x.start) (.int .i64 x.stop) 60)
  cases d with
  | true =>
    go_enter Tryz.func77, Tryz.ntmps77
    go_wp2_with (go_at_call 90; refine (HT.out _).mono ?_; rintro e w1 ⟨rfl, hb1⟩; have K := hid (K.out.later hb1); clear hb1; have C := CU.out _ K.out.below; have g0 := C.1; have g1 := C.2.1; have g2 := C.2.2; clear C; have p1 := K.out.c (b := w.heap.size) (o := 1) (v := .slice (some ⟨bw, ow, none⟩) p.walk.length cw) (by simp); have p2 := K.out.c (b := w.heap.size) (o := 2) (v := .slice (some ⟨bd, od, none⟩) p.dress.length cd) (by simp); have c00 := K.out.c (b := w.heap.size + 1) (o := 0) (v := .int .i64 y.person) (by simp); have f00 := K.out.f (b := w.heap.size + 1) (o := 0) (v := .int .i64 y.person) (by simp); have c01 := K.out.c (b := w.heap.size + 1) (o := 1) (v := .int .i64 y.place) (by simp); have f01 := K.out.f (b := w.heap.size + 1) (o := 1) (v := .int .i64 y.place) (by simp); have c02 := K.out.c (b := w.heap.size + 1) (o := 2) (v := .int .i64 y.kind) (by simp); have f02 := K.out.f (b := w.heap.size + 1) (o := 2) (v := .int .i64 y.kind) (by simp); have c03 := K.out.c (b := w.heap.size + 1) (o := 3) (v := .int .i64 y.start) (by simp); have f03 := K.out.f (b := w.heap.size + 1) (o := 3) (v := .int .i64 y.start) (by simp); have c04 := K.out.c (b := w.heap.size + 1) (o := 4) (v := .int .i64 y.stop) (by simp); have f04 := K.out.f (b := w.heap.size + 1) (o := 4) (v := .int .i64 y.stop) (by simp); have c10 := K.out.c (b := w.heap.size + 1 + 1) (o := 0) (v := .int .i64 x.person) (by simp); have f10 := K.out.f (b := w.heap.size + 1 + 1) (o := 0) (v := .int .i64 x.person) (by simp); have c11 := K.out.c (b := w.heap.size + 1 + 1) (o := 1) (v := .int .i64 x.place) (by simp); have f11 := K.out.f (b := w.heap.size + 1 + 1) (o := 1) (v := .int .i64 x.place) (by simp); have c12 := K.out.c (b := w.heap.size + 1 + 1) (o := 2) (v := .int .i64 x.kind) (by simp); have f12 := K.out.f (b := w.heap.size + 1 + 1) (o := 2) (v := .int .i64 x.kind) (by simp); have c13 := K.out.c (b := w.heap.size + 1 + 1) (o := 3) (v := .int .i64 x.start) (by simp); have f13 := K.out.f (b := w.heap.size + 1 + 1) (o := 3) (v := .int .i64 x.start) (by simp); have c14 := K.out.c (b := w.heap.size + 1 + 1) (o := 4) (v := .int .i64 x.stop) (by simp); have f14 := K.out.f (b := w.heap.size + 1 + 1) (o := 4) (v := .int .i64 x.stop) (by simp))
    have K1 := hid (K.out.subs (cs2 := [(w.heap.size + 1, 0, .int .i64 y.person), (w.heap.size + 1, 1, .int .i64 y.place), (w.heap.size + 1, 2, .int .i64 y.kind), (w.heap.size + 1, 3, .int .i64 y.start), (w.heap.size + 1, 4, .int .i64 y.stop), (w.heap.size + 1 + 1, 0, .int .i64 x.person), (w.heap.size + 1 + 1, 1, .int .i64 x.place), (w.heap.size + 1 + 1, 2, .int .i64 x.kind), (w.heap.size + 1 + 1, 3, .int .i64 x.start), (w.heap.size + 1 + 1, 4, .int .i64 x.stop), (w.heap.size, 1, .slice (some ⟨bw, ow, none⟩) p.walk.length cw), (w.heap.size, 2, .slice (some ⟨bd, od, none⟩) p.dress.length cd)]) (by intro z hz; simp only [List.mem_cons, List.not_mem_nil, or_false] at hz ⊢; rcases hz with h | h | h | h | h | h | h | h | h | h | h | h <;> simp [h]))
    have K2 := hid (K1.out.put5 (by intro b o v hm; simp only [List.mem_cons, Prod.mk.injEq, List.not_mem_nil, or_false] at hm; omega) (.int .i64 a1) (.int .i64 m) (.int .i64 a3) (.int .i64 a4) (.int .i64 a5))
    have K3 := hid (K2.out.subs (cs2 := [(w.heap.size + 1 + 1, 0, .int .i64 x.person), (w.heap.size + 1 + 1, 1, .int .i64 x.place), (w.heap.size + 1 + 1, 2, .int .i64 x.kind), (w.heap.size + 1 + 1, 3, .int .i64 x.start), (w.heap.size + 1 + 1, 4, .int .i64 x.stop), (w.heap.size + 1, 1, .int .i64 m), (w.heap.size, 1, .slice (some ⟨bw, ow, none⟩) p.walk.length cw), (w.heap.size, 2, .slice (some ⟨bd, od, none⟩) p.dress.length cd)]) (by intro z hz; simp only [List.mem_cons, List.not_mem_nil, or_false] at hz ⊢; rcases hz with h | h | h | h | h | h | h | h <;> simp [h]))
    have K4 := hid (K3.out.put5 (by intro b o v hm; simp only [List.mem_cons, Prod.mk.injEq, List.not_mem_nil, or_false] at hm; omega) (.int .i64 b1) (.int .i64 n) (.int .i64 q) (.int .i64 b4) (.int .i64 b5))
    obtain ⟨wz, hwz, KZ⟩ := K4.out.name
    rw [hwz]
    have K := hid KZ
    clear hwz KZ K1 K2 K3 K4 g0 g1 g2 p1 p2 c00 f00 c01 f01 c02 f02 c03 f03 c04 f04 c10 f10 c11 f11 c12 f12 c13 f13 c14 f14
    have C := CU.out _ K.out.below
    have g0 := C.1
    have g1 := C.2.1
    have g2 := C.2.2
    clear C
    have p1 := K.out.c (b := w.heap.size) (o := 1) (v := .slice (some ⟨bw, ow, none⟩) p.walk.length cw) (by simp)
    have p2 := K.out.c (b := w.heap.size) (o := 2) (v := .slice (some ⟨bd, od, none⟩) p.dress.length cd) (by simp)
    have p3 := K.out.c (b := w.heap.size + 1) (o := 1) (v := .int .i64 m) (by simp)
    have p4 := K.out.c (b := w.heap.size + 1 + 1) (o := 1) (v := .int .i64 n) (by simp)
    have p5 := K.out.c (b := w.heap.size + 1 + 1) (o := 2) (v := .int .i64 q) (by simp)
    go_region_held3 (fun w' => w'.cell? ⟨w.heap.size, 1, none⟩ = some (.slice (some ⟨bw, ow, none⟩) p.walk.length cw) ∧ w'.cell? ⟨w.heap.size + 1, 1, none⟩ = some (.int .i64 m) ∧ w'.cell? ⟨w.heap.size + 1 + 1, 1, none⟩ = some (.int .i64 n) ∧ w'.cell? ⟨bw, ow + m, none⟩ = some (.slice (some ⟨br, or', none⟩) p.walk.length cr) ∧ w'.cell? ⟨br, or' + n, none⟩ = some (.int .i64 N))
      (first | exact ⟨p1, p3, p4, g0, g1⟩) (fail)
    have K := hid K.out.drew
    clear g0 g1 g2 p1 p2 p3 p4 p5
    have C := CU.out _ K.out.below
    have g0 := C.1
    have g1 := C.2.1
    have g2 := C.2.2
    clear C
    have p1 := K.out.c (b := w.heap.size) (o := 1) (v := .slice (some ⟨bw, ow, none⟩) p.walk.length cw) (by simp)
    have p2 := K.out.c (b := w.heap.size) (o := 2) (v := .slice (some ⟨bd, od, none⟩) p.dress.length cd) (by simp)
    have p3 := K.out.c (b := w.heap.size + 1) (o := 1) (v := .int .i64 m) (by simp)
    have p4 := K.out.c (b := w.heap.size + 1 + 1) (o := 1) (v := .int .i64 n) (by simp)
    have p5 := K.out.c (b := w.heap.size + 1 + 1) (o := 2) (v := .int .i64 q) (by simp)
    go_wp2
    go_ret
    exact ⟨rfl, K.out.below⟩
  | false =>
    go_enter Tryz.func77, Tryz.ntmps77
    go_wp2_with (go_at_call 90; refine (HT.out _).mono ?_; rintro e w1 ⟨rfl, hb1⟩; have K := hid (K.out.later hb1); clear hb1; have C := CU.out _ K.out.below; have g0 := C.1; have g1 := C.2.1; have g2 := C.2.2; clear C; have p1 := K.out.c (b := w.heap.size) (o := 1) (v := .slice (some ⟨bw, ow, none⟩) p.walk.length cw) (by simp); have p2 := K.out.c (b := w.heap.size) (o := 2) (v := .slice (some ⟨bd, od, none⟩) p.dress.length cd) (by simp); have c00 := K.out.c (b := w.heap.size + 1) (o := 0) (v := .int .i64 y.person) (by simp); have f00 := K.out.f (b := w.heap.size + 1) (o := 0) (v := .int .i64 y.person) (by simp); have c01 := K.out.c (b := w.heap.size + 1) (o := 1) (v := .int .i64 y.place) (by simp); have f01 := K.out.f (b := w.heap.size + 1) (o := 1) (v := .int .i64 y.place) (by simp); have c02 := K.out.c (b := w.heap.size + 1) (o := 2) (v := .int .i64 y.kind) (by simp); have f02 := K.out.f (b := w.heap.size + 1) (o := 2) (v := .int .i64 y.kind) (by simp); have c03 := K.out.c (b := w.heap.size + 1) (o := 3) (v := .int .i64 y.start) (by simp); have f03 := K.out.f (b := w.heap.size + 1) (o := 3) (v := .int .i64 y.start) (by simp); have c04 := K.out.c (b := w.heap.size + 1) (o := 4) (v := .int .i64 y.stop) (by simp); have f04 := K.out.f (b := w.heap.size + 1) (o := 4) (v := .int .i64 y.stop) (by simp); have c10 := K.out.c (b := w.heap.size + 1 + 1) (o := 0) (v := .int .i64 x.person) (by simp); have f10 := K.out.f (b := w.heap.size + 1 + 1) (o := 0) (v := .int .i64 x.person) (by simp); have c11 := K.out.c (b := w.heap.size + 1 + 1) (o := 1) (v := .int .i64 x.place) (by simp); have f11 := K.out.f (b := w.heap.size + 1 + 1) (o := 1) (v := .int .i64 x.place) (by simp); have c12 := K.out.c (b := w.heap.size + 1 + 1) (o := 2) (v := .int .i64 x.kind) (by simp); have f12 := K.out.f (b := w.heap.size + 1 + 1) (o := 2) (v := .int .i64 x.kind) (by simp); have c13 := K.out.c (b := w.heap.size + 1 + 1) (o := 3) (v := .int .i64 x.start) (by simp); have f13 := K.out.f (b := w.heap.size + 1 + 1) (o := 3) (v := .int .i64 x.start) (by simp); have c14 := K.out.c (b := w.heap.size + 1 + 1) (o := 4) (v := .int .i64 x.stop) (by simp); have f14 := K.out.f (b := w.heap.size + 1 + 1) (o := 4) (v := .int .i64 x.stop) (by simp))
    have K1 := hid (K.out.subs (cs2 := [(w.heap.size + 1, 0, .int .i64 y.person), (w.heap.size + 1, 1, .int .i64 y.place), (w.heap.size + 1, 2, .int .i64 y.kind), (w.heap.size + 1, 3, .int .i64 y.start), (w.heap.size + 1, 4, .int .i64 y.stop), (w.heap.size + 1 + 1, 0, .int .i64 x.person), (w.heap.size + 1 + 1, 1, .int .i64 x.place), (w.heap.size + 1 + 1, 2, .int .i64 x.kind), (w.heap.size + 1 + 1, 3, .int .i64 x.start), (w.heap.size + 1 + 1, 4, .int .i64 x.stop), (w.heap.size, 1, .slice (some ⟨bw, ow, none⟩) p.walk.length cw), (w.heap.size, 2, .slice (some ⟨bd, od, none⟩) p.dress.length cd)]) (by intro z hz; simp only [List.mem_cons, List.not_mem_nil, or_false] at hz ⊢; rcases hz with h | h | h | h | h | h | h | h | h | h | h | h <;> simp [h]))
    have K2 := hid (K1.out.put5 (by intro b o v hm; simp only [List.mem_cons, Prod.mk.injEq, List.not_mem_nil, or_false] at hm; omega) (.int .i64 a1) (.int .i64 m) (.int .i64 a3) (.int .i64 a4) (.int .i64 a5))
    have K3 := hid (K2.out.subs (cs2 := [(w.heap.size + 1 + 1, 0, .int .i64 x.person), (w.heap.size + 1 + 1, 1, .int .i64 x.place), (w.heap.size + 1 + 1, 2, .int .i64 x.kind), (w.heap.size + 1 + 1, 3, .int .i64 x.start), (w.heap.size + 1 + 1, 4, .int .i64 x.stop), (w.heap.size + 1, 1, .int .i64 m), (w.heap.size, 1, .slice (some ⟨bw, ow, none⟩) p.walk.length cw), (w.heap.size, 2, .slice (some ⟨bd, od, none⟩) p.dress.length cd)]) (by intro z hz; simp only [List.mem_cons, List.not_mem_nil, or_false] at hz ⊢; rcases hz with h | h | h | h | h | h | h | h <;> simp [h]))
    have K4 := hid (K3.out.put5 (by intro b o v hm; simp only [List.mem_cons, Prod.mk.injEq, List.not_mem_nil, or_false] at hm; omega) (.int .i64 b1) (.int .i64 n) (.int .i64 q) (.int .i64 b4) (.int .i64 b5))
    obtain ⟨wz, hwz, KZ⟩ := K4.out.name
    rw [hwz]
    have K := hid KZ
    clear hwz KZ K1 K2 K3 K4 g0 g1 g2 p1 p2 c00 f00 c01 f01 c02 f02 c03 f03 c04 f04 c10 f10 c11 f11 c12 f12 c13 f13 c14 f14
    have C := CU.out _ K.out.below
    have g0 := C.1
    have g1 := C.2.1
    have g2 := C.2.2
    clear C
    have p1 := K.out.c (b := w.heap.size) (o := 1) (v := .slice (some ⟨bw, ow, none⟩) p.walk.length cw) (by simp)
    have p2 := K.out.c (b := w.heap.size) (o := 2) (v := .slice (some ⟨bd, od, none⟩) p.dress.length cd) (by simp)
    have p3 := K.out.c (b := w.heap.size + 1) (o := 1) (v := .int .i64 m) (by simp)
    have p4 := K.out.c (b := w.heap.size + 1 + 1) (o := 1) (v := .int .i64 n) (by simp)
    have p5 := K.out.c (b := w.heap.size + 1 + 1) (o := 2) (v := .int .i64 q) (by simp)
    go_region_held3 (fun w' => w'.cell? ⟨w.heap.size, 1, none⟩ = some (.slice (some ⟨bw, ow, none⟩) p.walk.length cw) ∧ w'.cell? ⟨w.heap.size + 1, 1, none⟩ = some (.int .i64 m) ∧ w'.cell? ⟨w.heap.size + 1 + 1, 1, none⟩ = some (.int .i64 n) ∧ w'.cell? ⟨bw, ow + m, none⟩ = some (.slice (some ⟨br, or', none⟩) p.walk.length cr) ∧ w'.cell? ⟨br, or' + n, none⟩ = some (.int .i64 N))
      (first | exact ⟨p1, p3, p4, g0, g1⟩) (fail)
    have K := hid K.out.drew
    go_wp2
    go_ret
    exact ⟨by simp, K.out.below⟩
end Go.Proofs.YtoipcbmbhjajfaaGreatDoor

namespace Go.Proofs.YtoipcbmbhjajfaaGreatDoor
open Go.RowKit

theorem alone_timed {p : Plot} {x : Part} (h : aloneE p x = 0) : Timed x := by
  obtain ⟨_, _, _, ⟨a, b⟩, ⟨c, d⟩, _⟩ := aloneE_zero h
  exact ⟨a, b, c, d⟩
theorem alone_placed {p : Plot} {x : Part} (h : aloneE p x = 0) : Placed p x := by
  obtain ⟨_, a, b, _, _, _⟩ := aloneE_zero h
  exact ⟨a, b⟩
theorem pt_take {xs : List Part} {i k : Nat} (h : k < i) : pt (xs.take i) k = pt xs k := by
  unfold pt
  rw [List.getD_eq_getElem?_getD, List.getD_eq_getElem?_getD, List.getElem?_take_of_lt h]
theorem twoE_of {p : Plot} {y x : Part} (hp : y.person = x.person) : twoE p y x = if betweenP y x < 0 then 10 else if betweenP y x < wayP p y x (decide (y.kind ≠ x.kind)) then 12 else 0 := by unfold twoE; rw [if_pos hp]

set_option linter.unusedSimpArgs false in
set_option maxHeartbeats 8000000 in
set_option maxRecDepth 100000 in
theorem part_any (p : Plot) (i : Nat) (vp vw vd vq vb : Value) (w : World) (h : PlotAt none w vp vw vd vq p) (hs : Square p) (hi : i < p.parts.length) (hn : p.parts.length ≤ 30) (hb : PartsAt none w vb (p.parts.take i)) (hal : ∀ k, k < i → aloneE p (pt p.parts k) = 0) (hl1 : p.persons.length ≤ 100) (hl2 : p.walk.length ≤ 100) (hl3 : p.dress.length ≤ 100) :
    Calls Tryz.prog 58 #[plotV vp vw vd vq, vb, partV (pt p.parts i)] w fun e w' => e = .returned (.int .i64 (partE p i)) ∧ Below w.heap.size w w' := by
  have H := hid h
  have HB := hid hb
  have HAL := hid hal
  have HWY := hid (fun (y x : Part) (d : Bool) (W' : World) (hb : Below w.heap.size w W') (hy : Placed p y) (hx : Placed p x) => way_any p y x d vp vw vd vq W' (h.below hb) hs hy hx)
  obtain ⟨x, hx⟩ : ∃ x, pt p.parts i = x := ⟨_, rfl⟩
  have he : partE p i = if aloneE p x = 0 then firstBad (fun k => twoE p (pt p.parts k) x) i else aloneE p x := by unfold partE; rw [hx]
  obtain ⟨ap, cp, rfl⟩ := h.persons.form
  obtain ⟨aw, cw, rfl⟩ := h.walk.form
  obtain ⟨ad, cd, rfl, _⟩ := h.dress
  obtain ⟨ab, cb, rfl⟩ := hb.form
  have htl : (p.parts.take i).length = i := by simp; omega
  rw [htl] at HB ⊢
  rw [hx, he]
  clear h hb hal hx he htl
  have zl1 : IntKind.i64.wrap ((p.persons.length : Int) - 1) = (p.persons.length : Int) - 1 := IntWalk.i64_in _ (by omega)
  have zl2 : IntKind.i64.wrap ((p.walk.length : Int) - 1) = (p.walk.length : Int) - 1 := IntWalk.i64_in _ (by omega)
  have zl3 : IntKind.i64.wrap ((p.dress.length : Int) - 1) = (p.dress.length : Int) - 1 := IntWalk.i64_in _ (by omega)
  have K := hid (((HK.start w).box4m (n := w.heap.size) rfl (.slice ap p.persons.length cp) (.slice aw p.walk.length cw) (.slice ad p.dress.length cd) vq 27).box5 (n := w.heap.size + 1) (by simp) (.int .i64 x.person) (.int .i64 x.place) (.int .i64 x.kind) (.int .i64 x.start) (.int .i64 x.stop) 60)
  cases q0 : inB x.person 0 ((p.persons.length : Int) - 1) with
  | false =>
    have ha : aloneE p x = 7 := by unfold aloneE; rw [if_pos q0]
    rw [ha]
    clear ha
    go_enter Tryz.func58, Tryz.ntmps58
    go_wp2_with (first | (go_at_call 46; refine (cin_any _ _ _ _).mono ?_; rintro e w' ⟨rfl, rfl⟩) | (go_at_call 55; refine (minute_any _ _).mono ?_; rintro e w' ⟨rfl, rfl⟩))
    go_ret
    exact ⟨rfl, K.out.below⟩
  | true =>
    cases q1 : inB x.place 0 ((p.walk.length : Int) - 1) with
    | false =>
      have ha : aloneE p x = 7 := by unfold aloneE; rw [if_neg (by simp [q0]), if_pos q1]
      rw [ha]
      clear ha
      go_enter Tryz.func58, Tryz.ntmps58
      go_wp2_with (first | (go_at_call 46; refine (cin_any _ _ _ _).mono ?_; rintro e w' ⟨rfl, rfl⟩) | (go_at_call 55; refine (minute_any _ _).mono ?_; rintro e w' ⟨rfl, rfl⟩))
      go_ret
      exact ⟨rfl, K.out.below⟩
    | true =>
      cases q2 : inB x.kind 0 ((p.dress.length : Int) - 1) with
      | false =>
        have ha : aloneE p x = 7 := by unfold aloneE; rw [if_neg (by simp [q0]), if_neg (by simp [q1]), if_pos q2]
        rw [ha]
        clear ha
        go_enter Tryz.func58, Tryz.ntmps58
        go_wp2_with (first | (go_at_call 46; refine (cin_any _ _ _ _).mono ?_; rintro e w' ⟨rfl, rfl⟩) | (go_at_call 55; refine (minute_any _ _).mono ?_; rintro e w' ⟨rfl, rfl⟩))
        go_ret
        exact ⟨rfl, K.out.below⟩
      | true =>
        cases q3 : inB x.start 0 1440 with
        | false =>
          have ha : aloneE p x = 2 := by unfold aloneE; rw [if_neg (by simp [q0]), if_neg (by simp [q1]), if_neg (by simp [q2]), if_pos q3]
          rw [ha]
          clear ha
          go_enter Tryz.func58, Tryz.ntmps58
          go_wp2_with (first | (go_at_call 46; refine (cin_any _ _ _ _).mono ?_; rintro e w' ⟨rfl, rfl⟩) | (go_at_call 55; refine (minute_any _ _).mono ?_; rintro e w' ⟨rfl, rfl⟩))
          go_ret
          exact ⟨rfl, K.out.below⟩
        | true =>
          cases q4 : inB x.stop 0 1440 with
          | false =>
            have ha : aloneE p x = 2 := by unfold aloneE; rw [if_neg (by simp [q0]), if_neg (by simp [q1]), if_neg (by simp [q2]), if_neg (by simp [q3]), if_pos q4]
            rw [ha]
            clear ha
            go_enter Tryz.func58, Tryz.ntmps58
            go_wp2_with (first | (go_at_call 46; refine (cin_any _ _ _ _).mono ?_; rintro e w' ⟨rfl, rfl⟩) | (go_at_call 55; refine (minute_any _ _).mono ?_; rintro e w' ⟨rfl, rfl⟩))
            go_ret
            exact ⟨rfl, K.out.below⟩
          | true =>
            by_cases q5 : x.stop ≤ x.start
            · have ha : aloneE p x = 9 := by unfold aloneE; rw [if_neg (by simp [q0]), if_neg (by simp [q1]), if_neg (by simp [q2]), if_neg (by simp [q3]), if_neg (by simp [q4]), if_pos q5]
              rw [ha]
              clear ha
              go_enter Tryz.func58, Tryz.ntmps58
              go_wp2_with (first | (go_at_call 46; refine (cin_any _ _ _ _).mono ?_; rintro e w' ⟨rfl, rfl⟩) | (go_at_call 55; refine (minute_any _ _).mono ?_; rintro e w' ⟨rfl, rfl⟩))
              go_ret
              exact ⟨rfl, K.out.below⟩
            · have ha : aloneE p x = 0 := by unfold aloneE; rw [if_neg (by simp [q0]), if_neg (by simp [q1]), if_neg (by simp [q2]), if_neg (by simp [q3]), if_neg (by simp [q4]), if_neg q5]
              rw [ha, if_pos rfl]
              have hxt := alone_timed ha
              have hxp := alone_placed ha
              clear ha
              go_enter Tryz.func58, Tryz.ntmps58
              go_wp2_with (first | (go_at_call 46; refine (cin_any _ _ _ _).mono ?_; rintro e w' ⟨rfl, rfl⟩) | (go_at_call 55; refine (minute_any _ _).mono ?_; rintro e w' ⟨rfl, rfl⟩))
              clear q0 q1 q2 q3 q4 q5 zl1 zl2 zl3
              have KB := hid (K.out)
              go_loopw [51] (fun a wr => ∃ k : Nat, k ≤ i ∧ a = .int .i64 k ∧ (∀ j, j < k → twoE p (pt p.parts j) x = 0) ∧ HK [(w.heap.size + 1, 0, .int .i64 x.person), (w.heap.size + 1, 1, .int .i64 x.place), (w.heap.size + 1, 2, .int .i64 x.kind), (w.heap.size + 1, 3, .int .i64 x.start), (w.heap.size + 1, 4, .int .i64 x.stop), (w.heap.size, 0, .slice ap p.persons.length cp), (w.heap.size, 1, .slice aw p.walk.length cw), (w.heap.size, 2, .slice ad p.dress.length cd), (w.heap.size, 3, vq)] w wr)
                (fun a _ => i - (intOf a).toNat)
              case atStart => exact ⟨0, by omega, rfl, fun j hj => absurd hj (by omega), K.out⟩
              case round =>
                obtain ⟨k, hk, rfl, hf, KK⟩ := hrel
                have K := hid KK
                have HF := hid hf
                clear KK hf KB
                obtain ⟨wo, rfl⟩ : ∃ wo : World, wo = wr := ⟨_, rfl⟩
                by_cases hlt : k < i
                · have hcc := PartsAt.cells (HB.out.below K.out.below) (show k < (p.parts.take i).length from by simp; omega)
                  rw [pt_take hlt] at hcc
                  obtain ⟨bq, oq, e, hbq, d0, d1, d2, d3, d4⟩ := hcc
                  cases e
                  have hya := HAL.out k hlt
                  have hyt := alone_timed hya
                  have hyp := alone_placed hya
                  have HE := hid (fun (v : Int) (hv : twoE p (pt p.parts k) x = v) (h0 : v ≠ 0) => (firstBad_at (f := fun k => twoE p (pt p.parts k) x) hlt HF.out (by show twoE p (pt p.parts k) x ≠ 0; rw [hv]; exact h0)).trans hv)
                  have HN := hid (fun (hv : twoE p (pt p.parts k) x = 0) (j : Nat) (hj : j < k + 1) => show twoE p (pt p.parts j) x = 0 from by
                    by_cases e : j = k
                    · rw [e]; exact hv
                    · exact HF.out j (by omega))
                  obtain ⟨y, hy⟩ : ∃ y, pt p.parts k = y := ⟨_, rfl⟩
                  rw [hy] at d0 d1 d2 d3 d4 hyt hyp HE HN
                  clear hy hya HF
                  have i1 : (k : Int) < (i : Int) := by omega
                  have z1 : IntKind.i64.wrap ((k : Int) + 1) = (k : Int) + 1 := IntWalk.i64_in _ (by omega)
                  have K := hid (K.out.box5 (n := wo.heap.size) rfl (.int .i64 y.person) (.int .i64 y.place) (.int .i64 y.kind) (.int .i64 y.start) (.int .i64 y.stop) 60)
                  go_upto_region 13 with fail
                  obtain ⟨Y, hY⟩ : ∃ Y, wo.heap.size = Y := ⟨_, rfl⟩
                  obtain ⟨wy, hwy, KY⟩ := K.out.name
                  rw [hwy, hY]
                  rw [hY] at KY
                  have K := hid KY
                  clear hwy KY hY d0 d1 d2 d3 d4
                  have c0 := K.out.c (b := Y) (o := 0) (v := .int .i64 y.person) (by simp)
                  have c1 := K.out.c (b := Y) (o := 1) (v := .int .i64 y.place) (by simp)
                  have c2 := K.out.c (b := Y) (o := 2) (v := .int .i64 y.kind) (by simp)
                  have c3 := K.out.c (b := Y) (o := 3) (v := .int .i64 y.start) (by simp)
                  have c4 := K.out.c (b := Y) (o := 4) (v := .int .i64 y.stop) (by simp)
                  have c5 := K.out.c (b := w.heap.size + 1) (o := 0) (v := .int .i64 x.person) (by simp)
                  have c6 := K.out.c (b := w.heap.size + 1) (o := 1) (v := .int .i64 x.place) (by simp)
                  have c7 := K.out.c (b := w.heap.size + 1) (o := 2) (v := .int .i64 x.kind) (by simp)
                  have c8 := K.out.c (b := w.heap.size + 1) (o := 3) (v := .int .i64 x.start) (by simp)
                  have c9 := K.out.c (b := w.heap.size + 1) (o := 4) (v := .int .i64 x.stop) (by simp)
                  have c10 := K.out.c (b := w.heap.size) (o := 0) (v := .slice ap p.persons.length cp) (by simp)
                  have c11 := K.out.c (b := w.heap.size) (o := 1) (v := .slice aw p.walk.length cw) (by simp)
                  have c12 := K.out.c (b := w.heap.size) (o := 2) (v := .slice ad p.dress.length cd) (by simp)
                  have c13 := K.out.c (b := w.heap.size) (o := 3) (v := vq) (by simp)
                  by_cases hpp : y.person = x.person
                  · obtain ⟨e1, e2⟩ := eq_bool hpp
                    have HT2 := hid (twoE_of (p := p) hpp)
                    clear hpp
                    obtain ⟨bt, hbt⟩ : ∃ bt, betweenP y x = bt := ⟨_, rfl⟩
                    have HBt := hid (fun W' => between_any y x W' hyt hxt)
                    rw [hbt] at HT2 HBt
                    clear hbt
                    by_cases hb0 : bt < 0
                    · have he := HE.out 10 (by rw [HT2.out, if_pos hb0]) (by decide)
                      have HE2 := hid he
                      clear he
                      go_wp2_with (go_at_call 76; refine (HBt.out _).mono ?_; rintro e w2 ⟨rfl, hb2⟩; have K := hid (K.out.later hb2); clear hb2)
                      go_ret
                      exact ⟨ret_int HE2.out.symm, K.out.below⟩
                    · go_upto_region 16 with (go_at_call 76; refine (HBt.out _).mono ?_; rintro e w2 ⟨rfl, hb2⟩; have K := hid (K.out.later hb2); clear hb2)
                      have K := hid K.out.drew
                      have hkb : ∀ bb : Bool, (y.kind != x.kind) = bb → decide (y.kind ≠ x.kind) = bb := fun bb h => by rw [← h]; by_cases e : y.kind = x.kind <;> simp [e]
                      obtain ⟨kb, hkbe⟩ : ∃ kb, (y.kind != x.kind) = kb := ⟨_, rfl⟩
                      have hkb2 := hkb kb hkbe
                      rw [hkb2] at HT2
                      obtain ⟨wv, hwv⟩ : ∃ wv, wayP p y x kb = wv := ⟨_, rfl⟩
                      have HWy := hid (fun W' hb => HWY.out y x kb W' hb hyp hxp)
                      rw [hwv] at HT2 HWy
                      clear hkb hkb2 hwv
                      go_region_held3 (fun w' => w'.cell? ⟨Y, 0, none⟩ = some (.int .i64 y.person) ∧ w'.cell? ⟨Y, 1, none⟩ = some (.int .i64 y.place) ∧ w'.cell? ⟨Y, 2, none⟩ = some (.int .i64 y.kind) ∧ w'.cell? ⟨Y, 3, none⟩ = some (.int .i64 y.start) ∧ w'.cell? ⟨Y, 4, none⟩ = some (.int .i64 y.stop) ∧ w'.cell? ⟨w.heap.size + 1, 0, none⟩ = some (.int .i64 x.person) ∧ w'.cell? ⟨w.heap.size + 1, 1, none⟩ = some (.int .i64 x.place) ∧ w'.cell? ⟨w.heap.size + 1, 2, none⟩ = some (.int .i64 x.kind) ∧ w'.cell? ⟨w.heap.size + 1, 3, none⟩ = some (.int .i64 x.start) ∧ w'.cell? ⟨w.heap.size + 1, 4, none⟩ = some (.int .i64 x.stop) ∧ w'.cell? ⟨w.heap.size, 0, none⟩ = some (.slice ap p.persons.length cp) ∧ w'.cell? ⟨w.heap.size, 1, none⟩ = some (.slice aw p.walk.length cw) ∧ w'.cell? ⟨w.heap.size, 2, none⟩ = some (.slice ad p.dress.length cd) ∧ w'.cell? ⟨w.heap.size, 3, none⟩ = some (vq))
                        (first | exact ⟨K.out.c (by simp), K.out.c (by simp), K.out.c (by simp), K.out.c (by simp), K.out.c (by simp), K.out.c (by simp), K.out.c (by simp), K.out.c (by simp), K.out.c (by simp), K.out.c (by simp), K.out.c (by simp), K.out.c (by simp), K.out.c (by simp), K.out.c (by simp)⟩) (first
                        | (go_at_call 76; refine (HBt.out _).mono ?_; rintro e w2 ⟨rfl, hb2⟩; have K := hid (K.out.later hb2); clear hb2)
                        | (go_at_call 77; refine (HWy.out _ K.out.below).mono ?_; rintro e w3 ⟨rfl, hb2⟩; have K := hid (K.out.later hb2); clear hb2))
                      by_cases hww : bt < wv
                      · have he := HE.out 12 (by rw [HT2.out, if_neg (show ¬ bt < 0 from by omega), if_pos (show bt < wv from by omega)]) (by decide)
                        have HE2 := hid he
                        clear he
                        go_wp2
                        go_ret
                        exact ⟨ret_int HE2.out.symm, K.out.below⟩
                      · have H0 := hid (HN.out (by rw [HT2.out, if_neg (show ¬ bt < 0 from by omega), if_neg (show ¬ bt < wv from by omega)]))
                        go_wp2
                        go_roundw
                        case rel => exact ⟨k + 1, by omega, by go_num, H0.out, K.out.subs (by intro z hz; simp only [List.mem_cons, List.not_mem_nil, or_false] at hz ⊢; rcases hz with h | h | h | h | h | h | h | h | h <;> simp [h])⟩
                        case measure => simp [intOf] <;> omega
                  · obtain ⟨e1, e2⟩ := ne_bool hpp
                    go_wp2
                    go_roundw
                    case rel => exact ⟨k + 1, by omega, by go_num, HN.out (by unfold twoE; rw [if_neg hpp]), K.out.subs (by intro z hz; simp only [List.mem_cons, List.not_mem_nil, or_false] at hz ⊢; rcases hz with h | h | h | h | h | h | h | h | h <;> simp [h])⟩
                    case measure => simp [intOf] <;> omega
                · obtain rfl : k = i := by omega
                  have he : firstBad (fun k => twoE p (pt p.parts k) x) k = 0 := firstBad_zero.2 HF.out
                  have HE2 := hid he
                  clear he
                  go_wp2
                  go_ret
                  exact ⟨ret_int HE2.out.symm, K.out.below⟩
end Go.Proofs.YtoipcbmbhjajfaaGreatDoor

namespace Go.Proofs.YtoipcbmbhjajfaaGreatDoor
open Go.RowKit

set_option maxHeartbeats 400000 in
theorem chk1_any (n : Int) (w : World) :
    Calls Tryz.prog 57 #[.int .i64 n] w fun e w' => e = .returned (.bool (!inB n 0 1440)) ∧ w = w' := by
  cases h : inB n 0 1440 with
  | true =>
    go_enter Tryz.func57, Tryz.ntmps57
    go_wp2_with (go_at_call 55; refine (minute_any _ _).mono ?_; rintro e w' ⟨rfl, rfl⟩; rw [h])
    go_ret
    exact ⟨rfl, rfl⟩
  | false =>
    go_enter Tryz.func57, Tryz.ntmps57
    go_wp2_with (go_at_call 55; refine (minute_any _ _).mono ?_; rintro e w' ⟨rfl, rfl⟩; rw [h])
    go_ret
    exact ⟨rfl, rfl⟩

def dE (xs : List Int) (i : Nat) : Int := if inB (nm xs i) 0 1440 = false then 2 else 0
theorem dressE_eq (xs : List Int) : dressE xs = firstBad (dE xs) xs.length := rfl

set_option maxHeartbeats 1000000 in
set_option maxRecDepth 100000 in
theorem idxI_any (xs : List Int) (v : Value) (w : World) (hX : IntsAt none w v xs) (hn : xs.length ≤ 100) :
    Calls Tryz.prog 65 #[v, .func (.func 57) #[] #[]] w fun e w' => ∃ r : Int, e = .returned (.int .i64 r) ∧ (0 ≤ r ↔ dressE xs = 2) ∧ (¬ 0 ≤ r ↔ dressE xs = 0) ∧ Below w.heap.size w w' := by
  have HX := hid hX
  obtain ⟨a, c, rfl, _⟩ := hX
  go_enter Tryz.func65, Tryz.ntmps65
  go_wp2
  go_loopw [8] (fun j wr => ∃ m : Nat, m ≤ xs.length ∧ j = .int .i64 m ∧ (∀ j, j < m → dE xs j = 0) ∧ Below w.heap.size w wr) (fun j _ => xs.length - (intOf j).toNat)
  case atStart => exact ⟨0, by omega, rfl, fun j hj => absurd hj (by omega), Below.refl _ _⟩
  case round =>
    obtain ⟨m, hm, rfl, hf, hbel⟩ := hrel
    have HF := hid hf
    clear hf
    by_cases hlt : m < xs.length
    · obtain ⟨b, off, c', e, _, _⟩ := HX.out.slice (by omega)
      cases e
      have hc := (HX.out.below hbel).cell hlt
      have i1 : (m : Int) < (xs.length : Int) := by omega
      have z1 : IntKind.i64.wrap ((m : Int) + 1) = (m : Int) + 1 := IntWalk.i64_in _ (by omega)
      cases hq : inB (nm xs m) 0 1440 with
      | false =>
        have hE : dressE xs = 2 := by
          rw [dressE_eq, firstBad_at hlt HF.out (by unfold dE; rw [if_pos hq]; decide)]
          unfold dE; rw [if_pos hq]
        have HE := hid hE
        clear hE
        go_wp2_with (go_at_call 57; refine (chk1_any _ _).mono ?_; rintro e w' ⟨rfl, rfl⟩; rw [hq])
        go_ret
        exact ⟨_, rfl, ⟨fun _ => HE.out, fun _ => by omega⟩, ⟨fun h => (by omega : False).elim, fun h => by rw [HE.out] at h; cases h⟩, hbel⟩
      | true =>
        have HN := hid (show ∀ j, j < m + 1 → dE xs j = 0 from fun j hj => by
          by_cases e : j = m
          · rw [e]; unfold dE; rw [if_neg (by simp [hq])]
          · exact HF.out j (by omega))
        go_wp2_with (go_at_call 57; refine (chk1_any _ _).mono ?_; rintro e w' ⟨rfl, rfl⟩; rw [hq])
        go_roundw
        case rel => exact ⟨m + 1, by omega, by go_num, HN.out, hbel⟩
        case measure => simp [intOf] <;> omega
    · obtain rfl : m = xs.length := by omega
      have HE := hid (show dressE xs = 0 from by rw [dressE_eq]; exact firstBad_zero.2 HF.out)
      go_wp2
      go_ret
      exact ⟨_, rfl, ⟨fun h => absurd h (by omega), fun h => by rw [HE.out] at h; cases h⟩, ⟨fun _ => HE.out, fun _ => by omega⟩, hbel⟩

set_option maxHeartbeats 1000000 in
set_option maxRecDepth 100000 in
theorem contI_any (xs : List Int) (v : Value) (w : World) (hX : IntsAt none w v xs) (hn : xs.length ≤ 100) :
    Calls Tryz.prog 56 #[v, .func (.func 57) #[] #[]] w fun e w' => ∃ b, e = .returned (.bool b) ∧ (b = true → dressE xs = 2) ∧ (b = false → dressE xs = 0) ∧ Below w.heap.size w w' := by
  have hcall := hid (idxI_any xs v w hX hn)
  go_enter Tryz.func56, Tryz.ntmps56
  go_wp2_with (go_at_call 65; refine hcall.out.mono ?_; rintro e w' ⟨r, rfl, hr1, hr2, hb1⟩; have Hr1 := hid hr1; have Hr2 := hid hr2; clear hr1 hr2)
  go_ret
  exact ⟨decide (0 ≤ r), rfl, fun h => Hr1.out.1 (by simpa using h), fun h => Hr2.out.1 (by simpa using h), hb1⟩

section
variable {p : Plot}
theorem pE1 (h : countE p.persons.length 12 ≠ 0) : plotErr p = countE p.persons.length 12 := by unfold plotErr; rw [if_neg h]
theorem pE2 (h1 : countE p.persons.length 12 = 0) (h : firstBad (fun i => figE (sp p.persons i)) p.persons.length ≠ 0) : plotErr p = firstBad (fun i => figE (sp p.persons i)) p.persons.length := by unfold plotErr; rw [if_pos h1, if_neg h]
theorem pE3 (h1 : countE p.persons.length 12 = 0) (h2 : firstBad (fun i => figE (sp p.persons i)) p.persons.length = 0) (h : countE p.walk.length 8 ≠ 0) : plotErr p = countE p.walk.length 8 := by unfold plotErr; rw [if_pos h1, if_pos h2, if_neg h]
theorem pE4 (h1 : countE p.persons.length 12 = 0) (h2 : firstBad (fun i => figE (sp p.persons i)) p.persons.length = 0) (h3 : countE p.walk.length 8 = 0) (h : firstBad (rowE p.walk) p.walk.length ≠ 0) : plotErr p = firstBad (rowE p.walk) p.walk.length := by unfold plotErr; rw [if_pos h1, if_pos h2, if_pos h3, if_neg h]
theorem pE5 (h1 : countE p.persons.length 12 = 0) (h2 : firstBad (fun i => figE (sp p.persons i)) p.persons.length = 0) (h3 : countE p.walk.length 8 = 0) (h4 : firstBad (rowE p.walk) p.walk.length = 0) (h : countE p.dress.length 8 ≠ 0) : plotErr p = countE p.dress.length 8 := by unfold plotErr; rw [if_pos h1, if_pos h2, if_pos h3, if_pos h4, if_neg h]
theorem pE6 (h1 : countE p.persons.length 12 = 0) (h2 : firstBad (fun i => figE (sp p.persons i)) p.persons.length = 0) (h3 : countE p.walk.length 8 = 0) (h4 : firstBad (rowE p.walk) p.walk.length = 0) (h5 : countE p.dress.length 8 = 0) (h : dressE p.dress ≠ 0) : plotErr p = dressE p.dress := by unfold plotErr; rw [if_pos h1, if_pos h2, if_pos h3, if_pos h4, if_pos h5, if_neg h]
theorem pE7 (h1 : countE p.persons.length 12 = 0) (h2 : firstBad (fun i => figE (sp p.persons i)) p.persons.length = 0) (h3 : countE p.walk.length 8 = 0) (h4 : firstBad (rowE p.walk) p.walk.length = 0) (h5 : countE p.dress.length 8 = 0) (h6 : dressE p.dress = 0) : plotErr p = if 30 < p.parts.length then 5 else firstBad (partE p) p.parts.length := by unfold plotErr; rw [if_pos h1, if_pos h2, if_pos h3, if_pos h4, if_pos h5, if_pos h6]
end

theorem PartsAt.take {d : Option Nat} {w : World} {a : Option Addr} {n c : Nat} {xs : List Part} (h : PartsAt d w (.slice a n c) xs) {i : Nat} (hi : i ≤ xs.length) : PartsAt d w (.slice a i c) (xs.take i) := by
  obtain ⟨a', c', e, hh⟩ := h
  cases e
  have hl : (xs.take i).length = i := by simp; omega
  refine ⟨a, c, by rw [hl], fun h0 => ?_⟩
  rw [hl] at h0 ⊢
  obtain ⟨b, off, e, h1, h2, h3, h4, h5⟩ := hh (by omega)
  exact ⟨b, off, e, by omega, h2, h3, h4, fun k hk j hj => by show w.cell? _ = some (partCell (pt (xs.take i) k) j); rw [pt_take hk]; exact h5 k (by omega) j hj⟩

theorem rowE_cells {walk : List (List Int)} {i : Nat} (h : (lst walk i).length = walk.length) : rowE walk i = firstBad (cellE (lst walk i) i) walk.length := by unfold rowE; rw [if_pos h]
theorem rowE_zero {walk : List (List Int)} {i : Nat} (h : rowE walk i = 0) : (lst walk i).length = walk.length ∧ ∀ k, k < walk.length → 0 ≤ nm (lst walk i) k ∧ nm (lst walk i) k ≤ 1440 := by
  unfold rowE at h
  by_cases hl : (lst walk i).length = walk.length
  · rw [if_pos hl] at h
    refine ⟨hl, fun k hk => ?_⟩
    have h2 := firstBad_zero.1 h k hk
    unfold cellE at h2
    cases hq : inB (nm (lst walk i) k) 0 1440 with
    | true => exact inB_true.1 hq
    | false => rw [if_pos hq] at h2; cases h2
  · rw [if_neg hl] at h; cases h
theorem dE_zero {xs : List Int} (h : dressE xs = 0) : ∀ i, i < xs.length → 0 ≤ nm xs i ∧ nm xs i ≤ 1440 := fun i hi => by
  rw [dressE_eq] at h
  have h2 := firstBad_zero.1 h i hi
  unfold dE at h2
  cases hq : inB (nm xs i) 0 1440 with
  | true => exact inB_true.1 hq
  | false => rw [if_pos hq] at h2; cases h2

set_option linter.unusedSimpArgs false in
set_option maxHeartbeats 16000000 in
set_option maxRecDepth 100000 in
theorem ccheck_any (p : Plot) (vp vw vd vq : Value) (w : World) (h : PlotAt none w vp vw vd vq p) :
    Calls Tryz.prog 26 #[plotV vp vw vd vq] w fun e w' => e = .returned (.int .i64 (plotErr p)) ∧ Below w.heap.size w w' := by
  have H := hid h
  obtain ⟨ap, cp, rfl⟩ := h.persons.form
  obtain ⟨aw, cw, rfl⟩ := h.walk.form
  obtain ⟨ad, cd, rfl, _⟩ := h.dress
  obtain ⟨aq, cq, rfl, hqq⟩ := h.parts
  have HQc := hid (show 0 < p.parts.length → p.parts.length ≤ cq ∧ cq ≤ maxLen from fun h0 => by obtain ⟨_, _, _, h1, h2, _⟩ := hqq h0; exact ⟨h1, h2⟩)
  clear h hqq
  have K := hid ((HK.start w).box4m (n := w.heap.size) rfl (.slice ap p.persons.length cp) (.slice aw p.walk.length cw) (.slice ad p.dress.length cd) (.slice aq p.parts.length cq) 27)
  by_cases hc1 : countE p.persons.length 12 = 0
  rotate_left
  · obtain ⟨e1, e2⟩ := ne_bool hc1
    have HE := hid (pE1 hc1)
    go_enter Tryz.func26, Tryz.ntmps26
    go_wp2_with (go_at_call 53; refine (count_any p.persons.length 12 _).mono ?_; rintro e w' ⟨rfl, rfl⟩)
    go_ret
    exact ⟨ret_int HE.out.symm, K.out.below⟩
  have HC1 := hid hc1
  have Hl1 := hid (countE_zero.1 hc1)
  go_enter Tryz.func26, Tryz.ntmps26
  go_wp2_with (go_at_call 53; refine (count_any p.persons.length 12 _).mono ?_; rw [HC1.out]; rintro e w' ⟨rfl, rfl⟩)
  clear hc1
  go_loopw [26] (fun a wr => ∃ k : Nat, k ≤ p.persons.length ∧ a = .int .i64 k ∧ (∀ j, j < k → figE (sp p.persons j) = 0) ∧ HK [(w.heap.size, 0, .slice ap p.persons.length cp), (w.heap.size, 1, .slice aw p.walk.length cw), (w.heap.size, 2, .slice ad p.dress.length cd), (w.heap.size, 3, .slice aq p.parts.length cq)] w wr)
    (fun a _ => p.persons.length - (intOf a).toNat)
  case atStart => exact ⟨0, by omega, rfl, fun j hj => absurd hj (by omega), K.out⟩
  case round =>
    obtain ⟨k, hk, rfl, hf, KK⟩ := hrel
    have K := hid KK
    have HF := hid hf
    clear KK hf
    obtain ⟨wo, rfl⟩ : ∃ wo : World, wo = wr := ⟨_, rfl⟩
    have hl12 := Hl1.out.2
    by_cases hlt : k < p.persons.length
    · have hcc := SpansAt.cells (RecAt.below H.out.persons K.out.below) hlt
      obtain ⟨bq, oq, e, hbq, d0, d1⟩ := hcc
      cases e
      have i1 : (k : Int) < (p.persons.length : Int) := by omega
      have z1 : IntKind.i64.wrap ((k : Int) + 1) = (k : Int) + 1 := IntWalk.i64_in _ (by omega)
      have HX := hid (fun (v : Int) (hv : figE (sp p.persons k) = v) (h0 : v ≠ 0) => (firstBad_at (f := fun i => figE (sp p.persons i)) hlt HF.out (by show figE (sp p.persons k) ≠ 0; rw [hv]; exact h0)).trans hv)
      have HN := hid (fun (hv : figE (sp p.persons k) = 0) (j : Nat) (hj : j < k + 1) => show figE (sp p.persons j) = 0 from by
        by_cases e : j = k
        · rw [e]; exact hv
        · exact HF.out j (by omega))
      obtain ⟨lo, hi', hsp⟩ : ∃ lo hi', sp p.persons k = (lo, hi') := ⟨_, _, rfl⟩
      rw [hsp] at d0 d1 HX HN
      dsimp only at d0 d1
      clear hsp HF
      by_cases hfe : figE (lo, hi') = 0
      · have HF := hid (HN.out hfe)
        have Hfe := hid hfe
        clear hfe HX HN
        go_wp2_with (go_at_call 54; refine (figure_any lo hi' _).mono ?_; rw [Hfe.out]; rintro e w2 ⟨rfl, hb2⟩; have K := hid (((K.out.box2 (.int .i64 lo) (.int .i64 hi') 58).later hb2).subs (fun x hx => List.mem_cons_of_mem _ (List.mem_cons_of_mem _ hx))); clear hb2)
        go_roundw
        case rel => exact ⟨k + 1, by omega, by go_num, HF.out, K.out⟩
        case measure => simp [intOf] <;> omega
      · obtain ⟨e1, e2⟩ := ne_bool hfe
        have HE := hid (have h := HX.out _ rfl hfe; (pE2 HC1.out (by rw [h]; exact hfe)).trans h)
        clear hfe HX HN
        go_wp2_with (go_at_call 54; refine (figure_any lo hi' _).mono ?_; rintro e w2 ⟨rfl, hb2⟩; have K := hid ((K.out.box2 (.int .i64 lo) (.int .i64 hi') 58).later hb2); clear hb2)
        go_ret
        exact ⟨ret_int HE.out.symm, K.out.below⟩
    · obtain rfl : k = p.persons.length := by omega
      have HC2 := hid (firstBad_zero.2 HF.out)
      clear HF
      have p0 := K.out.c (b := w.heap.size) (o := 0) (v := .slice ap p.persons.length cp) (by simp)
      have p1 := K.out.c (b := w.heap.size) (o := 1) (v := .slice aw p.walk.length cw) (by simp)
      have p2 := K.out.c (b := w.heap.size) (o := 2) (v := .slice ad p.dress.length cd) (by simp)
      have p3 := K.out.c (b := w.heap.size) (o := 3) (v := .slice aq p.parts.length cq) (by simp)
      by_cases hc3 : countE p.walk.length 8 = 0
      rotate_left
      · obtain ⟨e1, e2⟩ := ne_bool hc3
        have HE := hid (pE3 HC1.out HC2.out hc3)
        clear hc3
        go_wp2_with (go_at_call 53; refine (count_any p.walk.length 8 _).mono ?_; rintro e w' ⟨rfl, rfl⟩)
        go_ret
        exact ⟨ret_int HE.out.symm, K.out.below⟩
      have HC3 := hid hc3
      have Hl3 := hid (countE_zero.1 hc3)
      clear hc3
      go_wp2_with (go_at_call 53; refine (count_any p.walk.length 8 _).mono ?_; rw [HC3.out]; rintro e w' ⟨rfl, rfl⟩)
      clear p0 p1 p2 p3
      go_loopw [46] (fun a wr => ∃ m : Nat, m ≤ p.walk.length ∧ a = .int .i64 m ∧ (∀ j, j < m → rowE p.walk j = 0) ∧ HK [(w.heap.size, 0, .slice ap p.persons.length cp), (w.heap.size, 1, .slice aw p.walk.length cw), (w.heap.size, 2, .slice ad p.dress.length cd), (w.heap.size, 3, .slice aq p.parts.length cq)] w wr)
        (fun a _ => p.walk.length - (intOf a).toNat)
      case atStart => exact ⟨0, by omega, rfl, fun j hj => absurd hj (by omega), K.out⟩
      case round =>
        obtain ⟨m, hm, rfl, hf, KK⟩ := hrel
        have K := hid KK
        have HF := hid hf
        clear KK hf
        obtain ⟨wo, rfl⟩ : ∃ wo : World, wo = wr := ⟨_, rfl⟩
        have hl8 := Hl3.out.2
        by_cases hlt : m < p.walk.length
        · have hcc := ListsAt.row H.out.walk hlt
          obtain ⟨bw, ow, u, e, hbw, cu0, hu⟩ := hcc
          cases e
          have HU := hid hu
          obtain ⟨ru, cu', rfl, _⟩ := hu
          have cu := cell_back K.out.below hbw cu0
          clear cu0
          have i1 : (m : Int) < (p.walk.length : Int) := by omega
          have z1 : IntKind.i64.wrap ((m : Int) + 1) = (m : Int) + 1 := IntWalk.i64_in _ (by omega)
          have HX := hid (fun (v : Int) (hv : rowE p.walk m = v) (h0 : v ≠ 0) => (firstBad_at (f := rowE p.walk) hlt HF.out (by rw [hv]; exact h0)).trans hv)
          have HN := hid (fun (hv : rowE p.walk m = 0) (j : Nat) (hj : j < m + 1) => show rowE p.walk j = 0 from by
            by_cases e : j = m
            · rw [e]; exact hv
            · exact HF.out j (by omega))
          obtain ⟨row, hrow⟩ : ∃ row, lst p.walk m = row := ⟨_, rfl⟩
          have HRe := hid (show row.length = p.walk.length → rowE p.walk m = firstBad (cellE row m) p.walk.length from fun h => by rw [← hrow] at h ⊢; exact rowE_cells h)
          have HR1 := hid (show row.length ≠ p.walk.length → rowE p.walk m = 1 from fun h => by rw [← hrow] at h; unfold rowE; rw [if_neg h])
          rw [hrow] at HU cu
          clear hrow HF
          have p0 := K.out.c (b := w.heap.size) (o := 0) (v := .slice ap p.persons.length cp) (by simp)
          have p1 := K.out.c (b := w.heap.size) (o := 1) (v := .slice (some ⟨bw, ow, none⟩) p.walk.length cw) (by simp)
          have p2 := K.out.c (b := w.heap.size) (o := 2) (v := .slice ad p.dress.length cd) (by simp)
          have p3 := K.out.c (b := w.heap.size) (o := 3) (v := .slice aq p.parts.length cq) (by simp)
          by_cases hrl : row.length = p.walk.length
          rotate_left
          · obtain ⟨e1, e2⟩ := ne_bool (a := (row.length : Int)) (b := (p.walk.length : Int)) (by omega)
            have HE := hid (have h := HX.out 1 (HR1.out hrl) (by decide); (pE4 HC1.out HC2.out HC3.out (by rw [h]; decide)).trans h)
            clear hrl
            go_wp2_with fail
            go_ret
            exact ⟨ret_int HE.out.symm, K.out.below⟩
          have Hrl := hid hrl
          have HRe := hid (HRe.out hrl)
          rw [hrl] at cu
          clear hrl HR1
          obtain ⟨e1, e2⟩ := eq_bool (a := (p.walk.length : Int)) (b := (p.walk.length : Int)) rfl
          go_wp2_with fail
          clear e1 e2
          go_loopw [59] (fun a wr => ∃ q : Nat, q ≤ p.walk.length ∧ a = .int .i64 q ∧ (∀ j, j < q → cellE row m j = 0) ∧ HK [(w.heap.size, 0, .slice ap p.persons.length cp), (w.heap.size, 1, .slice (some ⟨bw, ow, none⟩) p.walk.length cw), (w.heap.size, 2, .slice ad p.dress.length cd), (w.heap.size, 3, .slice aq p.parts.length cq)] w wr)
            (fun a _ => p.walk.length - (intOf a).toNat)
          case atStart => exact ⟨0, by omega, rfl, fun j hj => absurd hj (by omega), K.out⟩
          case round =>
            obtain ⟨q, hq, rfl, hf, KK⟩ := hrel
            have K := hid KK
            have HG := hid hf
            clear KK hf
            obtain ⟨wv, rfl⟩ : ∃ wv : World, wv = wr := ⟨_, rfl⟩
            by_cases hltq : q < p.walk.length
            · have hq2 : q < row.length := by rw [Hrl.out]; exact hltq
              have hu2 := HU.out.below K.out.below
              obtain ⟨br, or', cr, e, _, _⟩ := hu2.slice (by omega)
              cases e
              have cn := hu2.cell hq2
              have i3 : (q : Int) < (p.walk.length : Int) := by omega
              have z2 : IntKind.i64.wrap ((q : Int) + 1) = (q : Int) + 1 := IntWalk.i64_in _ (by omega)
              have HXc := hid (fun (v : Int) (hv : cellE row m q = v) (h0 : v ≠ 0) => HX.out v (HRe.out.trans ((firstBad_at (f := cellE row m) hltq HG.out (by rw [hv]; exact h0)).trans hv)) h0)
              have HNc := hid (fun (hv : cellE row m q = 0) (j : Nat) (hj : j < q + 1) => show cellE row m j = 0 from by
                by_cases e : j = q
                · rw [e]; exact hv
                · exact HG.out j (by omega))
              have hce : cellE row m q = if inB (nm row q) 0 1440 = false then 2 else if m = q ∧ nm row q ≠ 0 then 1 else 0 := rfl
              obtain ⟨z, hz⟩ : ∃ z, nm row q = z := ⟨_, rfl⟩
              rw [hz] at cn hce
              rw [hce] at HXc HNc
              clear hz hce HG hu2
              cases hin : inB z 0 1440 with
              | false =>
                rw [hin] at HXc
                have HE := hid (have h := HXc.out 2 (if_pos rfl) (by decide); (pE4 HC1.out HC2.out HC3.out (by rw [h]; decide)).trans h)
                clear HXc HNc HX HN
                go_wp2_with (go_at_call 55; refine (minute_any _ _).mono ?_; rintro e w' ⟨rfl, rfl⟩; rw [hin])
                go_ret
                exact ⟨ret_int HE.out.symm, K.out.below⟩
              | true =>
                rw [hin] at HXc HNc
                by_cases hmq : m = q
                · obtain ⟨e1, e2⟩ := eq_bool (a := (m : Int)) (b := (q : Int)) (by omega)
                  by_cases hz0 : z = 0
                  · obtain ⟨e3, e4⟩ := eq_bool hz0
                    have HG := hid (HNc.out (by rw [if_neg (by simp), if_neg (by simp [hz0])]))
                    clear hz0 hmq HXc HNc
                    go_wp2_with (go_at_call 55; refine (minute_any _ _).mono ?_; rintro e w' ⟨rfl, rfl⟩; rw [hin])
                    go_roundw
                    case rel => exact ⟨q + 1, by omega, by go_num, HG.out, K.out⟩
                    case measure => simp [intOf] <;> omega
                  · obtain ⟨e3, e4⟩ := ne_bool hz0
                    have HE := hid (have h := HXc.out 1 (by rw [if_neg (by simp), if_pos ⟨hmq, hz0⟩]) (by decide); (pE4 HC1.out HC2.out HC3.out (by rw [h]; decide)).trans h)
                    clear hz0 hmq HXc HNc HX HN
                    go_wp2_with (go_at_call 55; refine (minute_any _ _).mono ?_; rintro e w' ⟨rfl, rfl⟩; rw [hin])
                    go_ret
                    exact ⟨ret_int HE.out.symm, K.out.below⟩
                · obtain ⟨e1, e2⟩ := ne_bool (a := (m : Int)) (b := (q : Int)) (by omega)
                  have HG := hid (HNc.out (by rw [if_neg (by simp), if_neg (fun h => hmq h.1)]))
                  clear hmq HXc HNc
                  go_wp2_with (go_at_call 55; refine (minute_any _ _).mono ?_; rintro e w' ⟨rfl, rfl⟩; rw [hin])
                  go_roundw
                  case rel => exact ⟨q + 1, by omega, by go_num, HG.out, K.out⟩
                  case measure => simp [intOf] <;> omega
            · obtain rfl : q = p.walk.length := by omega
              have HF := hid (HN.out (HRe.out.trans (firstBad_zero.2 HG.out)))
              clear HX HN HG HRe
              go_wp2_with fail
              go_roundw
              case rel => exact ⟨m + 1, by omega, by go_num, HF.out, K.out⟩
              case measure => simp [intOf] <;> omega
        · obtain rfl : m = p.walk.length := by omega
          have HC4 := hid (firstBad_zero.2 HF.out)
          have Hrows := hid (fun i hi => rowE_zero (HF.out i hi))
          clear HF
          have p0 := K.out.c (b := w.heap.size) (o := 0) (v := .slice ap p.persons.length cp) (by simp)
          have p1 := K.out.c (b := w.heap.size) (o := 1) (v := .slice aw p.walk.length cw) (by simp)
          have p2 := K.out.c (b := w.heap.size) (o := 2) (v := .slice ad p.dress.length cd) (by simp)
          have p3 := K.out.c (b := w.heap.size) (o := 3) (v := .slice aq p.parts.length cq) (by simp)
          by_cases hc5 : countE p.dress.length 8 = 0
          rotate_left
          · obtain ⟨e1, e2⟩ := ne_bool hc5
            have HE := hid (pE5 HC1.out HC2.out HC3.out HC4.out hc5)
            clear hc5
            go_wp2_with (go_at_call 53; refine (count_any p.dress.length 8 _).mono ?_; rintro e w' ⟨rfl, rfl⟩)
            go_ret
            exact ⟨ret_int HE.out.symm, K.out.below⟩
          have HC5 := hid hc5
          have Hl5 := hid (countE_zero.1 hc5)
          clear hc5
          go_wp2_with (go_at_call 53; refine (count_any p.dress.length 8 _).mono ?_; rw [HC5.out]; rintro e w' ⟨rfl, rfl⟩)
          refine (contI_any p.dress _ _ (H.out.dress.below K.out.below) (by have := Hl5.out; omega)).mono ?_
          rintro e w3 ⟨b, rfl, hbt, hbf, hb3⟩
          have K := hid (K.out.later hb3)
          clear hb3 p0 p1 p2 p3
          cases b with
          | true =>
            have h6 := hbt rfl
            have HE := hid ((pE6 HC1.out HC2.out HC3.out HC4.out HC5.out (by rw [h6]; decide)).trans h6)
            clear h6 hbt hbf
            go_wp2_with fail
            go_ret
            exact ⟨ret_int HE.out.symm, K.out.below⟩
          | false =>
            have HC6 := hid (hbf rfl)
            clear hbt hbf
            have p0 := K.out.c (b := w.heap.size) (o := 0) (v := .slice ap p.persons.length cp) (by simp)
            have p1 := K.out.c (b := w.heap.size) (o := 1) (v := .slice aw p.walk.length cw) (by simp)
            have p2 := K.out.c (b := w.heap.size) (o := 2) (v := .slice ad p.dress.length cd) (by simp)
            have p3 := K.out.c (b := w.heap.size) (o := 3) (v := .slice aq p.parts.length cq) (by simp)
            have HP7 := hid (pE7 HC1.out HC2.out HC3.out HC4.out HC5.out HC6.out)
            by_cases h30 : 30 < p.parts.length
            · have h30' : (30 : Int) < (p.parts.length : Int) := by omega
              have HE := hid (HP7.out.trans (if_pos h30))
              clear h30
              go_wp2_with fail
              go_ret
              exact ⟨ret_int HE.out.symm, K.out.below⟩
            have HP := hid (HP7.out.trans (if_neg h30))
            have h30' : ¬ (30 : Int) < (p.parts.length : Int) := by omega
            have H30 := hid h30
            clear h30 HP7
            go_wp2_with fail
            clear h30' p0 p1 p2 p3
            have Hsq := hid (show Square p from ⟨Hrows.out, dE_zero HC6.out⟩)
            go_loopw [95] (fun a wr => ∃ k : Nat, k ≤ p.parts.length ∧ a = .int .i64 k ∧ (∀ j, j < k → partE p j = 0) ∧ HK [(w.heap.size, 0, .slice ap p.persons.length cp), (w.heap.size, 1, .slice aw p.walk.length cw), (w.heap.size, 2, .slice ad p.dress.length cd), (w.heap.size, 3, .slice aq p.parts.length cq)] w wr)
              (fun a _ => p.parts.length - (intOf a).toNat)
            case atStart => exact ⟨0, by omega, rfl, fun j hj => absurd hj (by omega), K.out⟩
            case round =>
              obtain ⟨k, hk, rfl, hf, KK⟩ := hrel
              have K := hid KK
              have HF := hid hf
              clear KK hf
              obtain ⟨wo, rfl⟩ : ∃ wo : World, wo = wr := ⟨_, rfl⟩
              by_cases hlt : k < p.parts.length
              · have hcc := PartsAt.cells (H.out.parts.below K.out.below) hlt
                obtain ⟨bq, oq, e, hbq, d0, d1, d2, d3, d4⟩ := hcc
                cases e
                have hcap := (HQc.out (by omega)).1
                have hp30 : p.parts.length ≤ 30 := by have := H30.out; omega
                have hal := fun j hj => (partE_zero.1 (HF.out j hj)).1
                have HPt := hid (fun (W' : World) (hb : Below w.heap.size w W') => part_any p k _ _ _ _ _ W' (H.out.below hb) Hsq.out hlt hp30 (PartsAt.take (H.out.parts.below hb) (Nat.le_of_lt hlt)) hal (by have := Hl1.out; omega) (by have := Hl3.out; omega) (by have := Hl5.out; omega))
                have i1 : (k : Int) < (p.parts.length : Int) := by omega
                have i2 : (k : Int) ≤ (cq : Int) := by omega
                have z1 : IntKind.i64.wrap ((k : Int) + 1) = (k : Int) + 1 := IntWalk.i64_in _ (by omega)
                have HX := hid (fun (v : Int) (hv : partE p k = v) (h0 : v ≠ 0) => HP.out.trans ((firstBad_at (f := partE p) hlt HF.out (by rw [hv]; exact h0)).trans hv))
                have HN := hid (fun (hv : partE p k = 0) (j : Nat) (hj : j < k + 1) => show partE p j = 0 from by
                  by_cases e : j = k
                  · rw [e]; exact hv
                  · exact HF.out j (by omega))
                obtain ⟨x, hx⟩ : ∃ x, pt p.parts k = x := ⟨_, rfl⟩
                rw [hx] at d0 d1 d2 d3 d4 HPt
                clear hx hal HF
                obtain ⟨pe, hpe⟩ : ∃ pe, partE p k = pe := ⟨_, rfl⟩
                rw [hpe] at HX HN HPt
                clear hpe
                have K := hid (K.out.box5 (n := wo.heap.size) rfl (.int .i64 x.person) (.int .i64 x.place) (.int .i64 x.kind) (.int .i64 x.start) (.int .i64 x.stop) 60)
                go_upto_region 38 with fail
                obtain ⟨X, hX⟩ : ∃ X, wo.heap.size = X := ⟨_, rfl⟩
                obtain ⟨wy, hwy, KY⟩ := K.out.name
                rw [hwy, hX]
                rw [hX] at KY
                have K := hid KY.drew
                clear hwy KY hX d0 d1 d2 d3 d4
                go_region_held3 (fun w' => w'.cell? ⟨X, 0, none⟩ = some (.int .i64 x.person) ∧ w'.cell? ⟨X, 1, none⟩ = some (.int .i64 x.place) ∧ w'.cell? ⟨X, 2, none⟩ = some (.int .i64 x.kind) ∧ w'.cell? ⟨X, 3, none⟩ = some (.int .i64 x.start) ∧ w'.cell? ⟨X, 4, none⟩ = some (.int .i64 x.stop) ∧ w'.cell? ⟨w.heap.size, 0, none⟩ = some (.slice ap p.persons.length cp) ∧ w'.cell? ⟨w.heap.size, 1, none⟩ = some (.slice aw p.walk.length cw) ∧ w'.cell? ⟨w.heap.size, 2, none⟩ = some (.slice ad p.dress.length cd) ∧ w'.cell? ⟨w.heap.size, 3, none⟩ = some (.slice (some ⟨bq, oq, none⟩) p.parts.length cq))
                  (first | exact ⟨K.out.c (by simp), K.out.c (by simp), K.out.c (by simp), K.out.c (by simp), K.out.c (by simp), K.out.c (by simp), K.out.c (by simp), K.out.c (by simp), K.out.c (by simp)⟩) (first
                  | (go_at_call 58; refine (HPt.out _ K.out.below).mono ?_; rintro e w4 ⟨rfl, hb2⟩; have K := hid (K.out.later hb2); clear hb2))
                by_cases hpz : pe = 0
                · have HF := hid (HN.out hpz)
                  subst hpz
                  clear HX HN
                  go_wp2_with fail
                  go_roundw
                  case rel => exact ⟨k + 1, by omega, by go_num, HF.out, K.out.subs (fun x hx => List.mem_cons_of_mem _ (List.mem_cons_of_mem _ (List.mem_cons_of_mem _ (List.mem_cons_of_mem _ (List.mem_cons_of_mem _ hx)))))⟩
                  case measure => simp [intOf] <;> omega
                · obtain ⟨e1, e2⟩ := ne_bool hpz
                  have HE := hid (HX.out pe rfl hpz)
                  clear hpz HX HN
                  go_wp2_with fail
                  go_ret
                  exact ⟨ret_int HE.out.symm, K.out.below⟩
              · obtain rfl : k = p.parts.length := by omega
                have HE := hid (HP.out.trans (firstBad_zero.2 HF.out))
                clear HF HP
                go_wp2_with fail
                go_ret
                exact ⟨ret_int HE.out.symm, K.out.below⟩
end Go.Proofs.YtoipcbmbhjajfaaGreatDoor
