/-
  WALKS: the chapter's example: span, night, rack, awake.
-/
import Derived.Test.YtoipcbmbhjajfaaGreatDoorCdz
import Derived.Test.YtoipcbmbhjajfaaGreatDoorCmo
import Derived.Test.YtoipcbmbhjajfaaGreatDoorCht
import Derived.Test.YtoipcbmbhjajfaaGreatDoorKeq
namespace Go.Proofs.YtoipcbmbhjajfaaGreatDoor
open Go.RowKit

def nightP : Plot := ⟨[(40, 42), (44, 44)], [[0, 5], [5, 0]], [10, 20], [⟨0, 0, 0, 100, 120⟩, ⟨1, 0, 0, 110, 130⟩, ⟨0, 1, 1, 145, 160⟩]⟩
def rackI : List Item := [⟨0, 38, 42, 50, 0⟩, ⟨0, 40, 46, 80, 10⟩, ⟨1, 30, 50, 30, 0⟩]

set_option maxHeartbeats 400000 in
theorem span_any (a b : Int) (w : World) : Calls Tryz.prog 45 #[.int .i64 a, .int .i64 b] w fun e w' => e = .returned (.agg #[.int .i64 a, .int .i64 b]) ∧ w.alloc (.cells #[.int .i64 a, .int .i64 b] 58) = w' := by
  have y0 := cell_at (w := w) (cs := #[.int .i64 a, .int .i64 b]) (t := 58) (b := w.heap.size) (o := 0) (v := .int .i64 a) rfl rfl
  have y1 := cell_at (w := w) (cs := #[.int .i64 a, .int .i64 b]) (t := 58) (b := w.heap.size) (o := 1) (v := .int .i64 b) rfl rfl
  have Y0 := hid y0
  have Y1 := hid y1
  clear y0 y1
  go_enter Tryz.func45, Tryz.ntmps45
  go_wp2_with fail
  have y0 := Y0.out
  have y1 := Y1.out
  exact bodyPost_ret (v := .agg #[.int .i64 a, .int .i64 b]) (by simp [results, Tryz.results45, go_sem, y0, y1]) rfl ⟨rfl, rfl⟩

theorem lit_ints (w : World) (a b : Int) {n : Nat} (hn : n = w.heap.size) : IntsAt none (w.alloc (.cells #[.int .i64 a, .int .i64 b] 3)) (.slice (some ⟨n, 0, none⟩) 2 2) [a, b] := by
  subst hn
  exact IntsAt.rec.2 (recs_lit (k := 1) encInt 0 (fun x _ => .int .i64 x) (by decide) (fun _ => rfl) (fun x j hj => by obtain rfl : j = 0 := (by omega); rfl) none w (fun d e => by cases e) [a, b] _ rfl _ 2 rfl (by simp))
theorem lit_ints3 (w : World) (a b c : Int) {n : Nat} (hn : n = w.heap.size) : IntsAt none (w.alloc (.cells #[.int .i64 a, .int .i64 b, .int .i64 c] 3)) (.slice (some ⟨n, 0, none⟩) 3 3) [a, b, c] := by
  subst hn
  exact IntsAt.rec.2 (recs_lit (k := 1) encInt 0 (fun x _ => .int .i64 x) (by decide) (fun _ => rfl) (fun x j hj => by obtain rfl : j = 0 := (by omega); rfl) none w (fun d e => by cases e) [a, b, c] _ rfl _ 3 rfl (by simp))
theorem RecAt.up {d : Option Nat} {w : World} {v : Value} {n k : Nat} {f : Nat → Nat → Value} (h : RecAt d w v n k f) (X : Obj) : RecAt d (w.alloc X) v n k f := RecAt.below h (below_alloc w X)
theorem IntsAt.up {d : Option Nat} {w : World} {v : Value} {xs : List Int} (h : IntsAt d w v xs) (X : Obj) : IntsAt d (w.alloc X) v xs := h.below (below_alloc w X)
theorem night_at (X : World) {n : Nat} (hn : n = X.heap.size) :
    PlotAt none ((((((X.alloc (.cells #[.int .i64 40, .int .i64 42, .int .i64 44, .int .i64 44] 58)).alloc (.cells #[.int .i64 0, .int .i64 5] 3)).alloc (.cells #[.int .i64 5, .int .i64 0] 3)).alloc
      (.cells #[.slice (some ⟨n + 1, 0, none⟩) 2 2, .slice (some ⟨n + 1 + 1, 0, none⟩) 2 2] 24)).alloc (.cells #[.int .i64 10, .int .i64 20] 3)).alloc
      (.cells #[.int .i64 0, .int .i64 0, .int .i64 0, .int .i64 100, .int .i64 120, .int .i64 1, .int .i64 0, .int .i64 0, .int .i64 110, .int .i64 130, .int .i64 0, .int .i64 1, .int .i64 1, .int .i64 145, .int .i64 160] 60))
      (.slice (some ⟨n, 0, none⟩) 2 2) (.slice (some ⟨n + 1 + 1 + 1, 0, none⟩) 2 2) (.slice (some ⟨n + 1 + 1 + 1 + 1, 0, none⟩) 2 2) (.slice (some ⟨n + 1 + 1 + 1 + 1 + 1, 0, none⟩) 3 3) nightP := by
  subst hn
  refine ⟨?_, ⟨fun i => [Value.slice (some ⟨X.heap.size + 1, 0, none⟩) 2 2, Value.slice (some ⟨X.heap.size + 1 + 1, 0, none⟩) 2 2].getD i undef, ?_, ?_⟩, ?_, ?_⟩
  · exact (((((recs_lit encSpan (0, 0) spanCell (by decide) (fun _ => rfl) encSpan_at none X (fun k e => by cases e) [(40, 42), (44, 44)] _ rfl _ 2 rfl (by simp)).up _).up _).up _).up _).up _
  · have h := recs_lit (k := 1) encV undef (fun x _ => x) (by decide) (fun _ => rfl) (fun x j hj => by obtain rfl : j = 0 := (by omega); rfl) none (((X.alloc (.cells #[.int .i64 40, .int .i64 42, .int .i64 44, .int .i64 44] 58)).alloc (.cells #[.int .i64 0, .int .i64 5] 3)).alloc (.cells #[.int .i64 5, .int .i64 0] 3)) (fun k e => by cases e)
      [Value.slice (some ⟨X.heap.size + 1, 0, none⟩) 2 2, Value.slice (some ⟨X.heap.size + 1 + 1, 0, none⟩) 2 2] #[.slice (some ⟨X.heap.size + 1, 0, none⟩) 2 2, .slice (some ⟨X.heap.size + 1 + 1, 0, none⟩) 2 2] rfl 24 2 rfl (by simp)
    have e : (((X.alloc (.cells #[.int .i64 40, .int .i64 42, .int .i64 44, .int .i64 44] 58)).alloc (.cells #[.int .i64 0, .int .i64 5] 3)).alloc (.cells #[.int .i64 5, .int .i64 0] 3)).heap.size = X.heap.size + 1 + 1 + 1 := by simp
    rw [e] at h
    exact (h.up _).up _
  · intro i hi
    have hi : i < 2 := hi
    rcases (by omega : i = 0 ∨ i = 1) with rfl | rfl
    · exact ((((lit_ints _ 0 5 (by simp)).up _).up _).up _).up _
    · exact (((lit_ints _ 5 0 (by simp)).up _).up _).up _
  · exact (lit_ints _ 10 20 (by simp)).up _
  · have h := recs_lit encPart noPart partCell (by decide) (fun _ => rfl) encPart_at none (((((X.alloc (.cells #[.int .i64 40, .int .i64 42, .int .i64 44, .int .i64 44] 58)).alloc (.cells #[.int .i64 0, .int .i64 5] 3)).alloc (.cells #[.int .i64 5, .int .i64 0] 3)).alloc (.cells #[.slice (some ⟨X.heap.size + 1, 0, none⟩) 2 2, .slice (some ⟨X.heap.size + 1 + 1, 0, none⟩) 2 2] 24)).alloc (.cells #[.int .i64 10, .int .i64 20] 3)) (fun k e => by cases e)
      nightP.parts #[.int .i64 0, .int .i64 0, .int .i64 0, .int .i64 100, .int .i64 120, .int .i64 1, .int .i64 0, .int .i64 0, .int .i64 110, .int .i64 130, .int .i64 0, .int .i64 1, .int .i64 1, .int .i64 145, .int .i64 160] rfl 60 3 rfl (by decide)
    have e : (((((X.alloc (.cells #[.int .i64 40, .int .i64 42, .int .i64 44, .int .i64 44] 58)).alloc (.cells #[.int .i64 0, .int .i64 5] 3)).alloc (.cells #[.int .i64 5, .int .i64 0] 3)).alloc (.cells #[.slice (some ⟨X.heap.size + 1, 0, none⟩) 2 2, .slice (some ⟨X.heap.size + 1 + 1, 0, none⟩) 2 2] 24)).alloc (.cells #[.int .i64 10, .int .i64 20] 3)).heap.size = X.heap.size + 1 + 1 + 1 + 1 + 1 := by simp
    rw [e] at h
    exact h

set_option maxHeartbeats 2000000 in
set_option maxRecDepth 100000 in
theorem night_any (w : World) : Calls Tryz.prog 16 #[] w fun e w' => ∃ vp vw vd vq, e = .returned (plotV vp vw vd vq) ∧ PlotAt none w' vp vw vd vq nightP ∧ Below w.heap.size w w' := by
  go_enter Tryz.func16, Tryz.ntmps16
  go_wp2_with (go_at_call 45; refine (span_any _ _ _).mono ?_; rintro e w2 ⟨rfl, rfl⟩)
  have hN := night_at (((w.alloc (.cells #[.slice (some ⟨w.heap.size + 1 + 1 + 1, 0, none⟩) 2 2, .slice (some ⟨w.heap.size + 1 + 1 + 1 + 1 + 1 + 1, 0, none⟩) 2 2, .slice (some ⟨w.heap.size + 1 + 1 + 1 + 1 + 1 + 1 + 1, 0, none⟩) 2 2, .slice (some ⟨w.heap.size + 1 + 1 + 1 + 1 + 1 + 1 + 1 + 1, 0, none⟩) 3 3] 27)).alloc (.cells #[.int .i64 40, .int .i64 42] 58)).alloc (.cells #[.int .i64 44, .int .i64 44] 58)) (n := w.heap.size + 1 + 1 + 1) (by simp)
  have K := (((((((((HK.start w).box4m (n := w.heap.size) rfl (.slice (some ⟨w.heap.size + 1 + 1 + 1, 0, none⟩) 2 2) (.slice (some ⟨w.heap.size + 1 + 1 + 1 + 1 + 1 + 1, 0, none⟩) 2 2) (.slice (some ⟨w.heap.size + 1 + 1 + 1 + 1 + 1 + 1 + 1, 0, none⟩) 2 2) (.slice (some ⟨w.heap.size + 1 + 1 + 1 + 1 + 1 + 1 + 1 + 1, 0, none⟩) 3 3) 27).alloc (.cells #[.int .i64 40, .int .i64 42] 58)).alloc (.cells #[.int .i64 44, .int .i64 44] 58)).alloc (.cells #[.int .i64 40, .int .i64 42, .int .i64 44, .int .i64 44] 58)).alloc (.cells #[.int .i64 0, .int .i64 5] 3)).alloc (.cells #[.int .i64 5, .int .i64 0] 3)).alloc
    (.cells #[.slice (some ⟨w.heap.size + 1 + 1 + 1 + 1, 0, none⟩) 2 2, .slice (some ⟨w.heap.size + 1 + 1 + 1 + 1 + 1, 0, none⟩) 2 2] 24)).alloc (.cells #[.int .i64 10, .int .i64 20] 3)).alloc (.cells #[.int .i64 0, .int .i64 0, .int .i64 0, .int .i64 100, .int .i64 120, .int .i64 1, .int .i64 0, .int .i64 0, .int .i64 110, .int .i64 130, .int .i64 0, .int .i64 1, .int .i64 1, .int .i64 145, .int .i64 160] 60)
  obtain ⟨w5, hw5, K⟩ := K.name
  rw [hw5] at hN ⊢
  have y0 := K.c (b := w.heap.size) (o := 0) (v := .slice (some ⟨w.heap.size + 1 + 1 + 1, 0, none⟩) 2 2) (by simp)
  have y1 := K.c (b := w.heap.size) (o := 1) (v := .slice (some ⟨w.heap.size + 1 + 1 + 1 + 1 + 1 + 1, 0, none⟩) 2 2) (by simp)
  have y2 := K.c (b := w.heap.size) (o := 2) (v := .slice (some ⟨w.heap.size + 1 + 1 + 1 + 1 + 1 + 1 + 1, 0, none⟩) 2 2) (by simp)
  have y3 := K.c (b := w.heap.size) (o := 3) (v := .slice (some ⟨w.heap.size + 1 + 1 + 1 + 1 + 1 + 1 + 1 + 1, 0, none⟩) 3 3) (by simp)
  exact bodyPost_ret (v := plotV (.slice (some ⟨w.heap.size + 1 + 1 + 1, 0, none⟩) 2 2) (.slice (some ⟨w.heap.size + 1 + 1 + 1 + 1 + 1 + 1, 0, none⟩) 2 2) (.slice (some ⟨w.heap.size + 1 + 1 + 1 + 1 + 1 + 1 + 1, 0, none⟩) 2 2) (.slice (some ⟨w.heap.size + 1 + 1 + 1 + 1 + 1 + 1 + 1 + 1, 0, none⟩) 3 3)) (by simp [results, Tryz.results16, go_sem, y0, y1, y2, y3, plotV]) rfl ⟨_, _, _, _, rfl, hN, K.below⟩

set_option maxHeartbeats 2000000 in
set_option maxRecDepth 100000 in
theorem rack_any (w : World) : Calls Tryz.prog 19 #[] w fun e w' => ∃ vi, e = .returned vi ∧ ItemsAt none w' vi rackI ∧ Below w.heap.size w w' := by
  go_enter Tryz.func19, Tryz.ntmps19
  go_wp2_with (go_at_call 45; refine (span_any _ _ _).mono ?_; rintro e w2 ⟨rfl, rfl⟩)
  have h := recs_lit encItem noItem itemCell (by decide) (fun _ => rfl) encItem_at none (((w.alloc (.cells #[.int .i64 38, .int .i64 42] 58)).alloc (.cells #[.int .i64 40, .int .i64 46] 58)).alloc (.cells #[.int .i64 30, .int .i64 50] 58)) (fun k e => by cases e)
    rackI #[.int .i64 0, .int .i64 38, .int .i64 42, .int .i64 50, .int .i64 0, .int .i64 0, .int .i64 40, .int .i64 46, .int .i64 80, .int .i64 10, .int .i64 1, .int .i64 30, .int .i64 50, .int .i64 30, .int .i64 0] rfl 101 3 rfl (by decide)
  have e : (((w.alloc (.cells #[.int .i64 38, .int .i64 42] 58)).alloc (.cells #[.int .i64 40, .int .i64 46] 58)).alloc (.cells #[.int .i64 30, .int .i64 50] 58)).heap.size = w.heap.size + 1 + 1 + 1 := by simp
  rw [e] at h
  go_ret
  exact ⟨_, rfl, h, below_trans (below_alloc _ _) (below_trans (below_alloc _ _) (below_trans (below_alloc _ _) (below_alloc _ _)))⟩

theorem aw_person : personE nightP 0 = 0 := by decide +kernel
theorem aw_day : dayRes nightP 0 = [0, 2] := by decide +kernel
theorem aw_mostE : mostErr nightP 0 = 0 := by decide +kernel
set_option maxRecDepth 1000000 in
theorem aw_most : mostRes nightP 0 = (2, 110) := by decide +kernel
theorem aw_cheapE : cheapErr nightP rackI = 0 := by decide +kernel
theorem aw_cheap : cheapB nightP rackI = some ([0, 1, 2], 160) := by decide +kernel

set_option maxHeartbeats 4000000 in
set_option maxRecDepth 100000 in
/-- AWAKE: the chapter's examples hold -/
theorem awake_any (w : World) : Calls Tryz.prog 6 #[] w fun e w' => e = .returned (.bool true) ∧ Below w.heap.size w w' := by
  have HD := hid (fun vp vw vd vq W' (h : PlotAt none W' vp vw vd vq nightP) => by have := day_any nightP 0 vp vw vd vq W' h; rw [aw_person, aw_day] at this; exact this)
  have HM := hid (fun vp vw vd vq W' (h : PlotAt none W' vp vw vd vq nightP) => by have := most_any nightP 0 vp vw vd vq W' h; rw [aw_mostE, aw_most] at this; exact this)
  have HC := hid (fun vp vw vd vq vi W' (h : PlotAt none W' vp vw vd vq nightP) (hI : ItemsAt none W' vi rackI) => by have := cheapest_any nightP rackI vp vw vd vq vi W' h hI; unfold CheapestPost at this; rw [aw_cheapE, aw_cheap] at this; exact this)
  go_enter Tryz.func6, Tryz.ntmps6
  go_upto_region 2 with (first
    | (go_at_call 16; refine (night_any _).mono ?_; rintro e w1 ⟨vp, vw, vd, vq, rfl, hP, hb⟩; have HP := hid hP; have HB := hid hb; obtain ⟨ap, cp, rfl⟩ := hP.persons.form; obtain ⟨aw, cw, rfl⟩ := hP.walk.form; obtain ⟨ad, cd, ed, _⟩ := hP.dress; subst ed; obtain ⟨aq, cq, rfl⟩ := hP.parts.form; clear hP hb)
    | (go_at_call 15; refine (HD.out _ _ _ _ _ HP.out).mono ?_; rintro e w2 ⟨v1, rfl, ho, hb⟩; have HO1 := hid (OwnInts.at (d := none) ho (by simp)); obtain ⟨a1, c1, rfl⟩ := (own_int.2 ho).form; have HB := hid (below_trans HB.out hb); clear ho hb HP))
  go_upto_region 3 with (first
    | (go_at_call 16; refine (night_any _).mono ?_; rintro e w3 ⟨vp, vw, vd, vq, rfl, hP, hb⟩; have HP := hid hP; have HB := hid (below_trans HB.out hb); have HO1 := hid (HO1.out.below hb); obtain ⟨ap, cp, rfl⟩ := hP.persons.form; obtain ⟨aw, cw, rfl⟩ := hP.walk.form; obtain ⟨ad, cd, ed, _⟩ := hP.dress; subst ed; obtain ⟨aq, cq, rfl⟩ := hP.parts.form; clear hP hb)
    | (go_at_call 17; refine (HM.out _ _ _ _ _ HP.out).mono ?_; rintro e w4 ⟨rfl, hb⟩; have HB := hid (below_trans HB.out hb); have HO1 := hid (HO1.out.below hb); clear hb HP))
  go_upto_region 4 with (first
    | (go_at_call 16; refine (night_any _).mono ?_; rintro e w5 ⟨vp, vw, vd, vq, rfl, hP, hb⟩; have HP := hid hP; have HB := hid (below_trans HB.out hb); have HO1 := hid (HO1.out.below hb); obtain ⟨ap, cp, rfl⟩ := hP.persons.form; obtain ⟨aw, cw, rfl⟩ := hP.walk.form; obtain ⟨ad, cd, ed, _⟩ := hP.dress; subst ed; obtain ⟨aq, cq, rfl⟩ := hP.parts.form; clear hP hb)
    | (go_at_call 19; refine (rack_any _).mono ?_; rintro e w6 ⟨vi, rfl, hI, hb⟩; have HI := hid hI; have HP := hid (HP.out.below hb); have HB := hid (below_trans HB.out hb); have HO1 := hid (HO1.out.below hb); obtain ⟨ai, ci, rfl⟩ := hI.form; clear hI hb)
    | (go_at_call 18; refine (HC.out _ _ _ _ _ _ HP.out HI.out).mono ?_; rintro e w7 ⟨v3, rfl, ho, hb⟩; have HO3 := hid (OwnInts.at (d := none) ho (by simp)); obtain ⟨a3, c3, rfl⟩ := (own_int.2 ho).form; have HB := hid (below_trans HB.out hb); have HO1 := hid (HO1.out.below hb); clear ho hb HP HI))
  have hl1 := HO1.out
  have hl3 := HO3.out
  have HL1 := hid (show IntsAt none w7 (.slice a1 2 c1) [0, 2] from hl1)
  have HL3 := hid (show IntsAt none w7 (.slice a3 3 c3) [0, 1, 2] from hl3)
  clear hl1 hl3 HO1 HO3
  go_wp2_with (first
    | (go_at_call 20; refine (eqInts_same [0, 2] _ _ none none _ (HL1.out.below (below_alloc _ _)) (lit_ints _ 0 2 rfl) (by decide)).mono ?_; rintro e w8 ⟨rfl, hb⟩; have HB := hid (below_trans HB.out (below_trans (below_alloc _ _) hb)); have HL3 := hid (HL3.out.below (below_trans (below_alloc _ _) hb)); clear hb HL1)
    | (go_at_call 20; refine (eqInts_same [0, 1, 2] _ _ none none _ (HL3.out.below (below_alloc _ _)) (lit_ints3 _ 0 1 2 rfl) (by decide)).mono ?_; rintro e w9 ⟨rfl, hb⟩; have HB := hid (below_trans HB.out (below_trans (below_alloc _ _) hb)); clear hb HL3))
  go_ret
  exact ⟨rfl, HB.out⟩
end Go.Proofs.YtoipcbmbhjajfaaGreatDoor
