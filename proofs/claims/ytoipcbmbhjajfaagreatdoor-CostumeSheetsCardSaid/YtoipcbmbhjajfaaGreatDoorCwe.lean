/-
  WALKS: what fits, items, wears: fit, item, CheckItems, Fit, cleaned, next, CheckWear.
-/
import Derived.Test.YtoipcbmbhjajfaaGreatDoorCpo
import Derived.Test.YtoipcbmbhjajfaaGreatDoorCwd
namespace Go.Proofs.YtoipcbmbhjajfaaGreatDoor
open Go.RowKit

abbrev itemV (x : Item) : Value := .agg #[.int .i64 x.kind, .int .i64 x.lo, .int .i64 x.hi, .int .i64 x.cost, .int .i64 x.clean]

theorem fitE1 {x : Item} {s : Int × Int} (h1 : x.lo ≤ s.1) (h2 : s.2 ≤ x.hi) : fitE x s = 1 := by unfold fitE; rw [if_pos ⟨h1, h2⟩]
theorem fitE2 {x : Item} {s : Int × Int} (h1 : ¬ (x.lo ≤ s.1 ∧ s.2 ≤ x.hi)) (h2 : x.hi < s.1 ∨ s.2 < x.lo) : fitE x s = 2 := by unfold fitE; rw [if_neg h1, if_pos h2]
theorem fitE3 {x : Item} {s : Int × Int} (h1 : ¬ (x.lo ≤ s.1 ∧ s.2 ≤ x.hi)) (h2 : ¬ (x.hi < s.1 ∨ s.2 < x.lo)) : fitE x s = 3 := by unfold fitE; rw [if_neg h1, if_neg h2]

set_option maxHeartbeats 2000000 in
set_option maxRecDepth 100000 in
theorem fit_of (x : Item) (a b : Int) (w : World) :
    Calls Tryz.prog 88 #[itemV x, .agg #[.int .i64 a, .int .i64 b]] w fun e w' => e = .returned (.int .i64 (fitE x (a, b))) ∧ Below w.heap.size w w' := by
  have hb := hid (show Below w.heap.size w ((w.alloc (.cells #[.int .i64 x.kind, .int .i64 x.lo, .int .i64 x.hi, .int .i64 x.cost, .int .i64 x.clean] 101)).alloc (.cells #[.int .i64 a, .int .i64 b] 58)) from below_trans (below_alloc w _) (below_alloc _ _))
  by_cases h1 : x.lo ≤ a
  · by_cases h2 : b ≤ x.hi
    · have HE := hid (show fitE x (a, b) = _ from fitE1 h1 h2)
      go_enter Tryz.func88, Tryz.ntmps88
      go_wp2
      go_ret
      exact ⟨ret_int HE.out.symm, hb.out⟩
    · by_cases h3 : x.hi < a
      · have HE := hid (show fitE x (a, b) = _ from fitE2 (fun h => h2 h.2) (.inl h3))
        go_enter Tryz.func88, Tryz.ntmps88
        go_wp2
        go_ret
        exact ⟨ret_int HE.out.symm, hb.out⟩
      · by_cases h4 : b < x.lo
        · omega
        · have HE := hid (show fitE x (a, b) = _ from fitE3 (fun h => h2 h.2) (fun h => h.elim h3 h4))
          go_enter Tryz.func88, Tryz.ntmps88
          go_wp2
          go_ret
          exact ⟨ret_int HE.out.symm, hb.out⟩
  · by_cases h3 : x.hi < a
    · have HE := hid (show fitE x (a, b) = _ from fitE2 (fun h => h1 h.1) (.inl h3))
      go_enter Tryz.func88, Tryz.ntmps88
      go_wp2
      go_ret
      exact ⟨ret_int HE.out.symm, hb.out⟩
    · by_cases h4 : b < x.lo
      · have HE := hid (show fitE x (a, b) = _ from fitE2 (fun h => h1 h.1) (.inr h4))
        go_enter Tryz.func88, Tryz.ntmps88
        go_wp2
        go_ret
        exact ⟨ret_int HE.out.symm, hb.out⟩
      · have HE := hid (show fitE x (a, b) = _ from fitE3 (fun h => h1 h.1) (fun h => h.elim h3 h4))
        go_enter Tryz.func88, Tryz.ntmps88
        go_wp2
        go_ret
        exact ⟨ret_int HE.out.symm, hb.out⟩

set_option linter.unusedSimpArgs false in
set_option maxHeartbeats 4000000 in
set_option maxRecDepth 100000 in
theorem item_of (p : Plot) (x : Item) (vp vw vq : Value) (ad : Option Addr) (cd : Nat) (w : World) (hl : p.dress.length ≤ 100) :
    Calls Tryz.prog 87 #[plotV vp vw (.slice ad p.dress.length cd) vq, itemV x] w fun e w' => e = .returned (.int .i64 (itemE p x)) ∧ Below w.heap.size w w' := by
  have zl : IntKind.i64.wrap ((p.dress.length : Int) - 1) = (p.dress.length : Int) - 1 := IntWalk.i64_in _ (by omega)
  have K := hid (((HK.start w).box4m (n := w.heap.size) rfl vp vw (.slice ad p.dress.length cd) vq 27).box5 (n := w.heap.size + 1) (by simp) (.int .i64 x.kind) (.int .i64 x.lo) (.int .i64 x.hi) (.int .i64 x.cost) (.int .i64 x.clean) 101)
  have HFg := hid (fun W' => figure_any x.lo x.hi W')
  cases q0 : inB x.kind 0 ((p.dress.length : Int) - 1) with
  | false =>
    have ha : itemE p x = 7 := by unfold itemE; rw [if_pos q0]
    rw [ha]
    clear ha
    go_enter Tryz.func87, Tryz.ntmps87
    go_wp2_with (first | (go_at_call 46; refine (cin_any _ _ _ _).mono ?_; rintro e w' ⟨rfl, rfl⟩) | (go_at_call 55; refine (minute_any _ _).mono ?_; rintro e w' ⟨rfl, rfl⟩) | (go_at_call 54; refine (HFg.out _).mono ?_; rintro e w2 ⟨rfl, hb2⟩; have K := hid (K.out.later hb2); clear hb2; have c0 := K.out.c (b := w.heap.size + 1) (o := 0) (v := .int .i64 x.kind) (by simp); have c1 := K.out.c (b := w.heap.size + 1) (o := 1) (v := .int .i64 x.lo) (by simp); have c2 := K.out.c (b := w.heap.size + 1) (o := 2) (v := .int .i64 x.hi) (by simp); have c3 := K.out.c (b := w.heap.size + 1) (o := 3) (v := .int .i64 x.cost) (by simp); have c4 := K.out.c (b := w.heap.size + 1) (o := 4) (v := .int .i64 x.clean) (by simp)))
    go_ret
    exact ⟨rfl, K.out.below⟩
  | true =>
    by_cases hf : figE (x.lo, x.hi) = 0
    · rw [hf] at HFg
      cases q1 : inB x.cost 0 1000000 with
      | false =>
        have ha : itemE p x = 2 := by unfold itemE; rw [if_neg (by simp [q0]), if_pos hf, if_pos q1]
        rw [ha]
        clear ha
        go_enter Tryz.func87, Tryz.ntmps87
        go_wp2_with (first | (go_at_call 46; refine (cin_any _ _ _ _).mono ?_; rintro e w' ⟨rfl, rfl⟩) | (go_at_call 55; refine (minute_any _ _).mono ?_; rintro e w' ⟨rfl, rfl⟩) | (go_at_call 54; refine (HFg.out _).mono ?_; rintro e w2 ⟨rfl, hb2⟩; have K := hid (K.out.later hb2); clear hb2; have c0 := K.out.c (b := w.heap.size + 1) (o := 0) (v := .int .i64 x.kind) (by simp); have c1 := K.out.c (b := w.heap.size + 1) (o := 1) (v := .int .i64 x.lo) (by simp); have c2 := K.out.c (b := w.heap.size + 1) (o := 2) (v := .int .i64 x.hi) (by simp); have c3 := K.out.c (b := w.heap.size + 1) (o := 3) (v := .int .i64 x.cost) (by simp); have c4 := K.out.c (b := w.heap.size + 1) (o := 4) (v := .int .i64 x.clean) (by simp)))
        go_ret
        exact ⟨rfl, K.out.below⟩
      | true =>
        cases q2 : inB x.clean 0 1440 with
        | false =>
          have ha : itemE p x = 2 := by unfold itemE; rw [if_neg (by simp [q0]), if_pos hf, if_neg (by simp [q1]), if_pos q2]
          rw [ha]
          clear ha
          go_enter Tryz.func87, Tryz.ntmps87
          go_wp2_with (first | (go_at_call 46; refine (cin_any _ _ _ _).mono ?_; rintro e w' ⟨rfl, rfl⟩) | (go_at_call 55; refine (minute_any _ _).mono ?_; rintro e w' ⟨rfl, rfl⟩) | (go_at_call 54; refine (HFg.out _).mono ?_; rintro e w2 ⟨rfl, hb2⟩; have K := hid (K.out.later hb2); clear hb2; have c0 := K.out.c (b := w.heap.size + 1) (o := 0) (v := .int .i64 x.kind) (by simp); have c1 := K.out.c (b := w.heap.size + 1) (o := 1) (v := .int .i64 x.lo) (by simp); have c2 := K.out.c (b := w.heap.size + 1) (o := 2) (v := .int .i64 x.hi) (by simp); have c3 := K.out.c (b := w.heap.size + 1) (o := 3) (v := .int .i64 x.cost) (by simp); have c4 := K.out.c (b := w.heap.size + 1) (o := 4) (v := .int .i64 x.clean) (by simp)))
          go_ret
          exact ⟨rfl, K.out.below⟩
        | true =>
          have ha : itemE p x = 0 := by unfold itemE; rw [if_neg (by simp [q0]), if_pos hf, if_neg (by simp [q1]), if_neg (by simp [q2])]
          rw [ha]
          clear ha
          go_enter Tryz.func87, Tryz.ntmps87
          go_wp2_with (first | (go_at_call 46; refine (cin_any _ _ _ _).mono ?_; rintro e w' ⟨rfl, rfl⟩) | (go_at_call 55; refine (minute_any _ _).mono ?_; rintro e w' ⟨rfl, rfl⟩) | (go_at_call 54; refine (HFg.out _).mono ?_; rintro e w2 ⟨rfl, hb2⟩; have K := hid (K.out.later hb2); clear hb2; have c0 := K.out.c (b := w.heap.size + 1) (o := 0) (v := .int .i64 x.kind) (by simp); have c1 := K.out.c (b := w.heap.size + 1) (o := 1) (v := .int .i64 x.lo) (by simp); have c2 := K.out.c (b := w.heap.size + 1) (o := 2) (v := .int .i64 x.hi) (by simp); have c3 := K.out.c (b := w.heap.size + 1) (o := 3) (v := .int .i64 x.cost) (by simp); have c4 := K.out.c (b := w.heap.size + 1) (o := 4) (v := .int .i64 x.clean) (by simp)))
          go_ret
          exact ⟨rfl, K.out.below⟩
    · obtain ⟨e1, e2⟩ := ne_bool hf
      have ha : itemE p x = figE (x.lo, x.hi) := by unfold itemE; rw [if_neg (by simp [q0]), if_neg hf]
      rw [ha]
      clear ha hf
      go_enter Tryz.func87, Tryz.ntmps87
      go_wp2_with (first | (go_at_call 46; refine (cin_any _ _ _ _).mono ?_; rintro e w' ⟨rfl, rfl⟩) | (go_at_call 55; refine (minute_any _ _).mono ?_; rintro e w' ⟨rfl, rfl⟩) | (go_at_call 54; refine (HFg.out _).mono ?_; rintro e w2 ⟨rfl, hb2⟩; have K := hid (K.out.later hb2); clear hb2; have c0 := K.out.c (b := w.heap.size + 1) (o := 0) (v := .int .i64 x.kind) (by simp); have c1 := K.out.c (b := w.heap.size + 1) (o := 1) (v := .int .i64 x.lo) (by simp); have c2 := K.out.c (b := w.heap.size + 1) (o := 2) (v := .int .i64 x.hi) (by simp); have c3 := K.out.c (b := w.heap.size + 1) (o := 3) (v := .int .i64 x.cost) (by simp); have c4 := K.out.c (b := w.heap.size + 1) (o := 4) (v := .int .i64 x.clean) (by simp)))
      go_ret
      exact ⟨rfl, K.out.below⟩

set_option linter.unusedSimpArgs false in
set_option maxHeartbeats 4000000 in
set_option maxRecDepth 100000 in
theorem citems_any (p : Plot) (items : List Item) (vp vw vd vq vi : Value) (w : World) (h : PlotAt none w vp vw vd vq p) (hI : ItemsAt none w vi items) :
    Calls Tryz.prog 68 #[plotV vp vw vd vq, vi] w fun e w' => e = .returned (.int .i64 (itemsErr p items)) ∧ Below w.heap.size w w' := by
  have H := hid h
  have HI := hid hI
  have HC := hid (fun W' hb => ccheck_any p vp vw vd vq W' (H.out.below hb))
  obtain ⟨ap, cp, rfl⟩ := h.persons.form
  obtain ⟨aw, cw, rfl⟩ := h.walk.form
  obtain ⟨ad, cd, ed, _⟩ := h.dress
  subst ed
  obtain ⟨aq, cq, rfl⟩ := h.parts.form
  obtain ⟨ai, ci, rfl⟩ := hI.form
  clear h hI
  have K := hid ((HK.start w).box4m (n := w.heap.size) rfl (.slice ap p.persons.length cp) (.slice aw p.walk.length cw) (.slice ad p.dress.length cd) (.slice aq p.parts.length cq) 27)
  by_cases hp : plotErr p = 0
  rotate_left
  · have HE := hid (show itemsErr p items = plotErr p from by unfold itemsErr; rw [if_neg hp])
    obtain ⟨e1, e2⟩ := ne_bool hp
    clear hp
    go_enter Tryz.func68, Tryz.ntmps68
    go_wp2_with (go_at_call 26; refine (HC.out _ K.out.below).mono ?_; rintro e w2 ⟨rfl, hb2⟩; have K := hid (K.out.later hb2); clear hb2)
    go_ret
    exact ⟨ret_int HE.out.symm, K.out.below⟩
  have hl := (plotErr_zero.1 hp).dress.2
  rw [hp] at HC
  by_cases h30 : 30 < items.length
  · have HE := hid (show itemsErr p items = 5 from by unfold itemsErr; rw [if_pos hp, if_pos h30])
    have h30' : (30 : Int) < (items.length : Int) := by omega
    clear hp h30
    go_enter Tryz.func68, Tryz.ntmps68
    go_wp2_with (go_at_call 26; refine (HC.out _ K.out.below).mono ?_; rintro e w2 ⟨rfl, hb2⟩; have K := hid (K.out.later hb2); clear hb2)
    go_ret
    exact ⟨ret_int HE.out.symm, K.out.below⟩
  have HE := hid (show itemsErr p items = firstBad (fun i => itemE p (it items i)) items.length from by unfold itemsErr; rw [if_pos hp, if_neg h30])
  have h30' : ¬ (30 : Int) < (items.length : Int) := by omega
  have hl30 : items.length ≤ 30 := by omega
  clear hp h30
  go_enter Tryz.func68, Tryz.ntmps68
  go_wp2_with (go_at_call 26; refine (HC.out _ K.out.below).mono ?_; rintro e w2 ⟨rfl, hb2⟩; have K := hid (K.out.later hb2); clear hb2)
  clear h30'
  go_loopw [19] (fun a wr => ∃ k : Nat, k ≤ items.length ∧ a = .int .i64 k ∧ (∀ j, j < k → itemE p (it items j) = 0) ∧ HK [(w.heap.size, 0, .slice ap p.persons.length cp), (w.heap.size, 1, .slice aw p.walk.length cw), (w.heap.size, 2, .slice ad p.dress.length cd), (w.heap.size, 3, .slice aq p.parts.length cq)] w wr) (fun a _ => items.length - (intOf a).toNat)
  case atStart => exact ⟨0, by omega, rfl, fun j hj => absurd hj (by omega), K.out⟩
  case round =>
    obtain ⟨k, hk, rfl, hf, KK⟩ := hrel
    have K := hid KK
    have HF := hid hf
    clear KK hf
    obtain ⟨wo, rfl⟩ : ∃ wo : World, wo = wr := ⟨_, rfl⟩
    by_cases hlt : k < items.length
    rotate_left
    · obtain rfl : k = items.length := by omega
      have HR := hid (HE.out.trans (firstBad_zero.2 HF.out))
      clear HF
      go_wp2_with fail
      go_ret
      exact ⟨ret_int HR.out.symm, K.out.below⟩
    have hcc := ItemsAt.cells (HI.out.below K.out.below) hlt
    obtain ⟨bi, oi, e, hbi, d0, d1, d2, d3, d4⟩ := hcc
    cases e
    have i1 : (k : Int) < (items.length : Int) := by omega
    have z1 : IntKind.i64.wrap ((k : Int) + 1) = (k : Int) + 1 := IntWalk.i64_in _ (by omega)
    have HX := hid (fun (v : Int) (hv : itemE p (it items k) = v) (h0 : v ≠ 0) => HE.out.trans ((firstBad_at (f := fun i => itemE p (it items i)) hlt HF.out (by show itemE p (it items k) ≠ 0; rw [hv]; exact h0)).trans hv))
    have HN := hid (fun (hv : itemE p (it items k) = 0) (j : Nat) (hj : j < k + 1) => show itemE p (it items j) = 0 from by
      by_cases e : j = k
      · rw [e]; exact hv
      · exact HF.out j (by omega))
    obtain ⟨g, hg⟩ : ∃ g, it items k = g := ⟨_, rfl⟩
    rw [hg] at d0 d1 d2 d3 d4 HX HN
    clear hg HF
    obtain ⟨ge, hge⟩ : ∃ ge, itemE p g = ge := ⟨_, rfl⟩
    have HIt := hid (fun W' => item_of p g (.slice ap p.persons.length cp) (.slice aw p.walk.length cw) (.slice aq p.parts.length cq) ad cd W' (by omega))
    rw [hge] at HX HN HIt
    clear hge
    have K := hid (K.out.box5 (n := wo.heap.size) rfl (.int .i64 g.kind) (.int .i64 g.lo) (.int .i64 g.hi) (.int .i64 g.cost) (.int .i64 g.clean) 101)
    go_upto_region 9 with fail
    obtain ⟨Y, hY⟩ : ∃ Y, wo.heap.size = Y := ⟨_, rfl⟩
    obtain ⟨wy, hwy, KY⟩ := K.out.name
    rw [hwy, hY]
    rw [hY] at KY
    have K := hid KY
    clear hwy KY hY d0 d1 d2 d3 d4
    have c0 := K.out.c (b := Y) (o := 0) (v := .int .i64 g.kind) (by simp)
    have c1 := K.out.c (b := Y) (o := 1) (v := .int .i64 g.lo) (by simp)
    have c2 := K.out.c (b := Y) (o := 2) (v := .int .i64 g.hi) (by simp)
    have c3 := K.out.c (b := Y) (o := 3) (v := .int .i64 g.cost) (by simp)
    have c4 := K.out.c (b := Y) (o := 4) (v := .int .i64 g.clean) (by simp)
    have c5 := K.out.c (b := w.heap.size) (o := 0) (v := .slice ap p.persons.length cp) (by simp)
    have c6 := K.out.c (b := w.heap.size) (o := 1) (v := .slice aw p.walk.length cw) (by simp)
    have c7 := K.out.c (b := w.heap.size) (o := 2) (v := .slice ad p.dress.length cd) (by simp)
    have c8 := K.out.c (b := w.heap.size) (o := 3) (v := .slice aq p.parts.length cq) (by simp)
    by_cases hz : ge = 0
    · have HF := hid (HN.out hz)
      subst hz
      clear HX HN
      go_wp2_with (go_at_call 87; refine (HIt.out _).mono ?_; rintro e w4 ⟨rfl, hb2⟩; have K := hid (K.out.later hb2); clear hb2)
      go_roundw
      case rel => exact ⟨k + 1, by omega, by go_num, HF.out, K.out.subs (fun x hx => List.mem_cons_of_mem _ (List.mem_cons_of_mem _ (List.mem_cons_of_mem _ (List.mem_cons_of_mem _ (List.mem_cons_of_mem _ hx)))))⟩
      case measure => simp [intOf] <;> omega
    · obtain ⟨e1, e2⟩ := ne_bool hz
      have HR := hid (HX.out ge rfl hz)
      clear hz HX HN
      go_wp2_with (go_at_call 87; refine (HIt.out _).mono ?_; rintro e w4 ⟨rfl, hb2⟩; have K := hid (K.out.later hb2); clear hb2)
      go_ret
      exact ⟨ret_int HR.out.symm, K.out.below⟩

set_option maxHeartbeats 2000000 in
set_option maxRecDepth 100000 in
theorem cleaned_any (y x : Part) (w : World) (hy : Timed y) (hx : Timed x) :
    Calls Tryz.prog 89 #[partV y, partV x] w fun e w' => e = .returned (.int .i64 (betweenP y x)) ∧ Below w.heap.size w w' := by
  obtain ⟨a1, a2, a3, a4⟩ := hy
  obtain ⟨b1, b2, b3, b4⟩ := hx
  by_cases h : x.start < y.start
  · have HE := hid (show betweenP y x = y.start - x.stop from by unfold betweenP inTime; rw [if_pos h])
    have z1 : IntKind.i64.wrap (y.start - x.stop) = y.start - x.stop := IntWalk.i64_in _ (by omega)
    go_enter Tryz.func89, Tryz.ntmps89
    go_wp2
    go_ret
    refine ⟨ret_int HE.out.symm, ?_⟩
    repeat (first | exact Below.refl _ _ | refine Below.alloc ?_ (by simp) _ | refine Below.alloc ?_ (by simp; omega) _ | refine Below.setCell ?_ (by simp) _)
  · have HE := hid (show betweenP y x = x.start - y.stop from by unfold betweenP inTime; rw [if_neg h])
    have z1 : IntKind.i64.wrap (x.start - y.stop) = x.start - y.stop := IntWalk.i64_in _ (by omega)
    go_enter Tryz.func89, Tryz.ntmps89
    go_wp2
    go_ret
    refine ⟨ret_int HE.out.symm, ?_⟩
    repeat (first | exact Below.refl _ _ | refine Below.alloc ?_ (by simp) _ | refine Below.alloc ?_ (by simp; omega) _ | refine Below.setCell ?_ (by simp) _)
end Go.Proofs.YtoipcbmbhjajfaaGreatDoor
