/-
  WALKS: EqSpans, EqItems, EqLists, EqPlots of equal data.
-/
import Derived.Test.YtoipcbmbhjajfaaGreatDoorKeq
import Derived.Test.YtoipcbmbhjajfaaGreatDoorKpl
namespace Go.Proofs.YtoipcbmbhjajfaaGreatDoor
open Go.RowKit

set_option maxHeartbeats 4000000 in
set_option maxRecDepth 100000 in
theorem eqSpans_same (xs : List (Int × Int)) (va vb : Value) (d d' : Option Nat) (w : World) (hA : SpansAt d w va xs) (hB : SpansAt d' w vb xs) (hn : xs.length ≤ 1000000) :
    Calls Tryz.prog 38 #[va, vb] w fun e w' => e = .returned (.bool true) ∧ Below w.heap.size w w' := by
  have HA := hid hA
  have HB := hid hB
  obtain ⟨aa, ca, rfl, _⟩ := hA
  obtain ⟨ab, cb, rfl, _⟩ := hB
  obtain ⟨l1, l2⟩ := eq_bool (a := (xs.length : Int)) (b := (xs.length : Int)) rfl
  go_enter Tryz.func38, Tryz.ntmps38
  go_wp2
  go_loopw [5] (fun i wr => ∃ k : Nat, k ≤ xs.length ∧ i = .int .i64 k ∧ Below w.heap.size w wr)
    (fun i _ => xs.length - (intOf i).toNat)
  case atStart => exact ⟨0, by omega, rfl, Below.refl _ w⟩
  case round =>
    obtain ⟨k, hk, rfl, hkr⟩ := hrel
    obtain ⟨wo, rfl⟩ : ∃ wo : World, wo = wr := ⟨_, rfl⟩
    by_cases hlt : k < xs.length
    · have hc1 := SpansAt.cells (RecAt.below HA.out hkr) hlt
      have hc2 := SpansAt.cells (RecAt.below HB.out hkr) hlt
      obtain ⟨b1, o1, e, _, x0, x1⟩ := hc1
      cases e
      obtain ⟨b2, o2, e, _, y0, y1⟩ := hc2
      cases e
      have i1 : (k : Int) < (xs.length : Int) := by omega
      have z1 : IntKind.i64.wrap ((k : Int) + 1) = (k : Int) + 1 := IntWalk.i64_in _ (by omega)
      obtain ⟨z, hz⟩ : ∃ z, sp xs k = z := ⟨_, rfl⟩
      rw [hz] at x0 y0 x1 y1
      obtain ⟨e3, e4⟩ := eq_bool (a := z.1) (b := z.1) rfl
      obtain ⟨e5, e6⟩ := eq_bool (a := z.2) (b := z.2) rfl
      have Hkr := hid hkr
      clear hkr hz
      go_wp2
      go_quiet (fail)
      go_wp2
      go_roundw
      case rel => exact ⟨k + 1, by omega, by go_num, below_drewN Hkr.out _⟩
      case measure => simp [intOf] <;> omega
    · go_wp2
      go_ret
      exact ⟨rfl, hkr⟩

set_option maxHeartbeats 4000000 in
set_option maxRecDepth 100000 in
theorem eqLists_same (xs : List (List Int)) (va vb : Value) (d d' : Option Nat) (w : World) (hA : ListsAt d w va xs) (hB : ListsAt d' w vb xs) (hn : xs.length ≤ 1000000) (hr : ∀ i, i < xs.length → (lst xs i).length ≤ 1000000) :
    Calls Tryz.prog 39 #[va, vb] w fun e w' => e = .returned (.bool true) ∧ Below w.heap.size w w' := by
  have HA := hid hA
  have HB := hid hB
  have HR := hid hr
  obtain ⟨aa, ca, rfl⟩ := hA.form
  obtain ⟨ab, cb, rfl⟩ := hB.form
  clear hA hB hr
  obtain ⟨l1, l2⟩ := eq_bool (a := (xs.length : Int)) (b := (xs.length : Int)) rfl
  go_enter Tryz.func39, Tryz.ntmps39
  go_wp2
  go_loopw [5] (fun i wr => ∃ k : Nat, k ≤ xs.length ∧ i = .int .i64 k ∧ Below w.heap.size w wr)
    (fun i _ => xs.length - (intOf i).toNat)
  case atStart => exact ⟨0, by omega, rfl, Below.refl _ w⟩
  case round =>
    obtain ⟨k, hk, rfl, hkr⟩ := hrel
    obtain ⟨wo, rfl⟩ : ∃ wo : World, wo = wr := ⟨_, rfl⟩
    by_cases hlt : k < xs.length
    · have hc1 := (HA.out.below hkr).row hlt
      have hc2 := (HB.out.below hkr).row hlt
      obtain ⟨b1, o1, u1, e, _, x1, h1⟩ := hc1
      cases e
      obtain ⟨b2, o2, u2, e, _, x2, h2⟩ := hc2
      cases e
      have H1 := hid h1
      have H2 := hid h2
      obtain ⟨a1, c1, rfl, _⟩ := h1
      obtain ⟨a2, c2, rfl, _⟩ := h2
      have hrk := HR.out k hlt
      have i1 : (k : Int) < (xs.length : Int) := by omega
      have z1 : IntKind.i64.wrap ((k : Int) + 1) = (k : Int) + 1 := IntWalk.i64_in _ (by omega)
      have Hkr := hid (show Below w.heap.size w wo.drew from hkr.trans ((Below.refl wo.heap.size wo).drew.mono hkr.size))
      have H1 := hid (show IntsAt d wo.drew _ _ from H1.out.below (Below.refl _ _).drew)
      have H2 := hid (show IntsAt d' wo.drew _ _ from H2.out.below (Below.refl _ _).drew)
      have HS := hid (fun W' (hb : Below wo.heap.size wo.drew W') => (⟨cell_back hb (by assumption) x1, cell_back hb (by assumption) x2⟩ : W'.cell? ⟨b1, o1 + k, none⟩ = some (.slice a1 (lst xs k).length c1) ∧ W'.cell? ⟨b2, o2 + k, none⟩ = some (.slice a2 (lst xs k).length c2)))
      have HB0 := hid (Below.refl wo.heap.size wo.drew)
      clear hkr x1 x2
      go_upto_region 6 with fail
      go_region_held3 (fun W' => W'.cell? ⟨b1, o1 + k, none⟩ = some (.slice a1 (lst xs k).length c1) ∧ W'.cell? ⟨b2, o2 + k, none⟩ = some (.slice a2 (lst xs k).length c2))
        (first | exact HS.out _ HB0.out) (first
        | (go_at_call 20; refine (eqInts_same _ _ _ _ _ _ H1.out H2.out hrk).mono ?_; rintro e w2 ⟨rfl, hb2⟩; have HB0 := hid (HB0.out.trans hb2); have Hkr := hid (below_trans Hkr.out hb2); clear hb2))
      go_wp2_with fail
      go_roundw
      case rel => exact ⟨k + 1, by omega, by go_num, Hkr.out⟩
      case measure => simp [intOf] <;> omega
    · go_wp2
      go_ret
      exact ⟨rfl, hkr⟩


set_option maxHeartbeats 8000000 in
set_option maxRecDepth 100000 in
theorem eqPlots_same (p : Plot) (vp vw vd vq vp' vw' vd' vq' : Value) (d d' : Option Nat) (w : World) (hA : PlotAt d w vp vw vd vq p) (hB : PlotAt d' w vp' vw' vd' vq' p) (hn : PlotN p) :
    Calls Tryz.prog 14 #[plotV vp vw vd vq, plotV vp' vw' vd' vq'] w fun e w' => e = .returned (.bool true) ∧ Below w.heap.size w w' := by
  have HA := hid hA.any
  have HB := hid hB.any
  have HN := hid hn
  obtain ⟨ap, cp, rfl⟩ := hA.persons.form
  obtain ⟨aw, cw, rfl⟩ := hA.walk.form
  obtain ⟨ad, cd, ed, _⟩ := hA.dress
  subst ed
  obtain ⟨aq, cq, rfl⟩ := hA.parts.form
  obtain ⟨bp, ep, rfl⟩ := hB.persons.form
  obtain ⟨bw, ew, rfl⟩ := hB.walk.form
  obtain ⟨bd, ed, e', _⟩ := hB.dress
  subst e'
  obtain ⟨bq, eq', rfl⟩ := hB.parts.form
  have K := hid (((HK.start w).box4m (n := w.heap.size) rfl (.slice ap p.persons.length cp) (.slice aw p.walk.length cw) (.slice ad p.dress.length cd) (.slice aq p.parts.length cq) 27).box4m (n := w.heap.size + 1) (by simp) (.slice bp p.persons.length ep) (.slice bw p.walk.length ew) (.slice bd p.dress.length ed) (.slice bq p.parts.length eq') 27)
  clear hA hB hn
  obtain ⟨l1, l2⟩ := eq_bool (a := (p.parts.length : Int)) (b := (p.parts.length : Int)) rfl
  go_enter Tryz.func14, Tryz.ntmps14
  go_upto_region 3 with (first
    | (go_at_call 38; refine (eqSpans_same _ _ _ _ _ _ (HA.out.below K.out.below).persons (HB.out.below K.out.below).persons (by have := HN.out.persons; omega)).mono ?_; rintro e w2 ⟨rfl, hb2⟩; have K := hid (K.out.later hb2); have c5 := K.out.c (b := w.heap.size) (o := 1) (v := .slice aw p.walk.length cw) (by simp); have c6 := K.out.c (b := w.heap.size + 1) (o := 1) (v := .slice bw p.walk.length ew) (by simp); clear hb2)
    | (go_at_call 39; refine (eqLists_same _ _ _ _ _ _ (HA.out.below K.out.below).walk (HB.out.below K.out.below).walk (by have := HN.out.walk; omega) (fun i hi => by have := HN.out.rows i hi; omega)).mono ?_; rintro e w3 ⟨rfl, hb3⟩; have K := hid (K.out.later hb3); clear c5 c6 hb3; have c5 := K.out.c (b := w.heap.size) (o := 2) (v := .slice ad p.dress.length cd) (by simp); have c6 := K.out.c (b := w.heap.size + 1) (o := 2) (v := .slice bd p.dress.length ed) (by simp))
    | (go_at_call 20; refine (eqInts_same _ _ _ _ _ _ (HA.out.below K.out.below).dress (HB.out.below K.out.below).dress (by have := HN.out.dress; omega)).mono ?_; rintro e w4 ⟨rfl, hb4⟩; have K := hid (K.out.later hb4); clear c5 c6 hb4; have c5 := K.out.c (b := w.heap.size) (o := 3) (v := .slice aq p.parts.length cq) (by simp); have c6 := K.out.c (b := w.heap.size + 1) (o := 3) (v := .slice bq p.parts.length eq') (by simp)))
  obtain ⟨w5, hw5, K5⟩ := K.out.name
  rw [hw5]
  have K := hid K5
  clear hw5 K5 c5 c6
  have c5 := K.out.c (b := w.heap.size) (o := 3) (v := .slice aq p.parts.length cq) (by simp)
  have c6 := K.out.c (b := w.heap.size + 1) (o := 3) (v := .slice bq p.parts.length eq') (by simp)
  go_wp2_with fail
  clear c5 c6
  go_loopw [5] (fun i wr => ∃ k : Nat, k ≤ p.parts.length ∧ i = .int .i64 k ∧ Below w5.heap.size w5 wr)
    (fun i _ => p.parts.length - (intOf i).toNat)
  case atStart => exact ⟨0, by omega, rfl, Below.refl _ _⟩
  case round =>
    obtain ⟨k, hk, rfl, hkr⟩ := hrel
    obtain ⟨wo, rfl⟩ : ∃ wo : World, wo = wr := ⟨_, rfl⟩
    have K := hid (K.out.later hkr)
    have Hkr := hid hkr
    clear hkr
    have c5 := K.out.c (b := w.heap.size) (o := 3) (v := .slice aq p.parts.length cq) (by simp)
    have c6 := K.out.c (b := w.heap.size + 1) (o := 3) (v := .slice bq p.parts.length eq') (by simp)
    by_cases hlt : k < p.parts.length
    · have hc1 := PartsAt.cells (HA.out.below K.out.below).parts hlt
      have hc2 := PartsAt.cells (HB.out.below K.out.below).parts hlt
      obtain ⟨b1, o1, e, _, x0, x1, x2, x3, x4⟩ := hc1
      cases e
      obtain ⟨b2, o2, e, _, y0, y1, y2, y3, y4⟩ := hc2
      cases e
      have hnp := HN.out.parts
      have i1 : (k : Int) < (p.parts.length : Int) := by omega
      have z1 : IntKind.i64.wrap ((k : Int) + 1) = (k : Int) + 1 := IntWalk.i64_in _ (by omega)
      clear hnp
      obtain ⟨z, hz⟩ : ∃ z, pt p.parts k = z := ⟨_, rfl⟩
      rw [hz] at x0 x1 x2 x3 x4 y0 y1 y2 y3 y4
      obtain ⟨e3, e4⟩ := eq_bool (a := z.person) (b := z.person) rfl
      obtain ⟨e5, e6⟩ := eq_bool (a := z.place) (b := z.place) rfl
      obtain ⟨e7, e8⟩ := eq_bool (a := z.kind) (b := z.kind) rfl
      obtain ⟨e9, e10⟩ := eq_bool (a := z.start) (b := z.start) rfl
      obtain ⟨e11, e12⟩ := eq_bool (a := z.stop) (b := z.stop) rfl
      clear hz l1 l2
      go_wp2
      go_quiet (fail)
      go_wp2
      go_roundw
      case rel => exact ⟨k + 1, by omega, by go_num, below_drewN Hkr.out _⟩
      case measure => simp [intOf] <;> omega
    · go_wp2
      go_ret
      exact ⟨rfl, K.out.below⟩
end Go.Proofs.YtoipcbmbhjajfaaGreatDoor
