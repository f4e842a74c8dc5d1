/-
  WALK: CostumePlaces: whatever the numbers are, it returns true.
-/
import Derived.Test.YtdcinngdilfpnaaLwk
import Derived.Test.YtdcinngdilfpnaaCqp
import Derived.Deep.CutRange
namespace Go.Proofs.Ytdcinngdilfpnaa
open Go.RowKit

/-- a part in a box -/
def Box5 (P : Nat) (x : Part) (w : World) : Prop := w.cell? ⟨P, 0, none⟩ = some (.int .i64 x.person) ∧ w.cell? ⟨P, 1, none⟩ = some (.int .i64 x.place) ∧ w.cell? ⟨P, 2, none⟩ = some (.int .i64 x.kind) ∧ w.cell? ⟨P, 3, none⟩ = some (.int .i64 x.start) ∧ w.cell? ⟨P, 4, none⟩ = some (.int .i64 x.stop)

set_option maxHeartbeats 8000000 in
set_option maxRecDepth 100000 in
theorem cplaces_any (xs : List Int) (v : Value) (w : World) (hX : IntsAt none w v xs) (hn : xs.length ≤ 9223372036854775807) :
    Calls Try.prog 5 #[v] w fun e w' => e = .returned (.bool true) ∧ Below w.heap.size w w' := by
  have HX := hid hX
  obtain ⟨a, c, rfl, _⟩ := hX
  go_enter Try.func5, Try.ntmps5
  go_upto_region 3 with (first
    | (go_at_call 13; refine (drumOf_any xs _ _ HX.out hn).mono ?_; rintro e w1 ⟨rfl, hbt, hbl⟩; have HBt := hid hbt; have HBl := hid hbl; clear hbt hbl)
    | (go_at_call 14; refine (plotOf_any w.heap.size 4 10 _ HBt.out (by omega) (by omega) (by omega) (by omega)).mono ?_; rintro e w2 ⟨vp, vw, vd, vq, p, rfl, hv, hpl, hql, hP, _, hbt, hg⟩; obtain ⟨ap, cp, rfl⟩ := hP.persons.form; obtain ⟨aw, cw, rfl⟩ := hP.walk.form; obtain ⟨ad, cd, ed, _⟩ := hP.dress; subst ed; obtain ⟨aq, cq, rfl⟩ := hP.parts.form; have HV := hid hv; have LF0 := hid (LF.start hbt hP (HBl.out.grown hg HBl.out.size (fun g e => by cases e; exact Nat.le_refl _)) (Nat.le_refl _) 29); clear hv hP hbt hg))
  obtain ⟨w3, hw3, L3⟩ := LF0.out.name
  rw [hw3]
  obtain ⟨X, hXs⟩ : ∃ X, w2.heap.size = X := ⟨_, rfl⟩
  rw [hXs] at L3 ⊢
  have L := hid L3
  have AW := hid (fun W' => awake_any W')
  have Vd := hid (plotErr_zero.1 HV.out)
  clear hw3 L3 LF0 HBt HBl HX hXs hn
  have y0 := L.out.c0
  go_upto_region 4 with (go_at_call 16; (with_reducible refine (roll_any w.heap.size (p.persons.length : Int) _ L.out.beat (by omega)).mono ?_); rintro e w5 ⟨r1, rfl, r10, r11, hbt, hg⟩; have L := hid (L.out.go hbt hg); clear hbt hg y0)
  have hpo := Vd.out.persons.1
  have hin : inB r1 0 ((p.persons.length : Int) - 1) = true := inB_true.2 ⟨by omega, by omega⟩
  have hpe : personE p r1 = 0 := by unfold personE; rw [if_pos HV.out, hin]; rfl
  have hdr : dayRes p r1 = dayL p r1 := by unfold dayRes; rw [if_pos hpe]
  have HDa := hid (fun vp vw vd vq W' (h : PlotAt none W' vp vw vd vq p) => by have := day_any p r1 vp vw vd vq W' h; rw [hpe, hdr] at this; exact this)
  have HAt := hid (fun (m : Int) vp vw vd vq W' (h : PlotAt none W' vp vw vd vq p) (hm : inB m 0 1440 = true) => at_fine p r1 m vp vw vd vq W' h HV.out hin hm)
  have HOne := hid (fun m => one_last (hit_one Vd.out r1 m))
  have HCnt := hid (dayL_count p r1)
  clear hin hpe hdr hpo r11
  go_wp2_with fail
  go_loopw [6] (fun t wr => ∃ k : Nat, k ≤ 160 ∧ t = .int .i64 k ∧ LF w.heap.size X p (.slice ap p.persons.length cp) (.slice aw p.walk.length cw) (.slice ad p.dress.length cd) (.slice aq p.parts.length cq) w wr) (fun t _ => 160 - (intOf t).toNat)
  case atStart => exact ⟨0, by omega, rfl, L.out⟩
  case round =>
    obtain ⟨k, hk, rfl, hL⟩ := hrel
    obtain ⟨wo, rfl⟩ : ∃ wo : World, wo = wr := ⟨_, rfl⟩
    have L := hid hL
    clear hL
    by_cases hlt : k < 160
    rotate_left
    · obtain rfl : k = 160 := by omega
      have y0 := L.out.c0
      have y1 := L.out.c1
      have y2 := L.out.c2
      have y3 := L.out.c3
      go_wp2_with (go_at_call 22; refine (HDa.out _ _ _ _ _ L.out.any).mono ?_; rintro e w7 ⟨v7, rfl, ho, hb7⟩; obtain ⟨a7, c7, rfl⟩ := (own_int.2 ho).form; have HO := hid (OwnInts.at (d := none) ho (by simp)); have L := hid (L.out.later hb7); clear ho hb7 y0 y1 y2 y3; have y3 := L.out.c3)
      go_loopw [15, 16] (fun n i wr => ∃ q : Nat, q ≤ p.parts.length ∧ n = .int .i64 (cnt (fun i => decide ((pt p.parts i).person = r1)) q) ∧ i = .int .i64 q ∧ wr = w7) (fun _ i _ => p.parts.length - (intOf i).toNat)
      case atStart => exact ⟨0, by omega, rfl, rfl, rfl⟩
      case round =>
        obtain ⟨q, hq, rfl, rfl, rfl⟩ := hrel
        obtain ⟨wi, rfl⟩ : ∃ wi : World, wi = wr := ⟨_, rfl⟩
        have hbd := cnt_nonneg (fun i => decide ((pt p.parts i).person = r1)) q
        by_cases hltq : q < p.parts.length
        · have hcc := PartsAt.cells L.out.any.parts hltq
          obtain ⟨bq, oq, e, hbq, d0, d1, d2, d3, d4⟩ := hcc
          cases e
          have i1 : (q : Int) < (p.parts.length : Int) := by omega
          have z1 : IntKind.i64.wrap ((q : Int) + 1) = (q : Int) + 1 := IntWalk.i64_in _ (by omega)
          have z2 : IntKind.i64.wrap (cnt (fun i => decide ((pt p.parts i).person = r1)) q + 1) = cnt (fun i => decide ((pt p.parts i).person = r1)) q + 1 := IntWalk.i64_in _ (by omega)
          have hs1 := hid (show cnt (fun i => decide ((pt p.parts i).person = r1)) (q + 1) = if decide ((pt p.parts q).person = r1) = true then cnt (fun i => decide ((pt p.parts i).person = r1)) q + 1 else cnt (fun i => decide ((pt p.parts i).person = r1)) q from rfl)
          obtain ⟨x, hx⟩ : ∃ x, pt p.parts q = x := ⟨_, rfl⟩
          rw [hx] at d0 d1 d2 d3 d4 hs1
          clear hx
          by_cases h1 : x.person = r1
          · obtain ⟨e1, e2⟩ := eq_bool h1
            have S1 := hid (hs1.out.trans (if_pos (decide_eq_true h1)))
            clear hs1 h1
            go_wp2_with fail
            go_roundw
            case rel => exact ⟨q + 1, by omega, by rw [S1.out], by go_num, (by trivial)⟩
            case measure => simp [intOf] <;> omega
          · obtain ⟨e1, e2⟩ := ne_bool h1
            have S1 := hid (hs1.out.trans (if_neg (fun h => h1 (of_decide_eq_true h))))
            clear hs1 h1
            go_wp2_with fail
            go_roundw
            case rel => exact ⟨q + 1, by omega, by rw [S1.out], by go_num, (by trivial)⟩
            case measure => simp [intOf] <;> omega
        · obtain rfl : q = p.parts.length := by omega
          have hc := HCnt.out
          rw [← hc]
          clear hc hbd
          obtain ⟨wl, rfl⟩ : ∃ wl : World, wl = wi := ⟨_, rfl⟩
          have HDm := hid (fun (i : Nat) (hi : i < (dayL p r1).length) => (dayL_mem p r1 (nm (dayL p r1) i)).1 (by rw [nm_get hi]; exact List.getElem_mem _))
          have HDa2 := hid (fun (i j : Nat) (hij : i < j) (hj : j < (dayL p r1).length) => day_apart (p := p) Vd.out (n := r1) hij hj)
          have hdl : (dayL p r1).length ≤ 30 := by
            have h1 := HCnt.out
            have h2 := cnt_nonneg (fun i => decide ((pt p.parts i).person = r1)) p.parts.length
            have h3 := Vd.out.few
            omega
          obtain ⟨dl, hdl0⟩ : ∃ dl, dayL p r1 = dl := ⟨_, rfl⟩
          rw [hdl0] at HO HDm HDa2 hdl ⊢
          clear hdl0 HCnt HOne HAt HDa
          go_wp2_with fail
          go_loopw [17] (fun i wr => ∃ q : Nat, q ≤ dl.length ∧ i = .int .i64 q ∧ LF w.heap.size X p (.slice ap p.persons.length cp) (.slice aw p.walk.length cw) (.slice ad p.dress.length cd) (.slice aq p.parts.length cq) w wr ∧ Below wl.heap.size wl wr) (fun i _ => dl.length - (intOf i).toNat)
          case atStart => exact ⟨0, by omega, rfl, L.out, Below.refl _ _⟩
          case round =>
            obtain ⟨j, hj, rfl, hL, hBl⟩ := hrel
            have L := hid hL
            have HO := hid (HO.out.below hBl)
            have HBl := hid hBl
            clear hL hBl
            obtain ⟨wj, rfl⟩ : ∃ wj : World, wj = wr := ⟨_, rfl⟩
            by_cases hltj : j < dl.length
            rotate_left
            · obtain rfl : j = dl.length := by omega
              go_wp2_with (go_at_call 19; refine (AW.out _).mono ?_; rintro e w8 ⟨rfl, hb8⟩; have L := hid (L.out.later hb8); clear hb8)
              go_ret
              exact ⟨rfl, L.out.below⟩
            have i1 : (j : Int) < (dl.length : Int) := by omega
            have z1 : IntKind.i64.wrap ((j : Int) + 1) = (j : Int) + 1 := IntWalk.i64_in _ (by omega)
            obtain ⟨⟨m1, m2⟩, m3⟩ := HDm.out j hltj
            obtain ⟨b7, o7, c8, e, _, _⟩ := HO.out.slice (by omega)
            cases e
            have hc1 := IntsAt.cell HO.out hltj
            obtain ⟨t, ht⟩ := Int.eq_ofNat_of_zero_le m1
            have htl : t < p.parts.length := by omega
            rw [ht] at hc1 m3
            rw [Int.toNat_natCast] at m3
            have hcc := PartsAt.cells L.out.any.parts htl
            obtain ⟨bq, oq, e, hbq, d0, d1, d2, d3, d4⟩ := hcc
            cases e
            obtain ⟨y, hy⟩ : ∃ y, pt p.parts t = y := ⟨_, rfl⟩
            rw [hy] at d0 d1 d2 d3 d4 m3
            have i2 : (t : Int) < (p.parts.length : Int) := by omega
            have n0 : ¬ (t : Int) < 0 := by omega
            have n1 : ¬ (t : Int) ≥ (p.parts.length : Int) := by omega
            obtain ⟨e1, e2⟩ := eq_bool m3
            have y3 := L.out.c3
            have HT := hid ht
            have HY := hid hy
            clear ht hy m1 m2 m3
            by_cases hj0 : j = 0
            · obtain ⟨e3, e4⟩ := eq_bool (a := (j : Int)) (b := 0) (by omega)
              clear hj0
              go_upto_region 29 with fail
              go_quiet (fail)
              go_wp2_with fail
              go_roundw
              case rel => exact ⟨j + 1, by omega, by go_num, L.out.later (below_drewN (Below.refl _ _) nq), HBl.out.trans ((below_drewN (Below.refl _ _) nq).mono HBl.out.size)⟩
              case measure => simp [intOf] <;> omega
            obtain ⟨e3, e4⟩ := ne_bool (a := (j : Int)) (b := 0) (by omega)
            obtain ⟨i, hij⟩ : ∃ i, i + 1 = j := ⟨j - 1, by omega⟩
            go_upto_region 29 with fail
            go_quiet (fail)
            obtain ⟨wz, hwz, LZ⟩ := (L.out.later (below_drewN (Below.refl _ _) nq)).name
            have HBz := hid (show Below wl.heap.size wl wz from by rw [← hwz]; exact HBl.out.trans ((below_drewN (Below.refl _ _) nq).mono HBl.out.size))
            have HOz := hid (show IntsAt none wz (.slice (some ⟨b7, o7, none⟩) dl.length c7) dl from by rw [← hwz]; exact HO.out.below (below_drewN (Below.refl _ _) nq))
            rw [hwz]
            clear hwz hj0 y3 d0 d1 d2 d3 d4 hc1 e1 e2
            have L := hid LZ
            clear LZ
            obtain ⟨⟨m1, m2⟩, m3⟩ := HDm.out i (by omega)
            obtain ⟨t', ht'⟩ := Int.eq_ofNat_of_zero_le m1
            have htl' : t' < p.parts.length := by omega
            have hap := HDa2.out i j (by omega) hltj
            rw [HT.out, ht', Int.toNat_natCast, Int.toNat_natCast, HY.out] at hap
            have hc1 := IntsAt.cell HOz.out hltj
            have hc2 := IntsAt.cell HOz.out (i := i) (by omega)
            rw [HT.out] at hc1
            rw [ht'] at hc2
            have hcc := PartsAt.cells L.out.any.parts htl
            obtain ⟨bq', oq', e, hbq', d0, d1, d2, d3, d4⟩ := hcc
            cases e
            have hcc := PartsAt.cells L.out.any.parts htl'
            obtain ⟨bq', oq', e, hbq', f0, f1, f2, f3, f4⟩ := hcc
            cases e
            rw [HY.out] at d0 d1 d2 d3 d4
            obtain ⟨y', hy'⟩ : ∃ y', pt p.parts t' = y' := ⟨_, rfl⟩
            rw [hy'] at f0 f1 f2 f3 f4 hap
            have HAp := hid hap
            have hpl1 := alone_placed (Vd.out.parts t htl)
            have hpl2 := alone_placed (Vd.out.parts t' htl')
            rw [HY.out] at hpl1
            rw [hy'] at hpl2
            have htm1 := alone_timed (Vd.out.parts t htl)
            have htm2 := alone_timed (Vd.out.parts t' htl')
            rw [HY.out] at htm1
            rw [hy'] at htm2
            have HTm1 := hid htm1
            have HTm2 := hid htm2
            clear htm1 htm2
            have HPl1 := hid hpl1
            have HPl2 := hid hpl2
            have i3 : (i : Int) < (dl.length : Int) := by omega
            have i4 : (t' : Int) < (p.parts.length : Int) := by omega
            have z3 : IntKind.i64.wrap ((j : Int) - 1) = (i : Int) := (IntWalk.i64_in _ (by omega)).trans (by omega)
            have y3 := L.out.c3
            have HS := hid (fun W' (hb : Below wz.heap.size wz W') => (⟨cell_now hb y3, cell_now hb hc1, cell_now hb hc2, cell_now hb d0, cell_now hb d1, cell_now hb d2, cell_now hb d3, cell_now hb d4, cell_now hb f0, cell_now hb f1, cell_now hb f2, cell_now hb f3, cell_now hb f4⟩ :
              W'.cell? ⟨X, 3, none⟩ = some (.slice (some ⟨bq, oq, none⟩) p.parts.length cq) ∧ W'.cell? ⟨b7, o7 + j, none⟩ = some (.int .i64 t) ∧ W'.cell? ⟨b7, o7 + i, none⟩ = some (.int .i64 t') ∧
              W'.cell? ⟨bq, oq + t * 5, none⟩ = some (.int .i64 y.person) ∧ W'.cell? ⟨bq, oq + t * 5 + 1, none⟩ = some (.int .i64 y.place) ∧ W'.cell? ⟨bq, oq + t * 5 + 2, none⟩ = some (.int .i64 y.kind) ∧ W'.cell? ⟨bq, oq + t * 5 + 3, none⟩ = some (.int .i64 y.start) ∧ W'.cell? ⟨bq, oq + t * 5 + 4, none⟩ = some (.int .i64 y.stop) ∧
              W'.cell? ⟨bq, oq + t' * 5, none⟩ = some (.int .i64 y'.person) ∧ W'.cell? ⟨bq, oq + t' * 5 + 1, none⟩ = some (.int .i64 y'.place) ∧ W'.cell? ⟨bq, oq + t' * 5 + 2, none⟩ = some (.int .i64 y'.kind) ∧ W'.cell? ⟨bq, oq + t' * 5 + 3, none⟩ = some (.int .i64 y'.start) ∧ W'.cell? ⟨bq, oq + t' * 5 + 4, none⟩ = some (.int .i64 y'.stop)))
            clear hap hpl1 hpl2 hy' ht' m1 m2 m3 y3 hc1 hc2 d0 d1 d2 d3 d4 f0 f1 f2 f3 f4
            go_upto_region 32 with fail
            go_cut [18, 19] from 108 to 197 (fun s18 s19 wx => ∃ P Q, s18 = .pointer (some ⟨P, 0, none⟩) ∧ s19 = .pointer (some ⟨Q, 0, none⟩) ∧ Box5 P y' wx ∧ Box5 Q y wx ∧ Below wz.heap.size wz wx)
            case first =>
              go_region_held3 (fun W' => W'.cell? ⟨X, 3, none⟩ = some (.slice (some ⟨bq, oq, none⟩) p.parts.length cq) ∧ W'.cell? ⟨b7, o7 + j, none⟩ = some (.int .i64 t) ∧ W'.cell? ⟨b7, o7 + i, none⟩ = some (.int .i64 t') ∧
              W'.cell? ⟨bq, oq + t * 5, none⟩ = some (.int .i64 y.person) ∧ W'.cell? ⟨bq, oq + t * 5 + 1, none⟩ = some (.int .i64 y.place) ∧ W'.cell? ⟨bq, oq + t * 5 + 2, none⟩ = some (.int .i64 y.kind) ∧ W'.cell? ⟨bq, oq + t * 5 + 3, none⟩ = some (.int .i64 y.start) ∧ W'.cell? ⟨bq, oq + t * 5 + 4, none⟩ = some (.int .i64 y.stop) ∧
              W'.cell? ⟨bq, oq + t' * 5, none⟩ = some (.int .i64 y'.person) ∧ W'.cell? ⟨bq, oq + t' * 5 + 1, none⟩ = some (.int .i64 y'.place) ∧ W'.cell? ⟨bq, oq + t' * 5 + 2, none⟩ = some (.int .i64 y'.kind) ∧ W'.cell? ⟨bq, oq + t' * 5 + 3, none⟩ = some (.int .i64 y'.start) ∧ W'.cell? ⟨bq, oq + t' * 5 + 4, none⟩ = some (.int .i64 y'.stop))
                ((refine HS.out _ ?_; repeat (first | exact Below.refl _ _ | refine Below.drew ?_ | refine Below.alloc ?_ (by simp [World.setCell]) _ | refine Below.alloc ?_ (by simp [World.setCell]; omega) _ | refine Below.setCell ?_ (by simp) _ | refine Below.setCell ?_ (by simp; omega) _))) (fail)
              all_goals (
                go_wp2_with fail
                go_meet
                first
                | exact ⟨_, _, rfl, rfl, ⟨cell_up (cell_at rfl rfl), cell_up (cell_at rfl rfl), cell_up (cell_at rfl rfl), cell_up (cell_at rfl rfl), cell_up (cell_at rfl rfl)⟩, ⟨cell_at (by simp) rfl, cell_at (by simp) rfl, cell_at (by simp) rfl, cell_at (by simp) rfl, cell_at (by simp) rfl⟩, (below_trans (below_alloc _ _) (below_alloc _ _)).drew⟩
                | exact ⟨_, _, rfl, rfl, ⟨cell_at (by simp) rfl, cell_at (by simp) rfl, cell_at (by simp) rfl, cell_at (by simp) rfl, cell_at (by simp) rfl⟩, ⟨cell_up (cell_at rfl rfl), cell_up (cell_at rfl rfl), cell_up (cell_at rfl rfl), cell_up (cell_at rfl rfl), cell_up (cell_at rfl rfl)⟩, (below_trans (below_alloc _ _) (below_alloc _ _)).drew⟩)
            case rest =>
              obtain ⟨P, Q, rfl, rfl, ⟨p0, p1, p2, p3, p4⟩, ⟨q0, q1, q2, q3, q4⟩, hbz⟩ := hcut
              have L := hid (L.out.later hbz)
              have HBz := hid (HBz.out.trans (hbz.mono HBz.out.size))
              clear hbz HS
              have HBP := hid (fun W' (hb : Below wc.heap.size wc W') => (⟨cell_now hb p0, cell_now hb p1, cell_now hb p2, cell_now hb p3, cell_now hb p4⟩ : Box5 P y' W'))
              have HBQ := hid (fun W' (hb : Below wc.heap.size wc W') => (⟨cell_now hb q0, cell_now hb q1, cell_now hb q2, cell_now hb q3, cell_now hb q4⟩ : Box5 Q y W'))
              obtain ⟨pa, hpa⟩ : ∃ pa : Nat, y'.place = (pa : Int) := ⟨y'.place.toNat, by have := HPl2.out.1; omega⟩
              obtain ⟨pb, hpb⟩ : ∃ pb : Nat, y.place = (pb : Int) := ⟨y.place.toNat, by have := HPl1.out.1; omega⟩
              obtain ⟨kb, hkb⟩ : ∃ kb : Nat, y.kind = (kb : Int) := ⟨y.kind.toNat, by have := HPl1.out.2; omega⟩
              have hpal : pa < p.walk.length := by have := HPl2.out.1; omega
              have hpbl : pb < p.walk.length := by have := HPl1.out.1; omega
              have hkbl : kb < p.dress.length := by have := HPl1.out.2; omega
              have hap := HAp.out
              unfold Apart2 needP at hap
              rw [hpa, hpb, hkb, Int.toNat_natCast, Int.toNat_natCast, Int.toNat_natCast] at hap
              obtain ⟨hrl, hrb⟩ := rowE_zero (Vd.out.rows pa hpal)
              have hN1 := hrb pb hpbl
              have hN2 := Vd.out.dresses kb hkbl
              have hrw := ListsAt.row L.out.any.walk hpal
              obtain ⟨bw, ow, u, e, hbw, cu, hu⟩ := hrw
              cases e
              obtain ⟨br, orr, cr, e, _, _⟩ := hu.slice (by omega)
              subst e
              have hcw := IntsAt.cell hu (i := pb) (by omega)
              rw [hrl] at cu
              obtain ⟨bd, od, cdd, e, _, _⟩ := L.out.any.dress.slice (by omega)
              cases e
              have hcd := IntsAt.cell L.out.any.dress hkbl
              obtain ⟨N1, hN1e⟩ : ∃ N1, nm (lst p.walk pa) pb = N1 := ⟨_, rfl⟩
              obtain ⟨N2, hN2e⟩ : ∃ N2, nm p.dress kb = N2 := ⟨_, rfl⟩
              rw [hN1e] at hap hN1 hcw
              rw [hN2e] at hap hN2 hcd
              have HCd := hid (fun W' (hb : Below wc.heap.size wc W') => cell_now hb hcd)
              rw [hpa] at p1
              rw [hpb] at q1
              have j1 : (pa : Int) < (p.walk.length : Int) := by omega
              have j2 : (pb : Int) < (p.walk.length : Int) := by omega
              have y1 := L.out.c1
              have HAp2 := hid hap
              clear hap hN1e hN2e hcd hrl hrb hu
              go_upto_region 33 with fail
              go_quiet (fail)
              obtain ⟨wv, hwv, LV⟩ := (L.out.later (below_drewN (Below.refl _ _) nq)).name
              obtain ⟨p0', p1', p2', p3', p4'⟩ := HBP.out _ (below_drewN (Below.refl _ _) nq)
              obtain ⟨q0', q1', q2', q3', q4'⟩ := HBQ.out _ (below_drewN (Below.refl _ _) nq)
              have hcd' := HCd.out _ (below_drewN (Below.refl _ _) nq)
              have HBv := hid (show Below wl.heap.size wl wv from by rw [← hwv]; exact HBz.out.trans ((below_drewN (Below.refl _ _) nq).mono HBz.out.size))
              rw [hwv] at p0' p1' p2' p3' p4' q0' q1' q2' q3' q4' hcd' ⊢
              clear hwv p0 p1 p2 p3 p4 q0 q1 q2 q3 q4 y1 cu hcw p0' p1' q0' q1'
              have L := hid LV
              clear LV
              have y2 := L.out.c2
              have ht1 := HTm1.out
              have ht2 := HTm2.out
              unfold Timed at ht1 ht2
              have z5 : IntKind.i64.wrap (y.start - y'.stop) = y.start - y'.stop := IntWalk.i64_in _ (by omega)
              have z6 : IntKind.i64.wrap (N1 + N2) = N1 + N2 := IntWalk.i64_in _ (by omega)
              have j3 : (kb : Int) < (p.dress.length : Int) := by omega
              have hap := HAp2.out
              by_cases hkk : y'.kind = y.kind
              · rw [hkb] at hkk
                rw [hkk, if_pos rfl] at hap
                rw [hkk] at p2'
                rw [hkb] at q2'
                have n3 : ¬ y.start - y'.stop < N1 := by omega
                have n4 : ¬ y.start ≤ y'.start := by omega
                obtain ⟨e5, e6⟩ := eq_bool (a := (kb : Int)) (b := (kb : Int)) rfl
                clear hkk hap ht1 ht2 hkb hpa hpb
                go_wp2_with fail
                go_roundw
                case rel => exact ⟨j + 1, by omega, by go_num, L.out, HBv.out⟩
                case measure => simp [intOf] <;> omega
              · rw [hkb] at hkk
                rw [if_neg hkk] at hap
                rw [hkb] at q2'
                have n3 : ¬ y.start - y'.stop < N1 + N2 := by omega
                have n4 : ¬ y.start ≤ y'.start := by omega
                obtain ⟨e5, e6⟩ := ne_bool hkk
                clear hkk hap ht1 ht2 hkb hpa hpb
                go_wp2_with fail
                go_roundw
                case rel => exact ⟨j + 1, by omega, by go_num, L.out, HBv.out⟩
                case measure => simp [intOf] <;> omega
    have i0 : (k : Int) < 160 := by omega
    have z0 : IntKind.i64.wrap ((k : Int) + 1) = (k : Int) + 1 := IntWalk.i64_in _ (by omega)
    obtain ⟨o1, o2, o3, _⟩ := HOne.out (k : Int)
    have O1 := hid o1
    have O2 := hid o2
    have O3 := hid o3
    clear o1 o2 o3
    have y3 := L.out.c3
    go_wp2_with fail
    clear y3
    go_loopw [7, 8, 9] (fun o n i wr => ∃ q : Nat, q ≤ p.parts.length ∧ o = .int .i64 (lastAt (fun i => hitP r1 k (pt p.parts i)) q) ∧ n = .int .i64 (cnt (fun i => hitP r1 k (pt p.parts i)) q) ∧ i = .int .i64 q ∧ LF w.heap.size X p (.slice ap p.persons.length cp) (.slice aw p.walk.length cw) (.slice ad p.dress.length cd) (.slice aq p.parts.length cq) w wr) (fun _ _ i _ => p.parts.length - (intOf i).toNat)
    case atStart => exact ⟨0, by omega, rfl, rfl, rfl, L.out⟩
    case round =>
      obtain ⟨q, hq, rfl, rfl, rfl, hL⟩ := hrel
      obtain ⟨wi, rfl⟩ : ∃ wi : World, wi = wr := ⟨_, rfl⟩
      have L := hid hL
      clear hL
      have hbd := cnt_nonneg (fun i => hitP r1 k (pt p.parts i)) q
      by_cases hltq : q < p.parts.length
      rotate_left
      · obtain rfl : q = p.parts.length := by omega
        have HAk := hid (fun vp vw vd vq W' h => HAt.out (k : Int) vp vw vd vq W' h (inB_true.2 ⟨by omega, by omega⟩))
        have h1 := O1.out
        have h3 := O3.out
        rw [h1]
        obtain ⟨F1, hF1⟩ : ∃ F1, firstAt (fun i => hitP r1 k (pt p.parts i)) p.parts.length = F1 := ⟨_, rfl⟩
        obtain ⟨C1, hC1⟩ : ∃ C1, cnt (fun i => hitP r1 k (pt p.parts i)) p.parts.length = C1 := ⟨_, rfl⟩
        rw [hF1] at HAk ⊢
        rw [hC1] at h3 hbd ⊢
        have n1 : ¬ C1 > 1 := by omega
        clear h1 hF1 hC1
        have y0 := L.out.c0
        have y1 := L.out.c1
        have y2 := L.out.c2
        have y3 := L.out.c3
        go_wp2_with (go_at_call 24; refine (HAk.out _ _ _ _ _ L.out.any).mono ?_; rintro e w6 ⟨rfl, hb6⟩; have L := hid (L.out.later hb6); clear hb6 y0 y1 y2 y3)
        go_roundw
        case rel => exact ⟨k + 1, by omega, by go_num, L.out⟩
        case measure => simp [intOf] <;> omega
      have hcc := PartsAt.cells L.out.any.parts hltq
      obtain ⟨bq, oq, e, hbq, d0, d1, d2, d3, d4⟩ := hcc
      cases e
      have i1 : (q : Int) < (p.parts.length : Int) := by omega
      have z1 : IntKind.i64.wrap ((q : Int) + 1) = (q : Int) + 1 := IntWalk.i64_in _ (by omega)
      have z2 : IntKind.i64.wrap (cnt (fun i => hitP r1 k (pt p.parts i)) q + 1) = cnt (fun i => hitP r1 k (pt p.parts i)) q + 1 := IntWalk.i64_in _ (by omega)
      have hs1 := hid (show lastAt (fun i => hitP r1 k (pt p.parts i)) (q + 1) = if hitP r1 k (pt p.parts q) = true then (q : Int) else lastAt (fun i => hitP r1 k (pt p.parts i)) q from rfl)
      have hs2 := hid (show cnt (fun i => hitP r1 k (pt p.parts i)) (q + 1) = if hitP r1 k (pt p.parts q) = true then cnt (fun i => hitP r1 k (pt p.parts i)) q + 1 else cnt (fun i => hitP r1 k (pt p.parts i)) q from rfl)
      obtain ⟨x, hx⟩ : ∃ x, pt p.parts q = x := ⟨_, rfl⟩
      rw [hx] at d0 d1 d2 d3 d4 hs1 hs2
      have L' := hid (L.out.later (below_alloc wi (.cells #[.int .i64 x.person, .int .i64 x.place, .int .i64 x.kind, .int .i64 x.start, .int .i64 x.stop] 38)))
      have y3 := L.out.c3
      clear hx
      have hhit : ∀ b1 b2 : Bool, (x.person = r1 ↔ b1 = true) → (onP x (k : Int) = b2) → hitP r1 k x = (b1 && b2) := fun b1 b2 h1 h2 => by
        unfold hitP
        rw [h2]
        congr 1
        by_cases e : x.person = r1
        · rw [decide_eq_true e, h1.1 e]
        · rw [decide_eq_false e]; cases b1 with
          | false => rfl
          | true => exact absurd (h1.2 rfl) e
      by_cases h1 : x.person = r1
      · obtain ⟨e1, e2⟩ := eq_bool h1
        by_cases h2 : x.start ≤ (k : Int)
        · by_cases h3 : (k : Int) < x.stop
          · have hh := hhit true true ⟨fun _ => rfl, fun _ => h1⟩ (inB_true.2 ⟨h2, by omega⟩)
            have S1 := hid (hs1.out.trans (if_pos (hh.trans rfl)))
            have S2 := hid (hs2.out.trans (if_pos (hh.trans rfl)))
            clear hs1 hs2 h1 hh hhit
            go_wp2_with fail
            go_roundw
            case rel => exact ⟨q + 1, by omega, by rw [S1.out], by rw [S2.out], by go_num, L'.out⟩
            case measure => simp [intOf] <;> omega
          · have hh := hhit true false ⟨fun _ => rfl, fun _ => h1⟩ (inB_false.2 (by omega))
            have S1 := hid (hs1.out.trans (if_neg (by rw [hh]; decide)))
            have S2 := hid (hs2.out.trans (if_neg (by rw [hh]; decide)))
            clear hs1 hs2 h1 hh hhit
            go_wp2_with fail
            go_roundw
            case rel => exact ⟨q + 1, by omega, by rw [S1.out], by rw [S2.out], by go_num, L'.out⟩
            case measure => simp [intOf] <;> omega
        · have hh := hhit true false ⟨fun _ => rfl, fun _ => h1⟩ (inB_false.2 (by omega))
          have S1 := hid (hs1.out.trans (if_neg (by rw [hh]; decide)))
          have S2 := hid (hs2.out.trans (if_neg (by rw [hh]; decide)))
          clear hs1 hs2 h1 hh hhit
          go_wp2_with fail
          go_roundw
          case rel => exact ⟨q + 1, by omega, by rw [S1.out], by rw [S2.out], by go_num, L'.out⟩
          case measure => simp [intOf] <;> omega
      · obtain ⟨e1, e2⟩ := ne_bool h1
        have hh : hitP r1 k x = false := by unfold hitP; rw [decide_eq_false h1]; rfl
        have S1 := hid (hs1.out.trans (if_neg (by rw [hh]; decide)))
        have S2 := hid (hs2.out.trans (if_neg (by rw [hh]; decide)))
        clear hs1 hs2 h1 hh hhit
        go_wp2_with fail
        go_roundw
        case rel => exact ⟨q + 1, by omega, by rw [S1.out], by rw [S2.out], by go_num, L'.out⟩
        case measure => simp [intOf] <;> omega
end Go.Proofs.Ytdcinngdilfpnaa
