/-
  WALK: CostumeOrder: whatever the numbers are, it returns true.
-/
import Derived.Test.YtdcinngdilfpnaaLwk
import Derived.Test.YtdcinngdilfpnaaKor
import Derived.Test.YtdcinngdilfpnaaKos
import Derived.Deep.CutRange
import Derived.StillTailTactics
namespace Go.Proofs.Ytdcinngdilfpnaa
open Go.RowKit

def setQ (p : Plot) (l : List Int) (k : Nat) : Plot := { p with parts := setN p.parts l k }
/-- the plot, a copy of it with other parts, in a box, and an order -/
structure LQ (D X Z base : Nat) (p pq : Plot) (vp vw vd vq vp' vw' vd' vq' vo : Value) (l : List Int) (w0 w : World) : Prop where
  lf : LF D X p vp vw vd vq w0 w
  z0 : w.cell? ⟨Z, 0, none⟩ = some vp'
  z1 : w.cell? ⟨Z, 1, none⟩ = some vw'
  z2 : w.cell? ⟨Z, 2, none⟩ = some vd'
  z3 : w.cell? ⟨Z, 3, none⟩ = some vq'
  zd : Z ≠ D
  own : OwnP base w vp' vw' vd' vq' pq
  db : D < base
  ord : IntsAt (some D) w vo l
section
variable {D X Z base : Nat} {p pq : Plot} {vp vw vd vq vp' vw' vd' vq' vo : Value} {l : List Int} {w0 w w' : World}
theorem LQ.go (k : LQ D X Z base p pq vp vw vd vq vp' vw' vd' vq' vo l w0 w) (hb : Beat D w') (hg : w.grownBy w' (some D)) : LQ D X Z base p pq vp vw vd vq vp' vw' vd' vq' vo l w0 w' :=
  ⟨k.lf.go hb hg, cell_gb hg k.zd k.z0, cell_gb hg k.zd k.z1, cell_gb hg k.zd k.z2, cell_gb hg k.zd k.z3, k.zd, k.own.go k.db hg, k.db, k.ord.kept hg⟩
theorem LQ.later (k : LQ D X Z base p pq vp vw vd vq vp' vw' vd' vq' vo l w0 w) (hb : Below w.heap.size w w') : LQ D X Z base p pq vp vw vd vq vp' vw' vd' vq' vo l w0 w' := k.go (k.lf.beat.gb hb) (gb_below hb _)
theorem LQ.q (k : LQ D X Z base p pq vp vw vd vq vp' vw' vd' vq' vo l w0 w) : PlotAt none w vp' vw' vd' vq' pq := k.own.at (by simp)
end

set_option maxHeartbeats 16000000 in
set_option maxRecDepth 100000 in
theorem corder_any (xs : List Int) (v : Value) (w : World) (hX : IntsAt none w v xs) (hn : xs.length ≤ 9223372036854775807) :
    Calls Try.prog 6 #[v] w fun e w' => e = .returned (.bool true) ∧ Below w.heap.size w w' := by
  have HX := hid hX
  obtain ⟨a, c, rfl, _⟩ := hX
  go_enter Try.func6, Try.ntmps6
  go_upto_region 3 with (first
    | (go_at_call 13; refine (drumOf_any xs _ _ HX.out hn).mono ?_; rintro e w1 ⟨rfl, hbt, hbl⟩; have HBt := hid hbt; have HBl := hid hbl; clear hbt hbl)
    | (go_at_call 14; refine (plotOf_any w.heap.size 4 10 _ HBt.out (by omega) (by omega) (by omega) (by omega)).mono ?_; rintro e w2 ⟨vp, vw, vd, vq, p, rfl, hv, hpl, hql, hP, hsd, hbt, hg⟩; obtain ⟨ap, cp, rfl⟩ := hP.persons.form; obtain ⟨aw, cw, rfl⟩ := hP.walk.form; obtain ⟨ad, cd, ed, _⟩ := hP.dress; subst ed; obtain ⟨aq, cq, rfl⟩ := hP.parts.form; have HV := hid hv; have HSd := hid hsd; have LF0 := hid (LF.start hbt hP (HBl.out.grown hg HBl.out.size (fun g e => by cases e; exact Nat.le_refl _)) (Nat.le_refl _) 29); clear hv hP hbt hg hsd))
  obtain ⟨w3, hw3, L3⟩ := LF0.out.name
  rw [hw3]
  obtain ⟨X, hXs⟩ : ∃ X, w2.heap.size = X := ⟨_, rfl⟩
  rw [hXs] at L3 ⊢
  have L := hid L3
  have AW := hid (fun W' => awake_any W')
  have Vd := hid (plotErr_zero.1 HV.out)
  clear hw3 L3 LF0 HBt HBl HX hXs hn
  have y0 := L.out.c0
  have y1 := L.out.c1
  have y2 := L.out.c2
  have y3 := L.out.c3
  go_upto_region 5 with (first
    | (go_at_call 31; refine (order_any w.heap.size p.parts.length _ L.out.beat (by omega)).mono ?_; rintro e w4 ⟨vo, l, rfl, hol, hpl4, hll, hbt, hg⟩; obtain ⟨a5, c5, rfl⟩ := (own_int.2 hol).form; have HOr := hid (OwnInts.at (d := some w.heap.size) hol (fun k e => by cases e; exact L.out.beat.lt)); have L := hid (L.out.go hbt hg); have HPl := hid hpl4; have HLl := hid hll; clear hol hpl4 hll hbt hg y0 y1 y2 y3; have y0 := L.out.c0; have y1 := L.out.c1; have y2 := L.out.c2; have y3 := L.out.c3)
    | (go_at_call 21; refine (ownPlot_any p _ _ _ _ _ _ (PlotS.ofValid L.out.plot Vd.out HSd.out) (PlotN.ofValid Vd.out)).mono ?_; rintro e w5 ⟨vp', vw', vd', vq', rfl, hown, hb5⟩; have HOw := hid hown; have HB5 := hid hb5; obtain ⟨ap', cp', rfl⟩ := hown.persons.form; obtain ⟨aw', cw', rfl⟩ : ∃ a c, vw' = .slice a p.walk.length c := (by
        obtain ⟨us, h⟩ := hown.walk
        obtain ⟨a, c, e⟩ := h.own.form
        rw [h.len] at e
        exact ⟨a, c, e⟩); obtain ⟨ad', cd', rfl⟩ := hown.dress.form; obtain ⟨aq', cq', rfl⟩ := hown.parts.form; clear hown hb5 y0 y1 y2 y3))
  obtain ⟨base, hbase⟩ : ∃ base, w4.heap.size = base := ⟨_, rfl⟩
  have hZlt : base ≤ w5.heap.size := by rw [← hbase]; exact HB5.out.size
  obtain ⟨Z, hZ⟩ : ∃ Z, w5.heap.size = Z := ⟨_, rfl⟩
  have hdb : w.heap.size < base := by rw [← hbase]; exact L.out.beat.lt
  have hbz : Below w4.heap.size w4 (w5.alloc (.cells #[.slice ap' p.persons.length cp', .slice aw' p.walk.length cw', .slice ad' p.dress.length cd', .slice aq' p.parts.length cq'] 29)) := below_trans HB5.out (below_alloc _ _)
  have hq0 : LQ w.heap.size X Z base p p (.slice ap p.persons.length cp) (.slice aw p.walk.length cw) (.slice ad p.dress.length cd) (.slice aq p.parts.length cq) (.slice ap' p.persons.length cp') (.slice aw' p.walk.length cw') (.slice ad' p.dress.length cd') (.slice aq' p.parts.length cq') (.slice a5 l.length c5) l w (w5.alloc (.cells #[.slice ap' p.persons.length cp', .slice aw' p.walk.length cw', .slice ad' p.dress.length cd', .slice aq' p.parts.length cq'] 29)) :=
    ⟨L.out.later hbz, cell_at hZ.symm rfl, cell_at hZ.symm rfl, cell_at hZ.symm rfl, cell_at hZ.symm rfl, by omega, by rw [← hbase]; exact HOw.out.later (below_alloc _ _), hdb, HOr.out.below hbz⟩
  rw [hZ]
  obtain ⟨wz, hwz⟩ : ∃ wz, w5.alloc (.cells #[.slice ap' p.persons.length cp', .slice aw' p.walk.length cw', .slice ad' p.dress.length cd', .slice aq' p.parts.length cq'] 29) = wz := ⟨_, rfl⟩
  rw [hwz] at hq0 hbz ⊢
  have L0 := L
  have HQ := hid hq0
  have HBz := hid hbz
  have HBa := hid hbase
  have hlp := HLl.out
  have hl10 : l.length ≤ 10 := by omega
  have hZb : base ≤ Z := by omega
  have HGz := hid (fun b (hb : (Value.slice aq' p.parts.length cq').ownBlock = some b) => show b < Z from by have := (HOw.out.parts.lt hb).2; omega)
  clear hwz hq0 hbz hbase hlp hZ HB5 HOw L
  go_wp2_with fail
  go_loopw [7] (fun i wr => ∃ k : Nat, k ≤ l.length ∧ i = .int .i64 k ∧ LQ w.heap.size X Z base p (setQ p l k) (.slice ap p.persons.length cp) (.slice aw p.walk.length cw) (.slice ad p.dress.length cd) (.slice aq p.parts.length cq) (.slice ap' p.persons.length cp') (.slice aw' p.walk.length cw') (.slice ad' p.dress.length cd') (.slice aq' p.parts.length cq') (.slice a5 l.length c5) l w wr ∧ Below w4.heap.size w4 wr) (fun i _ => l.length - (intOf i).toNat)
  case atStart => exact ⟨0, by omega, rfl, HQ.out, HBz.out⟩
  case round =>
    obtain ⟨k, hk, rfl, hL, hB⟩ := hrel
    obtain ⟨wo, rfl⟩ : ∃ wo : World, wo = wr := ⟨_, rfl⟩
    have HQ := hid hL
    have HBz := hid hB
    clear hL hB
    by_cases hlt : k < l.length
    rotate_left
    · obtain rfl : k = l.length := by omega
      have hqq : setQ p l l.length = turnP p l := by unfold setQ turnP; rw [HLl.out]
      rw [hqq] at HQ
      have TQ := hid (turnP_turned HPl.out HLl.out)
      have Vq := hid (TQ.out.valid Vd.out)
      have hqv := plotErr_zero.2 Vq.out
      obtain ⟨q, hq⟩ : ∃ q, turnP p l = q := ⟨_, rfl⟩
      rw [hq] at HQ TQ Vq hqv
      have HVq := hid hqv
      clear hqq hq hqv L0 HOr HBz
      have y0 := HQ.out.lf.c0
      have y2 := HQ.out.lf.c2
      have HSr := hid (fun W' (hb : wo.grownBy W' (some w.heap.size)) => (⟨cell_gb hb HQ.out.lf.xd y0, cell_gb hb HQ.out.lf.xd y2⟩ : W'.cell? ⟨X, 0, none⟩ = some (.slice ap p.persons.length cp) ∧ W'.cell? ⟨X, 2, none⟩ = some (.slice ad p.dress.length cd)))
      have HBt := hid (show Beat w.heap.size wo.drew from HQ.out.lf.beat.gb (Below.refl _ _).drew)
      have HGr := hid (show wo.grownBy wo.drew (some w.heap.size) from gb_below (Below.refl _ _).drew _)
      have hvp := Vd.out.persons
      have hvd := Vd.out.dress
      clear y0 y2
      go_upto_region 9 with fail
      go_cut [8, 9, 10] from 55 to 66 (fun s8 s9 s10 wx => ∃ r1 r2 r3 : Int, s8 = .int .i64 r1 ∧ s9 = .int .i64 r2 ∧ s10 = .int .i64 r3 ∧ (0 ≤ r1 ∧ r1 < max (p.persons.length : Int) 1) ∧ (0 ≤ r2 ∧ r2 < 160) ∧ (0 ≤ r3 ∧ r3 < max (p.dress.length : Int) 1) ∧ Beat w.heap.size wx ∧ wo.grownBy wx (some w.heap.size))
      case first =>
        go_region_held3 (fun W' => W'.cell? ⟨X, 0, none⟩ = some (.slice ap p.persons.length cp) ∧ W'.cell? ⟨X, 2, none⟩ = some (.slice ad p.dress.length cd))
          (first | exact HSr.out _ HGr.out) (first
          | (go_at_call 16; (with_reducible refine (roll_any w.heap.size (p.persons.length : Int) _ HBt.out (by omega)).mono ?_); rintro e w6 ⟨r1, rfl, r10, r11, hbt, hg⟩; have HGr := hid (gb_trans HGr.out hg); have HBt := hid hbt; clear hbt hg)
          | (go_at_call 16; (with_reducible refine (roll_any w.heap.size 160 _ HBt.out (by omega)).mono ?_); rintro e w7 ⟨r2, rfl, r20, r21, hbt, hg⟩; have HGr := hid (gb_trans HGr.out hg); have HBt := hid hbt; clear hbt hg)
          | (go_at_call 16; (with_reducible refine (roll_any w.heap.size (p.dress.length : Int) _ HBt.out (by omega)).mono ?_); rintro e w8 ⟨r3, rfl, r30, r31, hbt, hg⟩; have HGr := hid (gb_trans HGr.out hg); have HBt := hid hbt; clear hbt hg))
        all_goals (
          go_wp2_with fail
          go_meet
          exact ⟨_, _, _, rfl, rfl, rfl, ⟨r10, r11⟩, ⟨r20, by omega⟩, ⟨r30, r31⟩, HBt.out, HGr.out⟩)
      case rest =>
        obtain ⟨r1, r2, r3, rfl, rfl, rfl, hr1, hr2, hr3, hbt, hgr⟩ := hcut
        have HQ := hid (HQ.out.go hbt hgr)
        have hin1 : inB r1 0 ((p.persons.length : Int) - 1) = true := inB_true.2 ⟨by omega, by omega⟩
        have hin2 : inB r2 0 1440 = true := inB_true.2 ⟨by omega, by omega⟩
        have hin3 : inB r3 0 ((p.dress.length : Int) - 1) = true := inB_true.2 ⟨by omega, by omega⟩
        have hqpl : q.persons.length = p.persons.length := by rw [TQ.out.persons]
        have hqdl : q.dress.length = p.dress.length := by rw [TQ.out.dress]
        have hpe : personE p r1 = 0 := by unfold personE; rw [if_pos HV.out, hin1]; rfl
        have hqe : personE q r1 = 0 := by unfold personE; rw [if_pos HVq.out, hqpl, hin1]; rfl
        have hdr : dayRes p r1 = dayL p r1 := by unfold dayRes; rw [if_pos hpe]
        have hdq : dayRes q r1 = dayL q r1 := by unfold dayRes; rw [if_pos hqe]
        have hme : mostErr p r3 = 0 := by unfold mostErr; rw [if_pos HV.out, hin3]; rfl
        have hmq : mostErr q r3 = 0 := by unfold mostErr; rw [if_pos HVq.out, hqdl, hin3]; rfl
        have hmr : mostRes p r3 = mostN p r3 1441 := by unfold mostRes; rw [if_pos hme]
        have hms : mostRes q r3 = mostN p r3 1441 := by unfold mostRes; rw [if_pos hmq, turned_most TQ.out]
        have HDa := hid (fun vp vw vd vq W' (h : PlotAt none W' vp vw vd vq p) => by have := day_any p r1 vp vw vd vq W' h; rw [hpe, hdr] at this; exact this)
        have HDb := hid (fun vp vw vd vq W' (h : PlotAt none W' vp vw vd vq q) => by have := day_any q r1 vp vw vd vq W' h; rw [hqe, hdq] at this; exact this)
        have HMa := hid (fun vp vw vd vq W' (h : PlotAt none W' vp vw vd vq p) => by have := most_any p r3 vp vw vd vq W' h; rw [hme, hmr] at this; exact this)
        have HMb := hid (fun vp vw vd vq W' (h : PlotAt none W' vp vw vd vq q) => by have := most_any q r3 vp vw vd vq W' h; rw [hmq, hms] at this; exact this)
        have HAa := hid (fun vp vw vd vq W' (h : PlotAt none W' vp vw vd vq p) => at_fine p r1 r2 vp vw vd vq W' h HV.out hin1 hin2)
        have HAb := hid (fun vp vw vd vq W' (h : PlotAt none W' vp vw vd vq q) => at_fine q r1 r2 vp vw vd vq W' h HVq.out (by rw [hqpl]; exact hin1) hin2)
        have hta := turned_at TQ.out Vd.out r1 r2
        have htd := turned_day TQ.out Vd.out r1
        have HQm := hid (fun (i : Nat) (hi : i < (dayL q r1).length) => (dayL_mem q r1 (nm (dayL q r1) i)).1 (by rw [nm_get hi]; exact List.getElem_mem _))
        have HQl := hid (show q.parts.length = p.parts.length from TQ.out.len)
        have hdn : (dayL p r1).length ≤ 30 := by
          have h1 := dayL_count p r1
          have h2 := cnt_nonneg (fun i => decide ((pt p.parts i).person = r1)) p.parts.length
          have h3 := Vd.out.few
          omega
        obtain ⟨dp, hdp⟩ : ∃ dp, dayL p r1 = dp := ⟨_, rfl⟩
        obtain ⟨dq, hdq'⟩ : ∃ dq, dayL q r1 = dq := ⟨_, rfl⟩
        obtain ⟨⟨M, A⟩, hMA⟩ : ∃ s, mostN p r3 1441 = s := ⟨_, rfl⟩
        obtain ⟨fa, hfa⟩ : ∃ fa, firstAt (fun i => hitP r1 r2 (pt p.parts i)) p.parts.length = fa := ⟨_, rfl⟩
        obtain ⟨fb, hfb⟩ : ∃ fb, firstAt (fun i => hitP r1 r2 (pt q.parts i)) q.parts.length = fb := ⟨_, rfl⟩
        rw [hdp] at HDa htd hdn
        rw [hdq'] at HDb htd HQm
        rw [hMA] at HMa HMb
        rw [hfa] at HAa hta
        rw [hfb] at HAb hta
        dsimp only at HMa HMb
        have hdl : dq.length = dp.length := by rw [← htd, List.length_map]
        have HTd := hid (show ∀ i, i < dq.length → nm dp i = (nm l (nm dq i).toNat).toNat from fun i hi => by
          rw [← htd]
          unfold nm
          rw [List.getD_eq_getElem?_getD, List.getElem?_map, List.getElem?_eq_getElem hi]
          simp [List.getD_eq_getElem?_getD, hi])
        have HTa := hid hta
        have HDl := hid hdl
        clear hin1 hin2 hin3 hqpl hqdl hpe hqe hdr hdq hme hmq hmr hms hta htd hdp hdq' hMA hfa hfb hdl hr1 hr2 hr3 hbt hgr hvp hvd HSr HBt HGr
        have y0 := HQ.out.lf.c0
        have y1 := HQ.out.lf.c1
        have y2 := HQ.out.lf.c2
        have y3 := HQ.out.lf.c3
        have z0 := HQ.out.z0
        have z1 := HQ.out.z1
        have z2 := HQ.out.z2
        have z3 := HQ.out.z3
        go_upto_region 16 with (first
          | (go_at_call 22; (with_reducible refine (HDa.out _ _ _ _ _ HQ.out.lf.any).mono ?_); rintro e w10 ⟨v10, rfl, ho, hb⟩; obtain ⟨a10, c10, rfl⟩ := (own_int.2 ho).form; have HO1 := hid (OwnInts.at (d := none) ho (by simp)); have HQ := hid (HQ.out.later hb); clear ho hb; clear y0 y1 y2 y3 z0 z1 z2 z3; have y0 := HQ.out.lf.c0; have y1 := HQ.out.lf.c1; have y2 := HQ.out.lf.c2; have y3 := HQ.out.lf.c3; have z0 := HQ.out.z0; have z1 := HQ.out.z1; have z2 := HQ.out.z2; have z3 := HQ.out.z3)
          | (go_at_call 22; (with_reducible refine (HDb.out _ _ _ _ _ HQ.out.q).mono ?_); rintro e w11 ⟨v11, rfl, ho, hb⟩; obtain ⟨a11, c11, rfl⟩ := (own_int.2 ho).form; have HO2 := hid (OwnInts.at (d := none) ho (by simp)); have HO1 := hid (HO1.out.below hb); have HQ := hid (HQ.out.later hb); clear ho hb; clear y0 y1 y2 y3 z0 z1 z2 z3; have y0 := HQ.out.lf.c0; have y1 := HQ.out.lf.c1; have y2 := HQ.out.lf.c2; have y3 := HQ.out.lf.c3; have z0 := HQ.out.z0; have z1 := HQ.out.z1; have z2 := HQ.out.z2; have z3 := HQ.out.z3)
          | (go_at_call 24; (with_reducible refine (HAa.out _ _ _ _ _ HQ.out.lf.any).mono ?_); rintro e w12 ⟨rfl, hb⟩; have HO1 := hid (HO1.out.below hb); have HO2 := hid (HO2.out.below hb); have HQ := hid (HQ.out.later hb); clear hb; clear y0 y1 y2 y3 z0 z1 z2 z3; have y0 := HQ.out.lf.c0; have y1 := HQ.out.lf.c1; have y2 := HQ.out.lf.c2; have y3 := HQ.out.lf.c3; have z0 := HQ.out.z0; have z1 := HQ.out.z1; have z2 := HQ.out.z2; have z3 := HQ.out.z3)
          | (go_at_call 24; (with_reducible refine (HAb.out _ _ _ _ _ HQ.out.q).mono ?_); rintro e w13 ⟨rfl, hb⟩; have HO1 := hid (HO1.out.below hb); have HO2 := hid (HO2.out.below hb); have HQ := hid (HQ.out.later hb); clear hb; clear y0 y1 y2 y3 z0 z1 z2 z3; have y0 := HQ.out.lf.c0; have y1 := HQ.out.lf.c1; have y2 := HQ.out.lf.c2; have y3 := HQ.out.lf.c3; have z0 := HQ.out.z0; have z1 := HQ.out.z1; have z2 := HQ.out.z2; have z3 := HQ.out.z3)
          | (go_at_call 17; (with_reducible refine (HMa.out _ _ _ _ _ HQ.out.lf.any).mono ?_); rintro e w14 ⟨rfl, hb⟩; have HO1 := hid (HO1.out.below hb); have HO2 := hid (HO2.out.below hb); have HQ := hid (HQ.out.later hb); clear hb; clear y0 y1 y2 y3 z0 z1 z2 z3; have y0 := HQ.out.lf.c0; have y1 := HQ.out.lf.c1; have y2 := HQ.out.lf.c2; have y3 := HQ.out.lf.c3; have z0 := HQ.out.z0; have z1 := HQ.out.z1; have z2 := HQ.out.z2; have z3 := HQ.out.z3)
          | (go_at_call 17; (with_reducible refine (HMb.out _ _ _ _ _ HQ.out.q).mono ?_); rintro e w15 ⟨rfl, hb⟩; have HO1 := hid (HO1.out.below hb); have HO2 := hid (HO2.out.below hb); have HQ := hid (HQ.out.later hb); clear hb; clear y0 y1 y2 y3 z0 z1 z2 z3; have y0 := HQ.out.lf.c0; have y1 := HQ.out.lf.c1; have y2 := HQ.out.lf.c2; have y3 := HQ.out.lf.c3; have z0 := HQ.out.z0; have z1 := HQ.out.z1; have z2 := HQ.out.z2; have z3 := HQ.out.z3))
        clear y0 y1 y2 y3 z0 z1 z2 z3
        have hle : ((dp.length : Int) != (dq.length : Int)) = false := by simp [HDl.out]
        have hlf : ¬ (dp.length : Int) ≠ (dq.length : Int) := by simp [HDl.out]
        go_cut [170] from 107 to 170 (fun s wx => s = .bool false ∧ wx = w15)
        case first =>
          obtain ⟨em, em2⟩ := eq_bool (a := M) (b := M) rfl
          obtain ⟨ea, ea2⟩ := eq_bool (a := A) (b := A) rfl
          rcases HTa.out with ⟨h1, h2⟩ | ⟨i, h1, h2, h3⟩
          · subst h1 h2
            go_wp2_with fail
            go_meet
            exact ⟨by rw [decide_eq_false (by omega)], rfl⟩
          · subst h2
            have hil : i < l.length := by have := HLl.out; omega
            obtain ⟨m1, m2⟩ := HPl.out.lt i hil
            obtain ⟨b5, o5, cc5, e, _, _⟩ := HQ.out.ord.slice (by omega)
            cases e
            have hc0 := IntsAt.cell HQ.out.ord hil
            have hfa : nm l i = fa := by have h4 : fa = (((nm l i).toNat : Nat) : Int) := h3; omega
            have hc1 : w15.cell? ⟨b5, o5 + i, none⟩ = some (.int .i64 fa) := by rw [hc0, hfa]
            have i1 : (i : Int) < (l.length : Int) := by omega
            have n1 : ¬ (i : Int) ≥ (l.length : Int) := by omega
            have n2 : ¬ (i : Int) < 0 := by omega
            have n3 : ¬ fa < 0 := by omega
            have n4 : (i : Int) ≥ 0 := by omega
            obtain ⟨et, et2⟩ := eq_bool (a := fa) (b := fa) rfl
            clear hc0 m1 m2 hfa h3
            go_wp2_with fail
            go_meet
            exact ⟨rfl, rfl⟩
        case rest =>
          obtain ⟨rfl, rfl⟩ := hcut
          obtain ⟨w15, rfl⟩ : ∃ w : World, w = wc := ⟨_, rfl⟩
          clear hle hlf
          go_wp2_with fail
          go_loopw [25] (fun i wr => ∃ k : Nat, k ≤ dp.length ∧ i = .int .i64 k ∧ Below w15.heap.size w15 wr) (fun i _ => dp.length - (intOf i).toNat)
          case atStart => exact ⟨0, by omega, rfl, Below.refl _ _⟩
          case round =>
            obtain ⟨k, hk, rfl, hb⟩ := hrel
            obtain ⟨wj, rfl⟩ : ∃ wj : World, wj = wr := ⟨_, rfl⟩
            have HB := hid hb
            have HQ := hid (HQ.out.later hb)
            have HO1 := hid (HO1.out.below hb)
            have HO2 := hid (HO2.out.below hb)
            clear hb
            by_cases hlt2 : k < dp.length
            rotate_left
            · obtain rfl : k = dp.length := by omega
              go_wp2_with (go_at_call 19; refine (AW.out _).mono ?_; rintro e w16 ⟨rfl, hb8⟩; have HQ := hid (HQ.out.later hb8); clear hb8)
              go_ret
              exact ⟨rfl, HQ.out.lf.below⟩
            have hkq : k < dq.length := by rw [HDl.out]; exact hlt2
            obtain ⟨⟨m1, m2⟩, m3⟩ := HQm.out k hkq
            obtain ⟨t, ht⟩ := Int.eq_ofNat_of_zero_le m1
            have htl : t < l.length := by have := HLl.out; have := HQl.out; omega
            obtain ⟨n1, n2⟩ := HPl.out.lt t htl
            have htd := HTd.out k hkq
            rw [ht, Int.toNat_natCast] at htd
            obtain ⟨b1, o1, cc1, e, _, _⟩ := HO1.out.slice (by omega)
            cases e
            obtain ⟨b2, o2, cc2, e, _, _⟩ := HO2.out.slice (by omega)
            cases e
            obtain ⟨b5, o5, cc5, e, _, _⟩ := HQ.out.ord.slice (by omega)
            cases e
            have hc1 := IntsAt.cell HO1.out hlt2
            have hc2 := IntsAt.cell HO2.out hkq
            have hc3 := IntsAt.cell HQ.out.ord htl
            have htd2 : nm dp k = nm l t := by omega
            rw [htd2] at hc1
            rw [ht] at hc2
            obtain ⟨V, hV⟩ : ∃ V, nm l t = V := ⟨_, rfl⟩
            rw [hV] at hc1 hc3
            obtain ⟨eV, eV2⟩ := eq_bool (a := V) (b := V) rfl
            have i1 : (k : Int) < (dp.length : Int) := by omega
            have i2 : (k : Int) < (dq.length : Int) := by omega
            have i3 : (t : Int) < (l.length : Int) := by omega
            have n4 : ¬ (t : Int) < 0 := by omega
            have n5 : ¬ (t : Int) ≥ (l.length : Int) := by omega
            have z1 : IntKind.i64.wrap ((k : Int) + 1) = (k : Int) + 1 := IntWalk.i64_in _ (by omega)
            clear hV htd htd2 ht m1 m2 m3 n1 n2
            go_upto_region 21 with fail
            go_quiet (fail)
            go_wp2_with fail
            go_roundw
            case rel => exact ⟨k + 1, by omega, by go_num, below_drewN HB.out nq⟩
            case measure => simp [intOf] <;> omega
    have hkp : k < p.parts.length := by have := HLl.out; omega
    obtain ⟨m1, m2⟩ := HPl.out.lt k hlt
    obtain ⟨t, ht⟩ := Int.eq_ofNat_of_zero_le m1
    have htl : t < p.parts.length := by have := HLl.out; omega
    obtain ⟨b5, o5, cc5, e, _, _⟩ := HQ.out.ord.slice (by omega)
    cases e
    have hc1 := IntsAt.cell HQ.out.ord hlt
    rw [ht] at hc1
    have hcc := PartsAt.cells HQ.out.lf.any.parts htl
    obtain ⟨bq, oq, e, hbq, d0, d1, d2, d3, d4⟩ := hcc
    cases e
    have hform : ∃ g, aq' = some ⟨g, 0, none⟩ ∧ base ≤ g := by
      rcases HQ.out.own.parts.2 with ⟨_, h0⟩ | ⟨g, cap, cur, e, hg, _⟩
      · simp only [setQ, setN_len] at h0; omega
      · injection e with e1 e2 e3
        exact ⟨g, e1, hg⟩
    obtain ⟨g, rfl, hgb⟩ := hform
    obtain ⟨y, hy⟩ : ∃ y, pt p.parts t = y := ⟨_, rfl⟩
    rw [hy] at d0 d1 d2 d3 d4
    have hold := PartsAt.cells (HQ.out.own.at (d := none) (by simp)).parts (i := k) (by simp only [setQ, setN_len]; exact hkp)
    obtain ⟨g', o', e, _, f0, f1, f2, f3, f4⟩ := hold
    cases e
    have z3 := HQ.out.z3
    have y3 := HQ.out.lf.c3
    have HT := hid ht
    have HY := hid hy
    have k0 := HQ.out.own.parts.thaw (g := g) rfl (k * 5)
    have k1 := HQ.out.own.parts.thaw (g := g) rfl (k * 5 + 1)
    have k2 := HQ.out.own.parts.thaw (g := g) rfl (k * 5 + 2)
    have k3 := HQ.out.own.parts.thaw (g := g) rfl (k * 5 + 3)
    have k4 := HQ.out.own.parts.thaw (g := g) rfl (k * 5 + 4)
    rw [Nat.zero_add] at f0 f1 f2 f3 f4
    have i1 : (k : Int) < (l.length : Int) := by omega
    have i2 : (k : Int) < (p.parts.length : Int) := by omega
    have i3 : (t : Int) < (p.parts.length : Int) := by omega
    have z1 : IntKind.i64.wrap ((k : Int) + 1) = (k : Int) + 1 := IntWalk.i64_in _ (by omega)
    clear ht hy m1 m2
    go_upto_region 8 with fail
    go_still_tail 11, (by kernel_rfl)
    obtain ⟨wd, hwd, QD⟩ : ∃ wd, wo.drew = wd ∧ LQ w.heap.size X Z base p (setQ p l k) (.slice ap p.persons.length cp) (.slice aw p.walk.length cw) (.slice ad p.dress.length cd) (.slice (some ⟨bq, oq, none⟩) p.parts.length cq) (.slice ap' p.persons.length cp') (.slice aw' p.walk.length cw') (.slice ad' p.dress.length cd') (.slice (some ⟨g, 0, none⟩) p.parts.length cq') (.slice (some ⟨b5, o5, none⟩) l.length c5) l w wd := ⟨_, rfl, HQ.out.later (Below.refl _ _).drew⟩
    have hBd : Below w4.heap.size w4 wd := by rw [← hwd]; exact HBz.out.trans ((Below.refl wo.heap.size wo).drew.mono HBz.out.size)
    change wpList _ _ _ _ _ wo.drew
    have HQ := hid QD
    have HBz := hid hBd
    rw [hwd]
    clear hwd QD hBd z3 y3 hc1 d0 d1 d2 d3 d4 f0 f1 f2 f3 f4 k0 k1 k2 k3 k4
    have hold := PartsAt.cells (HQ.out.own.at (d := none) (by simp)).parts (i := k) (by simp only [setQ, setN_len]; exact hkp)
    obtain ⟨g', o', e, _, f0, f1, f2, f3, f4⟩ := hold
    cases e
    rw [Nat.zero_add] at f0 f1 f2 f3 f4
    have k0 := HQ.out.own.parts.thaw (g := g) rfl (k * 5)
    have k1 := HQ.out.own.parts.thaw (g := g) rfl (k * 5 + 1)
    have k2 := HQ.out.own.parts.thaw (g := g) rfl (k * 5 + 2)
    have k3 := HQ.out.own.parts.thaw (g := g) rfl (k * 5 + 3)
    have k4 := HQ.out.own.parts.thaw (g := g) rfl (k * 5 + 4)
    go_wp2_with fail
    have hgb' : w4.heap.size ≤ g := by rw [HBa.out]; exact hgb
    have hB' := ((((HBz.out.setCell (p := ⟨g, k * 5, none⟩) hgb' (.int .i64 y.person)).setCell (p := ⟨g, k * 5 + 1, none⟩) hgb' (.int .i64 y.place)).setCell (p := ⟨g, k * 5 + 2, none⟩) hgb' (.int .i64 y.kind)).setCell (p := ⟨g, k * 5 + 3, none⟩) hgb' (.int .i64 y.start)).setCell (p := ⟨g, k * 5 + 4, none⟩) hgb' (.int .i64 y.stop)
    have hg' : wd.grownBy (((((wd.setCell ⟨g, k * 5, none⟩ (.int .i64 y.person)).setCell ⟨g, k * 5 + 1, none⟩ (.int .i64 y.place)).setCell ⟨g, k * 5 + 2, none⟩ (.int .i64 y.kind)).setCell ⟨g, k * 5 + 3, none⟩ (.int .i64 y.start)).setCell ⟨g, k * 5 + 4, none⟩ (.int .i64 y.stop)) (some g) := gb_trans (gb_trans (gb_trans (gb_trans (gb_put _ _ _ _) (gb_put _ _ _ _)) (gb_put _ _ _ _)) (gb_put _ _ _ _)) (gb_put _ _ _ _)
    have hgz : Z ≠ g := by have := HGz.out g rfl; omega
    have hown := HQ.out.own.parts.setP (i := k) (by simp only [setQ, setN_len]; exact hkp) y
    have hP' := HQ.out.own.turn hown hg'
    have e1 : ({ setQ p l k with parts := (setQ p l k).parts.set k y } : Plot) = setQ p l (k + 1) := by
      unfold setQ
      simp only [setN]
      rw [HT.out, Int.toNat_natCast, HY.out]
    rw [e1] at hP'
    go_roundw
    case rel => exact ⟨k + 1, by omega, by go_num, ⟨L0.out.later hB', cell_gb hg' hgz HQ.out.z0, cell_gb hg' hgz HQ.out.z1, cell_gb hg' hgz HQ.out.z2, cell_gb hg' hgz HQ.out.z3, HQ.out.zd, hP', hdb, HOr.out.below hB'⟩, hB'⟩
    case measure => simp [intOf] <;> omega
end Go.Proofs.Ytdcinngdilfpnaa
