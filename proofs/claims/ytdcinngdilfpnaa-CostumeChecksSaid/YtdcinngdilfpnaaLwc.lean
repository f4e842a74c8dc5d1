/-
  WALK: CostumeChecks: whatever comes in, it returns true.
-/
import Derived.Test.YtdcinngdilfpnaaLwk
import Derived.Test.YtdcinngdilfpnaaKwd
import Derived.Test.YtdcinngdilfpnaaKqq
import Derived.Test.YtdcinngdilfpnaaRpl
import Derived.Test.YtdcinngdilfpnaaCat
import Derived.Test.YtdcinngdilfpnaaRda
import Derived.Test.YtdcinngdilfpnaaCod
import Derived.Test.YtdcinngdilfpnaaFlo2
import Derived.Test.YtdcinngdilfpnaaFlow
import Derived.Test.YtdcinngdilfpnaaKbs
import Derived.Deep.CutRange
namespace Go.Proofs.Ytdcinngdilfpnaa
open Go.RowKit

theorem ItemsAt.nilI (w : World) : ItemsAt none w (.slice none 0 0) [] := ⟨none, 0, rfl, fun h => absurd h (by simp)⟩
/-- the plot that came in, in a box; the made one; a copy of it in a box -/
structure LC (D B X Z base : Nat) (P0 p pm : Plot) (va vb vc ve vp vw vd vq vp' vw' vd' vq' : Value) (w0 w : World) : Prop where
  lf : LF D X p vp vw vd vq w0 w
  sd : Sound0 vq
  b0 : w.cell? ⟨B, 0, none⟩ = some va
  b1 : w.cell? ⟨B, 1, none⟩ = some vb
  b2 : w.cell? ⟨B, 2, none⟩ = some vc
  b3 : w.cell? ⟨B, 3, none⟩ = some ve
  bd : B ≠ D
  arg : PlotS (some D) w va vb vc ve P0
  z0 : w.cell? ⟨Z, 0, none⟩ = some vp'
  z1 : w.cell? ⟨Z, 1, none⟩ = some vw'
  z2 : w.cell? ⟨Z, 2, none⟩ = some vd'
  z3 : w.cell? ⟨Z, 3, none⟩ = some vq'
  zd : Z ≠ D
  own : OwnP base w vp' vw' vd' vq' pm
  db : D < base
section
variable {D B X Z base : Nat} {P0 p pm : Plot} {va vb vc ve vp vw vd vq vp' vw' vd' vq' : Value} {w0 w w' : World}
theorem LC.go (k : LC D B X Z base P0 p pm va vb vc ve vp vw vd vq vp' vw' vd' vq' w0 w) (hb : Beat D w') (hg : w.grownBy w' (some D)) : LC D B X Z base P0 p pm va vb vc ve vp vw vd vq vp' vw' vd' vq' w0 w' :=
  ⟨k.lf.go hb hg, k.sd, cell_gb hg k.bd k.b0, cell_gb hg k.bd k.b1, cell_gb hg k.bd k.b2, cell_gb hg k.bd k.b3, k.bd, k.arg.kept hg, cell_gb hg k.zd k.z0, cell_gb hg k.zd k.z1, cell_gb hg k.zd k.z2, cell_gb hg k.zd k.z3, k.zd, k.own.go k.db hg, k.db⟩
theorem LC.later (k : LC D B X Z base P0 p pm va vb vc ve vp vw vd vq vp' vw' vd' vq' w0 w) (hb : Below w.heap.size w w') : LC D B X Z base P0 p pm va vb vc ve vp vw vd vq vp' vw' vd' vq' w0 w' := k.go (k.lf.beat.gb hb) (gb_below hb _)
end

theorem PlotS.fresh {w : World} {vp vw vd vq : Value} {p : Plot} (h : PlotS none w vp vw vd vq p) {D : Nat} (hD : w.heap.size ≤ D) : PlotS (some D) w vp vw vd vq p := by
  obtain ⟨f, h1, h2⟩ := h.walk
  exact ⟨⟨RecAt.fresh h.persons.1 hD, h.persons.2⟩, ⟨f, h1.fresh hD, fun i hi => ⟨(h2 i hi).1.fresh hD, (h2 i hi).2⟩⟩, ⟨h.dress.1.fresh hD, h.dress.2⟩, ⟨RecAt.fresh h.parts.1 hD, h.parts.2⟩⟩
theorem PlotS.any {d : Option Nat} {w : World} {vp vw vd vq : Value} {p : Plot} (h : PlotS d w vp vw vd vq p) : PlotS none w vp vw vd vq p := by
  obtain ⟨f, h1, h2⟩ := h.walk
  exact ⟨⟨RecAt.any h.persons.1, h.persons.2⟩, ⟨f, h1.any, fun i hi => ⟨(h2 i hi).1.anyI, (h2 i hi).2⟩⟩, ⟨h.dress.1.anyI, h.dress.2⟩, ⟨RecAt.any h.parts.1, h.parts.2⟩⟩

def psF (qs : List (List Value)) (i j : Nat) : Value := (qs.getD i []).getD j undef
theorem psF_cells (D : Nat) (w : World) (t : TypeId) (hD : D < w.heap.size) (a0 a1 a2 a3 b0 b1 b2 b3 c0 c1 c2 c3 d0 d1 d2 d3 : Value) :
    RecAt (some D) (w.alloc (.cells #[a0, a1, a2, a3, b0, b1, b2, b3, c0, c1, c2, c3, d0, d1, d2, d3] t)) (.slice (some ⟨w.heap.size, 0, none⟩) 4 4) 4 4 (psF [[a0, a1, a2, a3], [b0, b1, b2, b3], [c0, c1, c2, c3], [d0, d1, d2, d3]]) :=
  ⟨_, _, rfl, fun _ => ⟨_, _, rfl, Nat.le_refl _, by unfold maxLen; omega, (by intro e; have := Option.some.inj e; omega), by simp, fun i hi j hj => by
    rcases (by omega : i = 0 ∨ i = 1 ∨ i = 2 ∨ i = 3) with rfl | rfl | rfl | rfl <;> rcases (by omega : j = 0 ∨ j = 1 ∨ j = 2 ∨ j = 3) with rfl | rfl | rfl | rfl <;> exact cell_at rfl rfl⟩⟩
theorem ints_four (d : Nat) (w : World) (x y z u : Int) (hd : d < w.heap.size) : IntsAt (some d) (w.alloc (.cells #[.int .i64 x, .int .i64 y, .int .i64 z, .int .i64 u] 3)) (.slice (some ⟨w.heap.size, 0, none⟩) 4 4) [x, y, z, u] :=
  ⟨_, _, rfl, fun _ => ⟨_, _, rfl, by simp, by unfold maxLen; omega, by simp; omega, by simp, fun i hi => by
    match i, hi with
    | 0, _ => exact cell_at rfl rfl
    | 1, _ => exact cell_at rfl rfl
    | 2, _ => exact cell_at rfl rfl
    | 3, _ => exact cell_at rfl rfl⟩⟩

set_option maxHeartbeats 16000000 in
set_option maxRecDepth 100000 in
theorem cchecks_any (P0 : Plot) (va vb vc ve : Value) (person minute kind : Int) (x : Part) (xs : List Int) (v : Value) (w : World) (hP0 : PlotS none w va vb vc ve P0) (hX : IntsAt none w v xs) (hn : xs.length ≤ 9223372036854775807) :
    Calls Try.prog 4 #[plotV va vb vc ve, .int .i64 person, .int .i64 minute, .int .i64 kind, .agg #[.int .i64 x.person, .int .i64 x.place, .int .i64 x.kind, .int .i64 x.start, .int .i64 x.stop], v] w fun e w' => e = .returned (.bool true) ∧ Below w.heap.size w w' := by
  obtain ⟨a0, k0, rfl⟩ := hP0.persons.1.form
  obtain ⟨a1, k1, rfl⟩ := hP0.walk.form
  obtain ⟨a2, k2, ed, _⟩ := hP0.dress.1
  subst ed
  obtain ⟨a3, k3, rfl⟩ := hP0.parts.1.form
  have H0 := hid hP0
  have HX := hid hX
  obtain ⟨a, c, rfl, _⟩ := hX
  clear hP0
  go_enter Try.func4, Try.ntmps4
  go_upto_region 1 with fail
  obtain ⟨B, hB⟩ : ∃ B, w.heap.size = B := ⟨_, rfl⟩
  obtain ⟨w1, hw1⟩ : ∃ w1, ((w.alloc (.cells #[.slice a0 P0.persons.length k0, .slice a1 P0.walk.length k1, .slice a2 P0.dress.length k2, .slice a3 P0.parts.length k3] 29)).alloc (.cells #[.int .i64 x.person, .int .i64 x.place, .int .i64 x.kind, .int .i64 x.start, .int .i64 x.stop] 38)) = w1 := ⟨_, rfl⟩
  have hb1 : Below w.heap.size w w1 := by rw [← hw1]; exact below_trans (below_alloc _ _) (below_alloc _ _)
  have hbb : w1.cell? ⟨B, 0, none⟩ = some (.slice a0 P0.persons.length k0) ∧ w1.cell? ⟨B, 1, none⟩ = some (.slice a1 P0.walk.length k1) ∧ w1.cell? ⟨B, 2, none⟩ = some (.slice a2 P0.dress.length k2) ∧ w1.cell? ⟨B, 3, none⟩ = some (.slice a3 P0.parts.length k3) := by
    rw [← hw1]; exact ⟨cell_up (cell_at hB.symm rfl), cell_up (cell_at hB.symm rfl), cell_up (cell_at hB.symm rfl), cell_up (cell_at hB.symm rfl)⟩
  have hxx : w1.cell? ⟨B + 1, 0, none⟩ = some (.int .i64 x.person) ∧ w1.cell? ⟨B + 1, 1, none⟩ = some (.int .i64 x.place) ∧ w1.cell? ⟨B + 1, 2, none⟩ = some (.int .i64 x.kind) ∧ w1.cell? ⟨B + 1, 3, none⟩ = some (.int .i64 x.start) ∧ w1.cell? ⟨B + 1, 4, none⟩ = some (.int .i64 x.stop) := by
    rw [← hw1, ← hB]; exact ⟨cell_at (by simp) rfl, cell_at (by simp) rfl, cell_at (by simp) rfl, cell_at (by simp) rfl, cell_at (by simp) rfl⟩
  have hsz : w1.heap.size = B + 2 := by rw [← hw1, ← hB]; simp
  rw [hB] at hb1 ⊢
  rw [hw1]
  have H1 := hid (show PlotS none w1 _ _ _ _ P0 from H0.out.below (by rw [hB]; exact hb1))
  have HX1 := hid (show IntsAt none w1 _ xs from HX.out.below (by rw [hB]; exact hb1))
  have HB1 := hid (show Below w.heap.size w w1 from by rw [hB]; exact hb1)
  have HBB := hid hbb
  have HXX := hid hxx
  have HSz := hid hsz
  have HBw := hid hB
  have AW := hid (fun W' => awake_any W')
  clear hw1 hB hb1 H0 HX hsz hbb hxx
  obtain ⟨y0, y1, y2, y3⟩ := HBB.out
  go_upto_if 39 with (go_at_call 20; refine (wide_any P0 [] _ _ _ _ _ _ H1.out.at (ItemsAt.nilI _)).mono ?_; rintro e w2 ⟨b, rfl, hwide, hb2⟩; have HWd := hid hwide; have HB2 := hid hb2; clear hwide hb2 y0 y1 y2 y3)
  cases b with
  | true =>
    go_wp2_with (go_at_call 19; refine (AW.out _).mono ?_; rintro e w3 ⟨rfl, hb3⟩)
    go_ret
    exact ⟨rfl, HB1.out.trans ((below_trans HB2.out hb3).mono HB1.out.size)⟩
  | false =>
    have HN0 := hid (HWd.out rfl).1
    have HP40 := hid (HWd.out rfl).2.1
    have H1 := hid (H1.out.below HB2.out)
    have HX1 := hid (HX1.out.below HB2.out)
    have HBB := hid (show w2.cell? _ = _ ∧ w2.cell? _ = _ ∧ w2.cell? _ = _ ∧ w2.cell? _ = _ from ⟨cell_now HB2.out HBB.out.1, cell_now HB2.out HBB.out.2.1, cell_now HB2.out HBB.out.2.2.1, cell_now HB2.out HBB.out.2.2.2⟩)
    have HXX := hid (show w2.cell? _ = _ ∧ w2.cell? _ = _ ∧ w2.cell? _ = _ ∧ w2.cell? _ = _ ∧ w2.cell? _ = _ from ⟨cell_now HB2.out HXX.out.1, cell_now HB2.out HXX.out.2.1, cell_now HB2.out HXX.out.2.2.1, cell_now HB2.out HXX.out.2.2.2.1, cell_now HB2.out HXX.out.2.2.2.2⟩)
    have HB1 := hid (show Below w.heap.size w w2 from HB1.out.trans (HB2.out.mono HB1.out.size))
    have HSz := hid (show B + 2 ≤ w2.heap.size from by have := HB2.out.size; have := HSz.out; omega)
    clear HWd HB2
    go_upto_region 5 with (first
      | (go_at_call 13; refine (drumOf_any xs _ _ HX1.out hn).mono ?_; rintro e w4 ⟨rfl, hbt, hbl⟩; have HBt := hid hbt; have HBl := hid hbl; clear hbt hbl)
      | (go_at_call 14; refine (plotOf_any w2.heap.size 4 8 _ HBt.out (by omega) (by omega) (by omega) (by omega)).mono ?_; rintro e w5 ⟨vp, vw, vd, vq, p, rfl, hv, hpl, hql, hP, hsd, hbt, hg⟩; obtain ⟨ap, cp, rfl⟩ := hP.persons.form; obtain ⟨aw, cw, rfl⟩ := hP.walk.form; obtain ⟨ad, cd, ed, _⟩ := hP.dress; subst ed; obtain ⟨aq, cq, rfl⟩ := hP.parts.form; have HV := hid hv; have HSd := hid hsd; have LF0 := hid (LF.start hbt hP (HB1.out.trans ((HBl.out.grown hg HBl.out.size (fun g e => by cases e; exact Nat.le_refl _)).mono HB1.out.size)) (by have := HB1.out.size; exact this) 29); have HG5 := hid (gb_trans (gb_below HBl.out (some w2.heap.size)) hg); clear hv hP hbt hg hsd))
    obtain ⟨X, hXs⟩ : ∃ X, w5.heap.size = X := ⟨_, rfl⟩
    obtain ⟨D, hDs⟩ : ∃ D, w2.heap.size = D := ⟨_, rfl⟩
    have hargs := (H1.out.fresh (Nat.le_refl _)).kept HG5.out
    have hBD : B ≠ D ∧ B + 1 ≠ D := by have := HSz.out; omega
    obtain ⟨w6, hw6⟩ : ∃ w6, w5.alloc (.cells #[.slice ap p.persons.length cp, .slice aw p.walk.length cw, .slice ad p.dress.length cd, .slice aq p.parts.length cq] 29) = w6 := ⟨_, rfl⟩
    have hb56 : Below w5.heap.size w5 w6 := by rw [← hw6]; exact below_alloc _ _
    have L := LF0.out
    have hg5 := HG5.out
    rw [hDs] at hargs hg5 L
    rw [hw6, hXs] at L
    rw [hw6, hXs, hDs]
    have L := hid L
    have HA := hid (hargs.kept (gb_below hb56 _))
    have HG6 := hid (gb_trans hg5 (gb_below hb56 _))
    have HBB := hid (show w6.cell? _ = _ ∧ w6.cell? _ = _ ∧ w6.cell? _ = _ ∧ w6.cell? _ = _ from ⟨cell_gb HG6.out hBD.1 HBB.out.1, cell_gb HG6.out hBD.1 HBB.out.2.1, cell_gb HG6.out hBD.1 HBB.out.2.2.1, cell_gb HG6.out hBD.1 HBB.out.2.2.2⟩)
    have HXX := hid (show w6.cell? _ = _ ∧ w6.cell? _ = _ ∧ w6.cell? _ = _ ∧ w6.cell? _ = _ ∧ w6.cell? _ = _ from ⟨cell_gb HG6.out hBD.2 HXX.out.1, cell_gb HG6.out hBD.2 HXX.out.2.1, cell_gb HG6.out hBD.2 HXX.out.2.2.1, cell_gb HG6.out hBD.2 HXX.out.2.2.2.1, cell_gb HG6.out hBD.2 HXX.out.2.2.2.2⟩)
    have Vd := hid (plotErr_zero.1 HV.out)
    have HBD := hid hBD
    clear hargs hb56 hg5 hw6 hXs hDs hBD LF0 HG5 HBt HBl H1 HX1 HG6 HB1 HSz
    have y0 := L.out.c0
    have y1 := L.out.c1
    have y2 := L.out.c2
    have y3 := L.out.c3
    go_upto_region 6 with (go_at_call 21; refine (ownPlot_any p _ _ _ _ _ _ (PlotS.ofValid L.out.plot Vd.out HSd.out) (PlotN.ofValid Vd.out)).mono ?_; rintro e w7 ⟨vp', vw', vd', vq', rfl, hown, hb5⟩; have HOw := hid hown; have HB5 := hid hb5; obtain ⟨ap', cp', rfl⟩ := hown.persons.form; obtain ⟨aw', cw', rfl⟩ := hown.wform; obtain ⟨ad', cd', rfl⟩ := hown.dress.form; obtain ⟨aq', cq', rfl⟩ := hown.parts.form; clear hown hb5 y0 y1 y2 y3)
    obtain ⟨base, hbase⟩ : ∃ base, w6.heap.size = base := ⟨_, rfl⟩
    obtain ⟨Z, hZ⟩ : ∃ Z, w7.heap.size = Z := ⟨_, rfl⟩
    have hZlt : base ≤ Z := by rw [← hbase, ← hZ]; exact HB5.out.size
    have hdb : D < base := by rw [← hbase]; exact L.out.beat.lt
    obtain ⟨w8, hw8⟩ : ∃ w8, w7.alloc (.cells #[.slice ap' p.persons.length cp', .slice aw' p.walk.length cw', .slice ad' p.dress.length cd', .slice aq' p.parts.length cq'] 29) = w8 := ⟨_, rfl⟩
    have hb78 : Below w7.heap.size w7 w8 := by rw [← hw8]; exact below_alloc _ _
    have hbz := below_trans HB5.out hb78
    have hzz : w8.cell? ⟨Z, 0, none⟩ = some (.slice ap' p.persons.length cp') ∧ w8.cell? ⟨Z, 1, none⟩ = some (.slice aw' p.walk.length cw') ∧ w8.cell? ⟨Z, 2, none⟩ = some (.slice ad' p.dress.length cd') ∧ w8.cell? ⟨Z, 3, none⟩ = some (.slice aq' p.parts.length cq') := by
      rw [← hw8]; exact ⟨cell_at hZ.symm rfl, cell_at hZ.symm rfl, cell_at hZ.symm rfl, cell_at hZ.symm rfl⟩
    have hzf : ∀ o, w8.frozen? ⟨Z, o, none⟩ = false := fun o => by rw [← hw8]; exact frozen_at hZ.symm
    have hzh : w8.heap[Z]? = some (.cells #[.slice ap' p.persons.length cp', .slice aw' p.walk.length cw', .slice ad' p.dress.length cd', .slice aq' p.parts.length cq'] 29 (0, 0)) := by rw [← hw8, ← hZ]; exact Array.getElem?_push_size
    have hzg : ∀ b, (Value.slice aq' p.parts.length cq').ownBlock = some b → b < Z := fun b hb => by rw [← hZ]; exact (HOw.out.parts.lt hb).2
    rw [hZ, hw8]
    have HOw := hid (HOw.out.later hb78)
    rw [hbase] at HOw
    have HBz := hid hbz
    have HZZ := hid hzz
    have HZf := hid hzf
    have HZh := hid hzh
    have HZg := hid hzg
    have HBa := hid hbase
    clear hw8 hb78 hbz hzz hzf hzh hzg hbase hZ HB5
    obtain ⟨z0, z1, z2, z3⟩ := HZZ.out
    obtain ⟨q0, q1, q2, q3, q4⟩ : w8.cell? ⟨B + 1, 0, none⟩ = some (.int .i64 x.person) ∧ w8.cell? ⟨B + 1, 1, none⟩ = some (.int .i64 x.place) ∧ w8.cell? ⟨B + 1, 2, none⟩ = some (.int .i64 x.kind) ∧ w8.cell? ⟨B + 1, 3, none⟩ = some (.int .i64 x.start) ∧ w8.cell? ⟨B + 1, 4, none⟩ = some (.int .i64 x.stop) :=
      ⟨cell_now HBz.out HXX.out.1, cell_now HBz.out HXX.out.2.1, cell_now HBz.out HXX.out.2.2.1, cell_now HBz.out HXX.out.2.2.2.1, cell_now HBz.out HXX.out.2.2.2.2⟩
    go_upto_region 7 with (at_builtin; refine wpList_app encPart Try.underlying27 infoPart' (by decide) (by decide) (fun _ => rfl) rfl _ _ rfl base p.parts [x] (fun y _ => encPart_one y) _ _ rfl rfl (HOw.out.parts.later (below_alloc _ _)) (Src.lit encPart w8 x _ 1 rfl) (by have := Vd.out.few; simp; omega) (by have := HBz.out.size; have := HBa.out; simp; omega) ?_; intro v' w9 hown' hg hnil hat; obtain ⟨a9, c9, e9⟩ := hown'.form; subst e9; have HOn := hid hown'; have HGr : Hid ((w8.alloc (.cells (encPart x).toArray 38)).grownBy w9 (Value.slice aq' p.parts.length cq').ownBlock) := hid hg; have HGe := hid (show ∀ b, (Value.slice aq' p.parts.length cq').ownBlock = some b → b < Z from HZg.out); have hzne : some Z ≠ (Value.slice aq' p.parts.length cq').ownBlock := (fun e => by have := HZg.out Z e.symm; omega); have z3 := cell_row HGr.out hzne (cell_now (below_alloc _ _) z3); have zf := (World.frozen?_of_block (a := ⟨Z, 3, none⟩) (HGr.out.block Z (World.block_lt_of_cell? _ ⟨Z, 3, none⟩ (cell_now (below_alloc _ _) HZZ.out.2.2.2)) hzne)).trans ((below_alloc w8 _).frozen (p := ⟨Z, 3, none⟩) (World.block_lt_of_cell? w8 ⟨Z, 3, none⟩ HZZ.out.2.2.2) |>.trans (HZf.out 3)); clear hown' hg hnil hat)
    have hBA := OwnR.below (HOw.out.parts.later (below_alloc w8 (.cells (encPart x).toArray 38))) HGr.out (by have := HBz.out.size; have := HBa.out; simp; omega)
    have hzb : w6.heap.size ≤ Z := by rw [HBa.out]; exact hZlt
    have hB9 : Below w6.heap.size w6 (w9.setCell ⟨Z, 3, none⟩ (.slice a9 (p.parts.length + 1) c9)) := by
      have h1 : Below w6.heap.size (w8.alloc (.cells (encPart x).toArray 38)) w9 := by rw [HBa.out]; exact hBA
      exact ((HBz.out.trans ((below_alloc w8 _).mono HBz.out.size)).trans h1).setCell (p := ⟨Z, 3, none⟩) hzb _
    have hzne : some Z ≠ (Value.slice aq' p.parts.length cq').ownBlock := fun e => by have := HZg.out Z e.symm; omega
    have hzl : Z < (w8.alloc (.cells (encPart x).toArray 38)).heap.size := World.block_lt_of_cell? _ ⟨Z, 0, none⟩ (cell_now (below_alloc _ _) HZZ.out.1)
    have hzh : w9.heap[Z]? = some (.cells #[.slice ap' p.persons.length cp', .slice aw' p.walk.length cw', .slice ad' p.dress.length cd', .slice aq' p.parts.length cq'] 29 (0, 0)) :=
      (HGr.out.block Z hzl hzne).trans (((below_alloc w8 _).block Z (World.block_lt_of_cell? w8 ⟨Z, 0, none⟩ HZZ.out.1)).trans HZh.out)
    have hown : OwnP base (w9.setCell ⟨Z, 3, none⟩ (.slice a9 (p.parts.length + 1) c9)) _ _ _ _ { p with parts := p.parts ++ [x] } := ((HOw.out.later (below_alloc w8 _)).turn HOn.out HGr.out).off hzh (gb_put w9 Z 3 _)
    rw [List.length_append, List.length_singleton] at hown
    have hoth : ∀ o u, o ≠ 3 → w8.cell? ⟨Z, o, none⟩ = some u → (w9.setCell ⟨Z, 3, none⟩ (.slice a9 (p.parts.length + 1) c9)).cell? ⟨Z, o, none⟩ = some u := fun o u ho h =>
      (World.cell?_setCell_other _ _ _ _ (by intro e; cases e; exact ho rfl)).trans (cell_row HGr.out hzne (cell_now (below_alloc _ _) h))
    have hlc : LC D B X Z base P0 p { p with parts := p.parts ++ [x] } (.slice a0 P0.persons.length k0) (.slice a1 P0.walk.length k1) (.slice a2 P0.dress.length k2) (.slice a3 P0.parts.length k3) (.slice ap p.persons.length cp) (.slice aw p.walk.length cw) (.slice ad p.dress.length cd) (.slice aq p.parts.length cq) (.slice ap' p.persons.length cp') (.slice aw' p.walk.length cw') (.slice ad' p.dress.length cd') (.slice a9 (p.parts.length + 1) c9) w (w9.setCell ⟨Z, 3, none⟩ (.slice a9 (p.parts.length + 1) c9)) :=
      ⟨L.out.later hB9, HSd.out, cell_now hB9 HBB.out.1, cell_now hB9 HBB.out.2.1, cell_now hB9 HBB.out.2.2.1, cell_now hB9 HBB.out.2.2.2, HBD.out.1, HA.out.below hB9, hoth 0 _ (by decide) HZZ.out.1, hoth 1 _ (by decide) HZZ.out.2.1, hoth 2 _ (by decide) HZZ.out.2.2.1, World.cell?_setCell_same _ _ _ z3, by omega, hown, hdb⟩
    obtain ⟨wo, hwo⟩ : ∃ wo, w9.setCell ⟨Z, 3, none⟩ (.slice a9 (p.parts.length + 1) c9) = wo := ⟨_, rfl⟩
    rw [hwo] at hlc ⊢
    have HC := hid hlc
    clear hwo hlc hoth hown hzh hzl hzne hB9 hzb hBA z3 zf z0 z1 z2 q0 q1 q2 q3 q4 HGr HGe HOn HZg HZh HZf HZZ HBz HOw HBa HXX HBB HA L
    have y0 := HC.out.lf.c0
    have y2 := HC.out.lf.c2
    have HSr := hid (fun W' (hb : wo.grownBy W' (some D)) => (⟨cell_gb hb HC.out.lf.xd y0, cell_gb hb HC.out.lf.xd y2⟩ : W'.cell? ⟨X, 0, none⟩ = some (.slice ap p.persons.length cp) ∧ W'.cell? ⟨X, 2, none⟩ = some (.slice ad p.dress.length cd)))
    have HBt := hid (show Beat D wo.drew from HC.out.lf.beat.gb (Below.refl _ _).drew)
    have HGr := hid (show wo.grownBy wo.drew (some D) from gb_below (Below.refl _ _).drew _)
    have hvp := Vd.out.persons
    have hvd := Vd.out.dress
    clear y0 y2
    go_cut [16, 17] from 53 to 62 (fun s16 s17 wx => ∃ r1 r2 : Int, s16 = .int .i64 r1 ∧ s17 = .int .i64 r2 ∧ Beat D wx ∧ wo.grownBy wx (some D))
    case first =>
      as_aux_lemma =>
      go_region_held3 (fun W' => W'.cell? ⟨X, 0, none⟩ = some (.slice ap p.persons.length cp) ∧ W'.cell? ⟨X, 2, none⟩ = some (.slice ad p.dress.length cd))
        (first | exact HSr.out _ HGr.out) (first
        | (go_at_call 16; (with_reducible refine (roll_any D (p.persons.length : Int) _ HBt.out (by omega)).mono ?_); rintro e wa ⟨r1, rfl, r10, r11, hbt, hg⟩; have HGr := hid (gb_trans HGr.out hg); have HBt := hid hbt; clear hbt hg)
        | (go_at_call 16; (with_reducible refine (roll_any D (p.dress.length : Int) _ HBt.out (by omega)).mono ?_); rintro e wb ⟨r2, rfl, r20, r21, hbt, hg⟩; have HGr := hid (gb_trans HGr.out hg); have HBt := hid hbt; clear hbt hg))
      all_goals (
        go_wp2_with fail
        go_meet
        exact ⟨_, _, rfl, rfl, HBt.out, HGr.out⟩)
    case rest =>
      as_aux_lemma =>
      obtain ⟨r1, r2, rfl, rfl, hbt, hgr⟩ := hcut
      have HC := hid (HC.out.go hbt hgr)
      clear hbt hgr HSr HBt HGr hvp hvd
      obtain ⟨wo, rfl⟩ : ∃ w : World, w = wc := ⟨_, rfl⟩
      go_upto_region 8 with fail
      have HPm := hid (show ({ p with parts := p.parts ++ [x] } : Plot).persons.length = p.persons.length ∧ ({ p with parts := p.parts ++ [x] } : Plot).walk = p.walk ∧ ({ p with parts := p.parts ++ [x] } : Plot).dress.length = p.dress.length ∧ ({ p with parts := p.parts ++ [x] } : Plot).parts.length = p.parts.length + 1 from ⟨rfl, rfl, rfl, by simp⟩)
      obtain ⟨pm, hpm⟩ : ∃ pm : Plot, { p with parts := p.parts ++ [x] } = pm := ⟨_, rfl⟩
      rw [hpm] at HC HPm
      obtain ⟨A0, hA0⟩ : ∃ V, Value.slice a0 P0.persons.length k0 = V := ⟨_, rfl⟩
      rw [hA0] at HC ⊢
      obtain ⟨A1, hA1⟩ : ∃ V, Value.slice a1 P0.walk.length k1 = V := ⟨_, rfl⟩
      rw [hA1] at HC ⊢
      obtain ⟨A2, hA2⟩ : ∃ V, Value.slice a2 P0.dress.length k2 = V := ⟨_, rfl⟩
      rw [hA2] at HC ⊢
      obtain ⟨A3, hA3⟩ : ∃ V, Value.slice a3 P0.parts.length k3 = V := ⟨_, rfl⟩
      rw [hA3] at HC ⊢
      obtain ⟨M0, hM0⟩ : ∃ V, Value.slice ap p.persons.length cp = V := ⟨_, rfl⟩
      rw [hM0] at HC ⊢
      obtain ⟨M1, hM1⟩ : ∃ V, Value.slice aw p.walk.length cw = V := ⟨_, rfl⟩
      rw [hM1] at HC ⊢
      obtain ⟨M2, hM2⟩ : ∃ V, Value.slice ad p.dress.length cd = V := ⟨_, rfl⟩
      rw [hM2] at HC ⊢
      obtain ⟨M3, hM3⟩ : ∃ V, Value.slice aq p.parts.length cq = V := ⟨_, rfl⟩
      rw [hM3] at HC ⊢
      obtain ⟨C0, hC0⟩ : ∃ V, Value.slice ap' p.persons.length cp' = V := ⟨_, rfl⟩
      rw [hC0] at HC ⊢
      obtain ⟨C1, hC1⟩ : ∃ V, Value.slice aw' p.walk.length cw' = V := ⟨_, rfl⟩
      rw [hC1] at HC ⊢
      obtain ⟨C2, hC2⟩ : ∃ V, Value.slice ad' p.dress.length cd' = V := ⟨_, rfl⟩
      rw [hC2] at HC ⊢
      obtain ⟨C3, hC3⟩ : ∃ V, Value.slice a9 (p.parts.length + 1) c9 = V := ⟨_, rfl⟩
      rw [hC3] at HC ⊢
      clear hpm hA0 hA1 hA2 hA3 hM0 hM1 hM2 hM3 hC0 hC1 hC2 hC3
      go_cut [18, 19, 20, 21] from 63 to 83 (fun s18 s19 s20 s21 wx => ∃ r3 : Int, RecAt (some D) wx s18 4 4 (psF [[A0, A1, A2, A3], [M0, M1, M2, M3], [C0, C1, C2, C3], [M0, M1, M2, M3]]) ∧ IntsAt (some D) wx s19 [person, r1, r1, person] ∧ IntsAt (some D) wx s20 [minute, r3, minute, minute] ∧ IntsAt (some D) wx s21 [kind, r2, r2, kind] ∧ LC D B X Z base P0 p pm A0 A1 A2 A3 M0 M1 M2 M3 C0 C1 C2 C3 w wx)
      case first =>
        as_aux_lemma =>
        refine wp_region_flow (by kernel_rfl) [63, 64, 65, 66, 67, 68, 69, 70, 71, 72, 73, 74, 75, 76, 77, 78, 79, 80, 81, 82, 83, 18, 19, 20, 21] 100
          (fun _ w' => LC D B X Z base P0 p pm A0 A1 A2 A3 M0 M1 M2 M3 C0 C1 C2 C3 w w') (fun a b => a.grownBy b (some D)) (fun _ _ => False)
          (fun _ i v w' => match i with
            | 0 => v = .agg #[A0, A1, A2, A3]
            | 1 => v = .agg #[M0, M1, M2, M3]
            | 2 => v = .agg #[C0, C1, C2, C3]
            | 3 => v = .agg #[M0, M1, M2, M3]
            | 4 => RecAt (some D) w' v 4 4 (psF [[A0, A1, A2, A3], [M0, M1, M2, M3], [C0, C1, C2, C3], [M0, M1, M2, M3]])
            | 5 => v = .int .i64 person
            | 6 => v = .int .i64 r1
            | 7 => v = .int .i64 r1
            | 8 => v = .int .i64 person
            | 9 => IntsAt (some D) w' v [person, r1, r1, person]
            | 10 => v = .int .i64 minute
            | 11 => v = .pointer (some ⟨D, 0, none⟩)
            | 12 => ∃ r : Int, v = .int .i64 r
            | 13 => v = .int .i64 minute
            | 14 => v = .int .i64 minute
            | 15 => ∃ r : Int, IntsAt (some D) w' v [minute, r, minute, minute]
            | 16 => v = .int .i64 kind
            | 17 => v = .int .i64 r2
            | 18 => v = .int .i64 r2
            | 19 => v = .int .i64 kind
            | 20 => IntsAt (some D) w' v [kind, r2, r2, kind]
            | 21 => RecAt (some D) w' v 4 4 (psF [[A0, A1, A2, A3], [M0, M1, M2, M3], [C0, C1, C2, C3], [M0, M1, M2, M3]])
            | 22 => IntsAt (some D) w' v [person, r1, r1, person]
            | 23 => ∃ r : Int, IntsAt (some D) w' v [minute, r, minute, minute]
            | 24 => IntsAt (some D) w' v [kind, r2, r2, kind]
            | _ => True)
          [0, 1, 2, 3, 4, 5, 6, 7, 8, 9, 10, 11, 12, 13, 14, 15, 16, 17, 18, 19, 20, 21, 22, 23, 24] (by kernel_rfl) (by kernel_rfl) rfl ?_ ?_ ?_ ?_ ?_
        · intro b i v w2 w3 hW hg hy
          match i with
          | 0 => exact hy
          | 1 => exact hy
          | 2 => exact hy
          | 3 => exact hy
          | 4 => exact RecAt.kept hy hg
          | 5 => exact hy
          | 6 => exact hy
          | 7 => exact hy
          | 8 => exact hy
          | 9 => exact IntsAt.kept hy hg
          | 10 => exact hy
          | 11 => exact hy
          | 12 => exact hy
          | 13 => exact hy
          | 14 => exact hy
          | 15 => obtain ⟨r, h⟩ := hy; exact ⟨r, h.kept hg⟩
          | 16 => exact hy
          | 17 => exact hy
          | 18 => exact hy
          | 19 => exact hy
          | 20 => exact IntsAt.kept hy hg
          | 21 => exact RecAt.kept hy hg
          | 22 => exact IntsAt.kept hy hg
          | 23 => obtain ⟨r, h⟩ := hy; exact ⟨r, h.kept hg⟩
          | 24 => exact IntsAt.kept hy hg
          | n + 25 => exact trivial
        · intro i v w2 w3 _ h; exact h.elim
        · exact HC.out.later (Below.refl _ _).drew
        · skip
          refine StepF.cons (i := 0) (o := _) rfl (by decide) ?_ ?_
          · intro b vs wx hb hW hY K hK
            have q0 := hW.b0
            have q1 := hW.b1
            have q2 := hW.b2
            have q3 := hW.b3
            simp only [putAll, Act.put, List.setIfInBounds_toArray, List.set_cons_zero, List.set_cons_succ]
            go_simp
            have hk := hK.out (.agg #[A0, A1, A2, A3]) _ hW (gb_refl _ _) (fun _ => rfl)
            simp only [putAll, Act.put, List.setIfInBounds_toArray, List.set_cons_zero, List.set_cons_succ] at hk
            with_reducible exact hk
          refine StepF.cons (i := 1) (o := _) rfl (by decide) ?_ ?_
          · intro b vs wx hb hW hY K hK
            have q0 := hW.lf.c0
            have q1 := hW.lf.c1
            have q2 := hW.lf.c2
            have q3 := hW.lf.c3
            simp only [putAll, Act.put, List.setIfInBounds_toArray, List.set_cons_zero, List.set_cons_succ]
            go_simp
            have hk := hK.out (.agg #[M0, M1, M2, M3]) _ hW (gb_refl _ _) (fun _ => rfl)
            simp only [putAll, Act.put, List.setIfInBounds_toArray, List.set_cons_zero, List.set_cons_succ] at hk
            with_reducible exact hk
          refine StepF.cons (i := 2) (o := _) rfl (by decide) ?_ ?_
          · intro b vs wx hb hW hY K hK
            have q0 := hW.z0
            have q1 := hW.z1
            have q2 := hW.z2
            have q3 := hW.z3
            simp only [putAll, Act.put, List.setIfInBounds_toArray, List.set_cons_zero, List.set_cons_succ]
            go_simp
            have hk := hK.out (.agg #[C0, C1, C2, C3]) _ hW (gb_refl _ _) (fun _ => rfl)
            simp only [putAll, Act.put, List.setIfInBounds_toArray, List.set_cons_zero, List.set_cons_succ] at hk
            with_reducible exact hk
          refine StepF.cons (i := 3) (o := _) rfl (by decide) ?_ ?_
          · intro b vs wx hb hW hY K hK
            have q0 := hW.lf.c0
            have q1 := hW.lf.c1
            have q2 := hW.lf.c2
            have q3 := hW.lf.c3
            simp only [putAll, Act.put, List.setIfInBounds_toArray, List.set_cons_zero, List.set_cons_succ]
            go_simp
            have hk := hK.out (.agg #[M0, M1, M2, M3]) _ hW (gb_refl _ _) (fun _ => rfl)
            simp only [putAll, Act.put, List.setIfInBounds_toArray, List.set_cons_zero, List.set_cons_succ] at hk
            with_reducible exact hk
          refine StepF.cons (i := 4) (o := _) rfl (by decide) ?_ ?_
          · intro b vs wx hb hW hY K hK
            have y0 : vs 63 = .agg #[A0, A1, A2, A3] := hY 0 63 (by kernel_rfl) (by kernel_rfl)
            have y1 : vs 64 = .agg #[M0, M1, M2, M3] := hY 1 64 (by kernel_rfl) (by kernel_rfl)
            have y2 : vs 65 = .agg #[C0, C1, C2, C3] := hY 2 65 (by kernel_rfl) (by kernel_rfl)
            have y3 : vs 66 = .agg #[M0, M1, M2, M3] := hY 3 66 (by kernel_rfl) (by kernel_rfl)
            rw [if_pos (by simp [Region.wanted])]
            refine wp_four (.tmp 63) (.tmp 64) (.tmp 65) (.tmp 66) _ _ _ _ rfl ?_ ?_ ?_ ?_ (run_four_plots _ A0 A1 A2 A3 M0 M1 M2 M3 C0 C1 C2 C3 M0 M1 M2 M3) ?_
            · simp only [putAll, Act.put, List.setIfInBounds_toArray, List.set_cons_zero, List.set_cons_succ]
              simp only [y0]
              rfl
            · simp only [putAll, Act.put, List.setIfInBounds_toArray, List.set_cons_zero, List.set_cons_succ]
              simp only [y1]
              rfl
            · simp only [putAll, Act.put, List.setIfInBounds_toArray, List.set_cons_zero, List.set_cons_succ]
              simp only [y2]
              rfl
            · simp only [putAll, Act.put, List.setIfInBounds_toArray, List.set_cons_zero, List.set_cons_succ]
              simp only [y3]
              rfl
            exact hK.out _ _ (hW.later (below_alloc _ _)) (gb_below (below_alloc _ _) _) (fun _ => psF_cells D wx 29 hW.lf.beat.lt _ _ _ _ _ _ _ _ _ _ _ _ _ _ _ _)
          refine StepF.cons (i := 5) (o := _) rfl (by decide) ?_ ?_
          · intro b vs wx hb hW hY K hK
            simp only [putAll, Act.put, List.setIfInBounds_toArray, List.set_cons_zero, List.set_cons_succ]
            go_simp
            have hk := hK.out (.int .i64 person) _ hW (gb_refl _ _) (fun _ => rfl)
            simp only [putAll, Act.put, List.setIfInBounds_toArray, List.set_cons_zero, List.set_cons_succ] at hk
            with_reducible exact hk
          refine StepF.cons (i := 6) (o := _) rfl (by decide) ?_ ?_
          · intro b vs wx hb hW hY K hK
            simp only [putAll, Act.put, List.setIfInBounds_toArray, List.set_cons_zero, List.set_cons_succ]
            go_simp
            have hk := hK.out (.int .i64 r1) _ hW (gb_refl _ _) (fun _ => rfl)
            simp only [putAll, Act.put, List.setIfInBounds_toArray, List.set_cons_zero, List.set_cons_succ] at hk
            with_reducible exact hk
          refine StepF.cons (i := 7) (o := _) rfl (by decide) ?_ ?_
          · intro b vs wx hb hW hY K hK
            simp only [putAll, Act.put, List.setIfInBounds_toArray, List.set_cons_zero, List.set_cons_succ]
            go_simp
            have hk := hK.out (.int .i64 r1) _ hW (gb_refl _ _) (fun _ => rfl)
            simp only [putAll, Act.put, List.setIfInBounds_toArray, List.set_cons_zero, List.set_cons_succ] at hk
            with_reducible exact hk
          refine StepF.cons (i := 8) (o := _) rfl (by decide) ?_ ?_
          · intro b vs wx hb hW hY K hK
            simp only [putAll, Act.put, List.setIfInBounds_toArray, List.set_cons_zero, List.set_cons_succ]
            go_simp
            have hk := hK.out (.int .i64 person) _ hW (gb_refl _ _) (fun _ => rfl)
            simp only [putAll, Act.put, List.setIfInBounds_toArray, List.set_cons_zero, List.set_cons_succ] at hk
            with_reducible exact hk
          refine StepF.cons (i := 9) (o := _) rfl (by decide) ?_ ?_
          · intro b vs wx hb hW hY K hK
            have y5 : vs 68 = .int .i64 person := hY 5 68 (by kernel_rfl) (by kernel_rfl)
            have y6 : vs 69 = .int .i64 r1 := hY 6 69 (by kernel_rfl) (by kernel_rfl)
            have y7 : vs 70 = .int .i64 r1 := hY 7 70 (by kernel_rfl) (by kernel_rfl)
            have y8 : vs 71 = .int .i64 person := hY 8 71 (by kernel_rfl) (by kernel_rfl)
            rw [if_pos (by simp [Region.wanted])]
            refine wp_four (.tmp 68) (.tmp 69) (.tmp 70) (.tmp 71) _ _ _ _ rfl ?_ ?_ ?_ ?_ (run_four_ints _ person r1 r1 person) ?_
            · simp only [putAll, Act.put, List.setIfInBounds_toArray, List.set_cons_zero, List.set_cons_succ]
              simp only [y5]
              rfl
            · simp only [putAll, Act.put, List.setIfInBounds_toArray, List.set_cons_zero, List.set_cons_succ]
              simp only [y6]
              rfl
            · simp only [putAll, Act.put, List.setIfInBounds_toArray, List.set_cons_zero, List.set_cons_succ]
              simp only [y7]
              rfl
            · simp only [putAll, Act.put, List.setIfInBounds_toArray, List.set_cons_zero, List.set_cons_succ]
              simp only [y8]
              rfl
            exact hK.out _ _ (hW.later (below_alloc _ _)) (gb_below (below_alloc _ _) _) (fun _ => ints_four D wx person r1 r1 person hW.lf.beat.lt)
          refine StepF.cons (i := 10) (o := _) rfl (by decide) ?_ ?_
          · intro b vs wx hb hW hY K hK
            simp only [putAll, Act.put, List.setIfInBounds_toArray, List.set_cons_zero, List.set_cons_succ]
            go_simp
            have hk := hK.out (.int .i64 minute) _ hW (gb_refl _ _) (fun _ => rfl)
            simp only [putAll, Act.put, List.setIfInBounds_toArray, List.set_cons_zero, List.set_cons_succ] at hk
            with_reducible exact hk
          refine StepF.cons (i := 11) (o := _) rfl (by decide) ?_ ?_
          · intro b vs wx hb hW hY K hK
            simp only [putAll, Act.put, List.setIfInBounds_toArray, List.set_cons_zero, List.set_cons_succ]
            go_simp
            have hk := hK.out (.pointer (some ⟨D, 0, none⟩)) _ hW (gb_refl _ _) (fun _ => rfl)
            simp only [putAll, Act.put, List.setIfInBounds_toArray, List.set_cons_zero, List.set_cons_succ] at hk
            with_reducible exact hk
          refine StepF.cons (i := 12) (o := _) rfl (by decide) ?_ ?_
          · intro b vs wx hb hW hY K hK
            have y11 : vs 74 = .pointer (some ⟨D, 0, none⟩) := hY 11 74 (by kernel_rfl) (by kernel_rfl)
            simp only [putAll, Act.put, List.setIfInBounds_toArray, List.set_cons_zero, List.set_cons_succ]
            simp only [y11]
            go_simp
            go_at_call 16
            refine (roll_any D 160 _ hW.lf.beat (by decide)).mono ?_
            rintro e wy ⟨r, rfl, hr1, hr2, hbt, hgb⟩
            have hk := hK.out (.int .i64 r) _ (hW.go hbt hgb) hgb (fun _ => ⟨r, rfl⟩)
            simp only [putAll, Act.put, List.setIfInBounds_toArray, List.set_cons_zero, List.set_cons_succ, y11] at hk
            with_reducible exact hk
          refine StepF.cons (i := 13) (o := _) rfl (by decide) ?_ ?_
          · intro b vs wx hb hW hY K hK
            simp only [putAll, Act.put, List.setIfInBounds_toArray, List.set_cons_zero, List.set_cons_succ]
            go_simp
            have hk := hK.out (.int .i64 minute) _ hW (gb_refl _ _) (fun _ => rfl)
            simp only [putAll, Act.put, List.setIfInBounds_toArray, List.set_cons_zero, List.set_cons_succ] at hk
            with_reducible exact hk
          refine StepF.cons (i := 14) (o := _) rfl (by decide) ?_ ?_
          · intro b vs wx hb hW hY K hK
            simp only [putAll, Act.put, List.setIfInBounds_toArray, List.set_cons_zero, List.set_cons_succ]
            go_simp
            have hk := hK.out (.int .i64 minute) _ hW (gb_refl _ _) (fun _ => rfl)
            simp only [putAll, Act.put, List.setIfInBounds_toArray, List.set_cons_zero, List.set_cons_succ] at hk
            with_reducible exact hk
          refine StepF.cons (i := 15) (o := _) rfl (by decide) ?_ ?_
          · intro b vs wx hb hW hY K hK
            have y10 : vs 73 = .int .i64 minute := hY 10 73 (by kernel_rfl) (by kernel_rfl)
            have y12 : ∃ r : Int, vs 75 = .int .i64 r := hY 12 75 (by kernel_rfl) (by kernel_rfl)
            have y13 : vs 76 = .int .i64 minute := hY 13 76 (by kernel_rfl) (by kernel_rfl)
            have y14 : vs 77 = .int .i64 minute := hY 14 77 (by kernel_rfl) (by kernel_rfl)
            obtain ⟨r, y12⟩ := y12
            rw [if_pos (by simp [Region.wanted])]
            refine wp_four (.tmp 73) (.tmp 75) (.tmp 76) (.tmp 77) _ _ _ _ rfl ?_ ?_ ?_ ?_ (run_four_ints _ minute r minute minute) ?_
            · simp only [putAll, Act.put, List.setIfInBounds_toArray, List.set_cons_zero, List.set_cons_succ]
              simp only [y10]
              rfl
            · simp only [putAll, Act.put, List.setIfInBounds_toArray, List.set_cons_zero, List.set_cons_succ]
              simp only [y12]
              rfl
            · simp only [putAll, Act.put, List.setIfInBounds_toArray, List.set_cons_zero, List.set_cons_succ]
              simp only [y13]
              rfl
            · simp only [putAll, Act.put, List.setIfInBounds_toArray, List.set_cons_zero, List.set_cons_succ]
              simp only [y14]
              rfl
            exact hK.out _ _ (hW.later (below_alloc _ _)) (gb_below (below_alloc _ _) _) (fun _ => ⟨r, ints_four D wx minute r minute minute hW.lf.beat.lt⟩)
          refine StepF.cons (i := 16) (o := _) rfl (by decide) ?_ ?_
          · intro b vs wx hb hW hY K hK
            simp only [putAll, Act.put, List.setIfInBounds_toArray, List.set_cons_zero, List.set_cons_succ]
            go_simp
            have hk := hK.out (.int .i64 kind) _ hW (gb_refl _ _) (fun _ => rfl)
            simp only [putAll, Act.put, List.setIfInBounds_toArray, List.set_cons_zero, List.set_cons_succ] at hk
            with_reducible exact hk
          refine StepF.cons (i := 17) (o := _) rfl (by decide) ?_ ?_
          · intro b vs wx hb hW hY K hK
            simp only [putAll, Act.put, List.setIfInBounds_toArray, List.set_cons_zero, List.set_cons_succ]
            go_simp
            have hk := hK.out (.int .i64 r2) _ hW (gb_refl _ _) (fun _ => rfl)
            simp only [putAll, Act.put, List.setIfInBounds_toArray, List.set_cons_zero, List.set_cons_succ] at hk
            with_reducible exact hk
          refine StepF.cons (i := 18) (o := _) rfl (by decide) ?_ ?_
          · intro b vs wx hb hW hY K hK
            simp only [putAll, Act.put, List.setIfInBounds_toArray, List.set_cons_zero, List.set_cons_succ]
            go_simp
            have hk := hK.out (.int .i64 r2) _ hW (gb_refl _ _) (fun _ => rfl)
            simp only [putAll, Act.put, List.setIfInBounds_toArray, List.set_cons_zero, List.set_cons_succ] at hk
            with_reducible exact hk
          refine StepF.cons (i := 19) (o := _) rfl (by decide) ?_ ?_
          · intro b vs wx hb hW hY K hK
            simp only [putAll, Act.put, List.setIfInBounds_toArray, List.set_cons_zero, List.set_cons_succ]
            go_simp
            have hk := hK.out (.int .i64 kind) _ hW (gb_refl _ _) (fun _ => rfl)
            simp only [putAll, Act.put, List.setIfInBounds_toArray, List.set_cons_zero, List.set_cons_succ] at hk
            with_reducible exact hk
          refine StepF.cons (i := 20) (o := _) rfl (by decide) ?_ ?_
          · intro b vs wx hb hW hY K hK
            have y16 : vs 79 = .int .i64 kind := hY 16 79 (by kernel_rfl) (by kernel_rfl)
            have y17 : vs 80 = .int .i64 r2 := hY 17 80 (by kernel_rfl) (by kernel_rfl)
            have y18 : vs 81 = .int .i64 r2 := hY 18 81 (by kernel_rfl) (by kernel_rfl)
            have y19 : vs 82 = .int .i64 kind := hY 19 82 (by kernel_rfl) (by kernel_rfl)
            rw [if_pos (by simp [Region.wanted])]
            refine wp_four (.tmp 79) (.tmp 80) (.tmp 81) (.tmp 82) _ _ _ _ rfl ?_ ?_ ?_ ?_ (run_four_ints _ kind r2 r2 kind) ?_
            · simp only [putAll, Act.put, List.setIfInBounds_toArray, List.set_cons_zero, List.set_cons_succ]
              simp only [y16]
              rfl
            · simp only [putAll, Act.put, List.setIfInBounds_toArray, List.set_cons_zero, List.set_cons_succ]
              simp only [y17]
              rfl
            · simp only [putAll, Act.put, List.setIfInBounds_toArray, List.set_cons_zero, List.set_cons_succ]
              simp only [y18]
              rfl
            · simp only [putAll, Act.put, List.setIfInBounds_toArray, List.set_cons_zero, List.set_cons_succ]
              simp only [y19]
              rfl
            exact hK.out _ _ (hW.later (below_alloc _ _)) (gb_below (below_alloc _ _) _) (fun _ => ints_four D wx kind r2 r2 kind hW.lf.beat.lt)
          refine StepF.cons (i := 21) (o := _) rfl (by decide) ?_ ?_
          · intro b vs wx hb hW hY K hK
            have y4 := hY 4 67 (by kernel_rfl) (by kernel_rfl)
            simp only [putAll, Act.put, List.setIfInBounds_toArray, List.set_cons_zero, List.set_cons_succ]
            go_simp
            have hk := hK.out (vs 67) _ hW (gb_refl _ _) (fun _ => y4)
            simp only [putAll, Act.put, List.setIfInBounds_toArray, List.set_cons_zero, List.set_cons_succ] at hk
            with_reducible exact hk
          refine StepF.cons (i := 22) (o := _) rfl (by decide) ?_ ?_
          · intro b vs wx hb hW hY K hK
            have y9 := hY 9 72 (by kernel_rfl) (by kernel_rfl)
            simp only [putAll, Act.put, List.setIfInBounds_toArray, List.set_cons_zero, List.set_cons_succ]
            go_simp
            have hk := hK.out (vs 72) _ hW (gb_refl _ _) (fun _ => y9)
            simp only [putAll, Act.put, List.setIfInBounds_toArray, List.set_cons_zero, List.set_cons_succ] at hk
            with_reducible exact hk
          refine StepF.cons (i := 23) (o := _) rfl (by decide) ?_ ?_
          · intro b vs wx hb hW hY K hK
            have y15 := hY 15 78 (by kernel_rfl) (by kernel_rfl)
            simp only [putAll, Act.put, List.setIfInBounds_toArray, List.set_cons_zero, List.set_cons_succ]
            go_simp
            have hk := hK.out (vs 78) _ hW (gb_refl _ _) (fun _ => y15)
            simp only [putAll, Act.put, List.setIfInBounds_toArray, List.set_cons_zero, List.set_cons_succ] at hk
            with_reducible exact hk
          refine StepF.cons (i := 24) (o := _) rfl (by decide) ?_ ?_
          · intro b vs wx hb hW hY K hK
            have y20 := hY 20 83 (by kernel_rfl) (by kernel_rfl)
            simp only [putAll, Act.put, List.setIfInBounds_toArray, List.set_cons_zero, List.set_cons_succ]
            go_simp
            have hk := hK.out (vs 83) _ hW (gb_refl _ _) (fun _ => y20)
            simp only [putAll, Act.put, List.setIfInBounds_toArray, List.set_cons_zero, List.set_cons_succ] at hk
            with_reducible exact hk
          exact StepF.nil
        · intro vs wx hW hY
          have y21 := hY 21 18 (by kernel_rfl)
          have y22 := hY 22 19 (by kernel_rfl)
          have y23 := hY 23 20 (by kernel_rfl)
          have y24 := hY 24 21 (by kernel_rfl)
          obtain ⟨r3, h23⟩ := y23
          have HWx := hid hW
          have H21 := hid y21
          have H22 := hid y22
          have H23 := hid h23
          have H24 := hid y24
          clear hW hY y21 y22 h23 y24
          simp only [putAll, Act.put, List.setIfInBounds_toArray, List.set_cons_zero, List.set_cons_succ]
          go_wp2_with fail
          go_meet
          exact ⟨r3, H21.out, H22.out, H23.out, H24.out, HWx.out⟩
      case rest =>
        as_aux_lemma =>
        obtain ⟨r3, h18, h19, h20, h21, hlc⟩ := hcut
        have HPs := hid (show ∀ i, i < 4 → ∃ (va vb vc ve : Value) (Q : Plot), PlotS none wc va vb vc ve Q ∧ PlotN Q ∧ psF [[A0, A1, A2, A3], [M0, M1, M2, M3], [C0, C1, C2, C3], [M0, M1, M2, M3]] i 0 = va ∧ psF [[A0, A1, A2, A3], [M0, M1, M2, M3], [C0, C1, C2, C3], [M0, M1, M2, M3]] i 1 = vb ∧ psF [[A0, A1, A2, A3], [M0, M1, M2, M3], [C0, C1, C2, C3], [M0, M1, M2, M3]] i 2 = vc ∧ psF [[A0, A1, A2, A3], [M0, M1, M2, M3], [C0, C1, C2, C3], [M0, M1, M2, M3]] i 3 = ve from fun i hi => by
          have hmade := (PlotS.ofValid hlc.lf.plot Vd.out hlc.sd).any
          rcases (by omega : i = 0 ∨ i = 1 ∨ i = 2 ∨ i = 3) with rfl | rfl | rfl | rfl
          · exact ⟨_, _, _, _, _, hlc.arg.any, HN0.out, rfl, rfl, rfl, rfl⟩
          · exact ⟨_, _, _, _, _, hmade, PlotN.ofValid Vd.out, rfl, rfl, rfl, rfl⟩
          · have hN := PlotN.ofValid Vd.out
            have hf := Vd.out.few
            exact ⟨_, _, _, _, _, hlc.own.sound (d := none) (by simp), ⟨by rw [HPm.out.1]; exact hN.persons, by rw [HPm.out.2.1]; exact hN.walk, by rw [HPm.out.2.1]; exact hN.rows, by rw [HPm.out.2.2.1]; exact hN.dress, by rw [HPm.out.2.2.2]; omega⟩, rfl, rfl, rfl, rfl⟩
          · exact ⟨_, _, _, _, _, hmade, PlotN.ofValid Vd.out, rfl, rfl, rfl, rfl⟩)
        obtain ⟨PSv, hPSv⟩ : ∃ g, psF [[A0, A1, A2, A3], [M0, M1, M2, M3], [C0, C1, C2, C3], [M0, M1, M2, M3]] = g := ⟨_, rfl⟩
        rw [hPSv] at HPs h18
        have HBw := hid hlc.lf.below
        obtain ⟨b18, c18, rfl, h18'⟩ := h18
        obtain ⟨b18, o18, rfl, _, _, _, hb18, hc18⟩ := h18' (by decide)
        obtain ⟨b19, o19, cc19, e19, _, _⟩ := h19.slice (by simp)
        rw [show [person, r1, r1, person].length = 4 from rfl] at e19
        subst e19
        obtain ⟨b20, o20, cc20, e20, _, _⟩ := h20.slice (by simp)
        rw [show [minute, r3, minute, minute].length = 4 from rfl] at e20
        subst e20
        obtain ⟨b21, o21, cc21, e21, _, _⟩ := h21.slice (by simp)
        rw [show [kind, r2, r2, kind].length = 4 from rfl] at e21
        subst e21
        have H18 := hid hc18
        have H19 := hid h19
        have H20 := hid h20
        have H21 := hid h21
        have HCk := hid (fun Q vp vw vd vq W' (h : PlotAt none W' vp vw vd vq Q) => ccheck_any Q vp vw vd vq W' h)
        have HCr := hid (fun Q vp vw vd vq W' (h : PlotAt none W' vp vw vd vq Q) => rcheck_plot Q vp vw vd vq W' h)
        have HDp := hid (fun Q n vp vw vd vq W' (h : PlotAt none W' vp vw vd vq Q) => day_any Q n vp vw vd vq W' h)
        have HDr := hid (fun Q n vp vw vd vq W' (h : PlotAt none W' vp vw vd vq Q) => rday_any Q n vp vw vd vq W' h)
        have HAp := hid (fun Q n m vp vw vd vq W' (h : PlotAt none W' vp vw vd vq Q) => at_any Q n m vp vw vd vq W' h)
        have HAr := hid (fun Q n m vp vw vd vq W' (h : PlotAt none W' vp vw vd vq Q) => rat_any Q n m vp vw vd vq W' h)
        have HMp := hid (fun Q n vp vw vd vq W' (h : PlotAt none W' vp vw vd vq Q) => most_any Q n vp vw vd vq W' h)
        have HMr := hid (fun Q n vp vw vd vq W' (h : PlotAt none W' vp vw vd vq Q) => rmost_any Q n vp vw vd vq W' h)
        clear hPSv hlc h18' hc18 h19 h20 h21 HC
        go_wp2_with fail
        go_loopw [22] (fun i wr => ∃ k : Nat, k ≤ 4 ∧ i = .int .i64 k ∧ Below wc.heap.size wc wr) (fun i _ => 4 - (intOf i).toNat)
        case atStart => exact ⟨0, by omega, rfl, Below.refl _ _⟩
        case round =>
          as_aux_lemma =>
          obtain ⟨k, hk, rfl, hb⟩ := hrel
          obtain ⟨wo, rfl⟩ : ∃ wo : World, wo = wr := ⟨_, rfl⟩
          have HB := hid hb
          clear hb
          by_cases hlt : k < 4
          rotate_left
          · obtain rfl : k = 4 := by omega
            go_wp2_with (go_at_call 19; refine (AW.out _).mono ?_; rintro e wz ⟨rfl, hbz⟩)
            go_ret
            exact ⟨rfl, HBw.out.trans ((HB.out.trans (hbz.mono HB.out.size)).mono HBw.out.size)⟩
          obtain ⟨va, vb, vc, ve, Q, hPS, hQN, e0, e1, e2, e3⟩ := HPs.out k hlt
          have hPSo := hPS.below HB.out
          have d0 := cell_back HB.out hb18 (H18.out k hlt 0 (by decide))
          have d1 := cell_back HB.out hb18 (H18.out k hlt 1 (by decide))
          have d2 := cell_back HB.out hb18 (H18.out k hlt 2 (by decide))
          have d3 := cell_back HB.out hb18 (H18.out k hlt 3 (by decide))
          rw [e0, Nat.add_zero] at d0
          rw [e1] at d1
          rw [e2] at d2
          rw [e3] at d3
          have n0 := cell_now HB.out (IntsAt.cell H19.out (i := k) (by simpa using hlt))
          have n1 := cell_now HB.out (IntsAt.cell H20.out (i := k) (by simpa using hlt))
          have n2 := cell_now HB.out (IntsAt.cell H21.out (i := k) (by simpa using hlt))
          obtain ⟨n, hnn⟩ : ∃ n, nm [person, r1, r1, person] k = n := ⟨_, rfl⟩
          obtain ⟨m, hmm⟩ : ∃ m, nm [minute, r3, minute, minute] k = m := ⟨_, rfl⟩
          obtain ⟨kd, hkk⟩ : ∃ kd, nm [kind, r2, r2, kind] k = kd := ⟨_, rfl⟩
          rw [hnn] at n0
          rw [hmm] at n1
          rw [hkk] at n2
          have HP := hid hPSo
          have HQN := hid hQN
          obtain ⟨qa, ka, rfl⟩ := hPS.persons.1.form
          obtain ⟨qb, kb, rfl⟩ := hPS.walk.form
          obtain ⟨qc, kc, ed, _⟩ := hPS.dress.1
          subst ed
          obtain ⟨qe, ke, rfl⟩ := hPS.parts.1.form
          have i1 : (k : Int) < 4 := by omega
          have z1 : IntKind.i64.wrap ((k : Int) + 1) = (k : Int) + 1 := IntWalk.i64_in _ (by omega)
          have hdl : (dayRes Q n).length ≤ 1000000 := by
            unfold dayRes
            split
            next h =>
              have hv : plotErr Q = 0 := by
                by_cases hv : plotErr Q = 0
                · exact hv
                · unfold personE at h; rw [if_neg hv] at h; exact absurd h hv
              have h1 := dayL_count Q n
              have h2 := cnt_nonneg (fun i => decide ((pt Q.parts i).person = n)) Q.parts.length
              have h3 := (plotErr_zero.1 hv).few
              omega
            next h => simp
          have HDl := hid hdl
          clear e0 e1 e2 e3 hnn hmm hkk hPS hPSo hQN hdl
          go_upto_region 13 with (go_at_call 21; refine (ownPlot_any Q _ _ _ _ _ _ HP.out HQN.out).mono ?_; rintro e wy ⟨vp', vw', vd', vq', rfl, hown, hb5⟩; have HOw := hid hown; have HB5 := hid hb5; obtain ⟨pa, ja, rfl⟩ := hown.persons.form; obtain ⟨pb, jb, rfl⟩ := hown.wform; obtain ⟨pc, jc, rfl⟩ := hown.dress.form; obtain ⟨pe, je, rfl⟩ := hown.parts.form; clear hown hb5)
          obtain ⟨Y, hY⟩ : ∃ Y, wy.heap.size = Y := ⟨_, rfl⟩
          obtain ⟨wb, hwb⟩ : ∃ wb, wy.alloc (.cells #[.slice pa Q.persons.length ja, .slice pb Q.walk.length jb, .slice pc Q.dress.length jc, .slice pe Q.parts.length je] 29) = wb := ⟨_, rfl⟩
          have hbb : Below wy.heap.size wy wb := by rw [← hwb]; exact below_alloc _ _
          have hob := below_trans HB5.out hbb
          have hyy : wb.cell? ⟨Y, 0, none⟩ = some (.slice pa Q.persons.length ja) ∧ wb.cell? ⟨Y, 1, none⟩ = some (.slice pb Q.walk.length jb) ∧ wb.cell? ⟨Y, 2, none⟩ = some (.slice pc Q.dress.length jc) ∧ wb.cell? ⟨Y, 3, none⟩ = some (.slice pe Q.parts.length je) := by
            rw [← hwb]; exact ⟨cell_at hY.symm rfl, cell_at hY.symm rfl, cell_at hY.symm rfl, cell_at hY.symm rfl⟩
          rw [hY, hwb]
          have HQo := hid (show PlotAt none wb _ _ _ _ Q from (HOw.out.at (d := none) (by simp)).below hbb)
          have HQp := hid (show PlotAt none wb _ _ _ _ Q from HP.out.at.below hob)
          have HBo := hid (HB.out.trans (hob.mono HB.out.size))
          have HS := hid (fun W' (hb : Below wb.heap.size wb W') => (⟨cell_now hb hyy.1, cell_now hb hyy.2.1, cell_now hb hyy.2.2.1, cell_now hb hyy.2.2.2, cell_now hb (cell_now hob d0), cell_now hb (cell_now hob d1), cell_now hb (cell_now hob d2), cell_now hb (cell_now hob d3), cell_now hb (cell_now hob n0), cell_now hb (cell_now hob n1), cell_now hb (cell_now hob n2)⟩ : W'.cell? ⟨Y, 0, none⟩ = some (.slice pa Q.persons.length ja) ∧ W'.cell? ⟨Y, 1, none⟩ = some (.slice pb Q.walk.length jb) ∧ W'.cell? ⟨Y, 2, none⟩ = some (.slice pc Q.dress.length jc) ∧ W'.cell? ⟨Y, 3, none⟩ = some (.slice pe Q.parts.length je) ∧ W'.cell? ⟨b18, o18 + k * 4, none⟩ = some (.slice qa Q.persons.length ka) ∧ W'.cell? ⟨b18, o18 + k * 4 + 1, none⟩ = some (.slice qb Q.walk.length kb) ∧ W'.cell? ⟨b18, o18 + k * 4 + 2, none⟩ = some (.slice qc Q.dress.length kc) ∧ W'.cell? ⟨b18, o18 + k * 4 + 3, none⟩ = some (.slice qe Q.parts.length ke) ∧ W'.cell? ⟨b19, o19 + k, none⟩ = some (.int .i64 n) ∧ W'.cell? ⟨b20, o20 + k, none⟩ = some (.int .i64 m) ∧ W'.cell? ⟨b21, o21 + k, none⟩ = some (.int .i64 kd)))
          have HBc := hid (show Below wb.heap.size wb wb.drew from (Below.refl _ _).drew)
          clear hY hwb hbb hob hyy HB5 HOw d0 d1 d2 d3 n0 n1 n2
          go_upto_region 13 with fail
          go_region_held3 (fun W' => W'.cell? ⟨Y, 0, none⟩ = some (.slice pa Q.persons.length ja) ∧ W'.cell? ⟨Y, 1, none⟩ = some (.slice pb Q.walk.length jb) ∧ W'.cell? ⟨Y, 2, none⟩ = some (.slice pc Q.dress.length jc) ∧ W'.cell? ⟨Y, 3, none⟩ = some (.slice pe Q.parts.length je) ∧ W'.cell? ⟨b18, o18 + k * 4, none⟩ = some (.slice qa Q.persons.length ka) ∧ W'.cell? ⟨b18, o18 + k * 4 + 1, none⟩ = some (.slice qb Q.walk.length kb) ∧ W'.cell? ⟨b18, o18 + k * 4 + 2, none⟩ = some (.slice qc Q.dress.length kc) ∧ W'.cell? ⟨b18, o18 + k * 4 + 3, none⟩ = some (.slice qe Q.parts.length ke) ∧ W'.cell? ⟨b19, o19 + k, none⟩ = some (.int .i64 n) ∧ W'.cell? ⟨b20, o20 + k, none⟩ = some (.int .i64 m) ∧ W'.cell? ⟨b21, o21 + k, none⟩ = some (.int .i64 kd))
            (first | exact HS.out _ HBc.out) (first
            | (go_at_call 22; refine (HDp.out Q n _ _ _ _ _ (HQo.out.below HBc.out)).mono ?_; rintro e w13 ⟨v13, rfl, ho, hb⟩; obtain ⟨a13, c13, rfl⟩ := (own_int.2 ho).form; have HL1 := hid (OwnInts.at (d := none) ho (by simp)); have HBc := hid (HBc.out.trans (hb.mono HBc.out.size)); clear ho hb))
          have HBc := hid (show Below wb.heap.size wb w13.drew from HBc.out.trans ((Below.refl w13.heap.size w13).drew.mono HBc.out.size))
          have HL1 := hid (show IntsAt none w13.drew _ _ from HL1.out.below (Below.refl w13.heap.size w13).drew)
          go_upto_region 14 with fail
          go_region_held3 (fun W' => W'.cell? ⟨Y, 0, none⟩ = some (.slice pa Q.persons.length ja) ∧ W'.cell? ⟨Y, 1, none⟩ = some (.slice pb Q.walk.length jb) ∧ W'.cell? ⟨Y, 2, none⟩ = some (.slice pc Q.dress.length jc) ∧ W'.cell? ⟨Y, 3, none⟩ = some (.slice pe Q.parts.length je) ∧ W'.cell? ⟨b18, o18 + k * 4, none⟩ = some (.slice qa Q.persons.length ka) ∧ W'.cell? ⟨b18, o18 + k * 4 + 1, none⟩ = some (.slice qb Q.walk.length kb) ∧ W'.cell? ⟨b18, o18 + k * 4 + 2, none⟩ = some (.slice qc Q.dress.length kc) ∧ W'.cell? ⟨b18, o18 + k * 4 + 3, none⟩ = some (.slice qe Q.parts.length ke) ∧ W'.cell? ⟨b19, o19 + k, none⟩ = some (.int .i64 n) ∧ W'.cell? ⟨b20, o20 + k, none⟩ = some (.int .i64 m) ∧ W'.cell? ⟨b21, o21 + k, none⟩ = some (.int .i64 kd))
            (first | exact HS.out _ HBc.out) (first
            | (go_at_call 23; refine (HDr.out Q n _ _ _ _ _ (HQp.out.below HBc.out)).mono ?_; rintro e w14 ⟨v14, rfl, ho, hb⟩; obtain ⟨a14, c14, rfl⟩ := (own_int.2 ho).form; have HL2 := hid (OwnInts.at (d := none) ho (by simp)); have HBc := hid (HBc.out.trans (hb.mono HBc.out.size)); have HL1 := hid (HL1.out.below hb); clear ho hb))
          have HBc := hid (show Below wb.heap.size wb w14.drew from HBc.out.trans ((Below.refl w14.heap.size w14).drew.mono HBc.out.size))
          have HL1 := hid (show IntsAt none w14.drew _ _ from HL1.out.below (Below.refl w14.heap.size w14).drew)
          have HL2 := hid (show IntsAt none w14.drew _ _ from HL2.out.below (Below.refl w14.heap.size w14).drew)
          go_upto_region 15 with fail
          go_region_held3 (fun W' => W'.cell? ⟨Y, 0, none⟩ = some (.slice pa Q.persons.length ja) ∧ W'.cell? ⟨Y, 1, none⟩ = some (.slice pb Q.walk.length jb) ∧ W'.cell? ⟨Y, 2, none⟩ = some (.slice pc Q.dress.length jc) ∧ W'.cell? ⟨Y, 3, none⟩ = some (.slice pe Q.parts.length je) ∧ W'.cell? ⟨b18, o18 + k * 4, none⟩ = some (.slice qa Q.persons.length ka) ∧ W'.cell? ⟨b18, o18 + k * 4 + 1, none⟩ = some (.slice qb Q.walk.length kb) ∧ W'.cell? ⟨b18, o18 + k * 4 + 2, none⟩ = some (.slice qc Q.dress.length kc) ∧ W'.cell? ⟨b18, o18 + k * 4 + 3, none⟩ = some (.slice qe Q.parts.length ke) ∧ W'.cell? ⟨b19, o19 + k, none⟩ = some (.int .i64 n) ∧ W'.cell? ⟨b20, o20 + k, none⟩ = some (.int .i64 m) ∧ W'.cell? ⟨b21, o21 + k, none⟩ = some (.int .i64 kd))
            (first | exact HS.out _ HBc.out) (first
            | (go_at_call 24; refine (HAp.out Q n m _ _ _ _ _ (HQo.out.below HBc.out)).mono ?_; rintro e w15 ⟨rfl, hb⟩; have HBc := hid (HBc.out.trans (hb.mono HBc.out.size)); have HL1 := hid (HL1.out.below hb); have HL2 := hid (HL2.out.below hb); clear hb))
          have HBc := hid (show Below wb.heap.size wb w15.drew from HBc.out.trans ((Below.refl w15.heap.size w15).drew.mono HBc.out.size))
          have HL1 := hid (show IntsAt none w15.drew _ _ from HL1.out.below (Below.refl w15.heap.size w15).drew)
          have HL2 := hid (show IntsAt none w15.drew _ _ from HL2.out.below (Below.refl w15.heap.size w15).drew)
          go_upto_region 16 with fail
          go_region_held3 (fun W' => W'.cell? ⟨Y, 0, none⟩ = some (.slice pa Q.persons.length ja) ∧ W'.cell? ⟨Y, 1, none⟩ = some (.slice pb Q.walk.length jb) ∧ W'.cell? ⟨Y, 2, none⟩ = some (.slice pc Q.dress.length jc) ∧ W'.cell? ⟨Y, 3, none⟩ = some (.slice pe Q.parts.length je) ∧ W'.cell? ⟨b18, o18 + k * 4, none⟩ = some (.slice qa Q.persons.length ka) ∧ W'.cell? ⟨b18, o18 + k * 4 + 1, none⟩ = some (.slice qb Q.walk.length kb) ∧ W'.cell? ⟨b18, o18 + k * 4 + 2, none⟩ = some (.slice qc Q.dress.length kc) ∧ W'.cell? ⟨b18, o18 + k * 4 + 3, none⟩ = some (.slice qe Q.parts.length ke) ∧ W'.cell? ⟨b19, o19 + k, none⟩ = some (.int .i64 n) ∧ W'.cell? ⟨b20, o20 + k, none⟩ = some (.int .i64 m) ∧ W'.cell? ⟨b21, o21 + k, none⟩ = some (.int .i64 kd))
            (first | exact HS.out _ HBc.out) (first
            | (go_at_call 25; refine (HAr.out Q n m _ _ _ _ _ (HQp.out.below HBc.out)).mono ?_; rintro e w16 ⟨rfl, hb⟩; have HBc := hid (HBc.out.trans (hb.mono HBc.out.size)); have HL1 := hid (HL1.out.below hb); have HL2 := hid (HL2.out.below hb); clear hb))
          have HBc := hid (show Below wb.heap.size wb w16.drew from HBc.out.trans ((Below.refl w16.heap.size w16).drew.mono HBc.out.size))
          have HL1 := hid (show IntsAt none w16.drew _ _ from HL1.out.below (Below.refl w16.heap.size w16).drew)
          have HL2 := hid (show IntsAt none w16.drew _ _ from HL2.out.below (Below.refl w16.heap.size w16).drew)
          go_upto_region 17 with fail
          go_region_held3 (fun W' => W'.cell? ⟨Y, 0, none⟩ = some (.slice pa Q.persons.length ja) ∧ W'.cell? ⟨Y, 1, none⟩ = some (.slice pb Q.walk.length jb) ∧ W'.cell? ⟨Y, 2, none⟩ = some (.slice pc Q.dress.length jc) ∧ W'.cell? ⟨Y, 3, none⟩ = some (.slice pe Q.parts.length je) ∧ W'.cell? ⟨b18, o18 + k * 4, none⟩ = some (.slice qa Q.persons.length ka) ∧ W'.cell? ⟨b18, o18 + k * 4 + 1, none⟩ = some (.slice qb Q.walk.length kb) ∧ W'.cell? ⟨b18, o18 + k * 4 + 2, none⟩ = some (.slice qc Q.dress.length kc) ∧ W'.cell? ⟨b18, o18 + k * 4 + 3, none⟩ = some (.slice qe Q.parts.length ke) ∧ W'.cell? ⟨b19, o19 + k, none⟩ = some (.int .i64 n) ∧ W'.cell? ⟨b20, o20 + k, none⟩ = some (.int .i64 m) ∧ W'.cell? ⟨b21, o21 + k, none⟩ = some (.int .i64 kd))
            (first | exact HS.out _ HBc.out) (first
            | (go_at_call 17; refine (HMp.out Q kd _ _ _ _ _ (HQo.out.below HBc.out)).mono ?_; rintro e w17 ⟨rfl, hb⟩; have HBc := hid (HBc.out.trans (hb.mono HBc.out.size)); have HL1 := hid (HL1.out.below hb); have HL2 := hid (HL2.out.below hb); clear hb))
          have HBc := hid (show Below wb.heap.size wb w17.drew from HBc.out.trans ((Below.refl w17.heap.size w17).drew.mono HBc.out.size))
          have HL1 := hid (show IntsAt none w17.drew _ _ from HL1.out.below (Below.refl w17.heap.size w17).drew)
          have HL2 := hid (show IntsAt none w17.drew _ _ from HL2.out.below (Below.refl w17.heap.size w17).drew)
          go_upto_region 18 with fail
          go_region_held3 (fun W' => W'.cell? ⟨Y, 0, none⟩ = some (.slice pa Q.persons.length ja) ∧ W'.cell? ⟨Y, 1, none⟩ = some (.slice pb Q.walk.length jb) ∧ W'.cell? ⟨Y, 2, none⟩ = some (.slice pc Q.dress.length jc) ∧ W'.cell? ⟨Y, 3, none⟩ = some (.slice pe Q.parts.length je) ∧ W'.cell? ⟨b18, o18 + k * 4, none⟩ = some (.slice qa Q.persons.length ka) ∧ W'.cell? ⟨b18, o18 + k * 4 + 1, none⟩ = some (.slice qb Q.walk.length kb) ∧ W'.cell? ⟨b18, o18 + k * 4 + 2, none⟩ = some (.slice qc Q.dress.length kc) ∧ W'.cell? ⟨b18, o18 + k * 4 + 3, none⟩ = some (.slice qe Q.parts.length ke) ∧ W'.cell? ⟨b19, o19 + k, none⟩ = some (.int .i64 n) ∧ W'.cell? ⟨b20, o20 + k, none⟩ = some (.int .i64 m) ∧ W'.cell? ⟨b21, o21 + k, none⟩ = some (.int .i64 kd))
            (first | exact HS.out _ HBc.out) (first
            | (go_at_call 26; refine (HMr.out Q kd _ _ _ _ _ (HQp.out.below HBc.out)).mono ?_; rintro e w18 ⟨rfl, hb⟩; have HBc := hid (HBc.out.trans (hb.mono HBc.out.size)); have HL1 := hid (HL1.out.below hb); have HL2 := hid (HL2.out.below hb); clear hb))
          obtain ⟨wq, rfl⟩ : ∃ wq : World, wq = w18 := ⟨_, rfl⟩
          have HBq := HBc
          have HSq := hid (fun W' (hb : Below wq.heap.size wq W') => HS.out W' (HBq.out.trans (hb.mono HBq.out.size)))
          clear HS HBc
          go_upto_region 19 with fail
          refine wp_named ?_
          intro ac0 hac0
          have HN := hid (show ac0.tmps.size = 222 from by rw [hac0]; rfl)
          have r18 : ac0.eval (.tmp 18) = .slice (some ⟨b18, o18, none⟩) 4 c18 := by rw [hac0]; rfl
          have r22 : ac0.eval (.tmp 22) = .int .i64 k := by rw [hac0]; rfl
          have r23 : ac0.eval (.tmp 23) = .pointer (some ⟨Y, 0, none⟩) := by rw [hac0]; rfl
          have r24 : ac0.eval (.tmp 24) = .slice a13 (dayRes Q n).length c13 := by rw [hac0]; rfl
          have r25 : ac0.eval (.tmp 25) = .int .i64 (personE Q n) := by rw [hac0]; rfl
          have r26 : ac0.eval (.tmp 26) = .slice a14 (dayRes Q n).length c14 := by rw [hac0]; rfl
          have r27 : ac0.eval (.tmp 27) = .int .i64 (personE Q n) := by rw [hac0]; rfl
          have r28 : ac0.eval (.tmp 28) = .int .i64 (atRes Q n m) := by rw [hac0]; rfl
          have r29 : ac0.eval (.tmp 29) = .int .i64 (atErr Q n m) := by rw [hac0]; rfl
          have r30 : ac0.eval (.tmp 30) = .int .i64 (atRes Q n m) := by rw [hac0]; rfl
          have r31 : ac0.eval (.tmp 31) = .int .i64 (atErr Q n m) := by rw [hac0]; rfl
          have r32 : ac0.eval (.tmp 32) = .int .i64 (mostRes Q kd).1 := by rw [hac0]; rfl
          have r33 : ac0.eval (.tmp 33) = .int .i64 (mostRes Q kd).2 := by rw [hac0]; rfl
          have r34 : ac0.eval (.tmp 34) = .int .i64 (mostErr Q kd) := by rw [hac0]; rfl
          have r35 : ac0.eval (.tmp 35) = .int .i64 (mostRes Q kd).1 := by rw [hac0]; rfl
          have r36 : ac0.eval (.tmp 36) = .int .i64 (mostRes Q kd).2 := by rw [hac0]; rfl
          have r37 : ac0.eval (.tmp 37) = .int .i64 (mostErr Q kd) := by rw [hac0]; rfl
          have HA := hid hac0
          clear hac0
          refine wp_region_flow (by kernel_rfl) [168, 169, 170, 171, 172, 173, 174, 175, 176, 177, 178, 179, 180, 181, 182, 183, 184, 185, 186, 187, 188, 189, 190, 191, 192, 193, 194, 195, 196, 197, 198, 199, 200, 201, 202, 203, 204, 205, 206, 207, 208, 209, 210, 211, 212, 213, 214, 215, 216, 217, 218, 219, 220] 10000
            (fun _ w' => Below wq.heap.size wq w') (fun a b => Below a.heap.size a b) (fun _ _ => False)
            (fun _ ix v _ => match ix with
                | 0 => v = .agg #[.slice pa Q.persons.length ja, .slice pb Q.walk.length jb, .slice pc Q.dress.length jc, .slice pe Q.parts.length je]
                | 1 => v = .int .i64 (plotErr Q)
                | 2 => v = .slice (some ⟨b18, o18, none⟩) 4 c18
                | 3 => v = .int .i64 k
                | 4 => v = .pointer (some ⟨b18, o18 + k * 4, none⟩)
                | 5 => v = .agg #[.slice qa Q.persons.length ka, .slice qb Q.walk.length kb, .slice qc Q.dress.length kc, .slice qe Q.parts.length ke]
                | 6 => v = .int .i64 (plotErr Q)
                | 7 => v = .bool false
                | 8 => v = .bool false
                | 9 => v = .int .i64 (personE Q n)
                | 10 => v = .int .i64 (personE Q n)
                | 11 => v = .bool false
                | 12 => v = .bool false
                | 13 => v = .bool false
                | 14 => v = .slice a13 (dayRes Q n).length c13
                | 15 => v = .slice a14 (dayRes Q n).length c14
                | 16 => v = .bool true
                | 17 => v = .bool false
                | 18 => v = .bool false
                | 19 => v = .bool false
                | 20 => v = .int .i64 (atRes Q n m)
                | 21 => v = .int .i64 (atRes Q n m)
                | 22 => v = .bool false
                | 23 => v = .bool false
                | 24 => v = .bool false
                | 25 => v = .int .i64 (atErr Q n m)
                | 26 => v = .int .i64 (atErr Q n m)
                | 27 => v = .bool false
                | 28 => v = .bool false
                | 29 => v = .bool false
                | 30 => v = .int .i64 (mostRes Q kd).1
                | 31 => v = .int .i64 (mostRes Q kd).1
                | 32 => v = .bool false
                | 33 => v = .bool false
                | 34 => v = .bool false
                | 35 => v = .int .i64 (mostRes Q kd).2
                | 36 => v = .int .i64 (mostRes Q kd).2
                | 37 => v = .bool false
                | 38 => v = .bool false
                | 39 => v = .bool false
                | 40 => v = .int .i64 (mostErr Q kd)
                | 41 => v = .int .i64 (mostErr Q kd)
                | 42 => v = .bool false
                | 43 => v = .bool false
                | 44 => v = .bool false
                | 45 => v = .agg #[.slice pa Q.persons.length ja, .slice pb Q.walk.length jb, .slice pc Q.dress.length jc, .slice pe Q.parts.length je]
                | 46 => v = .slice (some ⟨b18, o18, none⟩) 4 c18
                | 47 => v = .int .i64 k
                | 48 => v = .pointer (some ⟨b18, o18 + k * 4, none⟩)
                | 49 => v = .agg #[.slice qa Q.persons.length ka, .slice qb Q.walk.length kb, .slice qc Q.dress.length kc, .slice qe Q.parts.length ke]
                | 50 => v = .bool true
                | 51 => v = .bool false
                | 52 => v = .bool false
                | _ => True)
            [0, 1, 2, 3, 4, 5, 6, 7, 8, 9, 10, 11, 12, 13, 14, 15, 16, 17, 18, 19, 20, 21, 22, 23, 24, 25, 26, 27, 28, 29, 30, 31, 32, 33, 34, 35, 36, 37, 38, 39, 40, 41, 42, 43, 44, 45, 46, 47, 48, 49, 50, 51, 52] (by kernel_rfl) (by kernel_rfl) rfl ?_ ?_ ?_ ?_ ?_
          · intro b ix v w2 w3 _ _ hy; exact hy
          · intro ix v w2 w3 _ h; exact h.elim
          · exact (Below.refl _ _).drew
          · skip
            refine StepF.val (i := 0) (o := _) rfl (by decide) ?_ ?_
            · intro bb vs wx _ hW hY
              refine ⟨fl_want rfl, fun ρ hρ => ⟨.agg #[.slice pa Q.persons.length ja, .slice pb Q.walk.length jb, .slice pc Q.dress.length jc, .slice pe Q.parts.length je], wx, ?_, hW, Below.refl _ _, rfl⟩⟩
              have r23x : ρ (.tmp 23) = .pointer (some ⟨Y, 0, none⟩) := by rw [hρ, fl_out rfl, r23]
              have hS := HSq.out wx hW
              have q0 := hS.1
              have q1 := hS.2.1
              have q2 := hS.2.2.1
              have q3 := hS.2.2.2.1
              clear hS
              clear hρ
              simp [execOp, go_sem, r23x, q0, q1, q2, q3]
            refine StepF.call (i := 1) (o := _) rfl (by decide) ?_ ?_
            · intro bb vs wx _ hW hY
              have y168 : vs 168 = .agg #[.slice pa Q.persons.length ja, .slice pb Q.walk.length jb, .slice pc Q.dress.length jc, .slice pe Q.parts.length je] := hY 0 168 (by kernel_rfl) (by kernel_rfl)
              refine ⟨fl_want rfl, fun ρ hρ => ⟨27, _, ex_call (vs := #[(.agg #[.slice pa Q.persons.length ja, .slice pb Q.walk.length jb, .slice pc Q.dress.length jc, .slice pe Q.parts.length je])]) rfl (by rw [hρ]; rfl) (by simp [hρ, fl_in 222 HN.out, y168]) Try.func27 (by kernel_rfl) rfl, ?_⟩⟩
              refine (HCk.out Q _ _ _ _ _ (HQo.out.below (HBq.out.trans (hW.mono HBq.out.size)))).mono ?_
              rintro e w' ⟨rfl, h2⟩
              exact ⟨_, rfl, hW.trans (h2.mono hW.size), h2, rfl⟩
            refine StepF.val (i := 2) (o := _) rfl (by decide) ?_ ?_
            · intro bb vs wx _ hW hY
              exact ⟨fl_want rfl, fun ρ hρ => ⟨.slice (some ⟨b18, o18, none⟩) 4 c18, wx, ex_move rfl (by rw [hρ, fl_out rfl, r18]), hW, Below.refl _ _, rfl⟩⟩
            refine StepF.val (i := 3) (o := _) rfl (by decide) ?_ ?_
            · intro bb vs wx _ hW hY
              exact ⟨fl_want rfl, fun ρ hρ => ⟨.int .i64 k, wx, ex_move rfl (by rw [hρ, fl_out rfl, r22]), hW, Below.refl _ _, rfl⟩⟩
            refine StepF.val (i := 4) (o := _) rfl (by decide) ?_ ?_
            · intro bb vs wx _ hW hY
              have y170 : vs 170 = .slice (some ⟨b18, o18, none⟩) 4 c18 := hY 2 170 (by kernel_rfl) (by kernel_rfl)
              have y171 : vs 171 = .int .i64 k := hY 3 171 (by kernel_rfl) (by kernel_rfl)
              refine ⟨fl_want rfl, fun ρ hρ => ⟨.pointer (some ⟨b18, o18 + k * 4, none⟩), wx, ?_, hW, Below.refl _ _, rfl⟩⟩
              have r170x : ρ (.tmp 170) = .slice (some ⟨b18, o18, none⟩) 4 c18 := by rw [hρ, fl_in 222 HN.out rfl, y170]
              have r171x : ρ (.tmp 171) = .int .i64 k := by rw [hρ, fl_in 222 HN.out rfl, y171]
              clear hρ
              simp [execOp, go_sem, r170x, r171x, i1]
            refine StepF.val (i := 5) (o := _) rfl (by decide) ?_ ?_
            · intro bb vs wx _ hW hY
              have y172 : vs 172 = .pointer (some ⟨b18, o18 + k * 4, none⟩) := hY 4 172 (by kernel_rfl) (by kernel_rfl)
              refine ⟨fl_want rfl, fun ρ hρ => ⟨.agg #[.slice qa Q.persons.length ka, .slice qb Q.walk.length kb, .slice qc Q.dress.length kc, .slice qe Q.parts.length ke], wx, ?_, hW, Below.refl _ _, rfl⟩⟩
              have r172x : ρ (.tmp 172) = .pointer (some ⟨b18, o18 + k * 4, none⟩) := by rw [hρ, fl_in 222 HN.out rfl, y172]
              have hS := HSq.out wx hW
              have q0 := hS.2.2.2.2.1
              have q1 := hS.2.2.2.2.2.1
              have q2 := hS.2.2.2.2.2.2.1
              have q3 := hS.2.2.2.2.2.2.2.1
              clear hS
              clear hρ
              simp [execOp, go_sem, r172x, q0, q1, q2, q3]
            refine StepF.call (i := 6) (o := _) rfl (by decide) ?_ ?_
            · intro bb vs wx _ hW hY
              have y173 : vs 173 = .agg #[.slice qa Q.persons.length ka, .slice qb Q.walk.length kb, .slice qc Q.dress.length kc, .slice qe Q.parts.length ke] := hY 5 173 (by kernel_rfl) (by kernel_rfl)
              refine ⟨fl_want rfl, fun ρ hρ => ⟨28, _, ex_call (vs := #[(.agg #[.slice qa Q.persons.length ka, .slice qb Q.walk.length kb, .slice qc Q.dress.length kc, .slice qe Q.parts.length ke])]) rfl (by rw [hρ]; rfl) (by simp [hρ, fl_in 222 HN.out, y173]) Try.func28 (by kernel_rfl) rfl, ?_⟩⟩
              refine (HCr.out Q _ _ _ _ _ (HQp.out.below (HBq.out.trans (hW.mono HBq.out.size)))).mono ?_
              rintro e w' ⟨rfl, h2⟩
              exact ⟨_, rfl, hW.trans (h2.mono hW.size), h2, rfl⟩
            refine StepF.val (i := 7) (o := _) rfl (by decide) ?_ ?_
            · intro bb vs wx _ hW hY
              have y169 : vs 169 = .int .i64 (plotErr Q) := hY 1 169 (by kernel_rfl) (by kernel_rfl)
              have y174 : vs 174 = .int .i64 (plotErr Q) := hY 6 174 (by kernel_rfl) (by kernel_rfl)
              refine ⟨fl_want rfl, fun ρ hρ => ⟨.bool false, wx, ?_, hW, Below.refl _ _, rfl⟩⟩
              have r169x : ρ (.tmp 169) = .int .i64 (plotErr Q) := by rw [hρ, fl_in 222 HN.out rfl, y169]
              have r174x : ρ (.tmp 174) = .int .i64 (plotErr Q) := by rw [hρ, fl_in 222 HN.out rfl, y174]
              clear hρ
              simp [execOp, go_sem, r169x, r174x]
            refine StepF.val (i := 8) (o := _) rfl (by decide) ?_ ?_
            · intro bb vs wx _ hW hY
              have y175 : vs 175 = .bool false := hY 7 175 (by kernel_rfl) (by kernel_rfl)
              exact ⟨fl_want rfl, fun ρ hρ => ⟨.bool false, wx, ex_move rfl (by rw [hρ, fl_in 222 HN.out rfl, y175]), hW, Below.refl _ _, rfl⟩⟩
            refine StepF.val (i := 9) (o := _) rfl (by decide) ?_ ?_
            · intro bb vs wx _ hW hY
              have y176 : vs 176 = .bool false := hY 8 176 (by kernel_rfl) (by kernel_rfl)
              exact ⟨fl_wantg 222 HN.out rfl rfl rfl y176, fun ρ hρ => ⟨.int .i64 (personE Q n), wx, ex_move rfl (by rw [hρ, fl_out rfl, r25]), hW, Below.refl _ _, rfl⟩⟩
            refine StepF.val (i := 10) (o := _) rfl (by decide) ?_ ?_
            · intro bb vs wx _ hW hY
              have y176 : vs 176 = .bool false := hY 8 176 (by kernel_rfl) (by kernel_rfl)
              exact ⟨fl_wantg 222 HN.out rfl rfl rfl y176, fun ρ hρ => ⟨.int .i64 (personE Q n), wx, ex_move rfl (by rw [hρ, fl_out rfl, r27]), hW, Below.refl _ _, rfl⟩⟩
            refine StepF.val (i := 11) (o := _) rfl (by decide) ?_ ?_
            · intro bb vs wx _ hW hY
              have y177 : vs 177 = .int .i64 (personE Q n) := hY 9 177 (by kernel_rfl) (by kernel_rfl)
              have y178 : vs 178 = .int .i64 (personE Q n) := hY 10 178 (by kernel_rfl) (by kernel_rfl)
              have y176 : vs 176 = .bool false := hY 8 176 (by kernel_rfl) (by kernel_rfl)
              refine ⟨fl_wantg 222 HN.out rfl rfl rfl y176, fun ρ hρ => ⟨.bool false, wx, ?_, hW, Below.refl _ _, rfl⟩⟩
              have r177x : ρ (.tmp 177) = .int .i64 (personE Q n) := by rw [hρ, fl_in 222 HN.out rfl, y177]
              have r178x : ρ (.tmp 178) = .int .i64 (personE Q n) := by rw [hρ, fl_in 222 HN.out rfl, y178]
              clear hρ
              simp [execOp, go_sem, r177x, r178x]
            refine StepF.val (i := 12) (o := _) rfl (by decide) ?_ ?_
            · intro bb vs wx _ hW hY
              have y176 : vs 176 = .bool false := hY 8 176 (by kernel_rfl) (by kernel_rfl)
              have y179 : vs 179 = .bool false := hY 11 179 (by kernel_rfl) (by kernel_rfl)
              refine ⟨fl_want rfl, fun ρ hρ => ⟨.bool false, wx, ?_, hW, Below.refl _ _, rfl⟩⟩
              have r176x : ρ (.tmp 176) = .bool false := by rw [hρ, fl_in 222 HN.out rfl, y176]
              have r179x : ρ (.tmp 179) = .bool false := by rw [hρ, fl_in 222 HN.out rfl, y179]
              have rc : ∀ c, ρ (.const c) = c := fun c => by rw [hρ]; rfl
              clear hρ
              simp [execOp, go_sem, r176x, r179x, rc]
            refine StepF.val (i := 13) (o := _) rfl (by decide) ?_ ?_
            · intro bb vs wx _ hW hY
              have y180 : vs 180 = .bool false := hY 12 180 (by kernel_rfl) (by kernel_rfl)
              exact ⟨fl_want rfl, fun ρ hρ => ⟨.bool false, wx, ex_move rfl (by rw [hρ, fl_in 222 HN.out rfl, y180]), hW, Below.refl _ _, rfl⟩⟩
            refine StepF.val (i := 14) (o := _) rfl (by decide) ?_ ?_
            · intro bb vs wx _ hW hY
              have y181 : vs 181 = .bool false := hY 13 181 (by kernel_rfl) (by kernel_rfl)
              exact ⟨fl_wantg 222 HN.out rfl rfl rfl y181, fun ρ hρ => ⟨.slice a13 (dayRes Q n).length c13, wx, ex_move rfl (by rw [hρ, fl_out rfl, r24]), hW, Below.refl _ _, rfl⟩⟩
            refine StepF.val (i := 15) (o := _) rfl (by decide) ?_ ?_
            · intro bb vs wx _ hW hY
              have y181 : vs 181 = .bool false := hY 13 181 (by kernel_rfl) (by kernel_rfl)
              exact ⟨fl_wantg 222 HN.out rfl rfl rfl y181, fun ρ hρ => ⟨.slice a14 (dayRes Q n).length c14, wx, ex_move rfl (by rw [hρ, fl_out rfl, r26]), hW, Below.refl _ _, rfl⟩⟩
            refine StepF.call (i := 16) (o := _) rfl (by decide) ?_ ?_
            · intro bb vs wx _ hW hY
              have y182 : vs 182 = .slice a13 (dayRes Q n).length c13 := hY 14 182 (by kernel_rfl) (by kernel_rfl)
              have y183 : vs 183 = .slice a14 (dayRes Q n).length c14 := hY 15 183 (by kernel_rfl) (by kernel_rfl)
              have y181 : vs 181 = .bool false := hY 13 181 (by kernel_rfl) (by kernel_rfl)
              refine ⟨fl_wantg 222 HN.out rfl rfl rfl y181, fun ρ hρ => ⟨29, _, ex_call (vs := #[(.slice a13 (dayRes Q n).length c13), (.slice a14 (dayRes Q n).length c14)]) rfl (by rw [hρ]; rfl) (by simp [hρ, fl_in 222 HN.out, y182, fl_in 222 HN.out, y183]) Try.func29 (by kernel_rfl) rfl, ?_⟩⟩
              refine (eqInts_same _ _ _ _ _ _ (HL1.out.below hW) (HL2.out.below hW) HDl.out).mono ?_
              rintro e w' ⟨rfl, h2⟩
              exact ⟨_, rfl, hW.trans (h2.mono hW.size), h2, rfl⟩
            refine StepF.val (i := 17) (o := _) rfl (by decide) ?_ ?_
            · intro bb vs wx _ hW hY
              have y184 : vs 184 = .bool true := hY 16 184 (by kernel_rfl) (by kernel_rfl)
              have y181 : vs 181 = .bool false := hY 13 181 (by kernel_rfl) (by kernel_rfl)
              refine ⟨fl_wantg 222 HN.out rfl rfl rfl y181, fun ρ hρ => ⟨.bool false, wx, ?_, hW, Below.refl _ _, rfl⟩⟩
              have r184x : ρ (.tmp 184) = .bool true := by rw [hρ, fl_in 222 HN.out rfl, y184]
              clear hρ
              simp [execOp, go_sem, r184x]
            refine StepF.val (i := 18) (o := _) rfl (by decide) ?_ ?_
            · intro bb vs wx _ hW hY
              have y181 : vs 181 = .bool false := hY 13 181 (by kernel_rfl) (by kernel_rfl)
              have y185 : vs 185 = .bool false := hY 17 185 (by kernel_rfl) (by kernel_rfl)
              refine ⟨fl_want rfl, fun ρ hρ => ⟨.bool false, wx, ?_, hW, Below.refl _ _, rfl⟩⟩
              have r181x : ρ (.tmp 181) = .bool false := by rw [hρ, fl_in 222 HN.out rfl, y181]
              have r185x : ρ (.tmp 185) = .bool false := by rw [hρ, fl_in 222 HN.out rfl, y185]
              have rc : ∀ c, ρ (.const c) = c := fun c => by rw [hρ]; rfl
              clear hρ
              simp [execOp, go_sem, r181x, r185x, rc]
            refine StepF.val (i := 19) (o := _) rfl (by decide) ?_ ?_
            · intro bb vs wx _ hW hY
              have y186 : vs 186 = .bool false := hY 18 186 (by kernel_rfl) (by kernel_rfl)
              exact ⟨fl_want rfl, fun ρ hρ => ⟨.bool false, wx, ex_move rfl (by rw [hρ, fl_in 222 HN.out rfl, y186]), hW, Below.refl _ _, rfl⟩⟩
            refine StepF.val (i := 20) (o := _) rfl (by decide) ?_ ?_
            · intro bb vs wx _ hW hY
              have y187 : vs 187 = .bool false := hY 19 187 (by kernel_rfl) (by kernel_rfl)
              exact ⟨fl_wantg 222 HN.out rfl rfl rfl y187, fun ρ hρ => ⟨.int .i64 (atRes Q n m), wx, ex_move rfl (by rw [hρ, fl_out rfl, r28]), hW, Below.refl _ _, rfl⟩⟩
            refine StepF.val (i := 21) (o := _) rfl (by decide) ?_ ?_
            · intro bb vs wx _ hW hY
              have y187 : vs 187 = .bool false := hY 19 187 (by kernel_rfl) (by kernel_rfl)
              exact ⟨fl_wantg 222 HN.out rfl rfl rfl y187, fun ρ hρ => ⟨.int .i64 (atRes Q n m), wx, ex_move rfl (by rw [hρ, fl_out rfl, r30]), hW, Below.refl _ _, rfl⟩⟩
            refine StepF.val (i := 22) (o := _) rfl (by decide) ?_ ?_
            · intro bb vs wx _ hW hY
              have y188 : vs 188 = .int .i64 (atRes Q n m) := hY 20 188 (by kernel_rfl) (by kernel_rfl)
              have y189 : vs 189 = .int .i64 (atRes Q n m) := hY 21 189 (by kernel_rfl) (by kernel_rfl)
              have y187 : vs 187 = .bool false := hY 19 187 (by kernel_rfl) (by kernel_rfl)
              refine ⟨fl_wantg 222 HN.out rfl rfl rfl y187, fun ρ hρ => ⟨.bool false, wx, ?_, hW, Below.refl _ _, rfl⟩⟩
              have r188x : ρ (.tmp 188) = .int .i64 (atRes Q n m) := by rw [hρ, fl_in 222 HN.out rfl, y188]
              have r189x : ρ (.tmp 189) = .int .i64 (atRes Q n m) := by rw [hρ, fl_in 222 HN.out rfl, y189]
              clear hρ
              simp [execOp, go_sem, r188x, r189x]
            refine StepF.val (i := 23) (o := _) rfl (by decide) ?_ ?_
            · intro bb vs wx _ hW hY
              have y187 : vs 187 = .bool false := hY 19 187 (by kernel_rfl) (by kernel_rfl)
              have y190 : vs 190 = .bool false := hY 22 190 (by kernel_rfl) (by kernel_rfl)
              refine ⟨fl_want rfl, fun ρ hρ => ⟨.bool false, wx, ?_, hW, Below.refl _ _, rfl⟩⟩
              have r187x : ρ (.tmp 187) = .bool false := by rw [hρ, fl_in 222 HN.out rfl, y187]
              have r190x : ρ (.tmp 190) = .bool false := by rw [hρ, fl_in 222 HN.out rfl, y190]
              have rc : ∀ c, ρ (.const c) = c := fun c => by rw [hρ]; rfl
              clear hρ
              simp [execOp, go_sem, r187x, r190x, rc]
            refine StepF.val (i := 24) (o := _) rfl (by decide) ?_ ?_
            · intro bb vs wx _ hW hY
              have y191 : vs 191 = .bool false := hY 23 191 (by kernel_rfl) (by kernel_rfl)
              exact ⟨fl_want rfl, fun ρ hρ => ⟨.bool false, wx, ex_move rfl (by rw [hρ, fl_in 222 HN.out rfl, y191]), hW, Below.refl _ _, rfl⟩⟩
            refine StepF.val (i := 25) (o := _) rfl (by decide) ?_ ?_
            · intro bb vs wx _ hW hY
              have y192 : vs 192 = .bool false := hY 24 192 (by kernel_rfl) (by kernel_rfl)
              exact ⟨fl_wantg 222 HN.out rfl rfl rfl y192, fun ρ hρ => ⟨.int .i64 (atErr Q n m), wx, ex_move rfl (by rw [hρ, fl_out rfl, r29]), hW, Below.refl _ _, rfl⟩⟩
            refine StepF.val (i := 26) (o := _) rfl (by decide) ?_ ?_
            · intro bb vs wx _ hW hY
              have y192 : vs 192 = .bool false := hY 24 192 (by kernel_rfl) (by kernel_rfl)
              exact ⟨fl_wantg 222 HN.out rfl rfl rfl y192, fun ρ hρ => ⟨.int .i64 (atErr Q n m), wx, ex_move rfl (by rw [hρ, fl_out rfl, r31]), hW, Below.refl _ _, rfl⟩⟩
            refine StepF.val (i := 27) (o := _) rfl (by decide) ?_ ?_
            · intro bb vs wx _ hW hY
              have y193 : vs 193 = .int .i64 (atErr Q n m) := hY 25 193 (by kernel_rfl) (by kernel_rfl)
              have y194 : vs 194 = .int .i64 (atErr Q n m) := hY 26 194 (by kernel_rfl) (by kernel_rfl)
              have y192 : vs 192 = .bool false := hY 24 192 (by kernel_rfl) (by kernel_rfl)
              refine ⟨fl_wantg 222 HN.out rfl rfl rfl y192, fun ρ hρ => ⟨.bool false, wx, ?_, hW, Below.refl _ _, rfl⟩⟩
              have r193x : ρ (.tmp 193) = .int .i64 (atErr Q n m) := by rw [hρ, fl_in 222 HN.out rfl, y193]
              have r194x : ρ (.tmp 194) = .int .i64 (atErr Q n m) := by rw [hρ, fl_in 222 HN.out rfl, y194]
              clear hρ
              simp [execOp, go_sem, r193x, r194x]
            refine StepF.val (i := 28) (o := _) rfl (by decide) ?_ ?_
            · intro bb vs wx _ hW hY
              have y192 : vs 192 = .bool false := hY 24 192 (by kernel_rfl) (by kernel_rfl)
              have y195 : vs 195 = .bool false := hY 27 195 (by kernel_rfl) (by kernel_rfl)
              refine ⟨fl_want rfl, fun ρ hρ => ⟨.bool false, wx, ?_, hW, Below.refl _ _, rfl⟩⟩
              have r192x : ρ (.tmp 192) = .bool false := by rw [hρ, fl_in 222 HN.out rfl, y192]
              have r195x : ρ (.tmp 195) = .bool false := by rw [hρ, fl_in 222 HN.out rfl, y195]
              have rc : ∀ c, ρ (.const c) = c := fun c => by rw [hρ]; rfl
              clear hρ
              simp [execOp, go_sem, r192x, r195x, rc]
            refine StepF.val (i := 29) (o := _) rfl (by decide) ?_ ?_
            · intro bb vs wx _ hW hY
              have y196 : vs 196 = .bool false := hY 28 196 (by kernel_rfl) (by kernel_rfl)
              exact ⟨fl_want rfl, fun ρ hρ => ⟨.bool false, wx, ex_move rfl (by rw [hρ, fl_in 222 HN.out rfl, y196]), hW, Below.refl _ _, rfl⟩⟩
            refine StepF.val (i := 30) (o := _) rfl (by decide) ?_ ?_
            · intro bb vs wx _ hW hY
              have y197 : vs 197 = .bool false := hY 29 197 (by kernel_rfl) (by kernel_rfl)
              exact ⟨fl_wantg 222 HN.out rfl rfl rfl y197, fun ρ hρ => ⟨.int .i64 (mostRes Q kd).1, wx, ex_move rfl (by rw [hρ, fl_out rfl, r32]), hW, Below.refl _ _, rfl⟩⟩
            refine StepF.val (i := 31) (o := _) rfl (by decide) ?_ ?_
            · intro bb vs wx _ hW hY
              have y197 : vs 197 = .bool false := hY 29 197 (by kernel_rfl) (by kernel_rfl)
              exact ⟨fl_wantg 222 HN.out rfl rfl rfl y197, fun ρ hρ => ⟨.int .i64 (mostRes Q kd).1, wx, ex_move rfl (by rw [hρ, fl_out rfl, r35]), hW, Below.refl _ _, rfl⟩⟩
            refine StepF.val (i := 32) (o := _) rfl (by decide) ?_ ?_
            · intro bb vs wx _ hW hY
              have y198 : vs 198 = .int .i64 (mostRes Q kd).1 := hY 30 198 (by kernel_rfl) (by kernel_rfl)
              have y199 : vs 199 = .int .i64 (mostRes Q kd).1 := hY 31 199 (by kernel_rfl) (by kernel_rfl)
              have y197 : vs 197 = .bool false := hY 29 197 (by kernel_rfl) (by kernel_rfl)
              refine ⟨fl_wantg 222 HN.out rfl rfl rfl y197, fun ρ hρ => ⟨.bool false, wx, ?_, hW, Below.refl _ _, rfl⟩⟩
              have r198x : ρ (.tmp 198) = .int .i64 (mostRes Q kd).1 := by rw [hρ, fl_in 222 HN.out rfl, y198]
              have r199x : ρ (.tmp 199) = .int .i64 (mostRes Q kd).1 := by rw [hρ, fl_in 222 HN.out rfl, y199]
              clear hρ
              simp [execOp, go_sem, r198x, r199x]
            refine StepF.val (i := 33) (o := _) rfl (by decide) ?_ ?_
            · intro bb vs wx _ hW hY
              have y197 : vs 197 = .bool false := hY 29 197 (by kernel_rfl) (by kernel_rfl)
              have y200 : vs 200 = .bool false := hY 32 200 (by kernel_rfl) (by kernel_rfl)
              refine ⟨fl_want rfl, fun ρ hρ => ⟨.bool false, wx, ?_, hW, Below.refl _ _, rfl⟩⟩
              have r197x : ρ (.tmp 197) = .bool false := by rw [hρ, fl_in 222 HN.out rfl, y197]
              have r200x : ρ (.tmp 200) = .bool false := by rw [hρ, fl_in 222 HN.out rfl, y200]
              have rc : ∀ c, ρ (.const c) = c := fun c => by rw [hρ]; rfl
              clear hρ
              simp [execOp, go_sem, r197x, r200x, rc]
            refine StepF.val (i := 34) (o := _) rfl (by decide) ?_ ?_
            · intro bb vs wx _ hW hY
              have y201 : vs 201 = .bool false := hY 33 201 (by kernel_rfl) (by kernel_rfl)
              exact ⟨fl_want rfl, fun ρ hρ => ⟨.bool false, wx, ex_move rfl (by rw [hρ, fl_in 222 HN.out rfl, y201]), hW, Below.refl _ _, rfl⟩⟩
            refine StepF.val (i := 35) (o := _) rfl (by decide) ?_ ?_
            · intro bb vs wx _ hW hY
              have y202 : vs 202 = .bool false := hY 34 202 (by kernel_rfl) (by kernel_rfl)
              exact ⟨fl_wantg 222 HN.out rfl rfl rfl y202, fun ρ hρ => ⟨.int .i64 (mostRes Q kd).2, wx, ex_move rfl (by rw [hρ, fl_out rfl, r33]), hW, Below.refl _ _, rfl⟩⟩
            refine StepF.val (i := 36) (o := _) rfl (by decide) ?_ ?_
            · intro bb vs wx _ hW hY
              have y202 : vs 202 = .bool false := hY 34 202 (by kernel_rfl) (by kernel_rfl)
              exact ⟨fl_wantg 222 HN.out rfl rfl rfl y202, fun ρ hρ => ⟨.int .i64 (mostRes Q kd).2, wx, ex_move rfl (by rw [hρ, fl_out rfl, r36]), hW, Below.refl _ _, rfl⟩⟩
            refine StepF.val (i := 37) (o := _) rfl (by decide) ?_ ?_
            · intro bb vs wx _ hW hY
              have y203 : vs 203 = .int .i64 (mostRes Q kd).2 := hY 35 203 (by kernel_rfl) (by kernel_rfl)
              have y204 : vs 204 = .int .i64 (mostRes Q kd).2 := hY 36 204 (by kernel_rfl) (by kernel_rfl)
              have y202 : vs 202 = .bool false := hY 34 202 (by kernel_rfl) (by kernel_rfl)
              refine ⟨fl_wantg 222 HN.out rfl rfl rfl y202, fun ρ hρ => ⟨.bool false, wx, ?_, hW, Below.refl _ _, rfl⟩⟩
              have r203x : ρ (.tmp 203) = .int .i64 (mostRes Q kd).2 := by rw [hρ, fl_in 222 HN.out rfl, y203]
              have r204x : ρ (.tmp 204) = .int .i64 (mostRes Q kd).2 := by rw [hρ, fl_in 222 HN.out rfl, y204]
              clear hρ
              simp [execOp, go_sem, r203x, r204x]
            refine StepF.val (i := 38) (o := _) rfl (by decide) ?_ ?_
            · intro bb vs wx _ hW hY
              have y202 : vs 202 = .bool false := hY 34 202 (by kernel_rfl) (by kernel_rfl)
              have y205 : vs 205 = .bool false := hY 37 205 (by kernel_rfl) (by kernel_rfl)
              refine ⟨fl_want rfl, fun ρ hρ => ⟨.bool false, wx, ?_, hW, Below.refl _ _, rfl⟩⟩
              have r202x : ρ (.tmp 202) = .bool false := by rw [hρ, fl_in 222 HN.out rfl, y202]
              have r205x : ρ (.tmp 205) = .bool false := by rw [hρ, fl_in 222 HN.out rfl, y205]
              have rc : ∀ c, ρ (.const c) = c := fun c => by rw [hρ]; rfl
              clear hρ
              simp [execOp, go_sem, r202x, r205x, rc]
            refine StepF.val (i := 39) (o := _) rfl (by decide) ?_ ?_
            · intro bb vs wx _ hW hY
              have y206 : vs 206 = .bool false := hY 38 206 (by kernel_rfl) (by kernel_rfl)
              exact ⟨fl_want rfl, fun ρ hρ => ⟨.bool false, wx, ex_move rfl (by rw [hρ, fl_in 222 HN.out rfl, y206]), hW, Below.refl _ _, rfl⟩⟩
            refine StepF.val (i := 40) (o := _) rfl (by decide) ?_ ?_
            · intro bb vs wx _ hW hY
              have y207 : vs 207 = .bool false := hY 39 207 (by kernel_rfl) (by kernel_rfl)
              exact ⟨fl_wantg 222 HN.out rfl rfl rfl y207, fun ρ hρ => ⟨.int .i64 (mostErr Q kd), wx, ex_move rfl (by rw [hρ, fl_out rfl, r34]), hW, Below.refl _ _, rfl⟩⟩
            refine StepF.val (i := 41) (o := _) rfl (by decide) ?_ ?_
            · intro bb vs wx _ hW hY
              have y207 : vs 207 = .bool false := hY 39 207 (by kernel_rfl) (by kernel_rfl)
              exact ⟨fl_wantg 222 HN.out rfl rfl rfl y207, fun ρ hρ => ⟨.int .i64 (mostErr Q kd), wx, ex_move rfl (by rw [hρ, fl_out rfl, r37]), hW, Below.refl _ _, rfl⟩⟩
            refine StepF.val (i := 42) (o := _) rfl (by decide) ?_ ?_
            · intro bb vs wx _ hW hY
              have y208 : vs 208 = .int .i64 (mostErr Q kd) := hY 40 208 (by kernel_rfl) (by kernel_rfl)
              have y209 : vs 209 = .int .i64 (mostErr Q kd) := hY 41 209 (by kernel_rfl) (by kernel_rfl)
              have y207 : vs 207 = .bool false := hY 39 207 (by kernel_rfl) (by kernel_rfl)
              refine ⟨fl_wantg 222 HN.out rfl rfl rfl y207, fun ρ hρ => ⟨.bool false, wx, ?_, hW, Below.refl _ _, rfl⟩⟩
              have r208x : ρ (.tmp 208) = .int .i64 (mostErr Q kd) := by rw [hρ, fl_in 222 HN.out rfl, y208]
              have r209x : ρ (.tmp 209) = .int .i64 (mostErr Q kd) := by rw [hρ, fl_in 222 HN.out rfl, y209]
              clear hρ
              simp [execOp, go_sem, r208x, r209x]
            refine StepF.val (i := 43) (o := _) rfl (by decide) ?_ ?_
            · intro bb vs wx _ hW hY
              have y207 : vs 207 = .bool false := hY 39 207 (by kernel_rfl) (by kernel_rfl)
              have y210 : vs 210 = .bool false := hY 42 210 (by kernel_rfl) (by kernel_rfl)
              refine ⟨fl_want rfl, fun ρ hρ => ⟨.bool false, wx, ?_, hW, Below.refl _ _, rfl⟩⟩
              have r207x : ρ (.tmp 207) = .bool false := by rw [hρ, fl_in 222 HN.out rfl, y207]
              have r210x : ρ (.tmp 210) = .bool false := by rw [hρ, fl_in 222 HN.out rfl, y210]
              have rc : ∀ c, ρ (.const c) = c := fun c => by rw [hρ]; rfl
              clear hρ
              simp [execOp, go_sem, r207x, r210x, rc]
            refine StepF.val (i := 44) (o := _) rfl (by decide) ?_ ?_
            · intro bb vs wx _ hW hY
              have y211 : vs 211 = .bool false := hY 43 211 (by kernel_rfl) (by kernel_rfl)
              exact ⟨fl_want rfl, fun ρ hρ => ⟨.bool false, wx, ex_move rfl (by rw [hρ, fl_in 222 HN.out rfl, y211]), hW, Below.refl _ _, rfl⟩⟩
            refine StepF.val (i := 45) (o := _) rfl (by decide) ?_ ?_
            · intro bb vs wx _ hW hY
              have y212 : vs 212 = .bool false := hY 44 212 (by kernel_rfl) (by kernel_rfl)
              refine ⟨fl_wantg 222 HN.out rfl rfl rfl y212, fun ρ hρ => ⟨.agg #[.slice pa Q.persons.length ja, .slice pb Q.walk.length jb, .slice pc Q.dress.length jc, .slice pe Q.parts.length je], wx, ?_, hW, Below.refl _ _, rfl⟩⟩
              have r23x : ρ (.tmp 23) = .pointer (some ⟨Y, 0, none⟩) := by rw [hρ, fl_out rfl, r23]
              have hS := HSq.out wx hW
              have q0 := hS.1
              have q1 := hS.2.1
              have q2 := hS.2.2.1
              have q3 := hS.2.2.2.1
              clear hS
              clear hρ
              simp [execOp, go_sem, r23x, q0, q1, q2, q3]
            refine StepF.val (i := 46) (o := _) rfl (by decide) ?_ ?_
            · intro bb vs wx _ hW hY
              have y212 : vs 212 = .bool false := hY 44 212 (by kernel_rfl) (by kernel_rfl)
              exact ⟨fl_wantg 222 HN.out rfl rfl rfl y212, fun ρ hρ => ⟨.slice (some ⟨b18, o18, none⟩) 4 c18, wx, ex_move rfl (by rw [hρ, fl_out rfl, r18]), hW, Below.refl _ _, rfl⟩⟩
            refine StepF.val (i := 47) (o := _) rfl (by decide) ?_ ?_
            · intro bb vs wx _ hW hY
              have y212 : vs 212 = .bool false := hY 44 212 (by kernel_rfl) (by kernel_rfl)
              exact ⟨fl_wantg 222 HN.out rfl rfl rfl y212, fun ρ hρ => ⟨.int .i64 k, wx, ex_move rfl (by rw [hρ, fl_out rfl, r22]), hW, Below.refl _ _, rfl⟩⟩
            refine StepF.val (i := 48) (o := _) rfl (by decide) ?_ ?_
            · intro bb vs wx _ hW hY
              have y214 : vs 214 = .slice (some ⟨b18, o18, none⟩) 4 c18 := hY 46 214 (by kernel_rfl) (by kernel_rfl)
              have y215 : vs 215 = .int .i64 k := hY 47 215 (by kernel_rfl) (by kernel_rfl)
              have y212 : vs 212 = .bool false := hY 44 212 (by kernel_rfl) (by kernel_rfl)
              refine ⟨fl_wantg 222 HN.out rfl rfl rfl y212, fun ρ hρ => ⟨.pointer (some ⟨b18, o18 + k * 4, none⟩), wx, ?_, hW, Below.refl _ _, rfl⟩⟩
              have r214x : ρ (.tmp 214) = .slice (some ⟨b18, o18, none⟩) 4 c18 := by rw [hρ, fl_in 222 HN.out rfl, y214]
              have r215x : ρ (.tmp 215) = .int .i64 k := by rw [hρ, fl_in 222 HN.out rfl, y215]
              clear hρ
              simp [execOp, go_sem, r214x, r215x, i1]
            refine StepF.val (i := 49) (o := _) rfl (by decide) ?_ ?_
            · intro bb vs wx _ hW hY
              have y216 : vs 216 = .pointer (some ⟨b18, o18 + k * 4, none⟩) := hY 48 216 (by kernel_rfl) (by kernel_rfl)
              have y212 : vs 212 = .bool false := hY 44 212 (by kernel_rfl) (by kernel_rfl)
              refine ⟨fl_wantg 222 HN.out rfl rfl rfl y212, fun ρ hρ => ⟨.agg #[.slice qa Q.persons.length ka, .slice qb Q.walk.length kb, .slice qc Q.dress.length kc, .slice qe Q.parts.length ke], wx, ?_, hW, Below.refl _ _, rfl⟩⟩
              have r216x : ρ (.tmp 216) = .pointer (some ⟨b18, o18 + k * 4, none⟩) := by rw [hρ, fl_in 222 HN.out rfl, y216]
              have hS := HSq.out wx hW
              have q0 := hS.2.2.2.2.1
              have q1 := hS.2.2.2.2.2.1
              have q2 := hS.2.2.2.2.2.2.1
              have q3 := hS.2.2.2.2.2.2.2.1
              clear hS
              clear hρ
              simp [execOp, go_sem, r216x, q0, q1, q2, q3]
            refine StepF.call (i := 50) (o := _) rfl (by decide) ?_ ?_
            · intro bb vs wx _ hW hY
              have y213 : vs 213 = .agg #[.slice pa Q.persons.length ja, .slice pb Q.walk.length jb, .slice pc Q.dress.length jc, .slice pe Q.parts.length je] := hY 45 213 (by kernel_rfl) (by kernel_rfl)
              have y217 : vs 217 = .agg #[.slice qa Q.persons.length ka, .slice qb Q.walk.length kb, .slice qc Q.dress.length kc, .slice qe Q.parts.length ke] := hY 49 217 (by kernel_rfl) (by kernel_rfl)
              have y212 : vs 212 = .bool false := hY 44 212 (by kernel_rfl) (by kernel_rfl)
              refine ⟨fl_wantg 222 HN.out rfl rfl rfl y212, fun ρ hρ => ⟨30, _, ex_call (vs := #[(.agg #[.slice pa Q.persons.length ja, .slice pb Q.walk.length jb, .slice pc Q.dress.length jc, .slice pe Q.parts.length je]), (.agg #[.slice qa Q.persons.length ka, .slice qb Q.walk.length kb, .slice qc Q.dress.length kc, .slice qe Q.parts.length ke])]) rfl (by rw [hρ]; rfl) (by simp [hρ, fl_in 222 HN.out, y213, fl_in 222 HN.out, y217]) Try.func30 (by kernel_rfl) rfl, ?_⟩⟩
              refine (eqPlots_same Q _ _ _ _ _ _ _ _ _ _ _ (HQo.out.below (HBq.out.trans (hW.mono HBq.out.size))) (HQp.out.below (HBq.out.trans (hW.mono HBq.out.size))) HQN.out).mono ?_
              rintro e w' ⟨rfl, h2⟩
              exact ⟨_, rfl, hW.trans (h2.mono hW.size), h2, rfl⟩
            refine StepF.val (i := 51) (o := _) rfl (by decide) ?_ ?_
            · intro bb vs wx _ hW hY
              have y218 : vs 218 = .bool true := hY 50 218 (by kernel_rfl) (by kernel_rfl)
              have y212 : vs 212 = .bool false := hY 44 212 (by kernel_rfl) (by kernel_rfl)
              refine ⟨fl_wantg 222 HN.out rfl rfl rfl y212, fun ρ hρ => ⟨.bool false, wx, ?_, hW, Below.refl _ _, rfl⟩⟩
              have r218x : ρ (.tmp 218) = .bool true := by rw [hρ, fl_in 222 HN.out rfl, y218]
              clear hρ
              simp [execOp, go_sem, r218x]
            refine StepF.val (i := 52) (o := _) rfl (by decide) ?_ ?_
            · intro bb vs wx _ hW hY
              have y212 : vs 212 = .bool false := hY 44 212 (by kernel_rfl) (by kernel_rfl)
              have y219 : vs 219 = .bool false := hY 51 219 (by kernel_rfl) (by kernel_rfl)
              refine ⟨fl_want rfl, fun ρ hρ => ⟨.bool false, wx, ?_, hW, Below.refl _ _, rfl⟩⟩
              have r212x : ρ (.tmp 212) = .bool false := by rw [hρ, fl_in 222 HN.out rfl, y212]
              have r219x : ρ (.tmp 219) = .bool false := by rw [hρ, fl_in 222 HN.out rfl, y219]
              have rc : ∀ c, ρ (.const c) = c := fun c => by rw [hρ]; rfl
              clear hρ
              simp [execOp, go_sem, r212x, r219x, rc]
            exact StepF.nil
          · intro vs wx hW hY
            have y220 : vs 220 = .bool false := hY 52 220 (by kernel_rfl)
            have HWx := hid (show Below wq.heap.size wq wx from hW)
            clear hW hY r18 r22 r23 r24 r25 r26 r27 r28 r29 r30 r31 r32 r33 r34 r35 r36 r37 HN
            rw [HA.out]
            simp only [putAll, Act.put, List.setIfInBounds_toArray, List.set_cons_zero, List.set_cons_succ]
            rw [y220]
            clear HA y220
            go_wp2_with fail
            go_roundw
            case rel => exact ⟨k + 1, by omega, by go_num, HBo.out.trans ((HBq.out.trans (HWx.out.mono HBq.out.size)).mono HBo.out.size)⟩
            case measure => simp [intOf] <;> omega
end Go.Proofs.Ytdcinngdilfpnaa
