/-
  WALK: CostumeCheapest: whatever comes in, it returns true.
-/
import Derived.Test.YtdcinngdilfpnaaLwk
import Derived.Test.YtdcinngdilfpnaaKwd
import Derived.Test.YtdcinngdilfpnaaKqq
import Derived.Test.YtdcinngdilfpnaaRpl
import Derived.Test.YtdcinngdilfpnaaCsh
import Derived.Test.YtdcinngdilfpnaaKbs
import Derived.Test.YtdcinngdilfpnaaFlo2
import Derived.Deep.CutRange
namespace Go.Proofs.Ytdcinngdilfpnaa
open Go.RowKit

theorem PlotS.freshH {w : World} {vp vw vd vq : Value} {p : Plot} (h : PlotS none w vp vw vd vq p) {D : Nat} (hD : w.heap.size ≤ D) : PlotS (some D) w vp vw vd vq p := by
  obtain ⟨f, h1, h2⟩ := h.walk
  exact ⟨⟨RecAt.fresh h.persons.1 hD, h.persons.2⟩, ⟨f, h1.fresh hD, fun i hi => ⟨(h2 i hi).1.fresh hD, (h2 i hi).2⟩⟩, ⟨h.dress.1.fresh hD, h.dress.2⟩, ⟨RecAt.fresh h.parts.1 hD, h.parts.2⟩⟩
theorem PlotS.anyH {d : Option Nat} {w : World} {vp vw vd vq : Value} {p : Plot} (h : PlotS d w vp vw vd vq p) : PlotS none w vp vw vd vq p := by
  obtain ⟨f, h1, h2⟩ := h.walk
  exact ⟨⟨RecAt.any h.persons.1, h.persons.2⟩, ⟨f, h1.any, fun i hi => ⟨(h2 i hi).1.anyI, (h2 i hi).2⟩⟩, ⟨h.dress.1.anyI, h.dress.2⟩, ⟨RecAt.any h.parts.1, h.parts.2⟩⟩
/-- the plot and the items that came in, in a box; the made plot -/
structure LD (D B X : Nat) (P0 p : Plot) (I0 : List Item) (va vb vc ve vp vw vd vq vi : Value) (w0 w : World) : Prop where
  lf : LF D X p vp vw vd vq w0 w
  sd : Sound0 vq
  b0 : w.cell? ⟨B, 0, none⟩ = some va
  b1 : w.cell? ⟨B, 1, none⟩ = some vb
  b2 : w.cell? ⟨B, 2, none⟩ = some vc
  b3 : w.cell? ⟨B, 3, none⟩ = some ve
  bd : B ≠ D
  arg : PlotS (some D) w va vb vc ve P0
  its : ItemsAt (some D) w vi I0
section
variable {D B X : Nat} {P0 p : Plot} {I0 : List Item} {va vb vc ve vp vw vd vq vi : Value} {w0 w w' : World}
theorem LD.go (k : LD D B X P0 p I0 va vb vc ve vp vw vd vq vi w0 w) (hb : Beat D w') (hg : w.grownBy w' (some D)) : LD D B X P0 p I0 va vb vc ve vp vw vd vq vi w0 w' :=
  ⟨k.lf.go hb hg, k.sd, cell_gb hg k.bd k.b0, cell_gb hg k.bd k.b1, cell_gb hg k.bd k.b2, cell_gb hg k.bd k.b3, k.bd, k.arg.kept hg, RecAt.kept k.its hg⟩
theorem LD.later (k : LD D B X P0 p I0 va vb vc ve vp vw vd vq vi w0 w) (hb : Below w.heap.size w w') : LD D B X P0 p I0 va vb vc ve vp vw vd vq vi w0 w' := k.go (k.lf.beat.gb hb) (gb_below hb _)
end

def psG (qs : List (List Value)) (i j : Nat) : Value := (qs.getD i []).getD j undef
def isG (qs : List Value) (i _j : Nat) : Value := qs.getD i undef
theorem psG_cells (D : Nat) (w : World) (t : TypeId) (hD : D < w.heap.size) (a0 a1 a2 a3 b0 b1 b2 b3 c0 c1 c2 c3 : Value) :
    RecAt (some D) (w.alloc (.cells #[a0, a1, a2, a3, b0, b1, b2, b3, c0, c1, c2, c3] t)) (.slice (some ⟨w.heap.size, 0, none⟩) 3 3) 3 4 (psG [[a0, a1, a2, a3], [b0, b1, b2, b3], [c0, c1, c2, c3]]) :=
  ⟨_, _, rfl, fun _ => ⟨_, _, rfl, Nat.le_refl _, by unfold maxLen; omega, (by intro e; have := Option.some.inj e; omega), by simp, fun i hi j hj => by
    rcases (by omega : i = 0 ∨ i = 1 ∨ i = 2) with rfl | rfl | rfl <;> rcases (by omega : j = 0 ∨ j = 1 ∨ j = 2 ∨ j = 3) with rfl | rfl | rfl | rfl <;> exact cell_at rfl rfl⟩⟩
theorem isG_cells (D : Nat) (w : World) (t : TypeId) (hD : D < w.heap.size) (a b c : Value) :
    RecAt (some D) (w.alloc (.cells #[a, b, c] t)) (.slice (some ⟨w.heap.size, 0, none⟩) 3 3) 3 1 (isG [a, b, c]) :=
  ⟨_, _, rfl, fun _ => ⟨_, _, rfl, Nat.le_refl _, by unfold maxLen; omega, (by intro e; have := Option.some.inj e; omega), by simp, fun i hi j hj => by
    obtain rfl : j = 0 := by omega
    rcases (by omega : i = 0 ∨ i = 1 ∨ i = 2) with rfl | rfl | rfl <;> exact cell_at rfl rfl⟩⟩

set_option maxHeartbeats 16000000 in
set_option maxRecDepth 100000 in
theorem ccheaps_any (P0 : Plot) (va vb vc ve : Value) (I0 : List Item) (vi : Value) (xs : List Int) (v : Value) (w : World) (hP0 : PlotS none w va vb vc ve P0) (hI0 : ItemsAt none w vi I0) (hs0 : Sound0 vi) (hX : IntsAt none w v xs) (hn : xs.length ≤ 9223372036854775807) :
    Calls Try.prog 11 #[plotV va vb vc ve, vi, v] w fun e w' => e = .returned (.bool true) ∧ Below w.heap.size w w' := by
  obtain ⟨a0, k0, rfl⟩ := hP0.persons.1.form
  obtain ⟨a1, k1, rfl⟩ := hP0.walk.form
  obtain ⟨a2, k2, ed, _⟩ := hP0.dress.1
  subst ed
  obtain ⟨a3, k3, rfl⟩ := hP0.parts.1.form
  obtain ⟨a4, k4, rfl⟩ := ItemsAt.form hI0
  have H0 := hid hP0
  have HI0 := hid hI0
  have HX := hid hX
  have HSi := hid hs0
  obtain ⟨a, c, rfl, _⟩ := hX
  clear hP0 hI0 hs0
  go_enter Try.func11, Try.ntmps11
  go_upto_region 1 with fail
  obtain ⟨B, hB⟩ : ∃ B, w.heap.size = B := ⟨_, rfl⟩
  obtain ⟨w1, hw1⟩ : ∃ w1, w.alloc (.cells #[.slice a0 P0.persons.length k0, .slice a1 P0.walk.length k1, .slice a2 P0.dress.length k2, .slice a3 P0.parts.length k3] 29) = w1 := ⟨_, rfl⟩
  have hb1 : Below w.heap.size w w1 := by rw [← hw1]; exact below_alloc _ _
  have hbb : w1.cell? ⟨B, 0, none⟩ = some (.slice a0 P0.persons.length k0) ∧ w1.cell? ⟨B, 1, none⟩ = some (.slice a1 P0.walk.length k1) ∧ w1.cell? ⟨B, 2, none⟩ = some (.slice a2 P0.dress.length k2) ∧ w1.cell? ⟨B, 3, none⟩ = some (.slice a3 P0.parts.length k3) := by
    rw [← hw1]; exact ⟨cell_at hB.symm rfl, cell_at hB.symm rfl, cell_at hB.symm rfl, cell_at hB.symm rfl⟩
  have hsz : w1.heap.size = B + 1 := by rw [← hw1, ← hB]; simp
  rw [hB] at hb1 ⊢
  rw [hw1]
  have H1 := hid (show PlotS none w1 _ _ _ _ P0 from H0.out.below (by rw [hB]; exact hb1))
  have HI1 := hid (show ItemsAt none w1 _ I0 from HI0.out.below (by rw [hB]; exact hb1))
  have HX1 := hid (show IntsAt none w1 _ xs from HX.out.below (by rw [hB]; exact hb1))
  have HB1 := hid (show Below w.heap.size w w1 from by rw [hB]; exact hb1)
  have HBB := hid hbb
  have HSz := hid hsz
  have AW := hid (fun W' => awake_any W')
  clear hw1 hB hb1 H0 HI0 HX hsz hbb
  obtain ⟨y0, y1, y2, y3⟩ := HBB.out
  go_cut [48] from 24 to 48 (fun s48 wx => ∃ b : Bool, s48 = .bool b ∧ (b = false → PlotN P0 ∧ P0.parts.length ≤ 40 ∧ I0.length ≤ 40) ∧ Below w1.heap.size w1 wx)
  case first =>
    as_aux_lemma =>
    go_wp2_with (go_at_call 20; refine (wide_any P0 I0 _ _ _ _ _ _ H1.out.at HI1.out).mono ?_; rintro e w2 ⟨b, rfl, hwide, hb2⟩; have HWd := hid hwide; have HB2 := hid hb2; clear hwide hb2 y0 y1 y2 y3; have y3 := cell_now HB2.out HBB.out.2.2.2)
    all_goals (
      go_meet
      first
      | exact ⟨_, rfl, fun _ => HWd.out rfl, HB2.out⟩
      | exact ⟨_, rfl, fun _ => HWd.out (Bool.eq_false_iff.2 (by assumption)), HB2.out⟩
      | exact ⟨_, rfl, (fun h => by cases h), HB2.out⟩)
  case rest =>
    obtain ⟨b, rfl, hwd, hb2⟩ := hcut
    have HWd := hid hwd
    have HB2 := hid hb2
    clear hwd hb2 y0 y1 y2 y3
    cases b with
    | true =>
      go_wp2_with (go_at_call 19; refine (AW.out _).mono ?_; rintro e w3 ⟨rfl, hb3⟩)
      go_ret
      exact ⟨rfl, HB1.out.trans ((below_trans HB2.out hb3).mono HB1.out.size)⟩
    | false =>
      obtain ⟨hn0, hp40, hi40⟩ := HWd.out rfl
      have HN0 := hid hn0
      obtain ⟨w2, rfl⟩ : ∃ w2 : World, w2 = wc := ⟨_, rfl⟩
      have H1 := hid (H1.out.below HB2.out)
      have HI1 := hid (RecAt.below HI1.out HB2.out)
      have HX1 := hid (HX1.out.below HB2.out)
      have HBB := hid (show w2.cell? _ = _ ∧ w2.cell? _ = _ ∧ w2.cell? _ = _ ∧ w2.cell? _ = _ from ⟨cell_now HB2.out HBB.out.1, cell_now HB2.out HBB.out.2.1, cell_now HB2.out HBB.out.2.2.1, cell_now HB2.out HBB.out.2.2.2⟩)
      have HB1 := hid (show Below w.heap.size w w2 from HB1.out.trans (HB2.out.mono HB1.out.size))
      have HSz := hid (show B + 1 ≤ w2.heap.size from by have := HB2.out.size; have := HSz.out; omega)
      clear HWd HB2 hn0
      go_upto_region 5 with (first
        | (go_at_call 13; refine (drumOf_any xs _ _ HX1.out hn).mono ?_; rintro e w4 ⟨rfl, hbt, hbl⟩; have HBt := hid hbt; have HBl := hid hbl; clear hbt hbl)
        | (go_at_call 14; refine (plotOf_any w2.heap.size 3 4 _ HBt.out (by omega) (by omega) (by omega) (by omega)).mono ?_; rintro e w5 ⟨vp, vw, vd, vq, p, rfl, hv, hpl, hql, hP, hsd, hbt, hg⟩; obtain ⟨ap, cp, rfl⟩ := hP.persons.form; obtain ⟨aw, cw, rfl⟩ := hP.walk.form; obtain ⟨ad, cd, ed, _⟩ := hP.dress; subst ed; obtain ⟨aq, cq, rfl⟩ := hP.parts.form; have HV := hid hv; have HSd := hid hsd; have LF0 := hid (LF.start hbt hP (HB1.out.trans ((HBl.out.grown hg HBl.out.size (fun g e => by cases e; exact Nat.le_refl _)).mono HB1.out.size)) (by have := HB1.out.size; exact this) 29); have HG5 := hid (gb_trans (gb_below HBl.out (some w2.heap.size)) hg); clear hv hP hbt hg hsd))
      obtain ⟨X, hXs⟩ : ∃ X, w5.heap.size = X := ⟨_, rfl⟩
      obtain ⟨D, hDs⟩ : ∃ D, w2.heap.size = D := ⟨_, rfl⟩
      have hargs := (H1.out.freshH (Nat.le_refl _)).kept HG5.out
      have hits := RecAt.kept (RecAt.fresh HI1.out (Nat.le_refl _)) HG5.out
      have hBD : B ≠ D := by have := HSz.out; omega
      obtain ⟨w6, hw6⟩ : ∃ w6, w5.alloc (.cells #[.slice ap p.persons.length cp, .slice aw p.walk.length cw, .slice ad p.dress.length cd, .slice aq p.parts.length cq] 29) = w6 := ⟨_, rfl⟩
      have hb56 : Below w5.heap.size w5 w6 := by rw [← hw6]; exact below_alloc _ _
      have L := LF0.out
      have hg5 := HG5.out
      rw [hDs] at hargs hg5 L hits
      rw [hw6, hXs] at L
      rw [hw6, hXs, hDs]
      have HG6 := hid (gb_trans hg5 (gb_below hb56 _))
      have hld : LD D B X P0 p I0 (.slice a0 P0.persons.length k0) (.slice a1 P0.walk.length k1) (.slice a2 P0.dress.length k2) (.slice a3 P0.parts.length k3) (.slice ap p.persons.length cp) (.slice aw p.walk.length cw) (.slice ad p.dress.length cd) (.slice aq p.parts.length cq) (.slice a4 I0.length k4) w w6 :=
        ⟨L, HSd.out, cell_gb HG6.out hBD HBB.out.1, cell_gb HG6.out hBD HBB.out.2.1, cell_gb HG6.out hBD HBB.out.2.2.1, cell_gb HG6.out hBD HBB.out.2.2.2, hBD, hargs.kept (gb_below hb56 _), RecAt.kept hits (gb_below hb56 _)⟩
      have Vd := hid (plotErr_zero.1 HV.out)
      have HD := hid hld
      clear hargs hits hb56 hg5 hw6 hXs hDs hBD LF0 HG5 HBt HBl H1 HI1 HX1 HG6 HB1 HSz HBB L hld
      obtain ⟨E0, hE0⟩ : ∃ V, Value.slice a0 P0.persons.length k0 = V := ⟨_, rfl⟩
      rw [hE0] at HD ⊢
      obtain ⟨E1, hE1⟩ : ∃ V, Value.slice a1 P0.walk.length k1 = V := ⟨_, rfl⟩
      rw [hE1] at HD ⊢
      obtain ⟨E2, hE2⟩ : ∃ V, Value.slice a2 P0.dress.length k2 = V := ⟨_, rfl⟩
      rw [hE2] at HD ⊢
      obtain ⟨E3, hE3⟩ : ∃ V, Value.slice a3 P0.parts.length k3 = V := ⟨_, rfl⟩
      rw [hE3] at HD ⊢
      obtain ⟨M0, hM0⟩ : ∃ V, Value.slice ap p.persons.length cp = V := ⟨_, rfl⟩
      rw [hM0] at HD ⊢
      obtain ⟨M1, hM1⟩ : ∃ V, Value.slice aw p.walk.length cw = V := ⟨_, rfl⟩
      rw [hM1] at HD ⊢
      obtain ⟨M2, hM2⟩ : ∃ V, Value.slice ad p.dress.length cd = V := ⟨_, rfl⟩
      rw [hM2] at HD ⊢
      obtain ⟨M3, hM3⟩ : ∃ V, Value.slice aq p.parts.length cq = V := ⟨_, rfl⟩
      rw [hM3] at HD ⊢
      clear hE0 hE1 hE2 hE3 hM0 hM1 hM2 hM3
      go_cut [9, 10] from 54 to 63 (fun s9 s10 wx => RecAt (some D) wx s9 3 4 (psG [[E0, E1, E2, E3], [M0, M1, M2, M3], [M0, M1, M2, M3]]) ∧ (∃ (im : List Item) (am : Option Addr) (cm : Nat), RecAt (some D) wx s10 3 1 (isG [.slice a4 I0.length k4, .slice am im.length cm, .slice a4 I0.length k4]) ∧ ItemsAt (some D) wx (.slice am im.length cm) im ∧ Sound0 (.slice am im.length cm) ∧ im.length ≤ 5) ∧ LD D B X P0 p I0 E0 E1 E2 E3 M0 M1 M2 M3 (.slice a4 I0.length k4) w wx)
      case first =>
        as_aux_lemma =>
        refine wp_named ?_
        intro ac0 hac0
        have HN := hid (show ac0.tmps.size = 162 from by rw [hac0]; rfl)
        have r3 : ac0.eval (.tmp 3) = .pointer (some ⟨B, 0, none⟩) := by rw [hac0]; rfl
        have r8 : ac0.eval (.tmp 8) = .pointer (some ⟨X, 0, none⟩) := by rw [hac0]; rfl
        have r1 : ac0.eval (.tmp 1) = .slice a4 I0.length k4 := by rw [hac0]; rfl
        have r7 : ac0.eval (.tmp 7) = .pointer (some ⟨D, 0, none⟩) := by rw [hac0]; rfl
        have HA := hid hac0
        clear hac0
        refine wp_region_flow (by kernel_rfl) [54, 55, 56, 57, 58, 59, 60, 61, 62, 63, 9, 10] 100
          (fun _ w' => LD D B X P0 p I0 E0 E1 E2 E3 M0 M1 M2 M3 (.slice a4 I0.length k4) w w') (fun a b => a.grownBy b (some D)) (fun _ _ => False)
          (fun _ ix v w' => match ix with
            | 0 => v = .agg #[E0, E1, E2, E3]
            | 1 => v = .agg #[M0, M1, M2, M3]
            | 2 => v = .agg #[M0, M1, M2, M3]
            | 3 => RecAt (some D) w' v 3 4 (psG [[E0, E1, E2, E3], [M0, M1, M2, M3], [M0, M1, M2, M3]])
            | 4 => v = .slice a4 I0.length k4
            | 5 => v = .pointer (some ⟨D, 0, none⟩)
            | 6 => v = .agg #[M0, M1, M2, M3]
            | 7 => ∃ (im : List Item) (am : Option Addr) (cm : Nat), v = .slice am im.length cm ∧ ItemsAt (some D) w' v im ∧ Sound0 v ∧ im.length ≤ 5
            | 8 => v = .slice a4 I0.length k4
            | 9 => ∃ (im : List Item) (am : Option Addr) (cm : Nat), RecAt (some D) w' v 3 1 (isG [.slice a4 I0.length k4, .slice am im.length cm, .slice a4 I0.length k4]) ∧ ItemsAt (some D) w' (.slice am im.length cm) im ∧ Sound0 (.slice am im.length cm) ∧ im.length ≤ 5
            | 10 => RecAt (some D) w' v 3 4 (psG [[E0, E1, E2, E3], [M0, M1, M2, M3], [M0, M1, M2, M3]])
            | 11 => ∃ (im : List Item) (am : Option Addr) (cm : Nat), RecAt (some D) w' v 3 1 (isG [.slice a4 I0.length k4, .slice am im.length cm, .slice a4 I0.length k4]) ∧ ItemsAt (some D) w' (.slice am im.length cm) im ∧ Sound0 (.slice am im.length cm) ∧ im.length ≤ 5
            | _ => True)
          [0, 1, 2, 3, 4, 5, 6, 7, 8, 9, 10, 11] (by kernel_rfl) (by kernel_rfl) rfl ?_ ?_ ?_ ?_ ?_
        · intro bt ix v w2 w3 hW hg hy
          match ix with
          | 0 => exact hy
          | 1 => exact hy
          | 2 => exact hy
          | 3 => exact RecAt.kept hy hg
          | 4 => exact hy
          | 5 => exact hy
          | 6 => exact hy
          | 7 => obtain ⟨im, am, cm, h1, h2, h3, h4⟩ := hy; exact ⟨im, am, cm, h1, RecAt.kept h2 hg, h3, h4⟩
          | 8 => exact hy
          | 9 => obtain ⟨im, am, cm, h1, h2, h3, h4⟩ := hy; exact ⟨im, am, cm, RecAt.kept h1 hg, RecAt.kept h2 hg, h3, h4⟩
          | 10 => exact RecAt.kept hy hg
          | 11 => obtain ⟨im, am, cm, h1, h2, h3, h4⟩ := hy; exact ⟨im, am, cm, RecAt.kept h1 hg, RecAt.kept h2 hg, h3, h4⟩
          | n + 12 => exact trivial
        · intro ix v w2 w3 _ h; exact h.elim
        · exact HD.out.later (Below.refl _ _).drew
        · skip
          refine StepF.val (i := 0) (o := _) rfl (by decide) ?_ ?_
          · intro bb vs wx _ hW hY
            refine ⟨fl_want rfl, fun ρ hρ => ⟨.agg #[E0, E1, E2, E3], wx, ?_, hW, gb_refl _ _, rfl⟩⟩
            have rr : ρ (.tmp 3) = .pointer (some ⟨B, 0, none⟩) := by rw [hρ, fl_out rfl, r3]
            have q0 := hW.b0
            have q1 := hW.b1
            have q2 := hW.b2
            have q3 := hW.b3
            clear hρ
            simp [execOp, go_sem, rr, q0, q1, q2, q3]
          refine StepF.val (i := 1) (o := _) rfl (by decide) ?_ ?_
          · intro bb vs wx _ hW hY
            refine ⟨fl_want rfl, fun ρ hρ => ⟨.agg #[M0, M1, M2, M3], wx, ?_, hW, gb_refl _ _, rfl⟩⟩
            have rr : ρ (.tmp 8) = .pointer (some ⟨X, 0, none⟩) := by rw [hρ, fl_out rfl, r8]
            have q0 := hW.lf.c0
            have q1 := hW.lf.c1
            have q2 := hW.lf.c2
            have q3 := hW.lf.c3
            clear hρ
            simp [execOp, go_sem, rr, q0, q1, q2, q3]
          refine StepF.val (i := 2) (o := _) rfl (by decide) ?_ ?_
          · intro bb vs wx _ hW hY
            refine ⟨fl_want rfl, fun ρ hρ => ⟨.agg #[M0, M1, M2, M3], wx, ?_, hW, gb_refl _ _, rfl⟩⟩
            have rr : ρ (.tmp 8) = .pointer (some ⟨X, 0, none⟩) := by rw [hρ, fl_out rfl, r8]
            have q0 := hW.lf.c0
            have q1 := hW.lf.c1
            have q2 := hW.lf.c2
            have q3 := hW.lf.c3
            clear hρ
            simp [execOp, go_sem, rr, q0, q1, q2, q3]
          refine StepF.val (i := 3) (o := _) rfl (by decide) ?_ ?_
          · intro bb vs wx _ hW hY
            have y54 : vs 54 = .agg #[E0, E1, E2, E3] := hY 0 54 (by kernel_rfl) (by kernel_rfl)
            have y55 : vs 55 = .agg #[M0, M1, M2, M3] := hY 1 55 (by kernel_rfl) (by kernel_rfl)
            have y56 : vs 56 = .agg #[M0, M1, M2, M3] := hY 2 56 (by kernel_rfl) (by kernel_rfl)
            exact ⟨fl_want rfl, fun ρ hρ => ⟨_, _, ex_build (ps := #[(0, .agg #[E0, E1, E2, E3]), (1, .agg #[M0, M1, M2, M3]), (2, .agg #[M0, M1, M2, M3])]) rfl (by simp [hρ, fl_in 162 HN.out, y54, y55, y56]) (run_three_plots wx E0 E1 E2 E3 M0 M1 M2 M3 M0 M1 M2 M3), hW.later (below_alloc _ _), gb_below (below_alloc _ _) _, psG_cells D wx 29 hW.lf.beat.lt E0 E1 E2 E3 M0 M1 M2 M3 M0 M1 M2 M3⟩⟩
          refine StepF.val (i := 4) (o := _) rfl (by decide) ?_ ?_
          · intro bb vs wx _ hW hY
            exact ⟨fl_want rfl, fun ρ hρ => ⟨.slice a4 I0.length k4, wx, ex_move rfl (by rw [hρ, fl_out rfl, r1]), hW, gb_refl _ _, rfl⟩⟩
          refine StepF.val (i := 5) (o := _) rfl (by decide) ?_ ?_
          · intro bb vs wx _ hW hY
            exact ⟨fl_want rfl, fun ρ hρ => ⟨.pointer (some ⟨D, 0, none⟩), wx, ex_move rfl (by rw [hρ, fl_out rfl, r7]), hW, gb_refl _ _, rfl⟩⟩
          refine StepF.val (i := 6) (o := _) rfl (by decide) ?_ ?_
          · intro bb vs wx _ hW hY
            refine ⟨fl_want rfl, fun ρ hρ => ⟨.agg #[M0, M1, M2, M3], wx, ?_, hW, gb_refl _ _, rfl⟩⟩
            have rr : ρ (.tmp 8) = .pointer (some ⟨X, 0, none⟩) := by rw [hρ, fl_out rfl, r8]
            have q0 := hW.lf.c0
            have q1 := hW.lf.c1
            have q2 := hW.lf.c2
            have q3 := hW.lf.c3
            clear hρ
            simp [execOp, go_sem, rr, q0, q1, q2, q3]
          refine StepF.call (i := 7) (o := _) rfl (by decide) ?_ ?_
          · intro bb vs wx _ hW hY
            have y59 : vs 59 = .pointer (some ⟨D, 0, none⟩) := hY 5 59 (by kernel_rfl) (by kernel_rfl)
            have y60 : vs 60 = .agg #[M0, M1, M2, M3] := hY 6 60 (by kernel_rfl) (by kernel_rfl)
            refine ⟨fl_want rfl, fun ρ hρ => ?_⟩
            have rc : ρ (.const (.int .i64 5)) = .int .i64 5 := by rw [hρ]; rfl
            have r59x : ρ (.tmp 59) = .pointer (some ⟨D, 0, none⟩) := by rw [hρ, fl_in 162 HN.out rfl, y59]
            have r60x : ρ (.tmp 60) = .agg #[M0, M1, M2, M3] := by rw [hρ, fl_in 162 HN.out rfl, y60]
            have rf : ρ (.func 15) = .func (.func 15) #[] #[] := by rw [hρ]; rfl
            clear hρ
            refine ⟨15, _, ex_call (vs := #[.pointer (some ⟨D, 0, none⟩), .agg #[M0, M1, M2, M3], .int .i64 5]) rfl rf (by simp [rc, r59x, r60x]) Try.func15 (by kernel_rfl) rfl, ?_⟩
            refine (itemsOf_any D 5 p _ _ _ _ wx hW.lf.beat hW.lf.plot HV.out (by omega) (by omega)).mono ?_
            rintro e w' ⟨vm, im, rfl, hie, hil, hI, hsi, hbt, hg⟩
            obtain ⟨am, cm, rfl⟩ := ItemsAt.form hI
            exact ⟨_, rfl, hW.go hbt hg, hg, ⟨im, am, cm, rfl, hI, hsi, by omega⟩⟩
          refine StepF.val (i := 8) (o := _) rfl (by decide) ?_ ?_
          · intro bb vs wx _ hW hY
            exact ⟨fl_want rfl, fun ρ hρ => ⟨.slice a4 I0.length k4, wx, ex_move rfl (by rw [hρ, fl_out rfl, r1]), hW, gb_refl _ _, rfl⟩⟩
          refine StepF.val (i := 9) (o := _) rfl (by decide) ?_ ?_
          · intro bb vs wx _ hW hY
            have y58 : vs 58 = .slice a4 I0.length k4 := hY 4 58 (by kernel_rfl) (by kernel_rfl)
            have y61 : ∃ (im : List Item) (am : Option Addr) (cm : Nat), vs 61 = .slice am im.length cm ∧ ItemsAt (some D) wx (vs 61) im ∧ Sound0 (vs 61) ∧ im.length ≤ 5 := hY 7 61 (by kernel_rfl) (by kernel_rfl)
            have y62 : vs 62 = .slice a4 I0.length k4 := hY 8 62 (by kernel_rfl) (by kernel_rfl)
            obtain ⟨im, am, cm, e61, h2, h3, h4⟩ := y61
            rw [e61] at h2 h3
            exact ⟨fl_want rfl, fun ρ hρ => ⟨_, _, ex_build (ps := #[(0, .slice a4 I0.length k4), (1, .slice am im.length cm), (2, .slice a4 I0.length k4)]) rfl (by simp [hρ, fl_in 162 HN.out, y58, e61, y62]) (run_three_lists wx a4 am a4 I0.length im.length I0.length k4 cm k4), hW.later (below_alloc _ _), gb_below (below_alloc _ _) _, ⟨im, am, cm, isG_cells D wx 31 hW.lf.beat.lt _ _ _, RecAt.kept h2 (gb_below (below_alloc _ _) _), h3, h4⟩⟩⟩
          refine StepF.val (i := 10) (o := _) rfl (by decide) ?_ ?_
          · intro bb vs wx _ hW hY
            have y57 : RecAt (some D) wx (vs 57) 3 4 (psG [[E0, E1, E2, E3], [M0, M1, M2, M3], [M0, M1, M2, M3]]) := hY 3 57 (by kernel_rfl) (by kernel_rfl)
            exact ⟨fl_want rfl, fun ρ hρ => ⟨vs 57, wx, ex_assign rfl (by rw [hρ, fl_in 162 HN.out rfl]), hW, gb_refl _ _, y57⟩⟩
          refine StepF.val (i := 11) (o := _) rfl (by decide) ?_ ?_
          · intro bb vs wx _ hW hY
            have y63 : ∃ (im : List Item) (am : Option Addr) (cm : Nat), RecAt (some D) wx (vs 63) 3 1 (isG [.slice a4 I0.length k4, .slice am im.length cm, .slice a4 I0.length k4]) ∧ ItemsAt (some D) wx (.slice am im.length cm) im ∧ Sound0 (.slice am im.length cm) ∧ im.length ≤ 5 := hY 9 63 (by kernel_rfl) (by kernel_rfl)
            exact ⟨fl_want rfl, fun ρ hρ => ⟨vs 63, wx, ex_assign rfl (by rw [hρ, fl_in 162 HN.out rfl]), hW, gb_refl _ _, y63⟩⟩
          exact StepF.nil
        · intro vs wx hW hY
          have y9 : RecAt (some D) wx (vs 9) 3 4 (psG [[E0, E1, E2, E3], [M0, M1, M2, M3], [M0, M1, M2, M3]]) := hY 10 9 (by kernel_rfl)
          have y10 : ∃ (im : List Item) (am : Option Addr) (cm : Nat), RecAt (some D) wx (vs 10) 3 1 (isG [.slice a4 I0.length k4, .slice am im.length cm, .slice a4 I0.length k4]) ∧ ItemsAt (some D) wx (.slice am im.length cm) im ∧ Sound0 (.slice am im.length cm) ∧ im.length ≤ 5 := hY 11 10 (by kernel_rfl)
          have Y9 := hid y9
          have Y10 := hid y10
          have HWx := hid hW
          clear hW hY y9 y10 r1 r3 r7 r8 HN
          rw [HA.out]
          simp only [putAll, Act.put, List.setIfInBounds_toArray, List.set_cons_zero, List.set_cons_succ]
          clear HA
          go_wp2_with fail
          go_meet
          exact ⟨Y9.out, Y10.out, HWx.out⟩
      case rest =>
        as_aux_lemma =>
        obtain ⟨h9, h10, hld⟩ := hcut
        obtain ⟨im, am, cm, hil, him, hsm, hl5⟩ := h10
        have HPs := hid (show ∀ i, i < 3 → ∃ (ua ub uc ue ui : Value) (Q : Plot) (I : List Item), PlotS none wc ua ub uc ue Q ∧ PlotN Q ∧ psG [[E0, E1, E2, E3], [M0, M1, M2, M3], [M0, M1, M2, M3]] i 0 = ua ∧ psG [[E0, E1, E2, E3], [M0, M1, M2, M3], [M0, M1, M2, M3]] i 1 = ub ∧ psG [[E0, E1, E2, E3], [M0, M1, M2, M3], [M0, M1, M2, M3]] i 2 = uc ∧ psG [[E0, E1, E2, E3], [M0, M1, M2, M3], [M0, M1, M2, M3]] i 3 = ue ∧ ItemsAt none wc ui I ∧ Sound0 ui ∧ I.length ≤ 1000 ∧ isG [.slice a4 I0.length k4, .slice am im.length cm, .slice a4 I0.length k4] i 0 = ui from fun i hi => by
          have hmade := (PlotS.ofValid hld.lf.plot Vd.out hld.sd).anyH
          rcases (by omega : i = 0 ∨ i = 1 ∨ i = 2) with rfl | rfl | rfl
          · exact ⟨_, _, _, _, _, _, _, hld.arg.anyH, HN0.out, rfl, rfl, rfl, rfl, RecAt.any hld.its, HSi.out, by omega, rfl⟩
          · exact ⟨_, _, _, _, _, _, _, hmade, PlotN.ofValid Vd.out, rfl, rfl, rfl, rfl, RecAt.any him, hsm, by omega, rfl⟩
          · exact ⟨_, _, _, _, _, _, _, hmade, PlotN.ofValid Vd.out, rfl, rfl, rfl, rfl, RecAt.any hld.its, HSi.out, by omega, rfl⟩)
        obtain ⟨PSv, hPSv⟩ : ∃ g, psG [[E0, E1, E2, E3], [M0, M1, M2, M3], [M0, M1, M2, M3]] = g := ⟨_, rfl⟩
        obtain ⟨ISv, hISv⟩ : ∃ g, isG [.slice a4 I0.length k4, .slice am im.length cm, .slice a4 I0.length k4] = g := ⟨_, rfl⟩
        rw [hPSv, hISv] at HPs
        rw [hPSv] at h9
        rw [hISv] at hil
        have HBw := hid hld.lf.below
        obtain ⟨b9, c9, e9, h9'⟩ := h9
        subst e9
        obtain ⟨b9, o9, e9, _, _, _, hb9, hc9⟩ := h9' (by decide)
        subst e9
        obtain ⟨b10, c10, e10, h10'⟩ := hil
        subst e10
        obtain ⟨b10, o10, e10, _, _, _, hb10, hc10⟩ := h10' (by decide)
        subst e10
        have H9 := hid hc9
        have H10 := hid hc10
        clear hPSv hISv hld h9' hc9 h10' hc10 him hsm hl5 HD
        go_wp2_with fail
        go_loopw [11] (fun i wr => ∃ k : Nat, k ≤ 3 ∧ i = .int .i64 k ∧ Below wc.heap.size wc wr) (fun i _ => 3 - (intOf i).toNat)
        case atStart => exact ⟨0, by omega, rfl, Below.refl _ _⟩
        case round =>
          as_aux_lemma =>
          obtain ⟨k, hk, rfl, hb⟩ := hrel
          obtain ⟨wo, rfl⟩ : ∃ wo : World, wo = wr := ⟨_, rfl⟩
          have HB := hid hb
          clear hb
          by_cases hlt : k < 3
          rotate_left
          · obtain rfl : k = 3 := by omega
            go_wp2_with (go_at_call 19; refine (AW.out _).mono ?_; rintro e wz ⟨rfl, hbz⟩)
            go_ret
            exact ⟨rfl, HBw.out.trans ((HB.out.trans (hbz.mono HB.out.size)).mono HBw.out.size)⟩
          obtain ⟨ua, ub, uc, ue, ui, Q, I, hPS, hQN, e0, e1, e2, e3, hIs, hsI, hIl, e4⟩ := HPs.out k hlt
          have hPSo := hPS.below HB.out
          have hIso := RecAt.below hIs HB.out
          have d0 := cell_back HB.out hb9 (H9.out k hlt 0 (by decide))
          have d1 := cell_back HB.out hb9 (H9.out k hlt 1 (by decide))
          have d2 := cell_back HB.out hb9 (H9.out k hlt 2 (by decide))
          have d3 := cell_back HB.out hb9 (H9.out k hlt 3 (by decide))
          have d4 := cell_back HB.out hb10 (H10.out k hlt 0 (by decide))
          rw [e0, Nat.add_zero] at d0
          rw [e1] at d1
          rw [e2] at d2
          rw [e3] at d3
          rw [e4, Nat.add_zero, Nat.mul_one] at d4
          have HP := hid hPSo
          have HI := hid hIso
          have HQN := hid hQN
          have HIs := hid hsI
          obtain ⟨qa, ka, rfl⟩ := hPS.persons.1.form
          obtain ⟨qb, kb, rfl⟩ := hPS.walk.form
          obtain ⟨qc, kc, ed, _⟩ := hPS.dress.1
          subst ed
          obtain ⟨qe, ke, rfl⟩ := hPS.parts.1.form
          obtain ⟨qi, ki, rfl⟩ := ItemsAt.form hIs
          have i1 : (k : Int) < 3 := by omega
          have z1 : IntKind.i64.wrap ((k : Int) + 1) = (k : Int) + 1 := IntWalk.i64_in _ (by omega)
          have HD5 := hid (fun W' (hb : Below wo.heap.size wo W') => (⟨cell_now hb d0, cell_now hb d1, cell_now hb d2, cell_now hb d3, cell_now hb d4⟩ : W'.cell? ⟨b9, o9 + k * 4, none⟩ = some (.slice qa Q.persons.length ka) ∧ W'.cell? ⟨b9, o9 + k * 4 + 1, none⟩ = some (.slice qb Q.walk.length kb) ∧ W'.cell? ⟨b9, o9 + k * 4 + 2, none⟩ = some (.slice qc Q.dress.length kc) ∧ W'.cell? ⟨b9, o9 + k * 4 + 3, none⟩ = some (.slice qe Q.parts.length ke) ∧ W'.cell? ⟨b10, o10 + k, none⟩ = some (.slice qi I.length ki)))
          clear e0 e1 e2 e3 e4 hPS hPSo hQN hIs hIso hsI d0 d1 d2 d3 d4 HPs H9 H10
          go_upto_region 9 with fail
          refine wp_named ?_
          intro ac0 hac0
          have HN := hid (show ac0.tmps.size = 162 from by rw [hac0]; rfl)
          have r9 : ac0.eval (.tmp 9) = .slice (some ⟨b9, o9, none⟩) 3 c9 := by rw [hac0]; rfl
          have r10 : ac0.eval (.tmp 10) = .slice (some ⟨b10, o10, none⟩) 3 c10 := by rw [hac0]; rfl
          have r11 : ac0.eval (.tmp 11) = .int .i64 k := by rw [hac0]; rfl
          have HA := hid hac0
          clear hac0
          refine wp_region_flow_tail 11 (by kernel_rfl) (by kernel_rfl) [70, 71, 72, 73, 74, 75, 76, 77, 78, 79, 12] 100
            (fun _ w' => Below wo.heap.size wo w') (fun a b => Below a.heap.size a b) (fun _ _ => False)
            (fun _ ix v w' => match ix with
              | 0 => v = .slice (some ⟨b9, o9, none⟩) 3 c9
              | 1 => v = .int .i64 k
              | 2 => v = .pointer (some ⟨b9, o9 + k * 4, none⟩)
              | 3 => v = .agg #[.slice qa Q.persons.length ka, .slice qb Q.walk.length kb, .slice qc Q.dress.length kc, .slice qe Q.parts.length ke]
              | 4 => ∃ vp' vw' vd' vq', v = plotV vp' vw' vd' vq' ∧ OwnP wo.heap.size w' vp' vw' vd' vq' Q
              | 5 => v = .slice (some ⟨b10, o10, none⟩) 3 c10
              | 6 => v = .int .i64 k
              | 7 => v = .pointer (some ⟨b10, o10 + k, none⟩)
              | 8 => v = .slice qi I.length ki
              | 9 => OwnR encItem 5 42 wo.heap.size w' v I
              | 10 => ∃ Z, v = .pointer (some ⟨Z, 0, none⟩) ∧ wo.heap.size ≤ Z ∧ Z < w'.heap.size ∧ w'.heap[Z]? = some (.cells #[.slice none 0 0, .slice none 0 0, .slice none 0 0, .slice none 0 0] 29 (0, 0)) ∧ (∀ o, o < 4 → w'.cell? ⟨Z, o, none⟩ = some (.slice none 0 0)) ∧ ∀ o, w'.frozen? ⟨Z, o, none⟩ = false
              | _ => True)
            [0, 1, 2, 3, 4, 5, 6, 7, 8, 9, 10] (by kernel_rfl) (by kernel_rfl) rfl ?_ ?_ ?_ ?_ ?_
          · intro bt ix v w2 w3 hW hg hy
            match ix with
            | 0 => exact hy
            | 1 => exact hy
            | 2 => exact hy
            | 3 => exact hy
            | 4 => obtain ⟨x1, x2, x3, x4, h1, h2⟩ := hy; exact ⟨x1, x2, x3, x4, h1, h2.later hg⟩
            | 5 => exact hy
            | 6 => exact hy
            | 7 => exact hy
            | 8 => exact hy
            | 9 => exact OwnR.later hy hg
            | 10 => obtain ⟨Z, h1, h2, h3, h4, h5, h6⟩ := hy; exact ⟨Z, h1, h2, Nat.lt_of_lt_of_le h3 hg.size, (hg.block Z h3).trans h4, fun o ho => cell_back hg h3 (h5 o ho), fun o => (hg.frozen (p := ⟨Z, o, none⟩) h3).trans (h6 o)⟩
            | n + 11 => exact trivial
          · intro ix v w2 w3 _ h; exact h.elim
          · exact (Below.refl _ _).drew
          · skip
            refine StepF.val (i := 0) (o := _) rfl (by decide) ?_ ?_
            · intro bb vs wx _ hW hY
              exact ⟨fl_want rfl, fun ρ hρ => ⟨.slice (some ⟨b9, o9, none⟩) 3 c9, wx, ex_move rfl (by rw [hρ, fl_out rfl, r9]), hW, Below.refl _ _, rfl⟩⟩
            refine StepF.val (i := 1) (o := _) rfl (by decide) ?_ ?_
            · intro bb vs wx _ hW hY
              exact ⟨fl_want rfl, fun ρ hρ => ⟨.int .i64 k, wx, ex_move rfl (by rw [hρ, fl_out rfl, r11]), hW, Below.refl _ _, rfl⟩⟩
            refine StepF.val (i := 2) (o := _) rfl (by decide) ?_ ?_
            · intro bb vs wx _ hW hY
              have y70 : vs 70 = .slice (some ⟨b9, o9, none⟩) 3 c9 := hY 0 70 (by kernel_rfl) (by kernel_rfl)
              have y71 : vs 71 = .int .i64 k := hY 1 71 (by kernel_rfl) (by kernel_rfl)
              refine ⟨fl_want rfl, fun ρ hρ => ⟨.pointer (some ⟨b9, o9 + k * 4, none⟩), wx, ?_, hW, Below.refl _ _, rfl⟩⟩
              have r70x : ρ (.tmp 70) = .slice (some ⟨b9, o9, none⟩) 3 c9 := by rw [hρ, fl_in 162 HN.out rfl, y70]
              have r71x : ρ (.tmp 71) = .int .i64 k := by rw [hρ, fl_in 162 HN.out rfl, y71]
              clear hρ
              simp [execOp, go_sem, r70x, r71x, i1]
            refine StepF.val (i := 3) (o := _) rfl (by decide) ?_ ?_
            · intro bb vs wx _ hW hY
              have y72 : vs 72 = .pointer (some ⟨b9, o9 + k * 4, none⟩) := hY 2 72 (by kernel_rfl) (by kernel_rfl)
              refine ⟨fl_want rfl, fun ρ hρ => ⟨.agg #[.slice qa Q.persons.length ka, .slice qb Q.walk.length kb, .slice qc Q.dress.length kc, .slice qe Q.parts.length ke], wx, ?_, hW, Below.refl _ _, rfl⟩⟩
              have r72x : ρ (.tmp 72) = .pointer (some ⟨b9, o9 + k * 4, none⟩) := by rw [hρ, fl_in 162 HN.out rfl, y72]
              obtain ⟨q0, q1, q2, q3, _⟩ := HD5.out _ hW
              clear hρ
              simp [execOp, go_sem, r72x, q0, q1, q2, q3]
            refine StepF.call (i := 4) (o := _) rfl (by decide) ?_ ?_
            · intro bb vs wx _ hW hY
              have y73 : vs 73 = .agg #[.slice qa Q.persons.length ka, .slice qb Q.walk.length kb, .slice qc Q.dress.length kc, .slice qe Q.parts.length ke] := hY 3 73 (by kernel_rfl) (by kernel_rfl)
              refine ⟨fl_want rfl, fun ρ hρ => ?_⟩
              have r73x : ρ (.tmp 73) = .agg #[.slice qa Q.persons.length ka, .slice qb Q.walk.length kb, .slice qc Q.dress.length kc, .slice qe Q.parts.length ke] := by rw [hρ, fl_in 162 HN.out rfl, y73]
              have rf : ρ (.func 21) = .func (.func 21) #[] #[] := by rw [hρ]; rfl
              clear hρ
              refine ⟨21, _, ex_call (vs := #[.agg #[.slice qa Q.persons.length ka, .slice qb Q.walk.length kb, .slice qc Q.dress.length kc, .slice qe Q.parts.length ke]]) rfl rf (by simp [r73x]) Try.func21 (by kernel_rfl) rfl, ?_⟩
              refine (ownPlot_any Q _ _ _ _ none wx (HP.out.below hW) HQN.out).mono ?_
              rintro e w' ⟨vp', vw', vd', vq', rfl, hown, hb5⟩
              exact ⟨_, rfl, hW.trans (hb5.mono hW.size), hb5, ⟨vp', vw', vd', vq', rfl, hown.base hW.size⟩⟩
            refine StepF.val (i := 5) (o := _) rfl (by decide) ?_ ?_
            · intro bb vs wx _ hW hY
              exact ⟨fl_want rfl, fun ρ hρ => ⟨.slice (some ⟨b10, o10, none⟩) 3 c10, wx, ex_move rfl (by rw [hρ, fl_out rfl, r10]), hW, Below.refl _ _, rfl⟩⟩
            refine StepF.val (i := 6) (o := _) rfl (by decide) ?_ ?_
            · intro bb vs wx _ hW hY
              exact ⟨fl_want rfl, fun ρ hρ => ⟨.int .i64 k, wx, ex_move rfl (by rw [hρ, fl_out rfl, r11]), hW, Below.refl _ _, rfl⟩⟩
            refine StepF.val (i := 7) (o := _) rfl (by decide) ?_ ?_
            · intro bb vs wx _ hW hY
              have y75 : vs 75 = .slice (some ⟨b10, o10, none⟩) 3 c10 := hY 5 75 (by kernel_rfl) (by kernel_rfl)
              have y76 : vs 76 = .int .i64 k := hY 6 76 (by kernel_rfl) (by kernel_rfl)
              refine ⟨fl_want rfl, fun ρ hρ => ⟨.pointer (some ⟨b10, o10 + k, none⟩), wx, ?_, hW, Below.refl _ _, rfl⟩⟩
              have r75x : ρ (.tmp 75) = .slice (some ⟨b10, o10, none⟩) 3 c10 := by rw [hρ, fl_in 162 HN.out rfl, y75]
              have r76x : ρ (.tmp 76) = .int .i64 k := by rw [hρ, fl_in 162 HN.out rfl, y76]
              clear hρ
              simp [execOp, go_sem, r75x, r76x, i1]
            refine StepF.val (i := 8) (o := _) rfl (by decide) ?_ ?_
            · intro bb vs wx _ hW hY
              have y77 : vs 77 = .pointer (some ⟨b10, o10 + k, none⟩) := hY 7 77 (by kernel_rfl) (by kernel_rfl)
              refine ⟨fl_want rfl, fun ρ hρ => ⟨.slice qi I.length ki, wx, ?_, hW, Below.refl _ _, rfl⟩⟩
              have r77x : ρ (.tmp 77) = .pointer (some ⟨b10, o10 + k, none⟩) := by rw [hρ, fl_in 162 HN.out rfl, y77]
              obtain ⟨_, _, _, _, q0⟩ := HD5.out _ hW
              clear hρ
              simp [execOp, go_sem, r77x, q0]
            refine StepF.call (i := 9) (o := _) rfl (by decide) ?_ ?_
            · intro bb vs wx _ hW hY
              have y78 : vs 78 = .slice qi I.length ki := hY 8 78 (by kernel_rfl) (by kernel_rfl)
              refine ⟨fl_want rfl, fun ρ hρ => ?_⟩
              have r78x : ρ (.tmp 78) = .slice qi I.length ki := by rw [hρ, fl_in 162 HN.out rfl, y78]
              have rf : ρ (.func 37) = .func (.func 37) #[] #[] := by rw [hρ]; rfl
              clear hρ
              refine ⟨37, _, ex_call (vs := #[.slice qi I.length ki]) rfl rf (by simp [r78x]) Try.func37 (by kernel_rfl) rfl, ?_⟩
              refine (ownItems_any I _ none wx (RecAt.below HI.out hW) HIs.out (by omega)).mono ?_
              rintro e w' ⟨v', rfl, hown, hb5⟩
              exact ⟨_, rfl, hW.trans (hb5.mono hW.size), hb5, hown.base' hW.size⟩
            refine StepF.val (i := 10) (o := _) rfl (by decide) ?_ ?_
            · intro bb vs wx _ hW hY
              refine ⟨fl_want rfl, fun ρ hρ => ⟨.pointer (some ⟨wx.heap.size, 0, none⟩), wx.alloc (.cells #[.slice none 0 0, .slice none 0 0, .slice none 0 0, .slice none 0 0] 29), ?_, hW.trans ((below_alloc _ _).mono hW.size), below_alloc _ _, ⟨_, rfl, hW.size, by simp, box_new _ _ _, fun o ho => by rcases (by omega : o = 0 ∨ o = 1 ∨ o = 2 ∨ o = 3) with rfl | rfl | rfl | rfl <;> exact cell_at rfl rfl, fun o => frozen_at rfl⟩⟩⟩
              clear hρ
              simp [execOp, go_sem]
            exact StepF.nil
          · intro vs wx hW hY
            have y74 : ∃ vp' vw' vd' vq', vs 74 = plotV vp' vw' vd' vq' ∧ OwnP wo.heap.size wx vp' vw' vd' vq' Q := hY 4 74 (by kernel_rfl)
            have y79 : OwnR encItem 5 42 wo.heap.size wx (vs 79) I := hY 9 79 (by kernel_rfl)
            have y12 : ∃ Z, vs 12 = .pointer (some ⟨Z, 0, none⟩) ∧ wo.heap.size ≤ Z ∧ Z < wx.heap.size ∧ wx.heap[Z]? = some (.cells #[.slice none 0 0, .slice none 0 0, .slice none 0 0, .slice none 0 0] 29 (0, 0)) ∧ (∀ o, o < 4 → wx.cell? ⟨Z, o, none⟩ = some (.slice none 0 0)) ∧ ∀ o, wx.frozen? ⟨Z, o, none⟩ = false := hY 10 12 (by kernel_rfl)
            obtain ⟨vp', vw', vd', vq', e74, hown⟩ := y74
            obtain ⟨Y, e12, hZ1, hZ2, hZ3, hZ4, hZ5⟩ := y12
            obtain ⟨ia, ja, e79⟩ := y79.form
            obtain ⟨pa, xa, rfl⟩ := hown.persons.form
            obtain ⟨pb, xb, rfl⟩ := hown.wform
            obtain ⟨pc, xc, rfl⟩ := hown.dress.form
            obtain ⟨pe, xe, rfl⟩ := hown.parts.form
            rw [e79] at y79
            have HWx := hid (show Below wo.heap.size wo wx from hW)
            clear hW hY r9 r10 r11 HN
            rw [HA.out]
            simp only [putAll, Act.put, List.setIfInBounds_toArray, List.set_cons_zero, List.set_cons_succ, List.drop_succ_cons, List.drop_zero]
            rw [e74, e12, e79]
            clear e74 e12 e79 HA
            have z0 := hZ4 0 (by decide)
            have z1' := hZ4 1 (by decide)
            have z2 := hZ4 2 (by decide)
            have z3 := hZ4 3 (by decide)
            have f0 := hZ5 0
            have f1 := hZ5 1
            have f2 := hZ5 2
            have f3 := hZ5 3
            obtain ⟨l0, l1, l2, l3⟩ := put4_cells (R := Y) (w := wx) (a := .slice pa Q.persons.length xa) (b := .slice pb Q.walk.length xb) (c := .slice pc Q.dress.length xc) (d := .slice pe Q.parts.length xe) z0 z1' z2 z3
            have hgQ : wx.grownBy ((((wx.setCell ⟨Y, 0, none⟩ (.slice pa Q.persons.length xa)).setCell ⟨Y, 1, none⟩ (.slice pb Q.walk.length xb)).setCell ⟨Y, 2, none⟩ (.slice pc Q.dress.length xc)).setCell ⟨Y, 3, none⟩ (.slice pe Q.parts.length xe)) (some Y) := gb_trans (gb_trans (gb_trans (gb_put _ _ _ _) (gb_put _ _ _ _)) (gb_put _ _ _ _)) (gb_put _ _ _ _)
            have HG := hid hgQ
            have HO := hid hown
            have HIo := hid y79
            have HZ3 := hid hZ3
            have HL := hid (show _ ∧ _ ∧ _ ∧ _ from ⟨l0, l1, l2, l3⟩)
            clear hgQ hown y79 hZ3 hZ4 hZ5 l0 l1 l2 l3
            go_upto_region 10 with fail
            clear z0 z1' z2 z3 f0 f1 f2 f3
            obtain ⟨wz, hwz⟩ : ∃ wz, ((((wx.setCell ⟨Y, 0, none⟩ (.slice pa Q.persons.length xa)).setCell ⟨Y, 1, none⟩ (.slice pb Q.walk.length xb)).setCell ⟨Y, 2, none⟩ (.slice pc Q.dress.length xc)).setCell ⟨Y, 3, none⟩ (.slice pe Q.parts.length xe)) = wz := ⟨_, rfl⟩
            rw [hwz] at HG HL ⊢
            have HOz := hid (HO.out.off HZ3.out HG.out)
            have HIz := hid (HIo.out.kept HG.out (HIo.out.offB HZ3.out (by decide)))
            have HBo := hid (show Below wo.heap.size wo wz from HWx.out.grown HG.out HWx.out.size (fun g e => by cases e; exact hZ1))
            have HQo := hid (show PlotAt none wz _ _ _ _ Q from HOz.out.at (d := none) (by simp))
            have HQp := hid (show PlotAt none wz _ _ _ _ Q from HP.out.at.below HBo.out)
            have HJo := hid (show ItemsAt none wz _ I from HIz.out.items (d := none) (by simp))
            have HJp := hid (show ItemsAt none wz _ I from RecAt.below HI.out HBo.out)
            have HS := hid (fun W' (hb : Below wz.heap.size wz W') => (⟨cell_now hb HL.out.1, cell_now hb HL.out.2.1, cell_now hb HL.out.2.2.1, cell_now hb HL.out.2.2.2, (HD5.out wz HBo.out).1 |> cell_now hb, (HD5.out wz HBo.out).2.1 |> cell_now hb, (HD5.out wz HBo.out).2.2.1 |> cell_now hb, (HD5.out wz HBo.out).2.2.2.1 |> cell_now hb, (HD5.out wz HBo.out).2.2.2.2 |> cell_now hb⟩ : W'.cell? ⟨Y, 0, none⟩ = some (.slice pa Q.persons.length xa) ∧ W'.cell? ⟨Y, 1, none⟩ = some (.slice pb Q.walk.length xb) ∧ W'.cell? ⟨Y, 2, none⟩ = some (.slice pc Q.dress.length xc) ∧ W'.cell? ⟨Y, 3, none⟩ = some (.slice pe Q.parts.length xe) ∧ W'.cell? ⟨b9, o9 + k * 4, none⟩ = some (.slice qa Q.persons.length ka) ∧ W'.cell? ⟨b9, o9 + k * 4 + 1, none⟩ = some (.slice qb Q.walk.length kb) ∧ W'.cell? ⟨b9, o9 + k * 4 + 2, none⟩ = some (.slice qc Q.dress.length kc) ∧ W'.cell? ⟨b9, o9 + k * 4 + 3, none⟩ = some (.slice qe Q.parts.length ke) ∧ W'.cell? ⟨b10, o10 + k, none⟩ = some (.slice qi I.length ki)))
            clear HO HIo HZ3 HL HG HOz HIz hwz HWx hZ1 hZ2 HP HI HD5
            have HCp := hid (fun vp vw vd vq vi W' (h1 : PlotAt none W' vp vw vd vq Q) (h2 : ItemsAt none W' vi I) => (cheapest_any Q I vp vw vd vq vi W' h1 h2))
            have HCr := hid (fun vp vw vd vq vi W' (h1 : PlotAt none W' vp vw vd vq Q) (h2 : ItemsAt none W' vi I) => (rcheapest_any Q I vp vw vd vq vi W' h1 h2))
            have HSp := hid (fun vp vw vd vq vi W' (h1 : PlotAt none W' vp vw vd vq Q) (h2 : ItemsAt none W' vi I) => (shortc_any Q I vp vw vd vq vi W' h1 h2))
            have HSr := hid (fun vp vw vd vq vi W' (h1 : PlotAt none W' vp vw vd vq Q) (h2 : ItemsAt none W' vi I) => (rshortc_any Q I vp vw vd vq vi W' h1 h2))
            unfold CheapestPost at HCp HCr
            unfold ShortPost at HSp HSr
            have hbl : (bestL (cheapB Q I)).length ≤ 1000 := by
              unfold cheapB
              split
              next h =>
                cases e : bestP Q I Q.parts with
                | none => simp [bestL]
                | some x =>
                  obtain ⟨l, c⟩ := x
                  have := (bestR_some e).2.2.1
                  have h6 := (smallErr_zero h).2.1
                  simp at this
                  show l.length ≤ 1000
                  omega
              next h => simp [bestL]
            have hsl : (shortL Q I).length ≤ 1000 := by
              unfold shortL
              split
              next h => have := inc_length (shortS_first Q I Q.parts.length).inc; have h6 := (smallErr_zero h).2.1; omega
              next h => simp
            obtain ⟨BL, hBL⟩ : ∃ BL, bestL (cheapB Q I) = BL := ⟨_, rfl⟩
            obtain ⟨BC, hBC⟩ : ∃ BC, bestC (cheapB Q I) = BC := ⟨_, rfl⟩
            obtain ⟨CE, hCE⟩ : ∃ CE, cheapErr Q I = CE := ⟨_, rfl⟩
            obtain ⟨SL, hSL⟩ : ∃ SL, shortL Q I = SL := ⟨_, rfl⟩
            obtain ⟨SE, hSE⟩ : ∃ SE, smallErr Q I = SE := ⟨_, rfl⟩
            rw [hBL, hBC, hCE] at HCp HCr
            rw [hSL, hSE] at HSp HSr
            rw [hBL] at hbl
            rw [hSL] at hsl
            have HBL := hid hbl
            have HSL := hid hsl
            clear hBL hBC hCE hSL hSE hbl hsl
            have HBc := hid (show Below wz.heap.size wz wz from Below.refl _ _)
            obtain ⟨y0, y1, y2, y3, _⟩ := HS.out _ HBc.out
            go_upto_region 11 with (go_at_call 18; refine (HCp.out _ _ _ _ _ _ (HQo.out.below HBc.out) (RecAt.below HJo.out HBc.out)).mono ?_; rintro e w14 ⟨v14, rfl, ho, hb⟩; obtain ⟨a14, c14, e14⟩ := (own_int.2 ho).form; subst e14; have HL14 := hid (OwnInts.at (d := none) ho (by simp)); have HBc := hid (HBc.out.trans (hb.mono HBc.out.size)); clear ho hb y0 y1 y2 y3)
            have HBc := hid (show Below wz.heap.size wz w14.drew from HBc.out.trans ((Below.refl w14.heap.size w14).drew.mono HBc.out.size))
            have HL14 := hid (show IntsAt none w14.drew _ _ from HL14.out.below (Below.refl w14.heap.size w14).drew)
            go_upto_region 11 with fail
            go_region_held3 (fun W' => W'.cell? ⟨Y, 0, none⟩ = some (.slice pa Q.persons.length xa) ∧ W'.cell? ⟨Y, 1, none⟩ = some (.slice pb Q.walk.length xb) ∧ W'.cell? ⟨Y, 2, none⟩ = some (.slice pc Q.dress.length xc) ∧ W'.cell? ⟨Y, 3, none⟩ = some (.slice pe Q.parts.length xe) ∧ W'.cell? ⟨b9, o9 + k * 4, none⟩ = some (.slice qa Q.persons.length ka) ∧ W'.cell? ⟨b9, o9 + k * 4 + 1, none⟩ = some (.slice qb Q.walk.length kb) ∧ W'.cell? ⟨b9, o9 + k * 4 + 2, none⟩ = some (.slice qc Q.dress.length kc) ∧ W'.cell? ⟨b9, o9 + k * 4 + 3, none⟩ = some (.slice qe Q.parts.length ke) ∧ W'.cell? ⟨b10, o10 + k, none⟩ = some (.slice qi I.length ki))
              (first | exact HS.out _ HBc.out) (first
              | (go_at_call 41; refine (HCr.out _ _ _ _ _ _ (HQp.out.below HBc.out) (RecAt.below HJp.out HBc.out)).mono ?_; rintro e w17 ⟨v17, rfl, ho, hb⟩; obtain ⟨a17, c17, e17⟩ := (own_int.2 ho).form; subst e17; have HL17 := hid (OwnInts.at (d := none) ho (by simp)); have HBc := hid (HBc.out.trans (hb.mono HBc.out.size)); have HL14 := hid (HL14.out.below hb); clear ho hb))
            obtain ⟨y0, y1, y2, y3, _⟩ := HS.out _ HBc.out
            go_upto_region 13 with (go_at_call 50; refine (HSp.out _ _ _ _ _ _ (HQo.out.below HBc.out) (RecAt.below HJo.out HBc.out)).mono ?_; rintro e w20 ⟨v20, rfl, ho, hb⟩; obtain ⟨a20, c20, e20⟩ := (own_int.2 ho).form; subst e20; have HL20 := hid (OwnInts.at (d := none) ho (by simp)); have HBc := hid (HBc.out.trans (hb.mono HBc.out.size)); have HL14 := hid (HL14.out.below hb); have HL17 := hid (HL17.out.below hb); clear ho hb y0 y1 y2 y3)
            have HBc := hid (show Below wz.heap.size wz w20.drew from HBc.out.trans ((Below.refl w20.heap.size w20).drew.mono HBc.out.size))
            have HL14 := hid (show IntsAt none w20.drew _ _ from HL14.out.below (Below.refl w20.heap.size w20).drew)
            have HL17 := hid (show IntsAt none w20.drew _ _ from HL17.out.below (Below.refl w20.heap.size w20).drew)
            have HL20 := hid (show IntsAt none w20.drew _ _ from HL20.out.below (Below.refl w20.heap.size w20).drew)
            go_upto_region 13 with fail
            go_region_held3 (fun W' => W'.cell? ⟨Y, 0, none⟩ = some (.slice pa Q.persons.length xa) ∧ W'.cell? ⟨Y, 1, none⟩ = some (.slice pb Q.walk.length xb) ∧ W'.cell? ⟨Y, 2, none⟩ = some (.slice pc Q.dress.length xc) ∧ W'.cell? ⟨Y, 3, none⟩ = some (.slice pe Q.parts.length xe) ∧ W'.cell? ⟨b9, o9 + k * 4, none⟩ = some (.slice qa Q.persons.length ka) ∧ W'.cell? ⟨b9, o9 + k * 4 + 1, none⟩ = some (.slice qb Q.walk.length kb) ∧ W'.cell? ⟨b9, o9 + k * 4 + 2, none⟩ = some (.slice qc Q.dress.length kc) ∧ W'.cell? ⟨b9, o9 + k * 4 + 3, none⟩ = some (.slice qe Q.parts.length ke) ∧ W'.cell? ⟨b10, o10 + k, none⟩ = some (.slice qi I.length ki))
              (first | exact HS.out _ HBc.out) (first
              | (go_at_call 51; refine (HSr.out _ _ _ _ _ _ (HQp.out.below HBc.out) (RecAt.below HJp.out HBc.out)).mono ?_; rintro e w22 ⟨v22, rfl, ho, hb⟩; obtain ⟨a22, c22, e22⟩ := (own_int.2 ho).form; subst e22; have HL22 := hid (OwnInts.at (d := none) ho (by simp)); have HBc := hid (HBc.out.trans (hb.mono HBc.out.size)); have HL14 := hid (HL14.out.below hb); have HL17 := hid (HL17.out.below hb); have HL20 := hid (HL20.out.below hb); clear ho hb))
            go_upto_region 14 with fail
            obtain ⟨wq, rfl⟩ : ∃ wq : World, wq = w22 := ⟨_, rfl⟩
            have HBq := HBc
            have HSq := hid (fun W' (hb : Below wq.heap.size wq W') => HS.out W' (HBq.out.trans (hb.mono HBq.out.size)))
            clear HS HBc HCp HCr HSp HSr
            refine wp_named ?_
            intro ac0 hac0
            have HN := hid (show ac0.tmps.size = 162 from by rw [hac0]; rfl)
            have r9 : ac0.eval (.tmp 9) = .slice (some ⟨b9, o9, none⟩) 3 c9 := by rw [hac0]; rfl
            have r10 : ac0.eval (.tmp 10) = .slice (some ⟨b10, o10, none⟩) 3 c10 := by rw [hac0]; rfl
            have r11 : ac0.eval (.tmp 11) = .int .i64 k := by rw [hac0]; rfl
            have r12 : ac0.eval (.tmp 12) = .pointer (some ⟨Y, 0, none⟩) := by rw [hac0]; rfl
            have r13 : ac0.eval (.tmp 13) = .slice ia I.length ja := by rw [hac0]; rfl
            have r14 : ac0.eval (.tmp 14) = .slice a14 BL.length c14 := by rw [hac0]; rfl
            have r15 : ac0.eval (.tmp 15) = .int .i64 BC := by rw [hac0]; rfl
            have r16 : ac0.eval (.tmp 16) = .int .i64 CE := by rw [hac0]; rfl
            have r17 : ac0.eval (.tmp 17) = .slice a17 BL.length c17 := by rw [hac0]; rfl
            have r18 : ac0.eval (.tmp 18) = .int .i64 BC := by rw [hac0]; rfl
            have r19 : ac0.eval (.tmp 19) = .int .i64 CE := by rw [hac0]; rfl
            have r20 : ac0.eval (.tmp 20) = .slice a20 SL.length c20 := by rw [hac0]; rfl
            have r21 : ac0.eval (.tmp 21) = .int .i64 SE := by rw [hac0]; rfl
            have r22 : ac0.eval (.tmp 22) = .slice a22 SL.length c22 := by rw [hac0]; rfl
            have r23 : ac0.eval (.tmp 23) = .int .i64 SE := by rw [hac0]; rfl
            have HA := hid hac0
            clear hac0
            refine wp_region_flow (by kernel_rfl) [118, 119, 120, 121, 122, 123, 124, 125, 126, 127, 128, 129, 130, 131, 132, 133, 134, 135, 136, 137, 138, 139, 140, 141, 142, 143, 144, 145, 146, 147, 148, 149, 150, 151, 152, 153, 154, 155, 156, 157, 158, 159, 160] 10000
              (fun _ w' => Below wq.heap.size wq w') (fun a b => Below a.heap.size a b) (fun _ _ => False)
              (fun _ ix v _ => match ix with
                  | 0 => v = .int .i64 CE
                  | 1 => v = .int .i64 CE
                  | 2 => v = .bool false
                  | 3 => v = .bool false
                  | 4 => v = .int .i64 BC
                  | 5 => v = .int .i64 BC
                  | 6 => v = .bool false
                  | 7 => v = .bool false
                  | 8 => v = .bool false
                  | 9 => v = .int .i64 SE
                  | 10 => v = .int .i64 SE
                  | 11 => v = .bool false
                  | 12 => v = .bool false
                  | 13 => v = .bool false
                  | 14 => v = .slice a14 BL.length c14
                  | 15 => v = .slice a17 BL.length c17
                  | 16 => v = .bool true
                  | 17 => v = .bool false
                  | 18 => v = .bool false
                  | 19 => v = .bool false
                  | 20 => v = .slice a20 SL.length c20
                  | 21 => v = .slice a22 SL.length c22
                  | 22 => v = .bool true
                  | 23 => v = .bool false
                  | 24 => v = .bool false
                  | 25 => v = .bool false
                  | 26 => v = .agg #[.slice pa Q.persons.length xa, .slice pb Q.walk.length xb, .slice pc Q.dress.length xc, .slice pe Q.parts.length xe]
                  | 27 => v = .slice (some ⟨b9, o9, none⟩) 3 c9
                  | 28 => v = .int .i64 k
                  | 29 => v = .pointer (some ⟨b9, o9 + k * 4, none⟩)
                  | 30 => v = .agg #[.slice qa Q.persons.length ka, .slice qb Q.walk.length kb, .slice qc Q.dress.length kc, .slice qe Q.parts.length ke]
                  | 31 => v = .bool true
                  | 32 => v = .bool false
                  | 33 => v = .bool false
                  | 34 => v = .bool false
                  | 35 => v = .slice ia I.length ja
                  | 36 => v = .slice (some ⟨b10, o10, none⟩) 3 c10
                  | 37 => v = .int .i64 k
                  | 38 => v = .pointer (some ⟨b10, o10 + k, none⟩)
                  | 39 => v = .slice qi I.length ki
                  | 40 => v = .bool true
                  | 41 => v = .bool false
                  | 42 => v = .bool false
                  | _ => True)
              [0, 1, 2, 3, 4, 5, 6, 7, 8, 9, 10, 11, 12, 13, 14, 15, 16, 17, 18, 19, 20, 21, 22, 23, 24, 25, 26, 27, 28, 29, 30, 31, 32, 33, 34, 35, 36, 37, 38, 39, 40, 41, 42] (by kernel_rfl) (by kernel_rfl) rfl ?_ ?_ ?_ ?_ ?_
            · intro b ix v w2 w3 _ _ hy; exact hy
            · intro ix v w2 w3 _ h; exact h.elim
            · exact (Below.refl _ _).drew
            · skip
              refine StepF.val (i := 0) (o := _) rfl (by decide) ?_ ?_
              · intro bb vs wx _ hW hY
                exact ⟨fl_want rfl, fun ρ hρ => ⟨.int .i64 CE, wx, ex_move rfl (by rw [hρ, fl_out rfl, r16]), hW, Below.refl _ _, rfl⟩⟩
              refine StepF.val (i := 1) (o := _) rfl (by decide) ?_ ?_
              · intro bb vs wx _ hW hY
                exact ⟨fl_want rfl, fun ρ hρ => ⟨.int .i64 CE, wx, ex_move rfl (by rw [hρ, fl_out rfl, r19]), hW, Below.refl _ _, rfl⟩⟩
              refine StepF.val (i := 2) (o := _) rfl (by decide) ?_ ?_
              · intro bb vs wx _ hW hY
                have y118 : vs 118 = .int .i64 CE := hY 0 118 (by kernel_rfl) (by kernel_rfl)
                have y119 : vs 119 = .int .i64 CE := hY 1 119 (by kernel_rfl) (by kernel_rfl)
                refine ⟨fl_want rfl, fun ρ hρ => ⟨.bool false, wx, ?_, hW, Below.refl _ _, rfl⟩⟩
                have r118x : ρ (.tmp 118) = .int .i64 CE := by rw [hρ, fl_in 162 HN.out rfl, y118]
                have r119x : ρ (.tmp 119) = .int .i64 CE := by rw [hρ, fl_in 162 HN.out rfl, y119]
                clear hρ
                simp [execOp, go_sem, r118x, r119x]
              refine StepF.val (i := 3) (o := _) rfl (by decide) ?_ ?_
              · intro bb vs wx _ hW hY
                have y120 : vs 120 = .bool false := hY 2 120 (by kernel_rfl) (by kernel_rfl)
                exact ⟨fl_want rfl, fun ρ hρ => ⟨.bool false, wx, ex_move rfl (by rw [hρ, fl_in 162 HN.out rfl, y120]), hW, Below.refl _ _, rfl⟩⟩
              refine StepF.val (i := 4) (o := _) rfl (by decide) ?_ ?_
              · intro bb vs wx _ hW hY
                have y121 : vs 121 = .bool false := hY 3 121 (by kernel_rfl) (by kernel_rfl)
                exact ⟨fl_wantg 162 HN.out rfl rfl rfl y121, fun ρ hρ => ⟨.int .i64 BC, wx, ex_move rfl (by rw [hρ, fl_out rfl, r15]), hW, Below.refl _ _, rfl⟩⟩
              refine StepF.val (i := 5) (o := _) rfl (by decide) ?_ ?_
              · intro bb vs wx _ hW hY
                have y121 : vs 121 = .bool false := hY 3 121 (by kernel_rfl) (by kernel_rfl)
                exact ⟨fl_wantg 162 HN.out rfl rfl rfl y121, fun ρ hρ => ⟨.int .i64 BC, wx, ex_move rfl (by rw [hρ, fl_out rfl, r18]), hW, Below.refl _ _, rfl⟩⟩
              refine StepF.val (i := 6) (o := _) rfl (by decide) ?_ ?_
              · intro bb vs wx _ hW hY
                have y122 : vs 122 = .int .i64 BC := hY 4 122 (by kernel_rfl) (by kernel_rfl)
                have y123 : vs 123 = .int .i64 BC := hY 5 123 (by kernel_rfl) (by kernel_rfl)
                have y121 : vs 121 = .bool false := hY 3 121 (by kernel_rfl) (by kernel_rfl)
                refine ⟨fl_wantg 162 HN.out rfl rfl rfl y121, fun ρ hρ => ⟨.bool false, wx, ?_, hW, Below.refl _ _, rfl⟩⟩
                have r122x : ρ (.tmp 122) = .int .i64 BC := by rw [hρ, fl_in 162 HN.out rfl, y122]
                have r123x : ρ (.tmp 123) = .int .i64 BC := by rw [hρ, fl_in 162 HN.out rfl, y123]
                clear hρ
                simp [execOp, go_sem, r122x, r123x]
              refine StepF.val (i := 7) (o := _) rfl (by decide) ?_ ?_
              · intro bb vs wx _ hW hY
                have y121 : vs 121 = .bool false := hY 3 121 (by kernel_rfl) (by kernel_rfl)
                have y124 : vs 124 = .bool false := hY 6 124 (by kernel_rfl) (by kernel_rfl)
                refine ⟨fl_want rfl, fun ρ hρ => ⟨.bool false, wx, ?_, hW, Below.refl _ _, rfl⟩⟩
                have r121x : ρ (.tmp 121) = .bool false := by rw [hρ, fl_in 162 HN.out rfl, y121]
                have r124x : ρ (.tmp 124) = .bool false := by rw [hρ, fl_in 162 HN.out rfl, y124]
                have rc : ∀ c, ρ (.const c) = c := fun c => by rw [hρ]; rfl
                clear hρ
                simp [execOp, go_sem, r121x, r124x, rc]
              refine StepF.val (i := 8) (o := _) rfl (by decide) ?_ ?_
              · intro bb vs wx _ hW hY
                have y125 : vs 125 = .bool false := hY 7 125 (by kernel_rfl) (by kernel_rfl)
                exact ⟨fl_want rfl, fun ρ hρ => ⟨.bool false, wx, ex_move rfl (by rw [hρ, fl_in 162 HN.out rfl, y125]), hW, Below.refl _ _, rfl⟩⟩
              refine StepF.val (i := 9) (o := _) rfl (by decide) ?_ ?_
              · intro bb vs wx _ hW hY
                have y126 : vs 126 = .bool false := hY 8 126 (by kernel_rfl) (by kernel_rfl)
                exact ⟨fl_wantg 162 HN.out rfl rfl rfl y126, fun ρ hρ => ⟨.int .i64 SE, wx, ex_move rfl (by rw [hρ, fl_out rfl, r21]), hW, Below.refl _ _, rfl⟩⟩
              refine StepF.val (i := 10) (o := _) rfl (by decide) ?_ ?_
              · intro bb vs wx _ hW hY
                have y126 : vs 126 = .bool false := hY 8 126 (by kernel_rfl) (by kernel_rfl)
                exact ⟨fl_wantg 162 HN.out rfl rfl rfl y126, fun ρ hρ => ⟨.int .i64 SE, wx, ex_move rfl (by rw [hρ, fl_out rfl, r23]), hW, Below.refl _ _, rfl⟩⟩
              refine StepF.val (i := 11) (o := _) rfl (by decide) ?_ ?_
              · intro bb vs wx _ hW hY
                have y127 : vs 127 = .int .i64 SE := hY 9 127 (by kernel_rfl) (by kernel_rfl)
                have y128 : vs 128 = .int .i64 SE := hY 10 128 (by kernel_rfl) (by kernel_rfl)
                have y126 : vs 126 = .bool false := hY 8 126 (by kernel_rfl) (by kernel_rfl)
                refine ⟨fl_wantg 162 HN.out rfl rfl rfl y126, fun ρ hρ => ⟨.bool false, wx, ?_, hW, Below.refl _ _, rfl⟩⟩
                have r127x : ρ (.tmp 127) = .int .i64 SE := by rw [hρ, fl_in 162 HN.out rfl, y127]
                have r128x : ρ (.tmp 128) = .int .i64 SE := by rw [hρ, fl_in 162 HN.out rfl, y128]
                clear hρ
                simp [execOp, go_sem, r127x, r128x]
              refine StepF.val (i := 12) (o := _) rfl (by decide) ?_ ?_
              · intro bb vs wx _ hW hY
                have y126 : vs 126 = .bool false := hY 8 126 (by kernel_rfl) (by kernel_rfl)
                have y129 : vs 129 = .bool false := hY 11 129 (by kernel_rfl) (by kernel_rfl)
                refine ⟨fl_want rfl, fun ρ hρ => ⟨.bool false, wx, ?_, hW, Below.refl _ _, rfl⟩⟩
                have r126x : ρ (.tmp 126) = .bool false := by rw [hρ, fl_in 162 HN.out rfl, y126]
                have r129x : ρ (.tmp 129) = .bool false := by rw [hρ, fl_in 162 HN.out rfl, y129]
                have rc : ∀ c, ρ (.const c) = c := fun c => by rw [hρ]; rfl
                clear hρ
                simp [execOp, go_sem, r126x, r129x, rc]
              refine StepF.val (i := 13) (o := _) rfl (by decide) ?_ ?_
              · intro bb vs wx _ hW hY
                have y130 : vs 130 = .bool false := hY 12 130 (by kernel_rfl) (by kernel_rfl)
                exact ⟨fl_want rfl, fun ρ hρ => ⟨.bool false, wx, ex_move rfl (by rw [hρ, fl_in 162 HN.out rfl, y130]), hW, Below.refl _ _, rfl⟩⟩
              refine StepF.val (i := 14) (o := _) rfl (by decide) ?_ ?_
              · intro bb vs wx _ hW hY
                have y131 : vs 131 = .bool false := hY 13 131 (by kernel_rfl) (by kernel_rfl)
                exact ⟨fl_wantg 162 HN.out rfl rfl rfl y131, fun ρ hρ => ⟨.slice a14 BL.length c14, wx, ex_move rfl (by rw [hρ, fl_out rfl, r14]), hW, Below.refl _ _, rfl⟩⟩
              refine StepF.val (i := 15) (o := _) rfl (by decide) ?_ ?_
              · intro bb vs wx _ hW hY
                have y131 : vs 131 = .bool false := hY 13 131 (by kernel_rfl) (by kernel_rfl)
                exact ⟨fl_wantg 162 HN.out rfl rfl rfl y131, fun ρ hρ => ⟨.slice a17 BL.length c17, wx, ex_move rfl (by rw [hρ, fl_out rfl, r17]), hW, Below.refl _ _, rfl⟩⟩
              refine StepF.call (i := 16) (o := _) rfl (by decide) ?_ ?_
              · intro bb vs wx _ hW hY
                have y132 : vs 132 = .slice a14 BL.length c14 := hY 14 132 (by kernel_rfl) (by kernel_rfl)
                have y133 : vs 133 = .slice a17 BL.length c17 := hY 15 133 (by kernel_rfl) (by kernel_rfl)
                have y131 : vs 131 = .bool false := hY 13 131 (by kernel_rfl) (by kernel_rfl)
                refine ⟨fl_wantg 162 HN.out rfl rfl rfl y131, fun ρ hρ => ⟨29, _, ex_call (vs := #[(.slice a14 BL.length c14), (.slice a17 BL.length c17)]) rfl (by rw [hρ]; rfl) (by simp [hρ, fl_in 162 HN.out, y132, fl_in 162 HN.out, y133]) Try.func29 (by kernel_rfl) rfl, ?_⟩⟩
                refine (eqInts_same _ _ _ _ _ _ (HL14.out.below hW) (HL17.out.below hW) (by have := HBL.out; omega)).mono ?_
                rintro e w' ⟨rfl, h2⟩
                exact ⟨_, rfl, hW.trans (h2.mono hW.size), h2, rfl⟩
              refine StepF.val (i := 17) (o := _) rfl (by decide) ?_ ?_
              · intro bb vs wx _ hW hY
                have y134 : vs 134 = .bool true := hY 16 134 (by kernel_rfl) (by kernel_rfl)
                have y131 : vs 131 = .bool false := hY 13 131 (by kernel_rfl) (by kernel_rfl)
                refine ⟨fl_wantg 162 HN.out rfl rfl rfl y131, fun ρ hρ => ⟨.bool false, wx, ?_, hW, Below.refl _ _, rfl⟩⟩
                have r134x : ρ (.tmp 134) = .bool true := by rw [hρ, fl_in 162 HN.out rfl, y134]
                clear hρ
                simp [execOp, go_sem, r134x]
              refine StepF.val (i := 18) (o := _) rfl (by decide) ?_ ?_
              · intro bb vs wx _ hW hY
                have y131 : vs 131 = .bool false := hY 13 131 (by kernel_rfl) (by kernel_rfl)
                have y135 : vs 135 = .bool false := hY 17 135 (by kernel_rfl) (by kernel_rfl)
                refine ⟨fl_want rfl, fun ρ hρ => ⟨.bool false, wx, ?_, hW, Below.refl _ _, rfl⟩⟩
                have r131x : ρ (.tmp 131) = .bool false := by rw [hρ, fl_in 162 HN.out rfl, y131]
                have r135x : ρ (.tmp 135) = .bool false := by rw [hρ, fl_in 162 HN.out rfl, y135]
                have rc : ∀ c, ρ (.const c) = c := fun c => by rw [hρ]; rfl
                clear hρ
                simp [execOp, go_sem, r131x, r135x, rc]
              refine StepF.val (i := 19) (o := _) rfl (by decide) ?_ ?_
              · intro bb vs wx _ hW hY
                have y136 : vs 136 = .bool false := hY 18 136 (by kernel_rfl) (by kernel_rfl)
                exact ⟨fl_want rfl, fun ρ hρ => ⟨.bool false, wx, ex_move rfl (by rw [hρ, fl_in 162 HN.out rfl, y136]), hW, Below.refl _ _, rfl⟩⟩
              refine StepF.val (i := 20) (o := _) rfl (by decide) ?_ ?_
              · intro bb vs wx _ hW hY
                have y137 : vs 137 = .bool false := hY 19 137 (by kernel_rfl) (by kernel_rfl)
                exact ⟨fl_wantg 162 HN.out rfl rfl rfl y137, fun ρ hρ => ⟨.slice a20 SL.length c20, wx, ex_move rfl (by rw [hρ, fl_out rfl, r20]), hW, Below.refl _ _, rfl⟩⟩
              refine StepF.val (i := 21) (o := _) rfl (by decide) ?_ ?_
              · intro bb vs wx _ hW hY
                have y137 : vs 137 = .bool false := hY 19 137 (by kernel_rfl) (by kernel_rfl)
                exact ⟨fl_wantg 162 HN.out rfl rfl rfl y137, fun ρ hρ => ⟨.slice a22 SL.length c22, wx, ex_move rfl (by rw [hρ, fl_out rfl, r22]), hW, Below.refl _ _, rfl⟩⟩
              refine StepF.call (i := 22) (o := _) rfl (by decide) ?_ ?_
              · intro bb vs wx _ hW hY
                have y138 : vs 138 = .slice a20 SL.length c20 := hY 20 138 (by kernel_rfl) (by kernel_rfl)
                have y139 : vs 139 = .slice a22 SL.length c22 := hY 21 139 (by kernel_rfl) (by kernel_rfl)
                have y137 : vs 137 = .bool false := hY 19 137 (by kernel_rfl) (by kernel_rfl)
                refine ⟨fl_wantg 162 HN.out rfl rfl rfl y137, fun ρ hρ => ⟨29, _, ex_call (vs := #[(.slice a20 SL.length c20), (.slice a22 SL.length c22)]) rfl (by rw [hρ]; rfl) (by simp [hρ, fl_in 162 HN.out, y138, fl_in 162 HN.out, y139]) Try.func29 (by kernel_rfl) rfl, ?_⟩⟩
                refine (eqInts_same _ _ _ _ _ _ (HL20.out.below hW) (HL22.out.below hW) (by have := HSL.out; omega)).mono ?_
                rintro e w' ⟨rfl, h2⟩
                exact ⟨_, rfl, hW.trans (h2.mono hW.size), h2, rfl⟩
              refine StepF.val (i := 23) (o := _) rfl (by decide) ?_ ?_
              · intro bb vs wx _ hW hY
                have y140 : vs 140 = .bool true := hY 22 140 (by kernel_rfl) (by kernel_rfl)
                have y137 : vs 137 = .bool false := hY 19 137 (by kernel_rfl) (by kernel_rfl)
                refine ⟨fl_wantg 162 HN.out rfl rfl rfl y137, fun ρ hρ => ⟨.bool false, wx, ?_, hW, Below.refl _ _, rfl⟩⟩
                have r140x : ρ (.tmp 140) = .bool true := by rw [hρ, fl_in 162 HN.out rfl, y140]
                clear hρ
                simp [execOp, go_sem, r140x]
              refine StepF.val (i := 24) (o := _) rfl (by decide) ?_ ?_
              · intro bb vs wx _ hW hY
                have y137 : vs 137 = .bool false := hY 19 137 (by kernel_rfl) (by kernel_rfl)
                have y141 : vs 141 = .bool false := hY 23 141 (by kernel_rfl) (by kernel_rfl)
                refine ⟨fl_want rfl, fun ρ hρ => ⟨.bool false, wx, ?_, hW, Below.refl _ _, rfl⟩⟩
                have r137x : ρ (.tmp 137) = .bool false := by rw [hρ, fl_in 162 HN.out rfl, y137]
                have r141x : ρ (.tmp 141) = .bool false := by rw [hρ, fl_in 162 HN.out rfl, y141]
                have rc : ∀ c, ρ (.const c) = c := fun c => by rw [hρ]; rfl
                clear hρ
                simp [execOp, go_sem, r137x, r141x, rc]
              refine StepF.val (i := 25) (o := _) rfl (by decide) ?_ ?_
              · intro bb vs wx _ hW hY
                have y142 : vs 142 = .bool false := hY 24 142 (by kernel_rfl) (by kernel_rfl)
                exact ⟨fl_want rfl, fun ρ hρ => ⟨.bool false, wx, ex_move rfl (by rw [hρ, fl_in 162 HN.out rfl, y142]), hW, Below.refl _ _, rfl⟩⟩
              refine StepF.val (i := 26) (o := _) rfl (by decide) ?_ ?_
              · intro bb vs wx _ hW hY
                have y143 : vs 143 = .bool false := hY 25 143 (by kernel_rfl) (by kernel_rfl)
                refine ⟨fl_wantg 162 HN.out rfl rfl rfl y143, fun ρ hρ => ⟨.agg #[.slice pa Q.persons.length xa, .slice pb Q.walk.length xb, .slice pc Q.dress.length xc, .slice pe Q.parts.length xe], wx, ?_, hW, Below.refl _ _, rfl⟩⟩
                have r12x : ρ (.tmp 12) = .pointer (some ⟨Y, 0, none⟩) := by rw [hρ, fl_out rfl, r12]
                have hS := HSq.out wx hW
                have q0 := hS.1
                have q1 := hS.2.1
                have q2 := hS.2.2.1
                have q3 := hS.2.2.2.1
                clear hS
                clear hρ
                simp [execOp, go_sem, r12x, q0, q1, q2, q3]
              refine StepF.val (i := 27) (o := _) rfl (by decide) ?_ ?_
              · intro bb vs wx _ hW hY
                have y143 : vs 143 = .bool false := hY 25 143 (by kernel_rfl) (by kernel_rfl)
                exact ⟨fl_wantg 162 HN.out rfl rfl rfl y143, fun ρ hρ => ⟨.slice (some ⟨b9, o9, none⟩) 3 c9, wx, ex_move rfl (by rw [hρ, fl_out rfl, r9]), hW, Below.refl _ _, rfl⟩⟩
              refine StepF.val (i := 28) (o := _) rfl (by decide) ?_ ?_
              · intro bb vs wx _ hW hY
                have y143 : vs 143 = .bool false := hY 25 143 (by kernel_rfl) (by kernel_rfl)
                exact ⟨fl_wantg 162 HN.out rfl rfl rfl y143, fun ρ hρ => ⟨.int .i64 k, wx, ex_move rfl (by rw [hρ, fl_out rfl, r11]), hW, Below.refl _ _, rfl⟩⟩
              refine StepF.val (i := 29) (o := _) rfl (by decide) ?_ ?_
              · intro bb vs wx _ hW hY
                have y145 : vs 145 = .slice (some ⟨b9, o9, none⟩) 3 c9 := hY 27 145 (by kernel_rfl) (by kernel_rfl)
                have y146 : vs 146 = .int .i64 k := hY 28 146 (by kernel_rfl) (by kernel_rfl)
                have y143 : vs 143 = .bool false := hY 25 143 (by kernel_rfl) (by kernel_rfl)
                refine ⟨fl_wantg 162 HN.out rfl rfl rfl y143, fun ρ hρ => ⟨.pointer (some ⟨b9, o9 + k * 4, none⟩), wx, ?_, hW, Below.refl _ _, rfl⟩⟩
                have r145x : ρ (.tmp 145) = .slice (some ⟨b9, o9, none⟩) 3 c9 := by rw [hρ, fl_in 162 HN.out rfl, y145]
                have r146x : ρ (.tmp 146) = .int .i64 k := by rw [hρ, fl_in 162 HN.out rfl, y146]
                clear hρ
                simp [execOp, go_sem, r145x, r146x, i1]
              refine StepF.val (i := 30) (o := _) rfl (by decide) ?_ ?_
              · intro bb vs wx _ hW hY
                have y147 : vs 147 = .pointer (some ⟨b9, o9 + k * 4, none⟩) := hY 29 147 (by kernel_rfl) (by kernel_rfl)
                have y143 : vs 143 = .bool false := hY 25 143 (by kernel_rfl) (by kernel_rfl)
                refine ⟨fl_wantg 162 HN.out rfl rfl rfl y143, fun ρ hρ => ⟨.agg #[.slice qa Q.persons.length ka, .slice qb Q.walk.length kb, .slice qc Q.dress.length kc, .slice qe Q.parts.length ke], wx, ?_, hW, Below.refl _ _, rfl⟩⟩
                have r147x : ρ (.tmp 147) = .pointer (some ⟨b9, o9 + k * 4, none⟩) := by rw [hρ, fl_in 162 HN.out rfl, y147]
                have hS := HSq.out wx hW
                have q0 := hS.2.2.2.2.1
                have q1 := hS.2.2.2.2.2.1
                have q2 := hS.2.2.2.2.2.2.1
                have q3 := hS.2.2.2.2.2.2.2.1
                clear hS
                clear hρ
                simp [execOp, go_sem, r147x, q0, q1, q2, q3]
              refine StepF.call (i := 31) (o := _) rfl (by decide) ?_ ?_
              · intro bb vs wx _ hW hY
                have y144 : vs 144 = .agg #[.slice pa Q.persons.length xa, .slice pb Q.walk.length xb, .slice pc Q.dress.length xc, .slice pe Q.parts.length xe] := hY 26 144 (by kernel_rfl) (by kernel_rfl)
                have y148 : vs 148 = .agg #[.slice qa Q.persons.length ka, .slice qb Q.walk.length kb, .slice qc Q.dress.length kc, .slice qe Q.parts.length ke] := hY 30 148 (by kernel_rfl) (by kernel_rfl)
                have y143 : vs 143 = .bool false := hY 25 143 (by kernel_rfl) (by kernel_rfl)
                refine ⟨fl_wantg 162 HN.out rfl rfl rfl y143, fun ρ hρ => ⟨30, _, ex_call (vs := #[(.agg #[.slice pa Q.persons.length xa, .slice pb Q.walk.length xb, .slice pc Q.dress.length xc, .slice pe Q.parts.length xe]), (.agg #[.slice qa Q.persons.length ka, .slice qb Q.walk.length kb, .slice qc Q.dress.length kc, .slice qe Q.parts.length ke])]) rfl (by rw [hρ]; rfl) (by simp [hρ, fl_in 162 HN.out, y144, fl_in 162 HN.out, y148]) Try.func30 (by kernel_rfl) rfl, ?_⟩⟩
                refine (eqPlots_same Q _ _ _ _ _ _ _ _ _ _ _ (HQo.out.below (HBq.out.trans (hW.mono HBq.out.size))) (HQp.out.below (HBq.out.trans (hW.mono HBq.out.size))) HQN.out).mono ?_
                rintro e w' ⟨rfl, h2⟩
                exact ⟨_, rfl, hW.trans (h2.mono hW.size), h2, rfl⟩
              refine StepF.val (i := 32) (o := _) rfl (by decide) ?_ ?_
              · intro bb vs wx _ hW hY
                have y149 : vs 149 = .bool true := hY 31 149 (by kernel_rfl) (by kernel_rfl)
                have y143 : vs 143 = .bool false := hY 25 143 (by kernel_rfl) (by kernel_rfl)
                refine ⟨fl_wantg 162 HN.out rfl rfl rfl y143, fun ρ hρ => ⟨.bool false, wx, ?_, hW, Below.refl _ _, rfl⟩⟩
                have r149x : ρ (.tmp 149) = .bool true := by rw [hρ, fl_in 162 HN.out rfl, y149]
                clear hρ
                simp [execOp, go_sem, r149x]
              refine StepF.val (i := 33) (o := _) rfl (by decide) ?_ ?_
              · intro bb vs wx _ hW hY
                have y143 : vs 143 = .bool false := hY 25 143 (by kernel_rfl) (by kernel_rfl)
                have y150 : vs 150 = .bool false := hY 32 150 (by kernel_rfl) (by kernel_rfl)
                refine ⟨fl_want rfl, fun ρ hρ => ⟨.bool false, wx, ?_, hW, Below.refl _ _, rfl⟩⟩
                have r143x : ρ (.tmp 143) = .bool false := by rw [hρ, fl_in 162 HN.out rfl, y143]
                have r150x : ρ (.tmp 150) = .bool false := by rw [hρ, fl_in 162 HN.out rfl, y150]
                have rc : ∀ c, ρ (.const c) = c := fun c => by rw [hρ]; rfl
                clear hρ
                simp [execOp, go_sem, r143x, r150x, rc]
              refine StepF.val (i := 34) (o := _) rfl (by decide) ?_ ?_
              · intro bb vs wx _ hW hY
                have y151 : vs 151 = .bool false := hY 33 151 (by kernel_rfl) (by kernel_rfl)
                exact ⟨fl_want rfl, fun ρ hρ => ⟨.bool false, wx, ex_move rfl (by rw [hρ, fl_in 162 HN.out rfl, y151]), hW, Below.refl _ _, rfl⟩⟩
              refine StepF.val (i := 35) (o := _) rfl (by decide) ?_ ?_
              · intro bb vs wx _ hW hY
                have y152 : vs 152 = .bool false := hY 34 152 (by kernel_rfl) (by kernel_rfl)
                exact ⟨fl_wantg 162 HN.out rfl rfl rfl y152, fun ρ hρ => ⟨.slice ia I.length ja, wx, ex_move rfl (by rw [hρ, fl_out rfl, r13]), hW, Below.refl _ _, rfl⟩⟩
              refine StepF.val (i := 36) (o := _) rfl (by decide) ?_ ?_
              · intro bb vs wx _ hW hY
                have y152 : vs 152 = .bool false := hY 34 152 (by kernel_rfl) (by kernel_rfl)
                exact ⟨fl_wantg 162 HN.out rfl rfl rfl y152, fun ρ hρ => ⟨.slice (some ⟨b10, o10, none⟩) 3 c10, wx, ex_move rfl (by rw [hρ, fl_out rfl, r10]), hW, Below.refl _ _, rfl⟩⟩
              refine StepF.val (i := 37) (o := _) rfl (by decide) ?_ ?_
              · intro bb vs wx _ hW hY
                have y152 : vs 152 = .bool false := hY 34 152 (by kernel_rfl) (by kernel_rfl)
                exact ⟨fl_wantg 162 HN.out rfl rfl rfl y152, fun ρ hρ => ⟨.int .i64 k, wx, ex_move rfl (by rw [hρ, fl_out rfl, r11]), hW, Below.refl _ _, rfl⟩⟩
              refine StepF.val (i := 38) (o := _) rfl (by decide) ?_ ?_
              · intro bb vs wx _ hW hY
                have y154 : vs 154 = .slice (some ⟨b10, o10, none⟩) 3 c10 := hY 36 154 (by kernel_rfl) (by kernel_rfl)
                have y155 : vs 155 = .int .i64 k := hY 37 155 (by kernel_rfl) (by kernel_rfl)
                have y152 : vs 152 = .bool false := hY 34 152 (by kernel_rfl) (by kernel_rfl)
                refine ⟨fl_wantg 162 HN.out rfl rfl rfl y152, fun ρ hρ => ⟨.pointer (some ⟨b10, o10 + k, none⟩), wx, ?_, hW, Below.refl _ _, rfl⟩⟩
                have r154x : ρ (.tmp 154) = .slice (some ⟨b10, o10, none⟩) 3 c10 := by rw [hρ, fl_in 162 HN.out rfl, y154]
                have r155x : ρ (.tmp 155) = .int .i64 k := by rw [hρ, fl_in 162 HN.out rfl, y155]
                clear hρ
                simp [execOp, go_sem, r154x, r155x, i1]
              refine StepF.val (i := 39) (o := _) rfl (by decide) ?_ ?_
              · intro bb vs wx _ hW hY
                have y156 : vs 156 = .pointer (some ⟨b10, o10 + k, none⟩) := hY 38 156 (by kernel_rfl) (by kernel_rfl)
                have y152 : vs 152 = .bool false := hY 34 152 (by kernel_rfl) (by kernel_rfl)
                refine ⟨fl_wantg 162 HN.out rfl rfl rfl y152, fun ρ hρ => ⟨.slice qi I.length ki, wx, ?_, hW, Below.refl _ _, rfl⟩⟩
                have r156x : ρ (.tmp 156) = .pointer (some ⟨b10, o10 + k, none⟩) := by rw [hρ, fl_in 162 HN.out rfl, y156]
                have hS := HSq.out wx hW
                have q0 := hS.2.2.2.2.2.2.2.2
                clear hS
                clear hρ
                simp [execOp, go_sem, r156x, q0]
              refine StepF.call (i := 40) (o := _) rfl (by decide) ?_ ?_
              · intro bb vs wx _ hW hY
                have y153 : vs 153 = .slice ia I.length ja := hY 35 153 (by kernel_rfl) (by kernel_rfl)
                have y157 : vs 157 = .slice qi I.length ki := hY 39 157 (by kernel_rfl) (by kernel_rfl)
                have y152 : vs 152 = .bool false := hY 34 152 (by kernel_rfl) (by kernel_rfl)
                refine ⟨fl_wantg 162 HN.out rfl rfl rfl y152, fun ρ hρ => ⟨49, _, ex_call (vs := #[(.slice ia I.length ja), (.slice qi I.length ki)]) rfl (by rw [hρ]; rfl) (by simp [hρ, fl_in 162 HN.out, y153, fl_in 162 HN.out, y157]) Try.func49 (by kernel_rfl) rfl, ?_⟩⟩
                refine (eqItems_same I _ _ _ _ _ (RecAt.below HJo.out (HBq.out.trans (hW.mono HBq.out.size))) (RecAt.below HJp.out (HBq.out.trans (hW.mono HBq.out.size))) (by omega)).mono ?_
                rintro e w' ⟨rfl, h2⟩
                exact ⟨_, rfl, hW.trans (h2.mono hW.size), h2, rfl⟩
              refine StepF.val (i := 41) (o := _) rfl (by decide) ?_ ?_
              · intro bb vs wx _ hW hY
                have y158 : vs 158 = .bool true := hY 40 158 (by kernel_rfl) (by kernel_rfl)
                have y152 : vs 152 = .bool false := hY 34 152 (by kernel_rfl) (by kernel_rfl)
                refine ⟨fl_wantg 162 HN.out rfl rfl rfl y152, fun ρ hρ => ⟨.bool false, wx, ?_, hW, Below.refl _ _, rfl⟩⟩
                have r158x : ρ (.tmp 158) = .bool true := by rw [hρ, fl_in 162 HN.out rfl, y158]
                clear hρ
                simp [execOp, go_sem, r158x]
              refine StepF.val (i := 42) (o := _) rfl (by decide) ?_ ?_
              · intro bb vs wx _ hW hY
                have y152 : vs 152 = .bool false := hY 34 152 (by kernel_rfl) (by kernel_rfl)
                have y159 : vs 159 = .bool false := hY 41 159 (by kernel_rfl) (by kernel_rfl)
                refine ⟨fl_want rfl, fun ρ hρ => ⟨.bool false, wx, ?_, hW, Below.refl _ _, rfl⟩⟩
                have r152x : ρ (.tmp 152) = .bool false := by rw [hρ, fl_in 162 HN.out rfl, y152]
                have r159x : ρ (.tmp 159) = .bool false := by rw [hρ, fl_in 162 HN.out rfl, y159]
                have rc : ∀ c, ρ (.const c) = c := fun c => by rw [hρ]; rfl
                clear hρ
                simp [execOp, go_sem, r152x, r159x, rc]
              exact StepF.nil
            · intro vs wx hW hY
              have y160 : vs 160 = .bool false := hY 42 160 (by kernel_rfl)
              have HWx := hid (show Below wq.heap.size wq wx from hW)
              clear hW hY r9 r10 r11 r12 r13 r14 r15 r16 r17 r18 r19 r20 r21 r22 r23 HN
              rw [HA.out]
              simp only [putAll, Act.put, List.setIfInBounds_toArray, List.set_cons_zero, List.set_cons_succ]
              rw [y160]
              clear HA y160
              go_wp2_with fail
              go_roundw
              case rel => exact ⟨k + 1, by omega, by go_num, HB.out.trans ((HBo.out.trans ((HBq.out.trans (HWx.out.mono HBq.out.size)).mono HBo.out.size)).mono HB.out.size)⟩
              case measure => simp [intOf] <;> omega
end Go.Proofs.Ytdcinngdilfpnaa
