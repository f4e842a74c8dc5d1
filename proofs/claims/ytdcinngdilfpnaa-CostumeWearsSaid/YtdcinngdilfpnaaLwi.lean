/-
  WALK: CostumeWears: whatever comes in, it returns true.
-/
import Derived.Test.YtdcinngdilfpnaaLwk
import Derived.Test.YtdcinngdilfpnaaKwd
import Derived.Test.YtdcinngdilfpnaaKqq
import Derived.Test.YtdcinngdilfpnaaRpl
import Derived.Test.YtdcinngdilfpnaaRcp
import Derived.Test.YtdcinngdilfpnaaKbs
import Derived.Test.YtdcinngdilfpnaaCod
import Derived.Deep.CutRange
namespace Go.Proofs.Ytdcinngdilfpnaa
open Go.RowKit

theorem PlotS.freshH {w : World} {vp vw vd vq : Value} {p : Plot} (h : PlotS none w vp vw vd vq p) {D : Nat} (hD : w.heap.size ≤ D) : PlotS (some D) w vp vw vd vq p := by
  obtain ⟨f, h1, h2⟩ := h.walk
  exact ⟨⟨RecAt.fresh h.persons.1 hD, h.persons.2⟩, ⟨f, h1.fresh hD, fun i hi => ⟨(h2 i hi).1.fresh hD, (h2 i hi).2⟩⟩, ⟨h.dress.1.fresh hD, h.dress.2⟩, ⟨RecAt.fresh h.parts.1 hD, h.parts.2⟩⟩
theorem PlotS.anyH {d : Option Nat} {w : World} {vp vw vd vq : Value} {p : Plot} (h : PlotS d w vp vw vd vq p) : PlotS none w vp vw vd vq p := by
  obtain ⟨f, h1, h2⟩ := h.walk
  exact ⟨⟨RecAt.any h.persons.1, h.persons.2⟩, ⟨f, h1.any, fun i hi => ⟨(h2 i hi).1.anyI, (h2 i hi).2⟩⟩, ⟨h.dress.1.anyI, h.dress.2⟩, ⟨RecAt.any h.parts.1, h.parts.2⟩⟩
theorem run_five_plots (w : World) (a0 a1 a2 a3 b0 b1 b2 b3 c0 c1 c2 c3 d0 d1 d2 d3 e0 e1 e2 e3 : Value) : (Instr.buildSlice 49 5 #[(0, .agg #[a0, a1, a2, a3]), (1, .agg #[b0, b1, b2, b3]), (2, .agg #[c0, c1, c2, c3]), (3, .agg #[d0, d1, d2, d3]), (4, .agg #[e0, e1, e2, e3])]).run Try.prog w =
    .ok (.slice (some ⟨w.heap.size, 0, none⟩) 5 5) (w.alloc (.cells #[a0, a1, a2, a3, b0, b1, b2, b3, c0, c1, c2, c3, d0, d1, d2, d3, e0, e1, e2, e3] 29)) := by
  kernel_rfl
theorem run_five_lists (w : World) (a b c d e : Option Addr) (n m l q r i j k s t : Nat) : (Instr.buildSlice 70 5 #[(0, .slice a n i), (1, .slice b m j), (2, .slice c l k), (3, .slice d q s), (4, .slice e r t)]).run Try.prog w =
    .ok (.slice (some ⟨w.heap.size, 0, none⟩) 5 5) (w.alloc (.cells #[.slice a n i, .slice b m j, .slice c l k, .slice d q s, .slice e r t] 31)) := by
  kernel_rfl
theorem run_five_ints (w : World) (a b c d e : Option Addr) (n m l q r i j k s t : Nat) : (Instr.buildSlice 26 5 #[(0, .slice a n i), (1, .slice b m j), (2, .slice c l k), (3, .slice d q s), (4, .slice e r t)]).run Try.prog w =
    .ok (.slice (some ⟨w.heap.size, 0, none⟩) 5 5) (w.alloc (.cells #[.slice a n i, .slice b m j, .slice c l k, .slice d q s, .slice e r t] 22)) := by
  kernel_rfl
theorem run_one_item (w : World) (a b c d e : Int) : (Instr.buildSlice 31 1 #[(0, .agg #[.int .i64 a, .int .i64 b, .int .i64 c, .int .i64 d, .int .i64 e])]).run Try.prog w =
    .ok (.slice (some ⟨w.heap.size, 0, none⟩) 1 1) (w.alloc (.cells #[.int .i64 a, .int .i64 b, .int .i64 c, .int .i64 d, .int .i64 e] 42)) := by
  kernel_rfl
theorem run_five_int (w : World) (x0 x1 x2 x3 x4 : Int) : (Instr.buildSlice 22 5 #[(0, .int .i64 x0), (1, .int .i64 x1), (2, .int .i64 x2), (3, .int .i64 x3), (4, .int .i64 x4)]).run Try.prog w =
    .ok (.slice (some ⟨w.heap.size, 0, none⟩) 5 5) (w.alloc (.cells #[.int .i64 x0, .int .i64 x1, .int .i64 x2, .int .i64 x3, .int .i64 x4] 3)) := by
  kernel_rfl
theorem wpList_five_int {w : World} {ops : Array Oper} {rest : List Oper} {a : Act} {Q : Exit → Act → World → Prop} {o : Oper} (hgd : o.guard = none) (s0 s1 s2 s3 s4 : Operand) (x0 x1 x2 x3 x4 : Int)
    (ho : o.op = .buildSlice 22 5 #[(0, s0), (1, s1), (2, s2), (3, s3), (4, s4)])
    (h0 : a.eval s0 = .int .i64 x0) (h1 : a.eval s1 = .int .i64 x1) (h2 : a.eval s2 = .int .i64 x2) (h3 : a.eval s3 = .int .i64 x3) (h4 : a.eval s4 = .int .i64 x4)
    (h : wpList Try.prog ops Q rest (a.put o.dst (.slice (some ⟨w.heap.size, 0, none⟩) 5 5)) (w.alloc (.cells #[.int .i64 x0, .int .i64 x1, .int .i64 x2, .int .i64 x3, .int .i64 x4] 3))) :
    wpList Try.prog ops Q (o :: rest) a w := wpList_plain hgd fun _ hK => by
  unfold Oper.wp execOp
  simp only [ho]
  have e : (#[(0, s0), (1, s1), (2, s2), (3, s3), (4, s4)].map fun (p : Nat × Operand) => (p.1, a.eval p.2)) = #[(0, .int .i64 x0), (1, .int .i64 x1), (2, .int .i64 x2), (3, .int .i64 x3), (4, .int .i64 x4)] := by
    simp [h0, h1, h2, h3, h4]
  rw [e]
  simp only [Sem.run_bind, Sem.run_pure, Result.andThen_ok, run_five_int]
  exact hK _ _ h
theorem heap_cell {w : World} {b o : Nat} {cs : Array Value} {t : TypeId} {v : Value} (h : w.heap[b]? = some (.cells cs t (0, 0))) (hv : cs[o]? = some v) : w.cell? ⟨b, o, none⟩ = some v := by
  simp only [World.cell?, h]
  simpa using hv
theorem heap_keep {a b : World} {i : Nat} {x : Obj} (h : Below a.heap.size a b) (hx : a.heap[i]? = some x) : b.heap[i]? = some x := (h.block i (Array.getElem?_eq_some_iff.1 hx).1).trans hx
/-- what appending to an own list of items leaves: every block that holds no items -/
def Odd (S : Nat) (a b : World) : Prop := ∀ i, i < a.heap.size → (i < S ∨ ∀ cs fz, a.heap[i]? ≠ some (.cells cs 42 fz)) → b.heap[i]? = a.heap[i]?
theorem Odd.of {S : Nat} {a b : World} {v : Value} {l : List Item} (h : OwnR encItem 5 42 S a v l) (hg : a.grownBy b v.ownBlock) : Odd S a b := by
  intro i hi hor
  refine hg.block i hi ?_
  intro e
  obtain ⟨_, h2⟩ := h
  rcases h2 with ⟨rfl, _⟩ | ⟨g, cap, cur, rfl, hb, hh, _⟩
  · cases e
  · have e2 : i = g := Option.some.inj e
    subst e2
    rcases hor with h3 | h3
    · omega
    · exact h3 _ _ hh
theorem Odd.keep {S i : Nat} {a b : World} {cs : Array Value} {t : TypeId} (h : Odd S a b) (hx : a.heap[i]? = some (.cells cs t (0, 0))) (ht : t ≠ 42) : b.heap[i]? = some (.cells cs t (0, 0)) :=
  (h i (Array.getElem?_eq_some_iff.1 hx).1 (.inr fun c f e => by rw [hx] at e; injection e with e; injection e with _ e; exact ht e)).trans hx
/-- what came in: a plot and an item in boxes, items, a wear; and the made plot -/
structure LE (D B X : Nat) (P0 p : Plot) (I0 : List Item) (W0 : List Int) (x : Item) (va vb vc ve vp vw vd vq vi vr : Value) (w0 w : World) : Prop where
  lf : LF D X p vp vw vd vq w0 w
  sd : Sound0 vq
  b0 : w.cell? ⟨B, 0, none⟩ = some va
  b1 : w.cell? ⟨B, 1, none⟩ = some vb
  b2 : w.cell? ⟨B, 2, none⟩ = some vc
  b3 : w.cell? ⟨B, 3, none⟩ = some ve
  x0 : w.cell? ⟨B + 1, 0, none⟩ = some (.int .i64 x.kind)
  x1 : w.cell? ⟨B + 1, 1, none⟩ = some (.int .i64 x.lo)
  x2 : w.cell? ⟨B + 1, 2, none⟩ = some (.int .i64 x.hi)
  x3 : w.cell? ⟨B + 1, 3, none⟩ = some (.int .i64 x.cost)
  x4 : w.cell? ⟨B + 1, 4, none⟩ = some (.int .i64 x.clean)
  bd : B ≠ D
  bx : B + 1 ≠ D
  arg : PlotS (some D) w va vb vc ve P0
  its : ItemsAt (some D) w vi I0
  wer : IntsAt (some D) w vr W0
section
variable {D B X : Nat} {P0 p : Plot} {I0 : List Item} {W0 : List Int} {x : Item} {va vb vc ve vp vw vd vq vi vr : Value} {w0 w w' : World}
theorem LE.go (k : LE D B X P0 p I0 W0 x va vb vc ve vp vw vd vq vi vr w0 w) (hb : Beat D w') (hg : w.grownBy w' (some D)) : LE D B X P0 p I0 W0 x va vb vc ve vp vw vd vq vi vr w0 w' :=
  ⟨k.lf.go hb hg, k.sd, cell_gb hg k.bd k.b0, cell_gb hg k.bd k.b1, cell_gb hg k.bd k.b2, cell_gb hg k.bd k.b3, cell_gb hg k.bx k.x0, cell_gb hg k.bx k.x1, cell_gb hg k.bx k.x2, cell_gb hg k.bx k.x3, cell_gb hg k.bx k.x4, k.bd, k.bx, k.arg.kept hg, RecAt.kept k.its hg, k.wer.kept hg⟩
theorem LE.later (k : LE D B X P0 p I0 W0 x va vb vc ve vp vw vd vq vi vr w0 w) (hb : Below w.heap.size w w') : LE D B X P0 p I0 W0 x va vb vc ve vp vw vd vq vi vr w0 w' := k.go (k.lf.beat.gb hb) (gb_below hb _)
end

set_option maxHeartbeats 16000000 in
set_option maxRecDepth 100000 in
theorem cwears_any (P0 : Plot) (va vb vc ve : Value) (I0 : List Item) (vi : Value) (W0 : List Int) (vr : Value) (person item : Int) (x : Item) (at' n : Int) (xs : List Int) (v : Value) (w : World) (hP0 : PlotS none w va vb vc ve P0) (hI0 : ItemsAt none w vi I0) (hs0 : Sound0 vi) (hW0 : IntsAt none w vr W0) (hsr : Sound0 vr)
    (hat : -9223372036854775808 ≤ at' ∧ at' ≤ 9223372036854775807) (hX : IntsAt none w v xs) (hn : xs.length ≤ 9223372036854775807) :
    Calls Try.prog 10 #[plotV va vb vc ve, vi, vr, .int .i64 person, .int .i64 item, .agg #[.int .i64 x.kind, .int .i64 x.lo, .int .i64 x.hi, .int .i64 x.cost, .int .i64 x.clean], .int .i64 at', .int .i64 n, v] w fun e w' => e = .returned (.bool true) ∧ Below w.heap.size w w' := by
  obtain ⟨a0, k0, rfl⟩ := hP0.persons.1.form
  obtain ⟨a1, k1, rfl⟩ := hP0.walk.form
  obtain ⟨a2, k2, ed, _⟩ := hP0.dress.1
  subst ed
  obtain ⟨a3, k3, rfl⟩ := hP0.parts.1.form
  obtain ⟨a4, k4, rfl⟩ := ItemsAt.form hI0
  have H0 := hid hP0
  have HI0 := hid hI0
  have HR0 := hid hW0
  have HX := hid hX
  have HSi := hid hs0
  have HSr := hid hsr
  have HAt := hid hat
  obtain ⟨a6, k6, rfl, _⟩ := hW0
  obtain ⟨a, c, rfl, _⟩ := hX
  clear hP0 hI0 hs0 hsr hat
  go_enter Try.func10, Try.ntmps10
  go_upto_region 1 with fail
  obtain ⟨B, hB⟩ : ∃ B, w.heap.size = B := ⟨_, rfl⟩
  obtain ⟨w1, hw1⟩ : ∃ w1, ((w.alloc (.cells #[.slice a0 P0.persons.length k0, .slice a1 P0.walk.length k1, .slice a2 P0.dress.length k2, .slice a3 P0.parts.length k3] 29)).alloc (.cells #[.int .i64 x.kind, .int .i64 x.lo, .int .i64 x.hi, .int .i64 x.cost, .int .i64 x.clean] 42)) = w1 := ⟨_, rfl⟩
  have hb1 : Below w.heap.size w w1 := by rw [← hw1]; exact below_trans (below_alloc _ _) (below_alloc _ _)
  have hbb : w1.cell? ⟨B, 0, none⟩ = some (.slice a0 P0.persons.length k0) ∧ w1.cell? ⟨B, 1, none⟩ = some (.slice a1 P0.walk.length k1) ∧ w1.cell? ⟨B, 2, none⟩ = some (.slice a2 P0.dress.length k2) ∧ w1.cell? ⟨B, 3, none⟩ = some (.slice a3 P0.parts.length k3) := by
    rw [← hw1]; exact ⟨cell_up (cell_at hB.symm rfl), cell_up (cell_at hB.symm rfl), cell_up (cell_at hB.symm rfl), cell_up (cell_at hB.symm rfl)⟩
  have hxx : w1.cell? ⟨B + 1, 0, none⟩ = some (.int .i64 x.kind) ∧ w1.cell? ⟨B + 1, 1, none⟩ = some (.int .i64 x.lo) ∧ w1.cell? ⟨B + 1, 2, none⟩ = some (.int .i64 x.hi) ∧ w1.cell? ⟨B + 1, 3, none⟩ = some (.int .i64 x.cost) ∧ w1.cell? ⟨B + 1, 4, none⟩ = some (.int .i64 x.clean) := by
    rw [← hw1, ← hB]; exact ⟨cell_at (by simp) rfl, cell_at (by simp) rfl, cell_at (by simp) rfl, cell_at (by simp) rfl, cell_at (by simp) rfl⟩
  have hsz : w1.heap.size = B + 2 := by rw [← hw1, ← hB]; simp
  rw [hB] at hb1 ⊢
  rw [hw1]
  have H1 := hid (show PlotS none w1 _ _ _ _ P0 from H0.out.below (by rw [hB]; exact hb1))
  have HI1 := hid (show ItemsAt none w1 _ I0 from HI0.out.below (by rw [hB]; exact hb1))
  have HR1 := hid (show IntsAt none w1 _ W0 from HR0.out.below (by rw [hB]; exact hb1))
  have HX1 := hid (show IntsAt none w1 _ xs from HX.out.below (by rw [hB]; exact hb1))
  have HB1 := hid (show Below w.heap.size w w1 from by rw [hB]; exact hb1)
  have HBB := hid hbb
  have HXX := hid hxx
  have HSz := hid hsz
  have AW := hid (fun W' => awake_any W')
  clear hw1 hB hb1 H0 HI0 HR0 HX hsz hbb hxx
  obtain ⟨y0, y1, y2, y3⟩ := HBB.out
  go_cut [51] from 44 to 51 (fun s51 wx => ∃ b : Bool, s51 = .bool b ∧ (b = false → PlotN P0 ∧ P0.parts.length ≤ 40 ∧ I0.length ≤ 40 ∧ W0.length ≤ 40) ∧ Below w1.heap.size w1 wx)
  case first =>
    as_aux_lemma =>
    by_cases h40 : (W0.length : Int) > 40
    · go_wp2_with (go_at_call 20; refine (wide_any P0 I0 _ _ _ _ _ _ H1.out.at HI1.out).mono ?_; rintro e w2 ⟨b, rfl, hwide, hb2⟩; have HB2 := hid hb2; clear hwide hb2 y0 y1 y2 y3)
      all_goals (
        go_meet
        exact ⟨true, by first | rfl | simp, (fun h => by cases h), HB2.out⟩)
    · have hw40 : W0.length ≤ 40 := by omega
      have HW40 := hid hw40
      clear hw40
      go_wp2_with (go_at_call 20; refine (wide_any P0 I0 _ _ _ _ _ _ H1.out.at HI1.out).mono ?_; rintro e w2 ⟨b, rfl, hwide, hb2⟩; have HWd := hid hwide; have HB2 := hid hb2; clear hwide hb2 y0 y1 y2 y3)
      all_goals (
        go_meet
        first
        | exact ⟨_, rfl, fun h => ⟨(HWd.out h).1, (HWd.out h).2.1, (HWd.out h).2.2, HW40.out⟩, HB2.out⟩
        | exact ⟨_, rfl, fun _ => ⟨(HWd.out rfl).1, (HWd.out rfl).2.1, (HWd.out rfl).2.2, HW40.out⟩, HB2.out⟩
        | exact ⟨_, rfl, fun _ => ⟨(HWd.out (Bool.eq_false_iff.2 (by assumption))).1, (HWd.out (Bool.eq_false_iff.2 (by assumption))).2.1, (HWd.out (Bool.eq_false_iff.2 (by assumption))).2.2, HW40.out⟩, HB2.out⟩
        | exact ⟨_, rfl, (fun h => by cases h), HB2.out⟩)
  case rest =>
    obtain ⟨b, rfl, hwd, hb2⟩ := hcut
    have HWd := hid hwd
    have HB2 := hid hb2
    clear hwd hb2 y0 y1 y2 y3
    cases b with
    | true =>
      go_wp2_with (go_at_call 19; refine (AW.out _).mono ?_; rintro e w3 ⟨rfl, hb3⟩)
      go_ret
      exact ⟨rfl, HB1.out.trans ((below_trans HB2.out hb3).mono HB1.out.size)⟩
    | false =>
      obtain ⟨hn0, hp40, hi40, hw40⟩ := HWd.out rfl
      have HN0 := hid hn0
      obtain ⟨w2, rfl⟩ : ∃ w2 : World, w2 = wc := ⟨_, rfl⟩
      have H1 := hid (H1.out.below HB2.out)
      have HI1 := hid (RecAt.below HI1.out HB2.out)
      have HR1 := hid (HR1.out.below HB2.out)
      have HX1 := hid (HX1.out.below HB2.out)
      have HBB := hid (show w2.cell? _ = _ ∧ w2.cell? _ = _ ∧ w2.cell? _ = _ ∧ w2.cell? _ = _ from ⟨cell_now HB2.out HBB.out.1, cell_now HB2.out HBB.out.2.1, cell_now HB2.out HBB.out.2.2.1, cell_now HB2.out HBB.out.2.2.2⟩)
      have HXX := hid (show w2.cell? _ = _ ∧ w2.cell? _ = _ ∧ w2.cell? _ = _ ∧ w2.cell? _ = _ ∧ w2.cell? _ = _ from ⟨cell_now HB2.out HXX.out.1, cell_now HB2.out HXX.out.2.1, cell_now HB2.out HXX.out.2.2.1, cell_now HB2.out HXX.out.2.2.2.1, cell_now HB2.out HXX.out.2.2.2.2⟩)
      have HB1 := hid (show Below w.heap.size w w2 from HB1.out.trans (HB2.out.mono HB1.out.size))
      have HSz := hid (show B + 2 ≤ w2.heap.size from by have := HB2.out.size; have := HSz.out; omega)
      clear HWd HB2 hn0
      go_upto_region 5 with (first
        | (go_at_call 13; refine (drumOf_any xs _ _ HX1.out hn).mono ?_; rintro e w4 ⟨rfl, hbt, hbl⟩; have HBt := hid hbt; have HBl := hid hbl; clear hbt hbl)
        | (go_at_call 14; refine (plotOf_any w2.heap.size 3 5 _ HBt.out (by omega) (by omega) (by omega) (by omega)).mono ?_; rintro e w5 ⟨vp, vw, vd, vq, p, rfl, hv, hpl, hql, hP, hsd, hbt, hg⟩; obtain ⟨ap, cp, rfl⟩ := hP.persons.form; obtain ⟨aw, cw, rfl⟩ := hP.walk.form; obtain ⟨ad, cd, ed, _⟩ := hP.dress; subst ed; obtain ⟨aq, cq, rfl⟩ := hP.parts.form; have HV := hid hv; have HSd := hid hsd; have LF0 := hid (LF.start hbt hP (HB1.out.trans ((HBl.out.grown hg HBl.out.size (fun g e => by cases e; exact Nat.le_refl _)).mono HB1.out.size)) (by have := HB1.out.size; exact this) 29); have HG5 := hid (gb_trans (gb_below HBl.out (some w2.heap.size)) hg); clear hv hP hbt hg hsd))
      obtain ⟨X, hXs⟩ : ∃ X, w5.heap.size = X := ⟨_, rfl⟩
      obtain ⟨D, hDs⟩ : ∃ D, w2.heap.size = D := ⟨_, rfl⟩
      have hargs := (H1.out.freshH (Nat.le_refl _)).kept HG5.out
      have hits := RecAt.kept (RecAt.fresh HI1.out (Nat.le_refl _)) HG5.out
      have hwer := IntsAt.kept (IntsAt.rec.2 (RecAt.fresh (IntsAt.rec.1 HR1.out) (Nat.le_refl _))) HG5.out
      have hBD : B ≠ D ∧ B + 1 ≠ D := by have := HSz.out; omega
      obtain ⟨w6, hw6⟩ : ∃ w6, w5.alloc (.cells #[.slice ap p.persons.length cp, .slice aw p.walk.length cw, .slice ad p.dress.length cd, .slice aq p.parts.length cq] 29) = w6 := ⟨_, rfl⟩
      have hb56 : Below w5.heap.size w5 w6 := by rw [← hw6]; exact below_alloc _ _
      have L := LF0.out
      have hg5 := HG5.out
      rw [hDs] at hargs hg5 L hits hwer
      rw [hw6, hXs] at L
      rw [hw6, hXs, hDs]
      have HG6 := hid (gb_trans hg5 (gb_below hb56 _))
      have hle : LE D B X P0 p I0 W0 x (.slice a0 P0.persons.length k0) (.slice a1 P0.walk.length k1) (.slice a2 P0.dress.length k2) (.slice a3 P0.parts.length k3) (.slice ap p.persons.length cp) (.slice aw p.walk.length cw) (.slice ad p.dress.length cd) (.slice aq p.parts.length cq) (.slice a4 I0.length k4) (.slice a6 W0.length k6) w w6 :=
        ⟨L, HSd.out, cell_gb HG6.out hBD.1 HBB.out.1, cell_gb HG6.out hBD.1 HBB.out.2.1, cell_gb HG6.out hBD.1 HBB.out.2.2.1, cell_gb HG6.out hBD.1 HBB.out.2.2.2, cell_gb HG6.out hBD.2 HXX.out.1, cell_gb HG6.out hBD.2 HXX.out.2.1, cell_gb HG6.out hBD.2 HXX.out.2.2.1, cell_gb HG6.out hBD.2 HXX.out.2.2.2.1, cell_gb HG6.out hBD.2 HXX.out.2.2.2.2, hBD.1, hBD.2, hargs.kept (gb_below hb56 _), RecAt.kept hits (gb_below hb56 _), hwer.kept (gb_below hb56 _)⟩
      have Vd := hid (plotErr_zero.1 HV.out)
      have HD := hid hle
      clear hargs hits hwer hb56 hg5 hw6 hXs hDs hBD LF0 HG5 HBt HBl H1 HI1 HR1 HX1 HG6 HB1 HSz HBB HXX L hle
      obtain ⟨E0, hE0⟩ : ∃ V, Value.slice a0 P0.persons.length k0 = V := ⟨_, rfl⟩
      rw [hE0] at HD ⊢
      obtain ⟨E1, hE1⟩ : ∃ V, Value.slice a1 P0.walk.length k1 = V := ⟨_, rfl⟩
      rw [hE1] at HD ⊢
      obtain ⟨E2, hE2⟩ : ∃ V, Value.slice a2 P0.dress.length k2 = V := ⟨_, rfl⟩
      rw [hE2] at HD ⊢
      obtain ⟨E3, hE3⟩ : ∃ V, Value.slice a3 P0.parts.length k3 = V := ⟨_, rfl⟩
      rw [hE3] at HD ⊢
      clear hE0 hE1 hE2 hE3
      have y0 := HD.out.lf.c0
      have y1 := HD.out.lf.c1
      have y2 := HD.out.lf.c2
      have y3 := HD.out.lf.c3
      go_upto_region 6 with (go_at_call 15; refine (itemsOf_any D 8 p _ _ _ _ _ HD.out.lf.beat HD.out.lf.plot HV.out (by omega) (by omega)).mono ?_; rintro e w7 ⟨vm, im, rfl, hie, hil, hI, hsi, hbt, hg⟩; obtain ⟨am, cm, rfl⟩ := ItemsAt.form hI; have HD := hid (HD.out.go hbt hg); have HM := hid hI; have HSm := hid hsi; have hil8 : im.length ≤ 8 := (by omega); clear hie hil hI hsi hbt hg y0 y1 y2 y3)
      have y0 := HD.out.lf.c0
      have y1 := HD.out.lf.c1
      have y2 := HD.out.lf.c2
      have y3 := HD.out.lf.c3
      have HCr := hid (fun vp vw vd vq vi W' (h1 : PlotAt none W' vp vw vd vq p) (h2 : ItemsAt none W' vi im) => (rcheapest_any p im vp vw vd vq vi W' h1 h2))
      unfold CheapestPost at HCr
      have hbl : (bestL (cheapB p im)).length ≤ 6 := by
        unfold cheapB
        split
        next h =>
          cases e : bestP p im p.parts with
          | none => simp [bestL]
          | some x =>
            obtain ⟨l, c⟩ := x
            have := (bestR_some e).2.2.1
            have h6 := (smallErr_zero h).2.1
            simp at this
            show l.length ≤ 6
            omega
        next h => simp [bestL]
      obtain ⟨BL, hBL⟩ : ∃ BL, bestL (cheapB p im) = BL := ⟨_, rfl⟩
      rw [hBL] at HCr hbl
      clear hBL
      go_upto_region 7 with (go_at_call 41; refine (HCr.out _ _ _ _ _ _ HD.out.lf.any (RecAt.any HM.out)).mono ?_; rintro e w8 ⟨v8, rfl, ho, hb⟩; obtain ⟨a8, c8, e8⟩ := (own_int.2 ho).form; subst e8; have HO := hid (own_int.2 ho); have hbase : D < w7.heap.size := HD.out.lf.beat.lt; have HG := hid (gb_below hb (some D)); have HBt := hid (HD.out.lf.beat.gb hb); clear ho hb y0 y1 y2 y3)
      have HDg := hid (fun wx (hb : Beat D wx) (hg : w7.grownBy wx (some D)) => HD.out.go hb hg)
      have HMg := hid (fun wx (hg : w7.grownBy wx (some D)) => RecAt.kept HM.out hg)
      obtain ⟨base, hbs⟩ : ∃ base, w7.heap.size = base := ⟨_, rfl⟩
      have HBs := hid hbs
      rw [hbs] at HO hbase
      clear hbs HCr
      go_upto_if 69 with fail
      obtain ⟨tb, htb⟩ : ∃ tb, ((BL.length : Int) == 0) = tb := ⟨_, rfl⟩
      rw [htb]
      go_cut [22] from 70 to 83 (fun s22 wx => ∃ (CL : List Int) (ac : Option Addr) (cc : Nat), s22 = .slice ac CL.length cc ∧ CL.length ≤ 6 ∧ OwnR encInt 1 3 base wx (.slice ac CL.length cc) CL ∧ w7.grownBy wx (some D) ∧ Beat D wx)
      case first =>
        as_aux_lemma =>
        cases tb with
        | true =>
          have HB0 := hid (show BL.length = 0 from by have := beq_iff_eq.1 htb; omega)
          clear htb
          go_wp2_with fail
          go_loopw [22, 25] (fun s i wr => ∃ (k : Nat) (CL : List Int) (ac : Option Addr) (cc : Nat), k ≤ p.parts.length ∧ i = .int .i64 k ∧ s = .slice ac CL.length cc ∧ CL.length = k ∧ OwnR encInt 1 3 base wr (.slice ac CL.length cc) CL ∧ w7.grownBy wr (some D) ∧ Beat D wr) (fun _ i _ => p.parts.length - (intOf i).toNat)
          case atStart => exact ⟨0, BL, a8, c8, by omega, rfl, rfl, HB0.out, HO.out, HG.out, HBt.out⟩
          case round =>
            obtain ⟨k, CL, ac, cc, hk, rfl, rfl, hck, ho, hgr, hbt⟩ := hrel
            obtain ⟨wo, rfl⟩ : ∃ wo : World, wo = wr := ⟨_, rfl⟩
            have HO := hid ho
            have HG := hid hgr
            have HBt := hid hbt
            have HCk := hid hck
            clear ho hgr hbt hck
            have y3 := (HDg.out wo HBt.out HG.out).lf.c3
            by_cases hlt : k < p.parts.length
            rotate_left
            · go_wp2_with fail
              go_meet
              exact ⟨CL, ac, cc, rfl, by have := HCk.out; omega, HO.out, HG.out, HBt.out⟩
            have i1 : (k : Int) < (p.parts.length : Int) := by omega
            have z1 : IntKind.i64.wrap ((k : Int) + 1) = (k : Int) + 1 := IntWalk.i64_in _ (by omega)
            go_wp2_with (first
              | (go_at_call 16; (with_reducible refine (roll_any D (im.length : Int) _ HBt.out (by omega)).mono ?_); rintro e w9 ⟨r, rfl, hr0, hr1, hbt, hg⟩; have HO := hid (HO.out.go hbase hg); have HG := hid (gb_trans HG.out hg); have HBt := hid hbt; have hsz9 : base ≤ w9.heap.size := (by have := HG.out.size; have := HBs.out; omega); clear hbt hg y3)
              | (at_builtin; refine wpList_app encInt Try.underlying22 infoInt' (by decide) (by decide) (fun _ => rfl) rfl _ _ rfl base CL [r] (fun y _ => encInt_one y) _ _ rfl rfl (HO.out.later (below_alloc _ _)) (Src.lit encInt w9 r _ 1 rfl) (by have := HCk.out; simp; omega) (by simp; omega) ?_; intro v' w10 hown' hg _ _; obtain ⟨a2, c2, e2⟩ := hown'.form; rw [List.length_append, List.length_singleton] at e2; subst e2; have HO2 := hid hown'; have hbb := (HO.out.later (below_alloc w9 (.cells (encInt r).toArray 3))).below hg (by simp; omega); have hb10 : Below base w9 w10 := ((below_alloc w9 (.cells (encInt r).toArray 3)).mono hsz9).trans hbb; have HB10 := hid hb10; clear hown' hg hbb hb10))
            go_roundw
            case rel =>
              have hgD : w7.grownBy w10 (some D) := ⟨HB10.out.os.trans HG.out.os, HB10.out.tape.trans HG.out.tape, HB10.out.output.trans HG.out.output, Nat.le_trans HG.out.size HB10.out.size, fun i hi hn => (HB10.out.block i (by rw [← HBs.out]; exact hi)).trans (HG.out.block i hi hn)⟩
              exact ⟨k + 1, CL ++ [r], a2, c2, by omega, by go_num, by rw [List.length_append, List.length_singleton], by have := HCk.out; rw [List.length_append, List.length_singleton]; omega, by rw [List.length_append, List.length_singleton]; exact HO2.out, hgD, HBt.out.under HB10.out hbase⟩
            case measure => simp [intOf] <;> omega
        | false =>
          clear htb
          go_wp2_with fail
          go_meet
          exact ⟨BL, a8, c8, rfl, hbl, HO.out, HG.out, HBt.out⟩
      case rest =>
        obtain ⟨CL, ac, cc, rfl, hcl, ho, hgr, hbt⟩ := hcut
        obtain ⟨w11, rfl⟩ : ∃ w11 : World, w11 = wc := ⟨_, rfl⟩
        have HO := hid ho
        have HG := hid hgr
        have HBt := hid hbt
        clear ho hgr hbt htb hbl
        go_upto_region 13 with (go_at_call 34; refine (copyInts_any CL _ none _ (OwnInts.at (d := none) (own_int.1 HO.out) (by simp)) HO.out.sound (by omega)).mono ?_; rintro e w12 ⟨v12, rfl, ho, hb⟩; obtain ⟨oa, oc, e12⟩ := (own_int.2 ho).form; subst e12; have HOo := hid (own_int.2 ho); have hbw : w7.heap.size ≤ w11.heap.size := HG.out.size; have HOl := HO; have HO := hid (HO.out.later hb); have HG := hid (gb_trans HG.out (gb_below hb (some D))); have HBt := hid (HBt.out.gb hb); clear ho hb)
        go_upto_if 88 with fail
        obtain ⟨tc, htc⟩ : ∃ tc : Bool, decide (0 < CL.length) = tc := ⟨_, rfl⟩
        rw [htc]
        have hD11 : D < w11.heap.size := Nat.lt_of_lt_of_le hbase (by rw [← HBs.out]; exact hbw)
        go_cut [] from 89 to 102 (fun wx => ∃ OL : List Int, OL.length = CL.length ∧ OwnR encInt 1 3 w11.heap.size wx (.slice oa CL.length oc) OL ∧ OwnR encInt 1 3 base wx (.slice ac CL.length cc) CL ∧ w7.grownBy wx (some D) ∧ Beat D wx)
        case first =>
          as_aux_lemma =>
          cases tc with
          | false =>
            clear htc
            go_wp2_with fail
            go_meet
            exact ⟨CL, rfl, HOo.out, HO.out, HG.out, HBt.out⟩
          | true =>
            have hc0 : 0 < CL.length := of_decide_eq_true htc
            have HC0 := hid hc0
            have hform : ∃ g, oa = some ⟨g, 0, none⟩ ∧ w11.heap.size ≤ g := by
              rcases HOo.out.2 with ⟨_, h0⟩ | ⟨g, cap, cur, e, hg, _⟩
              · omega
              · cases e; exact ⟨g, rfl, hg⟩
            obtain ⟨g, rfl, hgw⟩ := hform
            clear htc hc0
            go_wp2_with (first
              | (go_at_call 43; refine (fit_any at' _ _ HAt.out (by omega)).mono ?_; rintro e w13 ⟨r1, rfl, hr0, hr1, rfl⟩; obtain ⟨q, rfl⟩ := Int.eq_ofNat_of_zero_le hr0; have hql : q < CL.length := (by have := HC0.out; omega); clear hr0 hr1)
              | (go_at_call 16; (with_reducible refine (roll_any D (im.length : Int) _ HBt.out (by omega)).mono ?_); rintro e w14 ⟨r2, rfl, hr2, hr3, hbt, hg⟩; have HO := hid (HO.out.go hbase hg); have HOo := hid (HOo.out.go hD11 hg); have HG := hid (gb_trans HG.out hg); have HBt := hid hbt; clear hbt hg hr2 hr3)
              | (go_at_call 42; refine (any_any D [n, r2] _ _ (HBt.out.gb (below_alloc _ _)) (ints_two D w14 n r2 HBt.out.lt) (by simp) (by simp)).mono ?_; rintro e w15 ⟨j, hj, rfl, hbt, hg⟩; have HO := hid ((HO.out.later (below_alloc w14 _)).go hbase hg); have HOo := hid ((HOo.out.later (below_alloc w14 _)).go hD11 hg); have HG := hid (gb_trans (gb_trans HG.out (gb_below (below_alloc w14 _) (some D))) hg); have HBt := hid hbt; clear hbt hg; obtain ⟨z, hz⟩ : ∃ z, nm [n, r2] j = z := ⟨_, rfl⟩; rw [hz]; clear hz hj; have hcg := IntsAt.cell (OwnInts.at (d := none) (own_int.1 HOo.out) (by simp)) hql; have hfg := HOo.out.thaw rfl q; have i1 : (q : Int) < (CL.length : Int) := (by omega); rw [Nat.zero_add] at hcg))
            go_meet
            have hap : (Value.slice ac CL.length cc).ownBlock = none ∨ (Value.slice ac CL.length cc).ownBlock ≠ some g := by
              cases hbk : (Value.slice ac CL.length cc).ownBlock with
              | none => exact .inl rfl
              | some j =>
                right
                intro e
                have h1 := (HOl.out.lt hbk).2
                have h2 := Option.some.inj e
                omega
            exact ⟨CL.set q z, by rw [List.length_set], own_int.2 (OwnInts.setI (own_int.1 HOo.out) hql z), HO.out.kept (gb_put _ g q _) hap, gb_out HG.out (by omega), HBt.out.putFar (by omega)⟩
        case rest =>
          obtain ⟨OL, hol, hoo, ho, hgr, hbt⟩ := hcut
          obtain ⟨w16, rfl⟩ : ∃ w16 : World, w16 = wc := ⟨_, rfl⟩
          have HO := hid ho
          have HOo := hid hoo
          have HOn := hid hol
          have HD := hid (HDg.out w16 hbt hgr)
          have HM := hid (HMg.out w16 hgr)
          have hsz : base ≤ w16.heap.size := by have := hgr.size; have := HBs.out; omega
          clear ho hoo hol hgr hbt htc HOl HG HBt HDg HMg
          go_upto_region 15 with fail
          have H15 := hid (fun W' (hb : Below w16.heap.size w16 W') => HD.out.later hb)
          have hDS : D < w16.heap.size := Nat.lt_of_lt_of_le hbase hsz
          go_cut [27, 28, 29] from 103 to 124 (fun s27 s28 s29 wx => (∃ b, s27 = .slice (some ⟨b, 0, none⟩) 5 5 ∧ w16.heap.size ≤ b ∧ wx.heap[b]? = some (.cells #[E0, E1, E2, E3, .slice ap p.persons.length cp, .slice aw p.walk.length cw, .slice ad p.dress.length cd, .slice aq p.parts.length cq, .slice ap p.persons.length cp, .slice aw p.walk.length cw, .slice ad p.dress.length cd, .slice aq p.parts.length cq, .slice ap p.persons.length cp, .slice aw p.walk.length cw, .slice ad p.dress.length cd, .slice aq p.parts.length cq, .slice ap p.persons.length cp, .slice aw p.walk.length cw, .slice ad p.dress.length cd, .slice aq p.parts.length cq] 29 (0, 0))) ∧ (∃ (b : Nat) (ax : Option Addr) (cx : Nat), s28 = .slice (some ⟨b, 0, none⟩) 5 5 ∧ w16.heap.size ≤ b ∧ wx.heap[b]? = some (.cells #[.slice a4 I0.length k4, .slice am im.length cm, .slice am im.length cm, .slice ax (im.length + 1) cx, .slice a4 I0.length k4] 31 (0, 0)) ∧ OwnR encItem 5 42 w16.heap.size wx (.slice ax (im.length + 1) cx) (im ++ [x])) ∧ (∃ b, s29 = .slice (some ⟨b, 0, none⟩) 5 5 ∧ w16.heap.size ≤ b ∧ wx.heap[b]? = some (.cells #[.slice a6 W0.length k6, .slice ac CL.length cc, .slice oa CL.length oc, .slice ac CL.length cc, .slice a6 W0.length k6] 22 (0, 0))) ∧ Below w16.heap.size w16 wx)
          case first =>
            as_aux_lemma =>
            refine wp_named ?_
            intro ac0 hac0
            have HN := hid (show ac0.tmps.size = 303 from by rw [hac0]; rfl)
            have r9 : ac0.eval (.tmp 9) = .pointer (some ⟨B, 0, none⟩) := by rw [hac0]; rfl
            have r14 : ac0.eval (.tmp 14) = .pointer (some ⟨B + 1, 0, none⟩) := by rw [hac0]; rfl
            have r20 : ac0.eval (.tmp 20) = .pointer (some ⟨X, 0, none⟩) := by rw [hac0]; rfl
            have r1 : ac0.eval (.tmp 1) = .slice a4 I0.length k4 := by rw [hac0]; rfl
            have r21 : ac0.eval (.tmp 21) = .slice am im.length cm := by rw [hac0]; rfl
            have r2 : ac0.eval (.tmp 2) = .slice a6 W0.length k6 := by rw [hac0]; rfl
            have r22 : ac0.eval (.tmp 22) = .slice ac CL.length cc := by rw [hac0]; rfl
            have r26 : ac0.eval (.tmp 26) = .slice oa CL.length oc := by rw [hac0]; rfl
            have HA := hid hac0
            clear hac0
            refine wp_region_flow (by kernel_rfl) [103, 104, 105, 106, 107, 108, 109, 110, 111, 112, 113, 114, 115, 116, 117, 118, 119, 120, 121, 122, 123, 124, 27, 28, 29] 13
              (fun _ w' => Below w16.heap.size w16 w') (fun a b => Below a.heap.size a b) (fun a b => Odd w16.heap.size a b)
              (fun bt ix v w' => match ix, bt with
                | 0, _ => v = .agg #[E0, E1, E2, E3]
                | 1, _ => v = .agg #[.slice ap p.persons.length cp, .slice aw p.walk.length cw, .slice ad p.dress.length cd, .slice aq p.parts.length cq]
                | 2, _ => v = .agg #[.slice ap p.persons.length cp, .slice aw p.walk.length cw, .slice ad p.dress.length cd, .slice aq p.parts.length cq]
                | 3, _ => v = .agg #[.slice ap p.persons.length cp, .slice aw p.walk.length cw, .slice ad p.dress.length cd, .slice aq p.parts.length cq]
                | 4, _ => v = .agg #[.slice ap p.persons.length cp, .slice aw p.walk.length cw, .slice ad p.dress.length cd, .slice aq p.parts.length cq]
                | 5, _ => ∃ b, v = .slice (some ⟨b, 0, none⟩) 5 5 ∧ w16.heap.size ≤ b ∧ w'.heap[b]? = some (.cells #[E0, E1, E2, E3, .slice ap p.persons.length cp, .slice aw p.walk.length cw, .slice ad p.dress.length cd, .slice aq p.parts.length cq, .slice ap p.persons.length cp, .slice aw p.walk.length cw, .slice ad p.dress.length cd, .slice aq p.parts.length cq, .slice ap p.persons.length cp, .slice aw p.walk.length cw, .slice ad p.dress.length cd, .slice aq p.parts.length cq, .slice ap p.persons.length cp, .slice aw p.walk.length cw, .slice ad p.dress.length cd, .slice aq p.parts.length cq] 29 (0, 0))
                | 6, _ => v = .slice a4 I0.length k4
                | 7, _ => v = .slice am im.length cm
                | 8, _ => v = .slice am im.length cm
                | 9, _ => v = .slice am im.length cm
                | 10, false => OwnR encItem 5 42 w16.heap.size w' v im
                | 10, true => True
                | 11, _ => v = .agg #[.int .i64 x.kind, .int .i64 x.lo, .int .i64 x.hi, .int .i64 x.cost, .int .i64 x.clean]
                | 12, false => LitR encItem w16.heap.size w' v x
                | 12, true => True
                | 13, false => False
                | 13, true => OwnR encItem 5 42 w16.heap.size w' v (im ++ [x])
                | 14, _ => v = .slice a4 I0.length k4
                | 15, false => False
                | 15, true => ∃ (b : Nat) (ax : Option Addr) (cx : Nat), v = .slice (some ⟨b, 0, none⟩) 5 5 ∧ w16.heap.size ≤ b ∧ w'.heap[b]? = some (.cells #[.slice a4 I0.length k4, .slice am im.length cm, .slice am im.length cm, .slice ax (im.length + 1) cx, .slice a4 I0.length k4] 31 (0, 0)) ∧ OwnR encItem 5 42 w16.heap.size w' (.slice ax (im.length + 1) cx) (im ++ [x])
                | 16, _ => v = .slice a6 W0.length k6
                | 17, _ => v = .slice ac CL.length cc
                | 18, _ => v = .slice oa CL.length oc
                | 19, _ => v = .slice ac CL.length cc
                | 20, _ => v = .slice a6 W0.length k6
                | 21, _ => ∃ b, v = .slice (some ⟨b, 0, none⟩) 5 5 ∧ w16.heap.size ≤ b ∧ w'.heap[b]? = some (.cells #[.slice a6 W0.length k6, .slice ac CL.length cc, .slice oa CL.length oc, .slice ac CL.length cc, .slice a6 W0.length k6] 22 (0, 0))
                | 22, _ => ∃ b, v = .slice (some ⟨b, 0, none⟩) 5 5 ∧ w16.heap.size ≤ b ∧ w'.heap[b]? = some (.cells #[E0, E1, E2, E3, .slice ap p.persons.length cp, .slice aw p.walk.length cw, .slice ad p.dress.length cd, .slice aq p.parts.length cq, .slice ap p.persons.length cp, .slice aw p.walk.length cw, .slice ad p.dress.length cd, .slice aq p.parts.length cq, .slice ap p.persons.length cp, .slice aw p.walk.length cw, .slice ad p.dress.length cd, .slice aq p.parts.length cq, .slice ap p.persons.length cp, .slice aw p.walk.length cw, .slice ad p.dress.length cd, .slice aq p.parts.length cq] 29 (0, 0))
                | 23, false => False
                | 23, true => ∃ (b : Nat) (ax : Option Addr) (cx : Nat), v = .slice (some ⟨b, 0, none⟩) 5 5 ∧ w16.heap.size ≤ b ∧ w'.heap[b]? = some (.cells #[.slice a4 I0.length k4, .slice am im.length cm, .slice am im.length cm, .slice ax (im.length + 1) cx, .slice a4 I0.length k4] 31 (0, 0)) ∧ OwnR encItem 5 42 w16.heap.size w' (.slice ax (im.length + 1) cx) (im ++ [x])
                | 24, _ => ∃ b, v = .slice (some ⟨b, 0, none⟩) 5 5 ∧ w16.heap.size ≤ b ∧ w'.heap[b]? = some (.cells #[.slice a6 W0.length k6, .slice ac CL.length cc, .slice oa CL.length oc, .slice ac CL.length cc, .slice a6 W0.length k6] 22 (0, 0))
                | _, _ => True)
              [0, 1, 2, 3, 4, 5, 6, 7, 8, 9, 10, 11, 12, 13, 14, 15, 16, 17, 18, 19, 20, 21, 22, 23, 24] (by kernel_rfl) (by kernel_rfl) rfl ?_ ?_ ?_ ?_ ?_
            · intro bt ix v w2 w3 hW hg hy
              match ix, bt with
              | 0, _ => exact hy
              | 1, _ => exact hy
              | 2, _ => exact hy
              | 3, _ => exact hy
              | 4, _ => exact hy
              | 5, _ => obtain ⟨b, h1, h2, h3⟩ := hy; exact ⟨b, h1, h2, heap_keep hg h3⟩
              | 6, _ => exact hy
              | 7, _ => exact hy
              | 8, _ => exact hy
              | 9, _ => exact hy
              | 10, false => exact OwnR.later hy hg
              | 10, true => exact trivial
              | 11, _ => exact hy
              | 12, false => exact LitR.later hy hg
              | 12, true => exact trivial
              | 13, false => exact hy.elim
              | 13, true => exact OwnR.later hy hg
              | 14, _ => exact hy
              | 15, false => exact hy.elim
              | 15, true => obtain ⟨b, ax, cx, h1, h2, h3, h4⟩ := hy; exact ⟨b, ax, cx, h1, h2, heap_keep hg h3, h4.later hg⟩
              | 16, _ => exact hy
              | 17, _ => exact hy
              | 18, _ => exact hy
              | 19, _ => exact hy
              | 20, _ => exact hy
              | 21, _ => obtain ⟨b, h1, h2, h3⟩ := hy; exact ⟨b, h1, h2, heap_keep hg h3⟩
              | 22, _ => obtain ⟨b, h1, h2, h3⟩ := hy; exact ⟨b, h1, h2, heap_keep hg h3⟩
              | 23, false => exact hy.elim
              | 23, true => obtain ⟨b, ax, cx, h1, h2, h3, h4⟩ := hy; exact ⟨b, ax, cx, h1, h2, heap_keep hg h3, h4.later hg⟩
              | 24, _ => obtain ⟨b, h1, h2, h3⟩ := hy; exact ⟨b, h1, h2, heap_keep hg h3⟩
              | n + 25, _ => exact trivial
            · intro ix v w2 w3 hW hg hy
              match ix with
              | 0 => exact hy
              | 1 => exact hy
              | 2 => exact hy
              | 3 => exact hy
              | 4 => exact hy
              | 5 => obtain ⟨b, h1, h2, h3⟩ := hy; exact ⟨b, h1, h2, Odd.keep hg h3 (by decide)⟩
              | 6 => exact hy
              | 7 => exact hy
              | 8 => exact hy
              | 9 => exact hy
              | 10 => exact trivial
              | 11 => exact hy
              | 12 => exact trivial
              | 13 => exact hy.elim
              | 14 => exact hy
              | 15 => exact hy.elim
              | 16 => exact hy
              | 17 => exact hy
              | 18 => exact hy
              | 19 => exact hy
              | 20 => exact hy
              | 21 => obtain ⟨b, h1, h2, h3⟩ := hy; exact ⟨b, h1, h2, Odd.keep hg h3 (by decide)⟩
              | 22 => obtain ⟨b, h1, h2, h3⟩ := hy; exact ⟨b, h1, h2, Odd.keep hg h3 (by decide)⟩
              | 23 => exact hy.elim
              | 24 => obtain ⟨b, h1, h2, h3⟩ := hy; exact ⟨b, h1, h2, Odd.keep hg h3 (by decide)⟩
              | n + 25 => exact trivial
            · exact (Below.refl _ _).drew
            · skip
              refine StepF.val (i := 0) (o := _) rfl (by decide) ?_ ?_
              · intro bb vs wx hbf hW hY
                refine ⟨fl_want rfl, fun ρ hρ => ⟨.agg #[E0, E1, E2, E3], wx, ?_, hW, Below.refl _ _, rfl⟩⟩
                have rr : ρ (.tmp 9) = .pointer (some ⟨B, 0, none⟩) := by rw [hρ, fl_out rfl, r9]
                have L := H15.out wx hW
                have q0 := L.b0
                have q1 := L.b1
                have q2 := L.b2
                have q3 := L.b3
                clear hρ L
                simp [execOp, go_sem, rr, q0, q1, q2, q3]
              refine StepF.val (i := 1) (o := _) rfl (by decide) ?_ ?_
              · intro bb vs wx hbf hW hY
                refine ⟨fl_want rfl, fun ρ hρ => ⟨.agg #[.slice ap p.persons.length cp, .slice aw p.walk.length cw, .slice ad p.dress.length cd, .slice aq p.parts.length cq], wx, ?_, hW, Below.refl _ _, rfl⟩⟩
                have rr : ρ (.tmp 20) = .pointer (some ⟨X, 0, none⟩) := by rw [hρ, fl_out rfl, r20]
                have L := H15.out wx hW
                have q0 := L.lf.c0
                have q1 := L.lf.c1
                have q2 := L.lf.c2
                have q3 := L.lf.c3
                clear hρ L
                simp [execOp, go_sem, rr, q0, q1, q2, q3]
              refine StepF.val (i := 2) (o := _) rfl (by decide) ?_ ?_
              · intro bb vs wx hbf hW hY
                refine ⟨fl_want rfl, fun ρ hρ => ⟨.agg #[.slice ap p.persons.length cp, .slice aw p.walk.length cw, .slice ad p.dress.length cd, .slice aq p.parts.length cq], wx, ?_, hW, Below.refl _ _, rfl⟩⟩
                have rr : ρ (.tmp 20) = .pointer (some ⟨X, 0, none⟩) := by rw [hρ, fl_out rfl, r20]
                have L := H15.out wx hW
                have q0 := L.lf.c0
                have q1 := L.lf.c1
                have q2 := L.lf.c2
                have q3 := L.lf.c3
                clear hρ L
                simp [execOp, go_sem, rr, q0, q1, q2, q3]
              refine StepF.val (i := 3) (o := _) rfl (by decide) ?_ ?_
              · intro bb vs wx hbf hW hY
                refine ⟨fl_want rfl, fun ρ hρ => ⟨.agg #[.slice ap p.persons.length cp, .slice aw p.walk.length cw, .slice ad p.dress.length cd, .slice aq p.parts.length cq], wx, ?_, hW, Below.refl _ _, rfl⟩⟩
                have rr : ρ (.tmp 20) = .pointer (some ⟨X, 0, none⟩) := by rw [hρ, fl_out rfl, r20]
                have L := H15.out wx hW
                have q0 := L.lf.c0
                have q1 := L.lf.c1
                have q2 := L.lf.c2
                have q3 := L.lf.c3
                clear hρ L
                simp [execOp, go_sem, rr, q0, q1, q2, q3]
              refine StepF.val (i := 4) (o := _) rfl (by decide) ?_ ?_
              · intro bb vs wx hbf hW hY
                refine ⟨fl_want rfl, fun ρ hρ => ⟨.agg #[.slice ap p.persons.length cp, .slice aw p.walk.length cw, .slice ad p.dress.length cd, .slice aq p.parts.length cq], wx, ?_, hW, Below.refl _ _, rfl⟩⟩
                have rr : ρ (.tmp 20) = .pointer (some ⟨X, 0, none⟩) := by rw [hρ, fl_out rfl, r20]
                have L := H15.out wx hW
                have q0 := L.lf.c0
                have q1 := L.lf.c1
                have q2 := L.lf.c2
                have q3 := L.lf.c3
                clear hρ L
                simp [execOp, go_sem, rr, q0, q1, q2, q3]
              refine StepF.val (i := 5) (o := _) rfl (by decide) ?_ ?_
              · intro bb vs wx hbf hW hY
                have y103 : vs 103 = .agg #[E0, E1, E2, E3] := hY 0 103 (by kernel_rfl) (by kernel_rfl)
                have y104 : vs 104 = .agg #[.slice ap p.persons.length cp, .slice aw p.walk.length cw, .slice ad p.dress.length cd, .slice aq p.parts.length cq] := hY 1 104 (by kernel_rfl) (by kernel_rfl)
                have y105 : vs 105 = .agg #[.slice ap p.persons.length cp, .slice aw p.walk.length cw, .slice ad p.dress.length cd, .slice aq p.parts.length cq] := hY 2 105 (by kernel_rfl) (by kernel_rfl)
                have y106 : vs 106 = .agg #[.slice ap p.persons.length cp, .slice aw p.walk.length cw, .slice ad p.dress.length cd, .slice aq p.parts.length cq] := hY 3 106 (by kernel_rfl) (by kernel_rfl)
                have y107 : vs 107 = .agg #[.slice ap p.persons.length cp, .slice aw p.walk.length cw, .slice ad p.dress.length cd, .slice aq p.parts.length cq] := hY 4 107 (by kernel_rfl) (by kernel_rfl)
                exact ⟨fl_want rfl, fun ρ hρ => ⟨_, _, ex_build (ps := #[(0, .agg #[E0, E1, E2, E3]), (1, .agg #[.slice ap p.persons.length cp, .slice aw p.walk.length cw, .slice ad p.dress.length cd, .slice aq p.parts.length cq]), (2, .agg #[.slice ap p.persons.length cp, .slice aw p.walk.length cw, .slice ad p.dress.length cd, .slice aq p.parts.length cq]), (3, .agg #[.slice ap p.persons.length cp, .slice aw p.walk.length cw, .slice ad p.dress.length cd, .slice aq p.parts.length cq]), (4, .agg #[.slice ap p.persons.length cp, .slice aw p.walk.length cw, .slice ad p.dress.length cd, .slice aq p.parts.length cq])]) rfl (by simp [hρ, fl_in 303 HN.out, y103, y104, y105, y106, y107]) (run_five_plots wx E0 E1 E2 E3 _ _ _ _ _ _ _ _ _ _ _ _ _ _ _ _), hW.trans ((below_alloc _ _).mono hW.size), below_alloc _ _, ⟨_, rfl, hW.size, box_new _ _ _⟩⟩⟩
              refine StepF.val (i := 6) (o := _) rfl (by decide) ?_ ?_
              · intro bb vs wx hbf hW hY
                exact ⟨fl_want rfl, fun ρ hρ => ⟨.slice a4 I0.length k4, wx, ex_move rfl (by rw [hρ, fl_out rfl, r1]), hW, Below.refl _ _, rfl⟩⟩
              refine StepF.val (i := 7) (o := _) rfl (by decide) ?_ ?_
              · intro bb vs wx hbf hW hY
                exact ⟨fl_want rfl, fun ρ hρ => ⟨.slice am im.length cm, wx, ex_move rfl (by rw [hρ, fl_out rfl, r21]), hW, Below.refl _ _, rfl⟩⟩
              refine StepF.val (i := 8) (o := _) rfl (by decide) ?_ ?_
              · intro bb vs wx hbf hW hY
                exact ⟨fl_want rfl, fun ρ hρ => ⟨.slice am im.length cm, wx, ex_move rfl (by rw [hρ, fl_out rfl, r21]), hW, Below.refl _ _, rfl⟩⟩
              refine StepF.val (i := 9) (o := _) rfl (by decide) ?_ ?_
              · intro bb vs wx hbf hW hY
                exact ⟨fl_want rfl, fun ρ hρ => ⟨.slice am im.length cm, wx, ex_move rfl (by rw [hρ, fl_out rfl, r21]), hW, Below.refl _ _, rfl⟩⟩
              refine StepF.call (i := 10) (o := _) rfl (by decide) ?_ ?_
              · intro bb vs wx hbf hW hY
                have hbf2 : bb = false := hbf (by kernel_rfl)
                subst hbf2
                have y112 : vs 112 = .slice am im.length cm := hY 9 112 (by kernel_rfl) (by kernel_rfl)
                refine ⟨fl_want rfl, fun ρ hρ => ⟨37, _, ex_call (vs := #[.slice am im.length cm]) rfl (by rw [hρ]; rfl) (by simp [hρ, fl_in 303 HN.out, y112]) Try.func37 (by kernel_rfl) rfl, ?_⟩⟩
                refine (ownItems_any im _ (some D) wx (RecAt.kept HM.out (gb_below hW (some D))) HSm.out (by omega)).mono ?_
                rintro e w' ⟨v', rfl, hown, hb5⟩
                exact ⟨_, rfl, hW.trans (hb5.mono hW.size), hb5, OwnR.base' hown hW.size⟩
              refine StepF.val (i := 11) (o := _) rfl (by decide) ?_ ?_
              · intro bb vs wx hbf hW hY
                refine ⟨fl_want rfl, fun ρ hρ => ⟨.agg #[.int .i64 x.kind, .int .i64 x.lo, .int .i64 x.hi, .int .i64 x.cost, .int .i64 x.clean], wx, ?_, hW, Below.refl _ _, rfl⟩⟩
                have rr : ρ (.tmp 14) = .pointer (some ⟨B + 1, 0, none⟩) := by rw [hρ, fl_out rfl, r14]
                have L := H15.out wx hW
                have q0 := L.x0
                have q1 := L.x1
                have q2 := L.x2
                have q3 := L.x3
                have q4 := L.x4
                clear hρ L
                simp [execOp, go_sem, rr, q0, q1, q2, q3, q4]
              refine StepF.val (i := 12) (o := _) rfl (by decide) ?_ ?_
              · intro bb vs wx hbf hW hY
                have hbf2 : bb = false := hbf (by kernel_rfl)
                subst hbf2
                have y114 : vs 114 = .agg #[.int .i64 x.kind, .int .i64 x.lo, .int .i64 x.hi, .int .i64 x.cost, .int .i64 x.clean] := hY 11 114 (by kernel_rfl) (by kernel_rfl)
                exact ⟨fl_want rfl, fun ρ hρ => ⟨_, _, ex_build (ps := #[(0, .agg #[.int .i64 x.kind, .int .i64 x.lo, .int .i64 x.hi, .int .i64 x.cost, .int .i64 x.clean])]) rfl (by simp [hρ, fl_in 303 HN.out, y114]) (run_one_item wx _ _ _ _ _), hW.trans ((below_alloc _ _).mono hW.size), below_alloc _ _, LitR.new encItem hW.size x 42⟩⟩
              refine StepF.valA (i := 13) (o := _) rfl rfl ?_ ?_
              · intro vs wx hW hY
                have y113 : OwnR encItem 5 42 w16.heap.size wx (vs 113) im := hY 10 113 (by kernel_rfl) (by kernel_rfl)
                have y115 : LitR encItem w16.heap.size wx (vs 115) x := hY 12 115 (by kernel_rfl) (by kernel_rfl)
                obtain ⟨v', w', hr, hown', hg, _, _⟩ := run_app (P := Try.prog) encItem Try.underlying31 infoItem (by decide) (by decide) (fun _ => rfl) 31 w16.heap.size im [x] (fun y _ => encItem_one y) _ _ y113 y115.src (by simp; omega) hW.size
                exact ⟨fl_want rfl, fun ρ hρ => ⟨v', w', ex_app rfl (by rw [hρ, fl_in 303 HN.out rfl]) (by rw [hρ, fl_in 303 HN.out rfl]) hr, hW.trans (y113.below hg hW.size), Odd.of y113 hg, hown'⟩⟩
              refine StepF.val (i := 14) (o := _) rfl (by decide) ?_ ?_
              · intro bb vs wx hbf hW hY
                exact ⟨fl_want rfl, fun ρ hρ => ⟨.slice a4 I0.length k4, wx, ex_move rfl (by rw [hρ, fl_out rfl, r1]), hW, Below.refl _ _, rfl⟩⟩
              refine StepF.val (i := 15) (o := _) rfl (by decide) ?_ ?_
              · intro bb vs wx hbf hW hY
                cases bb with
                | false => exact (hY 13 116 (by kernel_rfl) (by kernel_rfl)).elim
                | true =>
                  have y109 : vs 109 = .slice a4 I0.length k4 := hY 6 109 (by kernel_rfl) (by kernel_rfl)
                  have y110 : vs 110 = .slice am im.length cm := hY 7 110 (by kernel_rfl) (by kernel_rfl)
                  have y111 : vs 111 = .slice am im.length cm := hY 8 111 (by kernel_rfl) (by kernel_rfl)
                  have y117 : vs 117 = .slice a4 I0.length k4 := hY 14 117 (by kernel_rfl) (by kernel_rfl)
                  have y116 : OwnR encItem 5 42 w16.heap.size wx (vs 116) (im ++ [x]) := hY 13 116 (by kernel_rfl) (by kernel_rfl)
                  obtain ⟨ax, cx, e116⟩ := y116.form
                  rw [List.length_append, List.length_singleton] at e116
                  rw [e116] at y116
                  exact ⟨fl_want rfl, fun ρ hρ => ⟨_, _, ex_build (ps := #[(0, .slice a4 I0.length k4), (1, .slice am im.length cm), (2, .slice am im.length cm), (3, .slice ax (im.length + 1) cx), (4, .slice a4 I0.length k4)]) rfl (by simp [hρ, fl_in 303 HN.out, y109, y110, y111, e116, y117]) (run_five_lists wx a4 am am ax a4 _ _ _ _ _ _ _ _ _ _), hW.trans ((below_alloc _ _).mono hW.size), below_alloc _ _, ⟨_, ax, cx, rfl, hW.size, box_new _ _ _, y116.later (below_alloc _ _)⟩⟩⟩
              refine StepF.val (i := 16) (o := _) rfl (by decide) ?_ ?_
              · intro bb vs wx hbf hW hY
                exact ⟨fl_want rfl, fun ρ hρ => ⟨.slice a6 W0.length k6, wx, ex_move rfl (by rw [hρ, fl_out rfl, r2]), hW, Below.refl _ _, rfl⟩⟩
              refine StepF.val (i := 17) (o := _) rfl (by decide) ?_ ?_
              · intro bb vs wx hbf hW hY
                exact ⟨fl_want rfl, fun ρ hρ => ⟨.slice ac CL.length cc, wx, ex_move rfl (by rw [hρ, fl_out rfl, r22]), hW, Below.refl _ _, rfl⟩⟩
              refine StepF.val (i := 18) (o := _) rfl (by decide) ?_ ?_
              · intro bb vs wx hbf hW hY
                exact ⟨fl_want rfl, fun ρ hρ => ⟨.slice oa CL.length oc, wx, ex_move rfl (by rw [hρ, fl_out rfl, r26]), hW, Below.refl _ _, rfl⟩⟩
              refine StepF.val (i := 19) (o := _) rfl (by decide) ?_ ?_
              · intro bb vs wx hbf hW hY
                exact ⟨fl_want rfl, fun ρ hρ => ⟨.slice ac CL.length cc, wx, ex_move rfl (by rw [hρ, fl_out rfl, r22]), hW, Below.refl _ _, rfl⟩⟩
              refine StepF.val (i := 20) (o := _) rfl (by decide) ?_ ?_
              · intro bb vs wx hbf hW hY
                exact ⟨fl_want rfl, fun ρ hρ => ⟨.slice a6 W0.length k6, wx, ex_move rfl (by rw [hρ, fl_out rfl, r2]), hW, Below.refl _ _, rfl⟩⟩
              refine StepF.val (i := 21) (o := _) rfl (by decide) ?_ ?_
              · intro bb vs wx hbf hW hY
                have y119 : vs 119 = .slice a6 W0.length k6 := hY 16 119 (by kernel_rfl) (by kernel_rfl)
                have y120 : vs 120 = .slice ac CL.length cc := hY 17 120 (by kernel_rfl) (by kernel_rfl)
                have y121 : vs 121 = .slice oa CL.length oc := hY 18 121 (by kernel_rfl) (by kernel_rfl)
                have y122 : vs 122 = .slice ac CL.length cc := hY 19 122 (by kernel_rfl) (by kernel_rfl)
                have y123 : vs 123 = .slice a6 W0.length k6 := hY 20 123 (by kernel_rfl) (by kernel_rfl)
                exact ⟨fl_want rfl, fun ρ hρ => ⟨_, _, ex_build (ps := #[(0, .slice a6 W0.length k6), (1, .slice ac CL.length cc), (2, .slice oa CL.length oc), (3, .slice ac CL.length cc), (4, .slice a6 W0.length k6)]) rfl (by simp [hρ, fl_in 303 HN.out, y119, y120, y121, y122, y123]) (run_five_ints wx a6 ac oa ac a6 _ _ _ _ _ _ _ _ _ _), hW.trans ((below_alloc _ _).mono hW.size), below_alloc _ _, ⟨_, rfl, hW.size, box_new _ _ _⟩⟩⟩
              refine StepF.val (i := 22) (o := _) rfl (by decide) ?_ ?_
              · intro bb vs wx hbf hW hY
                have y108 : ∃ b, vs 108 = .slice (some ⟨b, 0, none⟩) 5 5 ∧ w16.heap.size ≤ b ∧ wx.heap[b]? = some (.cells #[E0, E1, E2, E3, .slice ap p.persons.length cp, .slice aw p.walk.length cw, .slice ad p.dress.length cd, .slice aq p.parts.length cq, .slice ap p.persons.length cp, .slice aw p.walk.length cw, .slice ad p.dress.length cd, .slice aq p.parts.length cq, .slice ap p.persons.length cp, .slice aw p.walk.length cw, .slice ad p.dress.length cd, .slice aq p.parts.length cq, .slice ap p.persons.length cp, .slice aw p.walk.length cw, .slice ad p.dress.length cd, .slice aq p.parts.length cq] 29 (0, 0)) := hY 5 108 (by kernel_rfl) (by kernel_rfl)
                exact ⟨fl_want rfl, fun ρ hρ => ⟨vs 108, wx, ex_assign rfl (by rw [hρ, fl_in 303 HN.out rfl]), hW, Below.refl _ _, y108⟩⟩
              refine StepF.val (i := 23) (o := _) rfl (by decide) ?_ ?_
              · intro bb vs wx hbf hW hY
                cases bb with
                | false => exact (hY 15 118 (by kernel_rfl) (by kernel_rfl)).elim
                | true =>
                  have y118 : ∃ (b : Nat) (ax : Option Addr) (cx : Nat), vs 118 = .slice (some ⟨b, 0, none⟩) 5 5 ∧ w16.heap.size ≤ b ∧ wx.heap[b]? = some (.cells #[.slice a4 I0.length k4, .slice am im.length cm, .slice am im.length cm, .slice ax (im.length + 1) cx, .slice a4 I0.length k4] 31 (0, 0)) ∧ OwnR encItem 5 42 w16.heap.size wx (.slice ax (im.length + 1) cx) (im ++ [x]) := hY 15 118 (by kernel_rfl) (by kernel_rfl)
                  exact ⟨fl_want rfl, fun ρ hρ => ⟨vs 118, wx, ex_assign rfl (by rw [hρ, fl_in 303 HN.out rfl]), hW, Below.refl _ _, y118⟩⟩
              refine StepF.val (i := 24) (o := _) rfl (by decide) ?_ ?_
              · intro bb vs wx hbf hW hY
                have y124 : ∃ b, vs 124 = .slice (some ⟨b, 0, none⟩) 5 5 ∧ w16.heap.size ≤ b ∧ wx.heap[b]? = some (.cells #[.slice a6 W0.length k6, .slice ac CL.length cc, .slice oa CL.length oc, .slice ac CL.length cc, .slice a6 W0.length k6] 22 (0, 0)) := hY 21 124 (by kernel_rfl) (by kernel_rfl)
                exact ⟨fl_want rfl, fun ρ hρ => ⟨vs 124, wx, ex_assign rfl (by rw [hρ, fl_in 303 HN.out rfl]), hW, Below.refl _ _, y124⟩⟩
              exact StepF.nil
            · intro vs wx hW hY
              have y27 : ∃ b, vs 27 = .slice (some ⟨b, 0, none⟩) 5 5 ∧ w16.heap.size ≤ b ∧ wx.heap[b]? = some (.cells #[E0, E1, E2, E3, .slice ap p.persons.length cp, .slice aw p.walk.length cw, .slice ad p.dress.length cd, .slice aq p.parts.length cq, .slice ap p.persons.length cp, .slice aw p.walk.length cw, .slice ad p.dress.length cd, .slice aq p.parts.length cq, .slice ap p.persons.length cp, .slice aw p.walk.length cw, .slice ad p.dress.length cd, .slice aq p.parts.length cq, .slice ap p.persons.length cp, .slice aw p.walk.length cw, .slice ad p.dress.length cd, .slice aq p.parts.length cq] 29 (0, 0)) := hY 22 27 (by kernel_rfl)
              have y28 : ∃ (b : Nat) (ax : Option Addr) (cx : Nat), vs 28 = .slice (some ⟨b, 0, none⟩) 5 5 ∧ w16.heap.size ≤ b ∧ wx.heap[b]? = some (.cells #[.slice a4 I0.length k4, .slice am im.length cm, .slice am im.length cm, .slice ax (im.length + 1) cx, .slice a4 I0.length k4] 31 (0, 0)) ∧ OwnR encItem 5 42 w16.heap.size wx (.slice ax (im.length + 1) cx) (im ++ [x]) := hY 23 28 (by kernel_rfl)
              have y29 : ∃ b, vs 29 = .slice (some ⟨b, 0, none⟩) 5 5 ∧ w16.heap.size ≤ b ∧ wx.heap[b]? = some (.cells #[.slice a6 W0.length k6, .slice ac CL.length cc, .slice oa CL.length oc, .slice ac CL.length cc, .slice a6 W0.length k6] 22 (0, 0)) := hY 24 29 (by kernel_rfl)
              have Y27 := hid y27
              have Y28 := hid y28
              have Y29 := hid y29
              have HWx := hid hW
              clear hW hY y27 y28 y29 r1 r2 r9 r14 r20 r21 r22 r26 HN
              rw [HA.out]
              simp only [putAll, Act.put, List.setIfInBounds_toArray, List.set_cons_zero, List.set_cons_succ]
              clear HA
              go_wp2_with fail
              go_meet
              exact ⟨Y27.out, Y28.out, Y29.out, HWx.out⟩
          case rest =>
            obtain ⟨⟨b27, rfl, hb27, h27⟩, ⟨b28, ax, cx, rfl, hb28, h28, hax⟩, ⟨b29, rfl, hb29, h29⟩, hbw⟩ := hcut
            obtain ⟨w17, rfl⟩ : ∃ w17 : World, w17 = wc := ⟨_, rfl⟩
            have HBt := hid (H15.out w17 hbw).lf.beat
            have H17 := hid (fun W' (hb : Beat D W') (hg : w17.grownBy W' (some D)) => (H15.out w17 hbw).go hb hg)
            have y0 := (H15.out w17 hbw).lf.c0
            have HM17 := hid (show ItemsAt (some D) w17 _ im from RecAt.kept HM.out (gb_below hbw (some D)))
            have HO17 := hid (HO.out.later hbw)
            have HOo17 := hid (HOo.out.later hbw)
            have hD17 : D < w17.heap.size := Nat.lt_of_lt_of_le hDS hbw.size
            have H27 := hid h27
            have H28 := hid h28
            have H29 := hid h29
            have HAx := hid hax
            clear h27 h28 h29 hax hbw HO HOo HM H15 HD
            go_upto_region 16 with fail
            go_cut [30, 31] from 125 to 143 (fun s30 s31 wx => ∃ (b30 b31 : Nat) (r1 r2 : Int), s30 = .slice (some ⟨b30, 0, none⟩) 5 5 ∧ s31 = .slice (some ⟨b31, 0, none⟩) 5 5 ∧ (∀ k, k < 5 → wx.cell? ⟨b30, k, none⟩ = some (.int .i64 (nm [person, r1, person, person, person] k))) ∧ (∀ k, k < 5 → wx.cell? ⟨b31, k, none⟩ = some (.int .i64 (nm [item, r2, item, item, item] k))) ∧ w17.grownBy wx (some D) ∧ Beat D wx)
            case first =>
              as_aux_lemma =>
              go_wp2_with (first
                | (refine wpList_five_int rfl _ _ _ _ _ _ _ _ _ _ rfl rfl rfl rfl rfl rfl ?_)
                | (go_at_call 16; (with_reducible refine (roll_any D (p.persons.length : Int) _ HBt.out (by omega)).mono ?_); rintro e w18 ⟨r1, rfl, _, _, hbt, hg⟩; have HG1 := hid hg; have HBt1 := hid hbt; clear hbt hg y0)
                | (go_at_call 16; (with_reducible refine (roll_any D (im.length : Int) _ (HBt1.out.gb (below_alloc _ _)) (by omega)).mono ?_); rintro e w19 ⟨r2, rfl, _, _, hbt, hg⟩; have HG2 := hid hg; have HBt2 := hid hbt; clear hbt hg))
              go_meet
              have hne : w18.heap.size ≠ D := by have := HG1.out.size; omega
              exact ⟨_, _, r1, r2, rfl, rfl, (fun k hk => by rcases (by omega : k = 0 ∨ k = 1 ∨ k = 2 ∨ k = 3 ∨ k = 4) with rfl | rfl | rfl | rfl | rfl <;> exact cell_up (cell_gb HG2.out hne (cell_at rfl rfl))), (fun k hk => by rcases (by omega : k = 0 ∨ k = 1 ∨ k = 2 ∨ k = 3 ∨ k = 4) with rfl | rfl | rfl | rfl | rfl <;> exact cell_at rfl rfl), gb_trans (gb_trans (gb_trans HG1.out (gb_below (below_alloc _ _) _)) HG2.out) (gb_below (below_alloc _ _) _), HBt2.out.gb (below_alloc _ _)⟩
            case rest =>
              obtain ⟨b30, b31, r1, r2, rfl, rfl, h30, h31, hg, hbt⟩ := hcut
              obtain ⟨w20, rfl⟩ : ∃ w20 : World, w20 = wc := ⟨_, rfl⟩
              have L := H17.out w20 hbt hg
              have hh : ∀ (bb : Nat) (cs : Array Value) (t : TypeId), w16.heap.size ≤ bb → w17.heap[bb]? = some (.cells cs t (0, 0)) → w20.heap[bb]? = some (.cells cs t (0, 0)) := fun bb cs t h1 h2 => (hg.block bb (Array.getElem?_eq_some_iff.1 h2).1 (by intro e; have := Option.some.inj e; omega)).trans h2
              have HPs := hid (show ∀ i, i < 5 → ∃ (ua ub uc ue ui uw : Value) (Q : Plot) (I : List Item) (WW : List Int) (z30 z31 : Int), PlotS none w20 ua ub uc ue Q ∧ PlotN Q ∧ ItemsAt none w20 ui I ∧ Sound0 ui ∧ I.length ≤ 1000 ∧ IntsAt none w20 uw WW ∧ Sound0 uw ∧ WW.length ≤ 1000 ∧
                  w20.cell? ⟨b27, i * 4, none⟩ = some ua ∧ w20.cell? ⟨b27, i * 4 + 1, none⟩ = some ub ∧ w20.cell? ⟨b27, i * 4 + 2, none⟩ = some uc ∧ w20.cell? ⟨b27, i * 4 + 3, none⟩ = some ue ∧ w20.cell? ⟨b28, i, none⟩ = some ui ∧ w20.cell? ⟨b29, i, none⟩ = some uw ∧ w20.cell? ⟨b30, i, none⟩ = some (.int .i64 z30) ∧ w20.cell? ⟨b31, i, none⟩ = some (.int .i64 z31) from fun i hi => by
                have hmade := (PlotS.ofValid L.lf.plot Vd.out L.sd).anyH
                have harg := L.arg.anyH
                have c27 := hh _ _ _ hb27 H27.out
                have c28 := hh _ _ _ hb28 H28.out
                have c29 := hh _ _ _ hb29 H29.out
                have d30 := h30 i hi
                have d31 := h31 i hi
                have q0 := RecAt.any L.its
                have q1 := RecAt.any (RecAt.kept HM17.out hg)
                have q2 : ItemsAt none w20 (.slice ax (im.length + 1) cx) (im ++ [x]) := by
                  have h5 := (HAx.out.go hDS hg).items (d := none) (by simp)
                  exact h5
                have q3 := IntsAt.anyI L.wer
                have q4 := OwnInts.at (d := none) (own_int.1 (HO17.out.go hbase hg)) (by simp)
                have q5 := OwnInts.at (d := none) (own_int.1 (HOo17.out.go hD11 hg)) (by simp)
                have lx : (im ++ [x]).length ≤ 1000 := by simp; omega
                have lc : CL.length ≤ 1000 := by omega
                have lo : OL.length ≤ 1000 := by have := HOn.out; omega
                have li : im.length ≤ 1000 := by omega
                have l0 : I0.length ≤ 1000 := by omega
                have lw : W0.length ≤ 1000 := by omega
                rcases (by omega : i = 0 ∨ i = 1 ∨ i = 2 ∨ i = 3 ∨ i = 4) with rfl | rfl | rfl | rfl | rfl
                · exact ⟨_, _, _, _, _, _, _, _, _, _, _, harg, HN0.out, q0, HSi.out, l0, q3, HSr.out, lw, heap_cell c27 rfl, heap_cell c27 rfl, heap_cell c27 rfl, heap_cell c27 rfl, heap_cell c28 rfl, heap_cell c29 rfl, d30, d31⟩
                · exact ⟨_, _, _, _, _, _, _, _, _, _, _, hmade, PlotN.ofValid Vd.out, q1, HSm.out, li, q4, HO17.out.sound, lc, heap_cell c27 rfl, heap_cell c27 rfl, heap_cell c27 rfl, heap_cell c27 rfl, heap_cell c28 rfl, heap_cell c29 rfl, d30, d31⟩
                · exact ⟨_, _, _, _, _, _, _, _, _, _, _, hmade, PlotN.ofValid Vd.out, q1, HSm.out, li, q5, HOo17.out.sound, lo, heap_cell c27 rfl, heap_cell c27 rfl, heap_cell c27 rfl, heap_cell c27 rfl, heap_cell c28 rfl, heap_cell c29 rfl, d30, d31⟩
                · exact ⟨_, _, _, _, _, _, _, _, _, _, _, hmade, PlotN.ofValid Vd.out, q2, HAx.out.sound, lx, q4, HO17.out.sound, lc, heap_cell c27 rfl, heap_cell c27 rfl, heap_cell c27 rfl, heap_cell c27 rfl, heap_cell c28 rfl, heap_cell c29 rfl, d30, d31⟩
                · exact ⟨_, _, _, _, _, _, _, _, _, _, _, hmade, PlotN.ofValid Vd.out, q0, HSi.out, l0, q3, HSr.out, lw, heap_cell c27 rfl, heap_cell c27 rfl, heap_cell c27 rfl, heap_cell c27 rfl, heap_cell c28 rfl, heap_cell c29 rfl, d30, d31⟩)
              have HBw := hid L.lf.below
              clear h30 h31 hg hbt L hh HBt H17 HM17 HO17 HOo17 H27 H28 H29 HAx hb27 hb28 hb29
              go_wp2_with fail
              go_loopw [32] (fun i wr => ∃ k : Nat, k ≤ 5 ∧ i = .int .i64 k ∧ Below w20.heap.size w20 wr) (fun i _ => 5 - (intOf i).toNat)
              case atStart => exact ⟨0, by omega, rfl, Below.refl _ _⟩
              case round =>
                as_aux_lemma =>
                obtain ⟨k, hk, rfl, hb⟩ := hrel
                obtain ⟨wo, rfl⟩ : ∃ wo : World, wo = wr := ⟨_, rfl⟩
                have HB := hid hb
                clear hb
                by_cases hlt : k < 5
                rotate_left
                · obtain rfl : k = 5 := by omega
                  go_wp2_with (go_at_call 19; refine (AW.out _).mono ?_; rintro e wz ⟨rfl, hbz⟩)
                  go_ret
                  exact ⟨rfl, HBw.out.trans ((HB.out.trans (hbz.mono HB.out.size)).mono HBw.out.size)⟩
                obtain ⟨ua, ub, uc, ue, ui, uw, Q, I, WW, z30, z31, hPS, hQN, hIs, hsI, hIl, hWs, hsW, hWl, d0, d1, d2, d3, d4, d5, d6, d7⟩ := HPs.out k hlt
                have HP := hid (hPS.below HB.out)
                have HI := hid (RecAt.below hIs HB.out)
                have HW5 := hid (hWs.below HB.out)
                have HQN := hid hQN
                have HIs := hid hsI
                have HWs := hid hsW
                obtain ⟨qa, ka, rfl⟩ := hPS.persons.1.form
                obtain ⟨qb, kb, rfl⟩ := hPS.walk.form
                obtain ⟨qc, kc, ed, _⟩ := hPS.dress.1
                subst ed
                obtain ⟨qe, ke, rfl⟩ := hPS.parts.1.form
                obtain ⟨qi, ki, rfl⟩ := ItemsAt.form hIs
                obtain ⟨qw, kw, ew, _⟩ := hWs
                subst ew
                have i1 : (k : Int) < 5 := by omega
                have z1 : IntKind.i64.wrap ((k : Int) + 1) = (k : Int) + 1 := IntWalk.i64_in _ (by omega)
                have HD5 := hid (fun W' (hb : Below wo.heap.size wo W') => (⟨cell_now hb (cell_now HB.out d0), cell_now hb (cell_now HB.out d1), cell_now hb (cell_now HB.out d2), cell_now hb (cell_now HB.out d3), cell_now hb (cell_now HB.out d4), cell_now hb (cell_now HB.out d5), cell_now hb (cell_now HB.out d6), cell_now hb (cell_now HB.out d7)⟩ : W'.cell? ⟨b27, k * 4, none⟩ = some (.slice qa Q.persons.length ka) ∧ W'.cell? ⟨b27, k * 4 + 1, none⟩ = some (.slice qb Q.walk.length kb) ∧ W'.cell? ⟨b27, k * 4 + 2, none⟩ = some (.slice qc Q.dress.length kc) ∧ W'.cell? ⟨b27, k * 4 + 3, none⟩ = some (.slice qe Q.parts.length ke) ∧ W'.cell? ⟨b28, k, none⟩ = some (.slice qi I.length ki) ∧ W'.cell? ⟨b29, k, none⟩ = some (.slice qw WW.length kw) ∧ W'.cell? ⟨b30, k, none⟩ = some (.int .i64 z30) ∧ W'.cell? ⟨b31, k, none⟩ = some (.int .i64 z31)))
                clear hPS hQN hIs hsI hsW d0 d1 d2 d3 d4 d5 d6 d7 HPs
                go_upto_region 20 with fail
                refine wp_named ?_
                intro ac0 hac0
                have HN := hid (show ac0.tmps.size = 303 from by rw [hac0]; rfl)
                have r27 : ac0.eval (.tmp 27) = .slice (some ⟨b27, 0, none⟩) 5 5 := by rw [hac0]; rfl
                have r28 : ac0.eval (.tmp 28) = .slice (some ⟨b28, 0, none⟩) 5 5 := by rw [hac0]; rfl
                have r29 : ac0.eval (.tmp 29) = .slice (some ⟨b29, 0, none⟩) 5 5 := by rw [hac0]; rfl
                have r32 : ac0.eval (.tmp 32) = .int .i64 k := by rw [hac0]; rfl
                have HA := hid hac0
                clear hac0
                refine wp_region_flow_tail 16 (by kernel_rfl) (by kernel_rfl) [150, 151, 152, 153, 154, 155, 156, 157, 158, 159, 160, 161, 162, 163, 164, 33] 100
                  (fun _ w' => Below wo.heap.size wo w') (fun a b => Below a.heap.size a b) (fun _ _ => False)
                  (fun _ ix v w' => match ix with
                    | 0 => v = .slice (some ⟨b27, 0, none⟩) 5 5
                    | 1 => v = .int .i64 k
                    | 2 => v = .pointer (some ⟨b27, k * 4, none⟩)
                    | 3 => v = .agg #[.slice qa Q.persons.length ka, .slice qb Q.walk.length kb, .slice qc Q.dress.length kc, .slice qe Q.parts.length ke]
                    | 4 => ∃ vp' vw' vd' vq', v = plotV vp' vw' vd' vq' ∧ OwnP wo.heap.size w' vp' vw' vd' vq' Q
                    | 5 => v = .slice (some ⟨b28, 0, none⟩) 5 5
                    | 6 => v = .int .i64 k
                    | 7 => v = .pointer (some ⟨b28, k, none⟩)
                    | 8 => v = .slice qi I.length ki
                    | 9 => OwnR encItem 5 42 wo.heap.size w' v I
                    | 10 => v = .slice (some ⟨b29, 0, none⟩) 5 5
                    | 11 => v = .int .i64 k
                    | 12 => v = .pointer (some ⟨b29, k, none⟩)
                    | 13 => v = .slice qw WW.length kw
                    | 14 => OwnR encInt 1 3 wo.heap.size w' v WW
                    | 15 => ∃ Z, v = .pointer (some ⟨Z, 0, none⟩) ∧ wo.heap.size ≤ Z ∧ Z < w'.heap.size ∧ w'.heap[Z]? = some (.cells #[.slice none 0 0, .slice none 0 0, .slice none 0 0, .slice none 0 0] 29 (0, 0)) ∧ (∀ o, o < 4 → w'.cell? ⟨Z, o, none⟩ = some (.slice none 0 0)) ∧ ∀ o, w'.frozen? ⟨Z, o, none⟩ = false
                    | _ => True)
                  [0, 1, 2, 3, 4, 5, 6, 7, 8, 9, 10, 11, 12, 13, 14, 15] (by kernel_rfl) (by kernel_rfl) rfl ?_ ?_ ?_ ?_ ?_
                · intro bt ix v w2 w3 hW hg hy
                  match ix with
                  | 0 => exact hy
                  | 1 => exact hy
                  | 2 => exact hy
                  | 3 => exact hy
                  | 4 => obtain ⟨x1, x2, x3, x4, h1, h2⟩ := hy; exact ⟨x1, x2, x3, x4, h1, h2.later hg⟩
                  | 5 => exact hy
                  | 6 => exact hy
                  | 7 => exact hy
                  | 8 => exact hy
                  | 9 => exact OwnR.later hy hg
                  | 10 => exact hy
                  | 11 => exact hy
                  | 12 => exact hy
                  | 13 => exact hy
                  | 14 => exact OwnR.later hy hg
                  | 15 => obtain ⟨Z, h1, h2, h3, h4, h5, h6⟩ := hy; exact ⟨Z, h1, h2, Nat.lt_of_lt_of_le h3 hg.size, (hg.block Z h3).trans h4, fun o ho => cell_back hg h3 (h5 o ho), fun o => (hg.frozen (p := ⟨Z, o, none⟩) h3).trans (h6 o)⟩
                  | n + 16 => exact trivial
                · intro ix v w2 w3 _ h; exact h.elim
                · exact (Below.refl _ _).drew
                · skip
                  refine StepF.val (i := 0) (o := _) rfl (by decide) ?_ ?_
                  · intro bb vs wx _ hW hY
                    exact ⟨fl_want rfl, fun ρ hρ => ⟨.slice (some ⟨b27, 0, none⟩) 5 5, wx, ex_move rfl (by rw [hρ, fl_out rfl, r27]), hW, Below.refl _ _, rfl⟩⟩
                  refine StepF.val (i := 1) (o := _) rfl (by decide) ?_ ?_
                  · intro bb vs wx _ hW hY
                    exact ⟨fl_want rfl, fun ρ hρ => ⟨.int .i64 k, wx, ex_move rfl (by rw [hρ, fl_out rfl, r32]), hW, Below.refl _ _, rfl⟩⟩
                  refine StepF.val (i := 2) (o := _) rfl (by decide) ?_ ?_
                  · intro bb vs wx _ hW hY
                    have y150 : vs 150 = .slice (some ⟨b27, 0, none⟩) 5 5 := hY 0 150 (by kernel_rfl) (by kernel_rfl)
                    have y151 : vs 151 = .int .i64 k := hY 1 151 (by kernel_rfl) (by kernel_rfl)
                    refine ⟨fl_want rfl, fun ρ hρ => ⟨.pointer (some ⟨b27, k * 4, none⟩), wx, ?_, hW, Below.refl _ _, rfl⟩⟩
                    have ra : ρ (.tmp 150) = .slice (some ⟨b27, 0, none⟩) 5 5 := by rw [hρ, fl_in 303 HN.out rfl, y150]
                    have rb : ρ (.tmp 151) = .int .i64 k := by rw [hρ, fl_in 303 HN.out rfl, y151]
                    clear hρ
                    simp [execOp, go_sem, ra, rb, i1]
                  refine StepF.val (i := 3) (o := _) rfl (by decide) ?_ ?_
                  · intro bb vs wx _ hW hY
                    have yp : vs 152 = .pointer (some ⟨b27, k * 4, none⟩) := hY 2 152 (by kernel_rfl) (by kernel_rfl)
                    refine ⟨fl_want rfl, fun ρ hρ => ⟨.agg #[.slice qa Q.persons.length ka, .slice qb Q.walk.length kb, .slice qc Q.dress.length kc, .slice qe Q.parts.length ke], wx, ?_, hW, Below.refl _ _, rfl⟩⟩
                    have rp : ρ (.tmp 152) = .pointer (some ⟨b27, k * 4, none⟩) := by rw [hρ, fl_in 303 HN.out rfl, yp]
                    obtain ⟨q0, q1, q2, q3, _⟩ := HD5.out _ hW
                    clear hρ
                    simp [execOp, go_sem, rp, q0, q1, q2, q3]
                  refine StepF.call (i := 4) (o := _) rfl (by decide) ?_ ?_
                  · intro bb vs wx _ hW hY
                    have yp : vs 153 = .agg #[.slice qa Q.persons.length ka, .slice qb Q.walk.length kb, .slice qc Q.dress.length kc, .slice qe Q.parts.length ke] := hY 3 153 (by kernel_rfl) (by kernel_rfl)
                    refine ⟨fl_want rfl, fun ρ hρ => ⟨21, _, ex_call (vs := #[.agg #[.slice qa Q.persons.length ka, .slice qb Q.walk.length kb, .slice qc Q.dress.length kc, .slice qe Q.parts.length ke]]) rfl (by rw [hρ]; rfl) (by simp [hρ, fl_in 303 HN.out, yp]) Try.func21 (by kernel_rfl) rfl, ?_⟩⟩
                    refine (ownPlot_any Q _ _ _ _ none wx (HP.out.below hW) HQN.out).mono ?_
                    rintro e w' ⟨vp', vw', vd', vq', rfl, hown, hb5⟩
                    exact ⟨_, rfl, hW.trans (hb5.mono hW.size), hb5, ⟨vp', vw', vd', vq', rfl, hown.base hW.size⟩⟩
                  refine StepF.val (i := 5) (o := _) rfl (by decide) ?_ ?_
                  · intro bb vs wx _ hW hY
                    exact ⟨fl_want rfl, fun ρ hρ => ⟨.slice (some ⟨b28, 0, none⟩) 5 5, wx, ex_move rfl (by rw [hρ, fl_out rfl, r28]), hW, Below.refl _ _, rfl⟩⟩
                  refine StepF.val (i := 6) (o := _) rfl (by decide) ?_ ?_
                  · intro bb vs wx _ hW hY
                    exact ⟨fl_want rfl, fun ρ hρ => ⟨.int .i64 k, wx, ex_move rfl (by rw [hρ, fl_out rfl, r32]), hW, Below.refl _ _, rfl⟩⟩
                  refine StepF.val (i := 7) (o := _) rfl (by decide) ?_ ?_
                  · intro bb vs wx _ hW hY
                    have y155 : vs 155 = .slice (some ⟨b28, 0, none⟩) 5 5 := hY 5 155 (by kernel_rfl) (by kernel_rfl)
                    have y156 : vs 156 = .int .i64 k := hY 6 156 (by kernel_rfl) (by kernel_rfl)
                    refine ⟨fl_want rfl, fun ρ hρ => ⟨.pointer (some ⟨b28, k, none⟩), wx, ?_, hW, Below.refl _ _, rfl⟩⟩
                    have ra : ρ (.tmp 155) = .slice (some ⟨b28, 0, none⟩) 5 5 := by rw [hρ, fl_in 303 HN.out rfl, y155]
                    have rb : ρ (.tmp 156) = .int .i64 k := by rw [hρ, fl_in 303 HN.out rfl, y156]
                    clear hρ
                    simp [execOp, go_sem, ra, rb, i1]
                  refine StepF.val (i := 8) (o := _) rfl (by decide) ?_ ?_
                  · intro bb vs wx _ hW hY
                    have yp : vs 157 = .pointer (some ⟨b28, k, none⟩) := hY 7 157 (by kernel_rfl) (by kernel_rfl)
                    refine ⟨fl_want rfl, fun ρ hρ => ⟨.slice qi I.length ki, wx, ?_, hW, Below.refl _ _, rfl⟩⟩
                    have rp : ρ (.tmp 157) = .pointer (some ⟨b28, k, none⟩) := by rw [hρ, fl_in 303 HN.out rfl, yp]
                    obtain ⟨_, _, _, _, q0, _⟩ := HD5.out _ hW
                    clear hρ
                    simp [execOp, go_sem, rp, q0]
                  refine StepF.call (i := 9) (o := _) rfl (by decide) ?_ ?_
                  · intro bb vs wx _ hW hY
                    have yp : vs 158 = .slice qi I.length ki := hY 8 158 (by kernel_rfl) (by kernel_rfl)
                    refine ⟨fl_want rfl, fun ρ hρ => ⟨37, _, ex_call (vs := #[.slice qi I.length ki]) rfl (by rw [hρ]; rfl) (by simp [hρ, fl_in 303 HN.out, yp]) Try.func37 (by kernel_rfl) rfl, ?_⟩⟩
                    refine (ownItems_any I _ none wx (RecAt.below HI.out hW) HIs.out (by omega)).mono ?_
                    rintro e w' ⟨v', rfl, hown, hb5⟩
                    exact ⟨_, rfl, hW.trans (hb5.mono hW.size), hb5, hown.base' hW.size⟩
                  refine StepF.val (i := 10) (o := _) rfl (by decide) ?_ ?_
                  · intro bb vs wx _ hW hY
                    exact ⟨fl_want rfl, fun ρ hρ => ⟨.slice (some ⟨b29, 0, none⟩) 5 5, wx, ex_move rfl (by rw [hρ, fl_out rfl, r29]), hW, Below.refl _ _, rfl⟩⟩
                  refine StepF.val (i := 11) (o := _) rfl (by decide) ?_ ?_
                  · intro bb vs wx _ hW hY
                    exact ⟨fl_want rfl, fun ρ hρ => ⟨.int .i64 k, wx, ex_move rfl (by rw [hρ, fl_out rfl, r32]), hW, Below.refl _ _, rfl⟩⟩
                  refine StepF.val (i := 12) (o := _) rfl (by decide) ?_ ?_
                  · intro bb vs wx _ hW hY
                    have y160 : vs 160 = .slice (some ⟨b29, 0, none⟩) 5 5 := hY 10 160 (by kernel_rfl) (by kernel_rfl)
                    have y161 : vs 161 = .int .i64 k := hY 11 161 (by kernel_rfl) (by kernel_rfl)
                    refine ⟨fl_want rfl, fun ρ hρ => ⟨.pointer (some ⟨b29, k, none⟩), wx, ?_, hW, Below.refl _ _, rfl⟩⟩
                    have ra : ρ (.tmp 160) = .slice (some ⟨b29, 0, none⟩) 5 5 := by rw [hρ, fl_in 303 HN.out rfl, y160]
                    have rb : ρ (.tmp 161) = .int .i64 k := by rw [hρ, fl_in 303 HN.out rfl, y161]
                    clear hρ
                    simp [execOp, go_sem, ra, rb, i1]
                  refine StepF.val (i := 13) (o := _) rfl (by decide) ?_ ?_
                  · intro bb vs wx _ hW hY
                    have yp : vs 162 = .pointer (some ⟨b29, k, none⟩) := hY 12 162 (by kernel_rfl) (by kernel_rfl)
                    refine ⟨fl_want rfl, fun ρ hρ => ⟨.slice qw WW.length kw, wx, ?_, hW, Below.refl _ _, rfl⟩⟩
                    have rp : ρ (.tmp 162) = .pointer (some ⟨b29, k, none⟩) := by rw [hρ, fl_in 303 HN.out rfl, yp]
                    obtain ⟨_, _, _, _, _, q0, _⟩ := HD5.out _ hW
                    clear hρ
                    simp [execOp, go_sem, rp, q0]
                  refine StepF.call (i := 14) (o := _) rfl (by decide) ?_ ?_
                  · intro bb vs wx _ hW hY
                    have yp : vs 163 = .slice qw WW.length kw := hY 13 163 (by kernel_rfl) (by kernel_rfl)
                    refine ⟨fl_want rfl, fun ρ hρ => ⟨34, _, ex_call (vs := #[.slice qw WW.length kw]) rfl (by rw [hρ]; rfl) (by simp [hρ, fl_in 303 HN.out, yp]) Try.func34 (by kernel_rfl) rfl, ?_⟩⟩
                    refine (copyInts_any WW _ none wx (HW5.out.below hW) HWs.out (by omega)).mono ?_
                    rintro e w' ⟨v', rfl, hown, hb5⟩
                    exact ⟨_, rfl, hW.trans (hb5.mono hW.size), hb5, (own_int.2 hown).base' hW.size⟩
                  refine StepF.val (i := 15) (o := _) rfl (by decide) ?_ ?_
                  · intro bb vs wx _ hW hY
                    refine ⟨fl_want rfl, fun ρ hρ => ⟨.pointer (some ⟨wx.heap.size, 0, none⟩), wx.alloc (.cells #[.slice none 0 0, .slice none 0 0, .slice none 0 0, .slice none 0 0] 29), ?_, hW.trans ((below_alloc _ _).mono hW.size), below_alloc _ _, ⟨_, rfl, hW.size, by simp, box_new _ _ _, fun o ho => by rcases (by omega : o = 0 ∨ o = 1 ∨ o = 2 ∨ o = 3) with rfl | rfl | rfl | rfl <;> exact cell_at rfl rfl, fun o => frozen_at rfl⟩⟩⟩
                    clear hρ
                    simp [execOp, go_sem]
                  exact StepF.nil
                · intro vs wx hW hY
                  have y154 : ∃ vp' vw' vd' vq', vs 154 = plotV vp' vw' vd' vq' ∧ OwnP wo.heap.size wx vp' vw' vd' vq' Q := hY 4 154 (by kernel_rfl)
                  have y159 : OwnR encItem 5 42 wo.heap.size wx (vs 159) I := hY 9 159 (by kernel_rfl)
                  have y164 : OwnR encInt 1 3 wo.heap.size wx (vs 164) WW := hY 14 164 (by kernel_rfl)
                  have y33 : ∃ Z, vs 33 = .pointer (some ⟨Z, 0, none⟩) ∧ wo.heap.size ≤ Z ∧ Z < wx.heap.size ∧ wx.heap[Z]? = some (.cells #[.slice none 0 0, .slice none 0 0, .slice none 0 0, .slice none 0 0] 29 (0, 0)) ∧ (∀ o, o < 4 → wx.cell? ⟨Z, o, none⟩ = some (.slice none 0 0)) ∧ ∀ o, wx.frozen? ⟨Z, o, none⟩ = false := hY 15 33 (by kernel_rfl)
                  obtain ⟨vp', vw', vd', vq', e154, hown⟩ := y154
                  obtain ⟨Y, e33, hZ1, hZ2, hZ3, hZ4, hZ5⟩ := y33
                  obtain ⟨ia, ja, e159⟩ := y159.form
                  obtain ⟨ga, gc, e164⟩ := y164.form
                  obtain ⟨pa, xa, rfl⟩ := hown.persons.form
                  obtain ⟨pb, xb, rfl⟩ := hown.wform
                  obtain ⟨pc, xc, rfl⟩ := hown.dress.form
                  obtain ⟨pe, xe, rfl⟩ := hown.parts.form
                  rw [e159] at y159
                  rw [e164] at y164
                  have HWx := hid (show Below wo.heap.size wo wx from hW)
                  clear hW hY r27 r28 r29 r32 HN
                  rw [HA.out]
                  simp only [putAll, Act.put, List.setIfInBounds_toArray, List.set_cons_zero, List.set_cons_succ, List.drop_succ_cons, List.drop_zero]
                  rw [e154, e33, e159, e164]
                  clear e154 e33 e159 e164 HA
                  have z0 := hZ4 0 (by decide)
                  have z1' := hZ4 1 (by decide)
                  have z2 := hZ4 2 (by decide)
                  have z3 := hZ4 3 (by decide)
                  have f0 := hZ5 0
                  have f1 := hZ5 1
                  have f2 := hZ5 2
                  have f3 := hZ5 3
                  obtain ⟨l0, l1, l2, l3⟩ := put4_cells (R := Y) (w := wx) (a := .slice pa Q.persons.length xa) (b := .slice pb Q.walk.length xb) (c := .slice pc Q.dress.length xc) (d := .slice pe Q.parts.length xe) z0 z1' z2 z3
                  have hgQ : wx.grownBy ((((wx.setCell ⟨Y, 0, none⟩ (.slice pa Q.persons.length xa)).setCell ⟨Y, 1, none⟩ (.slice pb Q.walk.length xb)).setCell ⟨Y, 2, none⟩ (.slice pc Q.dress.length xc)).setCell ⟨Y, 3, none⟩ (.slice pe Q.parts.length xe)) (some Y) := gb_trans (gb_trans (gb_trans (gb_put _ _ _ _) (gb_put _ _ _ _)) (gb_put _ _ _ _)) (gb_put _ _ _ _)
                  have HG := hid hgQ
                  have HO := hid hown
                  have HIo := hid y159
                  have HVo := hid y164
                  have HZ3 := hid hZ3
                  have HL := hid (show _ ∧ _ ∧ _ ∧ _ from ⟨l0, l1, l2, l3⟩)
                  clear hgQ hown y159 y164 hZ3 hZ4 hZ5 l0 l1 l2 l3
                  go_upto_region 21 with fail
                  clear z0 z1' z2 z3 f0 f1 f2 f3
                  obtain ⟨wz, hwz⟩ : ∃ wz, ((((wx.setCell ⟨Y, 0, none⟩ (.slice pa Q.persons.length xa)).setCell ⟨Y, 1, none⟩ (.slice pb Q.walk.length xb)).setCell ⟨Y, 2, none⟩ (.slice pc Q.dress.length xc)).setCell ⟨Y, 3, none⟩ (.slice pe Q.parts.length xe)) = wz := ⟨_, rfl⟩
                  rw [hwz] at HG HL ⊢
                  have HOz := hid (HO.out.off HZ3.out HG.out)
                  have HIz := hid (HIo.out.kept HG.out (HIo.out.offB HZ3.out (by decide)))
                  have HVz := hid (HVo.out.kept HG.out (HVo.out.offB HZ3.out (by decide)))
                  have HBo := hid (show Below wo.heap.size wo wz from HWx.out.grown HG.out HWx.out.size (fun g e => by cases e; exact hZ1))
                  have HQo := hid (show PlotAt none wz _ _ _ _ Q from HOz.out.at (d := none) (by simp))
                  have HQp := hid (show PlotAt none wz _ _ _ _ Q from HP.out.at.below HBo.out)
                  have HJo := hid (show ItemsAt none wz _ I from HIz.out.items (d := none) (by simp))
                  have HJp := hid (show ItemsAt none wz _ I from RecAt.below HI.out HBo.out)
                  have HVq := hid (show IntsAt none wz _ WW from OwnInts.at (d := none) (own_int.1 HVz.out) (by simp))
                  have HVp := hid (show IntsAt none wz _ WW from HW5.out.below HBo.out)
                  have HS := hid (fun W' (hb : Below wz.heap.size wz W') => ((by
                      obtain ⟨q0, q1, q2, q3, q4, q5, q6, q7⟩ := HD5.out wz HBo.out
                      exact ⟨cell_now hb HL.out.1, cell_now hb HL.out.2.1, cell_now hb HL.out.2.2.1, cell_now hb HL.out.2.2.2, cell_now hb q0, cell_now hb q1, cell_now hb q2, cell_now hb q3, cell_now hb q4, cell_now hb q5, cell_now hb q6, cell_now hb q7⟩) : W'.cell? ⟨Y, 0, none⟩ = some (.slice pa Q.persons.length xa) ∧ W'.cell? ⟨Y, 1, none⟩ = some (.slice pb Q.walk.length xb) ∧ W'.cell? ⟨Y, 2, none⟩ = some (.slice pc Q.dress.length xc) ∧ W'.cell? ⟨Y, 3, none⟩ = some (.slice pe Q.parts.length xe) ∧ W'.cell? ⟨b27, k * 4, none⟩ = some (.slice qa Q.persons.length ka) ∧ W'.cell? ⟨b27, k * 4 + 1, none⟩ = some (.slice qb Q.walk.length kb) ∧ W'.cell? ⟨b27, k * 4 + 2, none⟩ = some (.slice qc Q.dress.length kc) ∧ W'.cell? ⟨b27, k * 4 + 3, none⟩ = some (.slice qe Q.parts.length ke) ∧ W'.cell? ⟨b28, k, none⟩ = some (.slice qi I.length ki) ∧ W'.cell? ⟨b29, k, none⟩ = some (.slice qw WW.length kw) ∧ W'.cell? ⟨b30, k, none⟩ = some (.int .i64 z30) ∧ W'.cell? ⟨b31, k, none⟩ = some (.int .i64 z31)))
                  clear HO HIo HVo HZ3 HL HG HOz HIz HVz hwz HWx hZ1 hZ2 HP HI HW5 HD5
                  have HFp := hid (fun vp vw vd vq vi W' (h1 : PlotAt none W' vp vw vd vq Q) (h2 : ItemsAt none W' vi I) => (fitc_any Q I z30 z31 vp vw vd vq vi W' h1 h2))
                  have HFr := hid (fun vp vw vd vq vi W' (h1 : PlotAt none W' vp vw vd vq Q) (h2 : ItemsAt none W' vi I) => (rfitc_any Q I z30 z31 vp vw vd vq vi W' h1 h2))
                  have HCp := hid (fun vp vw vd vq vi vb W' (h1 : PlotAt none W' vp vw vd vq Q) (h2 : ItemsAt none W' vi I) (h3 : IntsAt none W' vb WW) => (costc_any Q I WW vp vw vd vq vi vb W' h1 h2 h3))
                  have HCr := hid (fun vp vw vd vq vi vb W' (h1 : PlotAt none W' vp vw vd vq Q) (h2 : ItemsAt none W' vi I) (h3 : IntsAt none W' vb WW) => (rcostc_any Q I WW vp vw vd vq vi vb W' h1 h2 h3))
                  have HKp := hid (fun vp vw vd vq vi W' (h1 : PlotAt none W' vp vw vd vq Q) (h2 : ItemsAt none W' vi I) => (citems_any Q I vp vw vd vq vi W' h1 h2))
                  have HKr := hid (fun vp vw vd vq vi W' (h1 : PlotAt none W' vp vw vd vq Q) (h2 : ItemsAt none W' vi I) => (rcitems_any Q I vp vw vd vq vi W' h1 h2))
                  have HZp := hid (fun vp vw vd vq vi vb W' (h1 : PlotAt none W' vp vw vd vq Q) (h2 : ItemsAt none W' vi I) (h3 : IntsAt none W' vb WW) => (wear_any Q I WW vp vw vd vq vi vb W' h1 h2 h3))
                  have HZr := hid (fun vp vw vd vq vi vb W' (h1 : PlotAt none W' vp vw vd vq Q) (h2 : ItemsAt none W' vi I) (h3 : IntsAt none W' vb WW) => (rwear_any Q I WW vp vw vd vq vi vb W' h1 h2 h3))
                  obtain ⟨FR, hFR⟩ : ∃ FR, fitcRes Q I z30 z31 = FR := ⟨_, rfl⟩
                  obtain ⟨FE, hFE⟩ : ∃ FE, fitcErr Q I z30 z31 = FE := ⟨_, rfl⟩
                  obtain ⟨CR, hCR⟩ : ∃ CR, costRes Q I WW = CR := ⟨_, rfl⟩
                  obtain ⟨WE, hWE⟩ : ∃ WE, wearErr Q I WW = WE := ⟨_, rfl⟩
                  obtain ⟨IE, hIE⟩ : ∃ IE, itemsErr Q I = IE := ⟨_, rfl⟩
                  rw [hFR, hFE] at HFp HFr
                  rw [hCR, hWE] at HCp HCr
                  rw [hWE] at HZp HZr
                  rw [hIE] at HKp HKr
                  clear hFR hFE hCR hWE hIE
                  have HBc := hid (show Below wz.heap.size wz wz.drew from (Below.refl wz.heap.size wz).drew)
                  go_region_held3 (fun W' => W'.cell? ⟨Y, 0, none⟩ = some (.slice pa Q.persons.length xa) ∧ W'.cell? ⟨Y, 1, none⟩ = some (.slice pb Q.walk.length xb) ∧ W'.cell? ⟨Y, 2, none⟩ = some (.slice pc Q.dress.length xc) ∧ W'.cell? ⟨Y, 3, none⟩ = some (.slice pe Q.parts.length xe) ∧ W'.cell? ⟨b27, k * 4, none⟩ = some (.slice qa Q.persons.length ka) ∧ W'.cell? ⟨b27, k * 4 + 1, none⟩ = some (.slice qb Q.walk.length kb) ∧ W'.cell? ⟨b27, k * 4 + 2, none⟩ = some (.slice qc Q.dress.length kc) ∧ W'.cell? ⟨b27, k * 4 + 3, none⟩ = some (.slice qe Q.parts.length ke) ∧ W'.cell? ⟨b28, k, none⟩ = some (.slice qi I.length ki) ∧ W'.cell? ⟨b29, k, none⟩ = some (.slice qw WW.length kw) ∧ W'.cell? ⟨b30, k, none⟩ = some (.int .i64 z30) ∧ W'.cell? ⟨b31, k, none⟩ = some (.int .i64 z31))
                    (first | exact HS.out _ HBc.out) (first
                    | (go_at_call 32; refine (HFp.out _ _ _ _ _ _ (HQo.out.below HBc.out) (RecAt.below HJo.out HBc.out)).mono ?_; rintro e w36 ⟨rfl, hb⟩; have HBc := hid (HBc.out.trans (hb.mono HBc.out.size)); clear hb))
                  go_upto_region 22 with fail
                  have HBc := hid (show Below wz.heap.size wz w36.drew from HBc.out.trans ((Below.refl w36.heap.size w36).drew.mono HBc.out.size))
                  go_region_held3 (fun W' => W'.cell? ⟨Y, 0, none⟩ = some (.slice pa Q.persons.length xa) ∧ W'.cell? ⟨Y, 1, none⟩ = some (.slice pb Q.walk.length xb) ∧ W'.cell? ⟨Y, 2, none⟩ = some (.slice pc Q.dress.length xc) ∧ W'.cell? ⟨Y, 3, none⟩ = some (.slice pe Q.parts.length xe) ∧ W'.cell? ⟨b27, k * 4, none⟩ = some (.slice qa Q.persons.length ka) ∧ W'.cell? ⟨b27, k * 4 + 1, none⟩ = some (.slice qb Q.walk.length kb) ∧ W'.cell? ⟨b27, k * 4 + 2, none⟩ = some (.slice qc Q.dress.length kc) ∧ W'.cell? ⟨b27, k * 4 + 3, none⟩ = some (.slice qe Q.parts.length ke) ∧ W'.cell? ⟨b28, k, none⟩ = some (.slice qi I.length ki) ∧ W'.cell? ⟨b29, k, none⟩ = some (.slice qw WW.length kw) ∧ W'.cell? ⟨b30, k, none⟩ = some (.int .i64 z30) ∧ W'.cell? ⟨b31, k, none⟩ = some (.int .i64 z31))
                    (first | exact HS.out _ HBc.out) (first
                    | (go_at_call 44; refine (HFr.out _ _ _ _ _ _ (HQp.out.below HBc.out) (RecAt.below HJp.out HBc.out)).mono ?_; rintro e w38 ⟨rfl, hb⟩; have HBc := hid (HBc.out.trans (hb.mono HBc.out.size)); clear hb))
                  obtain ⟨y0, y1, y2, y3, _⟩ := HS.out _ HBc.out
                  go_upto_region 24 with (go_at_call 40; refine (HCp.out _ _ _ _ _ _ _ (HQo.out.below HBc.out) (RecAt.below HJo.out HBc.out) (HVq.out.below HBc.out)).mono ?_; rintro e w40 ⟨rfl, hb⟩; have HBc := hid (HBc.out.trans (hb.mono HBc.out.size)); clear hb y0 y1 y2 y3)
                  have HBc := hid (show Below wz.heap.size wz w40.drew from HBc.out.trans ((Below.refl w40.heap.size w40).drew.mono HBc.out.size))
                  go_region_held3 (fun W' => W'.cell? ⟨Y, 0, none⟩ = some (.slice pa Q.persons.length xa) ∧ W'.cell? ⟨Y, 1, none⟩ = some (.slice pb Q.walk.length xb) ∧ W'.cell? ⟨Y, 2, none⟩ = some (.slice pc Q.dress.length xc) ∧ W'.cell? ⟨Y, 3, none⟩ = some (.slice pe Q.parts.length xe) ∧ W'.cell? ⟨b27, k * 4, none⟩ = some (.slice qa Q.persons.length ka) ∧ W'.cell? ⟨b27, k * 4 + 1, none⟩ = some (.slice qb Q.walk.length kb) ∧ W'.cell? ⟨b27, k * 4 + 2, none⟩ = some (.slice qc Q.dress.length kc) ∧ W'.cell? ⟨b27, k * 4 + 3, none⟩ = some (.slice qe Q.parts.length ke) ∧ W'.cell? ⟨b28, k, none⟩ = some (.slice qi I.length ki) ∧ W'.cell? ⟨b29, k, none⟩ = some (.slice qw WW.length kw) ∧ W'.cell? ⟨b30, k, none⟩ = some (.int .i64 z30) ∧ W'.cell? ⟨b31, k, none⟩ = some (.int .i64 z31))
                    (first | exact HS.out _ HBc.out) (first
                    | (go_at_call 45; refine (HCr.out _ _ _ _ _ _ _ (HQp.out.below HBc.out) (RecAt.below HJp.out HBc.out) (HVp.out.below HBc.out)).mono ?_; rintro e w42 ⟨rfl, hb⟩; have HBc := hid (HBc.out.trans (hb.mono HBc.out.size)); clear hb))
                  go_upto_region 25 with fail
                  obtain ⟨wq, rfl⟩ : ∃ wq : World, wq = w42 := ⟨_, rfl⟩
                  have HBq := HBc
                  have HSq := hid (fun W' (hb : Below wq.heap.size wq W') => HS.out W' (HBq.out.trans (hb.mono HBq.out.size)))
                  clear HS HBc HFp HFr HCp HCr
                  refine wp_named ?_
                  intro ac0 hac0
                  have HN := hid (show ac0.tmps.size = 303 from by rw [hac0]; rfl)
                  have r27 : ac0.eval (.tmp 27) = .slice (some ⟨b27, 0, none⟩) 5 5 := by rw [hac0]; rfl
                  have r28 : ac0.eval (.tmp 28) = .slice (some ⟨b28, 0, none⟩) 5 5 := by rw [hac0]; rfl
                  have r29 : ac0.eval (.tmp 29) = .slice (some ⟨b29, 0, none⟩) 5 5 := by rw [hac0]; rfl
                  have r32 : ac0.eval (.tmp 32) = .int .i64 k := by rw [hac0]; rfl
                  have r33 : ac0.eval (.tmp 33) = .pointer (some ⟨Y, 0, none⟩) := by rw [hac0]; rfl
                  have r34 : ac0.eval (.tmp 34) = .slice ia I.length ja := by rw [hac0]; rfl
                  have r35 : ac0.eval (.tmp 35) = .slice ga WW.length gc := by rw [hac0]; rfl
                  have r36 : ac0.eval (.tmp 36) = .int .i64 FR := by rw [hac0]; rfl
                  have r37 : ac0.eval (.tmp 37) = .int .i64 FE := by rw [hac0]; rfl
                  have r38 : ac0.eval (.tmp 38) = .int .i64 FR := by rw [hac0]; rfl
                  have r39 : ac0.eval (.tmp 39) = .int .i64 FE := by rw [hac0]; rfl
                  have r40 : ac0.eval (.tmp 40) = .int .i64 CR := by rw [hac0]; rfl
                  have r41 : ac0.eval (.tmp 41) = .int .i64 WE := by rw [hac0]; rfl
                  have r42 : ac0.eval (.tmp 42) = .int .i64 CR := by rw [hac0]; rfl
                  have r43 : ac0.eval (.tmp 43) = .int .i64 WE := by rw [hac0]; rfl
                  have HA := hid hac0
                  clear hac0
                  refine wp_region_flow (by kernel_rfl) [222, 223, 224, 225, 226, 227, 228, 229, 230, 231, 232, 233, 234, 235, 236, 237, 238, 239, 240, 241, 242, 243, 244, 245, 246, 247, 248, 249, 250, 251, 252, 253, 254, 255, 256, 257, 258, 259, 260, 261, 262, 263, 264, 265, 266, 267, 268, 269, 270, 271, 272, 273, 274, 275, 276, 277, 278, 279, 280, 281, 282, 283, 284, 285, 286, 287, 288, 289, 290, 291, 292, 293, 294, 295, 296, 297, 298, 299, 300, 301] 10000
                    (fun _ w' => Below wq.heap.size wq w') (fun a b => Below a.heap.size a b) (fun _ _ => False)
                    (fun _ ix v _ => match ix with
                        | 0 => v = .agg #[.slice pa Q.persons.length xa, .slice pb Q.walk.length xb, .slice pc Q.dress.length xc, .slice pe Q.parts.length xe]
                        | 1 => v = .slice ia I.length ja
                        | 2 => v = .int .i64 IE
                        | 3 => v = .slice (some ⟨b27, 0, none⟩) 5 5
                        | 4 => v = .int .i64 k
                        | 5 => v = .pointer (some ⟨b27, k * 4, none⟩)
                        | 6 => v = .agg #[.slice qa Q.persons.length ka, .slice qb Q.walk.length kb, .slice qc Q.dress.length kc, .slice qe Q.parts.length ke]
                        | 7 => v = .slice (some ⟨b28, 0, none⟩) 5 5
                        | 8 => v = .int .i64 k
                        | 9 => v = .pointer (some ⟨b28, k, none⟩)
                        | 10 => v = .slice qi I.length ki
                        | 11 => v = .int .i64 IE
                        | 12 => v = .bool false
                        | 13 => v = .bool false
                        | 14 => v = .agg #[.slice pa Q.persons.length xa, .slice pb Q.walk.length xb, .slice pc Q.dress.length xc, .slice pe Q.parts.length xe]
                        | 15 => v = .slice ia I.length ja
                        | 16 => v = .slice ga WW.length gc
                        | 17 => v = .int .i64 WE
                        | 18 => v = .slice (some ⟨b27, 0, none⟩) 5 5
                        | 19 => v = .int .i64 k
                        | 20 => v = .pointer (some ⟨b27, k * 4, none⟩)
                        | 21 => v = .agg #[.slice qa Q.persons.length ka, .slice qb Q.walk.length kb, .slice qc Q.dress.length kc, .slice qe Q.parts.length ke]
                        | 22 => v = .slice (some ⟨b28, 0, none⟩) 5 5
                        | 23 => v = .int .i64 k
                        | 24 => v = .pointer (some ⟨b28, k, none⟩)
                        | 25 => v = .slice qi I.length ki
                        | 26 => v = .slice (some ⟨b29, 0, none⟩) 5 5
                        | 27 => v = .int .i64 k
                        | 28 => v = .pointer (some ⟨b29, k, none⟩)
                        | 29 => v = .slice qw WW.length kw
                        | 30 => v = .int .i64 WE
                        | 31 => v = .bool false
                        | 32 => v = .bool false
                        | 33 => v = .bool false
                        | 34 => v = .int .i64 FR
                        | 35 => v = .int .i64 FR
                        | 36 => v = .bool false
                        | 37 => v = .bool false
                        | 38 => v = .bool false
                        | 39 => v = .int .i64 FE
                        | 40 => v = .int .i64 FE
                        | 41 => v = .bool false
                        | 42 => v = .bool false
                        | 43 => v = .bool false
                        | 44 => v = .int .i64 CR
                        | 45 => v = .int .i64 CR
                        | 46 => v = .bool false
                        | 47 => v = .bool false
                        | 48 => v = .bool false
                        | 49 => v = .int .i64 WE
                        | 50 => v = .int .i64 WE
                        | 51 => v = .bool false
                        | 52 => v = .bool false
                        | 53 => v = .bool false
                        | 54 => v = .agg #[.slice pa Q.persons.length xa, .slice pb Q.walk.length xb, .slice pc Q.dress.length xc, .slice pe Q.parts.length xe]
                        | 55 => v = .slice (some ⟨b27, 0, none⟩) 5 5
                        | 56 => v = .int .i64 k
                        | 57 => v = .pointer (some ⟨b27, k * 4, none⟩)
                        | 58 => v = .agg #[.slice qa Q.persons.length ka, .slice qb Q.walk.length kb, .slice qc Q.dress.length kc, .slice qe Q.parts.length ke]
                        | 59 => v = .bool true
                        | 60 => v = .bool false
                        | 61 => v = .bool false
                        | 62 => v = .bool false
                        | 63 => v = .slice ia I.length ja
                        | 64 => v = .slice (some ⟨b28, 0, none⟩) 5 5
                        | 65 => v = .int .i64 k
                        | 66 => v = .pointer (some ⟨b28, k, none⟩)
                        | 67 => v = .slice qi I.length ki
                        | 68 => v = .bool true
                        | 69 => v = .bool false
                        | 70 => v = .bool false
                        | 71 => v = .bool false
                        | 72 => v = .slice ga WW.length gc
                        | 73 => v = .slice (some ⟨b29, 0, none⟩) 5 5
                        | 74 => v = .int .i64 k
                        | 75 => v = .pointer (some ⟨b29, k, none⟩)
                        | 76 => v = .slice qw WW.length kw
                        | 77 => v = .bool true
                        | 78 => v = .bool false
                        | 79 => v = .bool false
                        | _ => True)
                    [0, 1, 2, 3, 4, 5, 6, 7, 8, 9, 10, 11, 12, 13, 14, 15, 16, 17, 18, 19, 20, 21, 22, 23, 24, 25, 26, 27, 28, 29, 30, 31, 32, 33, 34, 35, 36, 37, 38, 39, 40, 41, 42, 43, 44, 45, 46, 47, 48, 49, 50, 51, 52, 53, 54, 55, 56, 57, 58, 59, 60, 61, 62, 63, 64, 65, 66, 67, 68, 69, 70, 71, 72, 73, 74, 75, 76, 77, 78, 79] (by kernel_rfl) (by kernel_rfl) rfl ?_ ?_ ?_ ?_ ?_
                  · intro b ix v w2 w3 _ _ hy; exact hy
                  · intro ix v w2 w3 _ h; exact h.elim
                  · exact (Below.refl _ _).drew
                  · skip
                    refine StepF.val (i := 0) (o := _) rfl (by decide) ?_ ?_
                    · intro bb vs wx _ hW hY
                      refine ⟨fl_want rfl, fun ρ hρ => ⟨.agg #[.slice pa Q.persons.length xa, .slice pb Q.walk.length xb, .slice pc Q.dress.length xc, .slice pe Q.parts.length xe], wx, ?_, hW, Below.refl _ _, rfl⟩⟩
                      have r33x : ρ (.tmp 33) = .pointer (some ⟨Y, 0, none⟩) := by rw [hρ, fl_out rfl, r33]
                      have hS := HSq.out wx hW
                      have q0 := hS.1
                      have q1 := hS.2.1
                      have q2 := hS.2.2.1
                      have q3 := hS.2.2.2.1
                      clear hS
                      clear hρ
                      simp [execOp, go_sem, r33x, q0, q1, q2, q3]
                    refine StepF.val (i := 1) (o := _) rfl (by decide) ?_ ?_
                    · intro bb vs wx _ hW hY
                      exact ⟨fl_want rfl, fun ρ hρ => ⟨.slice ia I.length ja, wx, ex_move rfl (by rw [hρ, fl_out rfl, r34]), hW, Below.refl _ _, rfl⟩⟩
                    refine StepF.call (i := 2) (o := _) rfl (by decide) ?_ ?_
                    · intro bb vs wx _ hW hY
                      have y222 : vs 222 = .agg #[.slice pa Q.persons.length xa, .slice pb Q.walk.length xb, .slice pc Q.dress.length xc, .slice pe Q.parts.length xe] := hY 0 222 (by kernel_rfl) (by kernel_rfl)
                      have y223 : vs 223 = .slice ia I.length ja := hY 1 223 (by kernel_rfl) (by kernel_rfl)
                      refine ⟨fl_want rfl, fun ρ hρ => ⟨46, _, ex_call (vs := #[(.agg #[.slice pa Q.persons.length xa, .slice pb Q.walk.length xb, .slice pc Q.dress.length xc, .slice pe Q.parts.length xe]), (.slice ia I.length ja)]) rfl (by rw [hρ]; rfl) (by simp [hρ, fl_in 303 HN.out, y222, fl_in 303 HN.out, y223]) Try.func46 (by kernel_rfl) rfl, ?_⟩⟩
                      refine (HKp.out _ _ _ _ _ _ (HQo.out.below (HBq.out.trans (hW.mono HBq.out.size))) (RecAt.below HJo.out (HBq.out.trans (hW.mono HBq.out.size)))).mono ?_
                      rintro e w' ⟨rfl, h2⟩
                      exact ⟨_, rfl, hW.trans (h2.mono hW.size), h2, rfl⟩
                    refine StepF.val (i := 3) (o := _) rfl (by decide) ?_ ?_
                    · intro bb vs wx _ hW hY
                      exact ⟨fl_want rfl, fun ρ hρ => ⟨.slice (some ⟨b27, 0, none⟩) 5 5, wx, ex_move rfl (by rw [hρ, fl_out rfl, r27]), hW, Below.refl _ _, rfl⟩⟩
                    refine StepF.val (i := 4) (o := _) rfl (by decide) ?_ ?_
                    · intro bb vs wx _ hW hY
                      exact ⟨fl_want rfl, fun ρ hρ => ⟨.int .i64 k, wx, ex_move rfl (by rw [hρ, fl_out rfl, r32]), hW, Below.refl _ _, rfl⟩⟩
                    refine StepF.val (i := 5) (o := _) rfl (by decide) ?_ ?_
                    · intro bb vs wx _ hW hY
                      have y225 : vs 225 = .slice (some ⟨b27, 0, none⟩) 5 5 := hY 3 225 (by kernel_rfl) (by kernel_rfl)
                      have y226 : vs 226 = .int .i64 k := hY 4 226 (by kernel_rfl) (by kernel_rfl)
                      refine ⟨fl_want rfl, fun ρ hρ => ⟨.pointer (some ⟨b27, k * 4, none⟩), wx, ?_, hW, Below.refl _ _, rfl⟩⟩
                      have r225x : ρ (.tmp 225) = .slice (some ⟨b27, 0, none⟩) 5 5 := by rw [hρ, fl_in 303 HN.out rfl, y225]
                      have r226x : ρ (.tmp 226) = .int .i64 k := by rw [hρ, fl_in 303 HN.out rfl, y226]
                      clear hρ
                      simp [execOp, go_sem, r225x, r226x, i1]
                    refine StepF.val (i := 6) (o := _) rfl (by decide) ?_ ?_
                    · intro bb vs wx _ hW hY
                      have y227 : vs 227 = .pointer (some ⟨b27, k * 4, none⟩) := hY 5 227 (by kernel_rfl) (by kernel_rfl)
                      refine ⟨fl_want rfl, fun ρ hρ => ⟨.agg #[.slice qa Q.persons.length ka, .slice qb Q.walk.length kb, .slice qc Q.dress.length kc, .slice qe Q.parts.length ke], wx, ?_, hW, Below.refl _ _, rfl⟩⟩
                      have r227x : ρ (.tmp 227) = .pointer (some ⟨b27, k * 4, none⟩) := by rw [hρ, fl_in 303 HN.out rfl, y227]
                      have hS := HSq.out wx hW
                      have q0 := hS.2.2.2.2.1
                      have q1 := hS.2.2.2.2.2.1
                      have q2 := hS.2.2.2.2.2.2.1
                      have q3 := hS.2.2.2.2.2.2.2.1
                      clear hS
                      clear hρ
                      simp [execOp, go_sem, r227x, q0, q1, q2, q3]
                    refine StepF.val (i := 7) (o := _) rfl (by decide) ?_ ?_
                    · intro bb vs wx _ hW hY
                      exact ⟨fl_want rfl, fun ρ hρ => ⟨.slice (some ⟨b28, 0, none⟩) 5 5, wx, ex_move rfl (by rw [hρ, fl_out rfl, r28]), hW, Below.refl _ _, rfl⟩⟩
                    refine StepF.val (i := 8) (o := _) rfl (by decide) ?_ ?_
                    · intro bb vs wx _ hW hY
                      exact ⟨fl_want rfl, fun ρ hρ => ⟨.int .i64 k, wx, ex_move rfl (by rw [hρ, fl_out rfl, r32]), hW, Below.refl _ _, rfl⟩⟩
                    refine StepF.val (i := 9) (o := _) rfl (by decide) ?_ ?_
                    · intro bb vs wx _ hW hY
                      have y229 : vs 229 = .slice (some ⟨b28, 0, none⟩) 5 5 := hY 7 229 (by kernel_rfl) (by kernel_rfl)
                      have y230 : vs 230 = .int .i64 k := hY 8 230 (by kernel_rfl) (by kernel_rfl)
                      refine ⟨fl_want rfl, fun ρ hρ => ⟨.pointer (some ⟨b28, k, none⟩), wx, ?_, hW, Below.refl _ _, rfl⟩⟩
                      have r229x : ρ (.tmp 229) = .slice (some ⟨b28, 0, none⟩) 5 5 := by rw [hρ, fl_in 303 HN.out rfl, y229]
                      have r230x : ρ (.tmp 230) = .int .i64 k := by rw [hρ, fl_in 303 HN.out rfl, y230]
                      clear hρ
                      simp [execOp, go_sem, r229x, r230x, i1]
                    refine StepF.val (i := 10) (o := _) rfl (by decide) ?_ ?_
                    · intro bb vs wx _ hW hY
                      have y231 : vs 231 = .pointer (some ⟨b28, k, none⟩) := hY 9 231 (by kernel_rfl) (by kernel_rfl)
                      refine ⟨fl_want rfl, fun ρ hρ => ⟨.slice qi I.length ki, wx, ?_, hW, Below.refl _ _, rfl⟩⟩
                      have r231x : ρ (.tmp 231) = .pointer (some ⟨b28, k, none⟩) := by rw [hρ, fl_in 303 HN.out rfl, y231]
                      have hS := HSq.out wx hW
                      have q0 := hS.2.2.2.2.2.2.2.2.1
                      clear hS
                      clear hρ
                      simp [execOp, go_sem, r231x, q0]
                    refine StepF.call (i := 11) (o := _) rfl (by decide) ?_ ?_
                    · intro bb vs wx _ hW hY
                      have y228 : vs 228 = .agg #[.slice qa Q.persons.length ka, .slice qb Q.walk.length kb, .slice qc Q.dress.length kc, .slice qe Q.parts.length ke] := hY 6 228 (by kernel_rfl) (by kernel_rfl)
                      have y232 : vs 232 = .slice qi I.length ki := hY 10 232 (by kernel_rfl) (by kernel_rfl)
                      refine ⟨fl_want rfl, fun ρ hρ => ⟨47, _, ex_call (vs := #[(.agg #[.slice qa Q.persons.length ka, .slice qb Q.walk.length kb, .slice qc Q.dress.length kc, .slice qe Q.parts.length ke]), (.slice qi I.length ki)]) rfl (by rw [hρ]; rfl) (by simp [hρ, fl_in 303 HN.out, y228, fl_in 303 HN.out, y232]) Try.func47 (by kernel_rfl) rfl, ?_⟩⟩
                      refine (HKr.out _ _ _ _ _ _ (HQp.out.below (HBq.out.trans (hW.mono HBq.out.size))) (RecAt.below HJp.out (HBq.out.trans (hW.mono HBq.out.size)))).mono ?_
                      rintro e w' ⟨rfl, h2⟩
                      exact ⟨_, rfl, hW.trans (h2.mono hW.size), h2, rfl⟩
                    refine StepF.val (i := 12) (o := _) rfl (by decide) ?_ ?_
                    · intro bb vs wx _ hW hY
                      have y224 : vs 224 = .int .i64 IE := hY 2 224 (by kernel_rfl) (by kernel_rfl)
                      have y233 : vs 233 = .int .i64 IE := hY 11 233 (by kernel_rfl) (by kernel_rfl)
                      refine ⟨fl_want rfl, fun ρ hρ => ⟨.bool false, wx, ?_, hW, Below.refl _ _, rfl⟩⟩
                      have r224x : ρ (.tmp 224) = .int .i64 IE := by rw [hρ, fl_in 303 HN.out rfl, y224]
                      have r233x : ρ (.tmp 233) = .int .i64 IE := by rw [hρ, fl_in 303 HN.out rfl, y233]
                      clear hρ
                      simp [execOp, go_sem, r224x, r233x]
                    refine StepF.val (i := 13) (o := _) rfl (by decide) ?_ ?_
                    · intro bb vs wx _ hW hY
                      have y234 : vs 234 = .bool false := hY 12 234 (by kernel_rfl) (by kernel_rfl)
                      exact ⟨fl_want rfl, fun ρ hρ => ⟨.bool false, wx, ex_move rfl (by rw [hρ, fl_in 303 HN.out rfl, y234]), hW, Below.refl _ _, rfl⟩⟩
                    refine StepF.val (i := 14) (o := _) rfl (by decide) ?_ ?_
                    · intro bb vs wx _ hW hY
                      have y235 : vs 235 = .bool false := hY 13 235 (by kernel_rfl) (by kernel_rfl)
                      refine ⟨fl_wantg 303 HN.out rfl rfl rfl y235, fun ρ hρ => ⟨.agg #[.slice pa Q.persons.length xa, .slice pb Q.walk.length xb, .slice pc Q.dress.length xc, .slice pe Q.parts.length xe], wx, ?_, hW, Below.refl _ _, rfl⟩⟩
                      have r33x : ρ (.tmp 33) = .pointer (some ⟨Y, 0, none⟩) := by rw [hρ, fl_out rfl, r33]
                      have hS := HSq.out wx hW
                      have q0 := hS.1
                      have q1 := hS.2.1
                      have q2 := hS.2.2.1
                      have q3 := hS.2.2.2.1
                      clear hS
                      clear hρ
                      simp [execOp, go_sem, r33x, q0, q1, q2, q3]
                    refine StepF.val (i := 15) (o := _) rfl (by decide) ?_ ?_
                    · intro bb vs wx _ hW hY
                      have y235 : vs 235 = .bool false := hY 13 235 (by kernel_rfl) (by kernel_rfl)
                      exact ⟨fl_wantg 303 HN.out rfl rfl rfl y235, fun ρ hρ => ⟨.slice ia I.length ja, wx, ex_move rfl (by rw [hρ, fl_out rfl, r34]), hW, Below.refl _ _, rfl⟩⟩
                    refine StepF.val (i := 16) (o := _) rfl (by decide) ?_ ?_
                    · intro bb vs wx _ hW hY
                      have y235 : vs 235 = .bool false := hY 13 235 (by kernel_rfl) (by kernel_rfl)
                      exact ⟨fl_wantg 303 HN.out rfl rfl rfl y235, fun ρ hρ => ⟨.slice ga WW.length gc, wx, ex_move rfl (by rw [hρ, fl_out rfl, r35]), hW, Below.refl _ _, rfl⟩⟩
                    refine StepF.call (i := 17) (o := _) rfl (by decide) ?_ ?_
                    · intro bb vs wx _ hW hY
                      have y236 : vs 236 = .agg #[.slice pa Q.persons.length xa, .slice pb Q.walk.length xb, .slice pc Q.dress.length xc, .slice pe Q.parts.length xe] := hY 14 236 (by kernel_rfl) (by kernel_rfl)
                      have y237 : vs 237 = .slice ia I.length ja := hY 15 237 (by kernel_rfl) (by kernel_rfl)
                      have y238 : vs 238 = .slice ga WW.length gc := hY 16 238 (by kernel_rfl) (by kernel_rfl)
                      have y235 : vs 235 = .bool false := hY 13 235 (by kernel_rfl) (by kernel_rfl)
                      refine ⟨fl_wantg 303 HN.out rfl rfl rfl y235, fun ρ hρ => ⟨36, _, ex_call (vs := #[(.agg #[.slice pa Q.persons.length xa, .slice pb Q.walk.length xb, .slice pc Q.dress.length xc, .slice pe Q.parts.length xe]), (.slice ia I.length ja), (.slice ga WW.length gc)]) rfl (by rw [hρ]; rfl) (by simp [hρ, fl_in 303 HN.out, y236, fl_in 303 HN.out, y237, fl_in 303 HN.out, y238]) Try.func36 (by kernel_rfl) rfl, ?_⟩⟩
                      refine (HZp.out _ _ _ _ _ _ _ (HQo.out.below (HBq.out.trans (hW.mono HBq.out.size))) (RecAt.below HJo.out (HBq.out.trans (hW.mono HBq.out.size))) (HVq.out.below (HBq.out.trans (hW.mono HBq.out.size)))).mono ?_
                      rintro e w' ⟨rfl, h2⟩
                      exact ⟨_, rfl, hW.trans (h2.mono hW.size), h2, rfl⟩
                    refine StepF.val (i := 18) (o := _) rfl (by decide) ?_ ?_
                    · intro bb vs wx _ hW hY
                      have y235 : vs 235 = .bool false := hY 13 235 (by kernel_rfl) (by kernel_rfl)
                      exact ⟨fl_wantg 303 HN.out rfl rfl rfl y235, fun ρ hρ => ⟨.slice (some ⟨b27, 0, none⟩) 5 5, wx, ex_move rfl (by rw [hρ, fl_out rfl, r27]), hW, Below.refl _ _, rfl⟩⟩
                    refine StepF.val (i := 19) (o := _) rfl (by decide) ?_ ?_
                    · intro bb vs wx _ hW hY
                      have y235 : vs 235 = .bool false := hY 13 235 (by kernel_rfl) (by kernel_rfl)
                      exact ⟨fl_wantg 303 HN.out rfl rfl rfl y235, fun ρ hρ => ⟨.int .i64 k, wx, ex_move rfl (by rw [hρ, fl_out rfl, r32]), hW, Below.refl _ _, rfl⟩⟩
                    refine StepF.val (i := 20) (o := _) rfl (by decide) ?_ ?_
                    · intro bb vs wx _ hW hY
                      have y240 : vs 240 = .slice (some ⟨b27, 0, none⟩) 5 5 := hY 18 240 (by kernel_rfl) (by kernel_rfl)
                      have y241 : vs 241 = .int .i64 k := hY 19 241 (by kernel_rfl) (by kernel_rfl)
                      have y235 : vs 235 = .bool false := hY 13 235 (by kernel_rfl) (by kernel_rfl)
                      refine ⟨fl_wantg 303 HN.out rfl rfl rfl y235, fun ρ hρ => ⟨.pointer (some ⟨b27, k * 4, none⟩), wx, ?_, hW, Below.refl _ _, rfl⟩⟩
                      have r240x : ρ (.tmp 240) = .slice (some ⟨b27, 0, none⟩) 5 5 := by rw [hρ, fl_in 303 HN.out rfl, y240]
                      have r241x : ρ (.tmp 241) = .int .i64 k := by rw [hρ, fl_in 303 HN.out rfl, y241]
                      clear hρ
                      simp [execOp, go_sem, r240x, r241x, i1]
                    refine StepF.val (i := 21) (o := _) rfl (by decide) ?_ ?_
                    · intro bb vs wx _ hW hY
                      have y242 : vs 242 = .pointer (some ⟨b27, k * 4, none⟩) := hY 20 242 (by kernel_rfl) (by kernel_rfl)
                      have y235 : vs 235 = .bool false := hY 13 235 (by kernel_rfl) (by kernel_rfl)
                      refine ⟨fl_wantg 303 HN.out rfl rfl rfl y235, fun ρ hρ => ⟨.agg #[.slice qa Q.persons.length ka, .slice qb Q.walk.length kb, .slice qc Q.dress.length kc, .slice qe Q.parts.length ke], wx, ?_, hW, Below.refl _ _, rfl⟩⟩
                      have r242x : ρ (.tmp 242) = .pointer (some ⟨b27, k * 4, none⟩) := by rw [hρ, fl_in 303 HN.out rfl, y242]
                      have hS := HSq.out wx hW
                      have q0 := hS.2.2.2.2.1
                      have q1 := hS.2.2.2.2.2.1
                      have q2 := hS.2.2.2.2.2.2.1
                      have q3 := hS.2.2.2.2.2.2.2.1
                      clear hS
                      clear hρ
                      simp [execOp, go_sem, r242x, q0, q1, q2, q3]
                    refine StepF.val (i := 22) (o := _) rfl (by decide) ?_ ?_
                    · intro bb vs wx _ hW hY
                      have y235 : vs 235 = .bool false := hY 13 235 (by kernel_rfl) (by kernel_rfl)
                      exact ⟨fl_wantg 303 HN.out rfl rfl rfl y235, fun ρ hρ => ⟨.slice (some ⟨b28, 0, none⟩) 5 5, wx, ex_move rfl (by rw [hρ, fl_out rfl, r28]), hW, Below.refl _ _, rfl⟩⟩
                    refine StepF.val (i := 23) (o := _) rfl (by decide) ?_ ?_
                    · intro bb vs wx _ hW hY
                      have y235 : vs 235 = .bool false := hY 13 235 (by kernel_rfl) (by kernel_rfl)
                      exact ⟨fl_wantg 303 HN.out rfl rfl rfl y235, fun ρ hρ => ⟨.int .i64 k, wx, ex_move rfl (by rw [hρ, fl_out rfl, r32]), hW, Below.refl _ _, rfl⟩⟩
                    refine StepF.val (i := 24) (o := _) rfl (by decide) ?_ ?_
                    · intro bb vs wx _ hW hY
                      have y244 : vs 244 = .slice (some ⟨b28, 0, none⟩) 5 5 := hY 22 244 (by kernel_rfl) (by kernel_rfl)
                      have y245 : vs 245 = .int .i64 k := hY 23 245 (by kernel_rfl) (by kernel_rfl)
                      have y235 : vs 235 = .bool false := hY 13 235 (by kernel_rfl) (by kernel_rfl)
                      refine ⟨fl_wantg 303 HN.out rfl rfl rfl y235, fun ρ hρ => ⟨.pointer (some ⟨b28, k, none⟩), wx, ?_, hW, Below.refl _ _, rfl⟩⟩
                      have r244x : ρ (.tmp 244) = .slice (some ⟨b28, 0, none⟩) 5 5 := by rw [hρ, fl_in 303 HN.out rfl, y244]
                      have r245x : ρ (.tmp 245) = .int .i64 k := by rw [hρ, fl_in 303 HN.out rfl, y245]
                      clear hρ
                      simp [execOp, go_sem, r244x, r245x, i1]
                    refine StepF.val (i := 25) (o := _) rfl (by decide) ?_ ?_
                    · intro bb vs wx _ hW hY
                      have y246 : vs 246 = .pointer (some ⟨b28, k, none⟩) := hY 24 246 (by kernel_rfl) (by kernel_rfl)
                      have y235 : vs 235 = .bool false := hY 13 235 (by kernel_rfl) (by kernel_rfl)
                      refine ⟨fl_wantg 303 HN.out rfl rfl rfl y235, fun ρ hρ => ⟨.slice qi I.length ki, wx, ?_, hW, Below.refl _ _, rfl⟩⟩
                      have r246x : ρ (.tmp 246) = .pointer (some ⟨b28, k, none⟩) := by rw [hρ, fl_in 303 HN.out rfl, y246]
                      have hS := HSq.out wx hW
                      have q0 := hS.2.2.2.2.2.2.2.2.1
                      clear hS
                      clear hρ
                      simp [execOp, go_sem, r246x, q0]
                    refine StepF.val (i := 26) (o := _) rfl (by decide) ?_ ?_
                    · intro bb vs wx _ hW hY
                      have y235 : vs 235 = .bool false := hY 13 235 (by kernel_rfl) (by kernel_rfl)
                      exact ⟨fl_wantg 303 HN.out rfl rfl rfl y235, fun ρ hρ => ⟨.slice (some ⟨b29, 0, none⟩) 5 5, wx, ex_move rfl (by rw [hρ, fl_out rfl, r29]), hW, Below.refl _ _, rfl⟩⟩
                    refine StepF.val (i := 27) (o := _) rfl (by decide) ?_ ?_
                    · intro bb vs wx _ hW hY
                      have y235 : vs 235 = .bool false := hY 13 235 (by kernel_rfl) (by kernel_rfl)
                      exact ⟨fl_wantg 303 HN.out rfl rfl rfl y235, fun ρ hρ => ⟨.int .i64 k, wx, ex_move rfl (by rw [hρ, fl_out rfl, r32]), hW, Below.refl _ _, rfl⟩⟩
                    refine StepF.val (i := 28) (o := _) rfl (by decide) ?_ ?_
                    · intro bb vs wx _ hW hY
                      have y248 : vs 248 = .slice (some ⟨b29, 0, none⟩) 5 5 := hY 26 248 (by kernel_rfl) (by kernel_rfl)
                      have y249 : vs 249 = .int .i64 k := hY 27 249 (by kernel_rfl) (by kernel_rfl)
                      have y235 : vs 235 = .bool false := hY 13 235 (by kernel_rfl) (by kernel_rfl)
                      refine ⟨fl_wantg 303 HN.out rfl rfl rfl y235, fun ρ hρ => ⟨.pointer (some ⟨b29, k, none⟩), wx, ?_, hW, Below.refl _ _, rfl⟩⟩
                      have r248x : ρ (.tmp 248) = .slice (some ⟨b29, 0, none⟩) 5 5 := by rw [hρ, fl_in 303 HN.out rfl, y248]
                      have r249x : ρ (.tmp 249) = .int .i64 k := by rw [hρ, fl_in 303 HN.out rfl, y249]
                      clear hρ
                      simp [execOp, go_sem, r248x, r249x, i1]
                    refine StepF.val (i := 29) (o := _) rfl (by decide) ?_ ?_
                    · intro bb vs wx _ hW hY
                      have y250 : vs 250 = .pointer (some ⟨b29, k, none⟩) := hY 28 250 (by kernel_rfl) (by kernel_rfl)
                      have y235 : vs 235 = .bool false := hY 13 235 (by kernel_rfl) (by kernel_rfl)
                      refine ⟨fl_wantg 303 HN.out rfl rfl rfl y235, fun ρ hρ => ⟨.slice qw WW.length kw, wx, ?_, hW, Below.refl _ _, rfl⟩⟩
                      have r250x : ρ (.tmp 250) = .pointer (some ⟨b29, k, none⟩) := by rw [hρ, fl_in 303 HN.out rfl, y250]
                      have hS := HSq.out wx hW
                      have q0 := hS.2.2.2.2.2.2.2.2.2.1
                      clear hS
                      clear hρ
                      simp [execOp, go_sem, r250x, q0]
                    refine StepF.call (i := 30) (o := _) rfl (by decide) ?_ ?_
                    · intro bb vs wx _ hW hY
                      have y243 : vs 243 = .agg #[.slice qa Q.persons.length ka, .slice qb Q.walk.length kb, .slice qc Q.dress.length kc, .slice qe Q.parts.length ke] := hY 21 243 (by kernel_rfl) (by kernel_rfl)
                      have y247 : vs 247 = .slice qi I.length ki := hY 25 247 (by kernel_rfl) (by kernel_rfl)
                      have y251 : vs 251 = .slice qw WW.length kw := hY 29 251 (by kernel_rfl) (by kernel_rfl)
                      have y235 : vs 235 = .bool false := hY 13 235 (by kernel_rfl) (by kernel_rfl)
                      refine ⟨fl_wantg 303 HN.out rfl rfl rfl y235, fun ρ hρ => ⟨48, _, ex_call (vs := #[(.agg #[.slice qa Q.persons.length ka, .slice qb Q.walk.length kb, .slice qc Q.dress.length kc, .slice qe Q.parts.length ke]), (.slice qi I.length ki), (.slice qw WW.length kw)]) rfl (by rw [hρ]; rfl) (by simp [hρ, fl_in 303 HN.out, y243, fl_in 303 HN.out, y247, fl_in 303 HN.out, y251]) Try.func48 (by kernel_rfl) rfl, ?_⟩⟩
                      refine (HZr.out _ _ _ _ _ _ _ (HQp.out.below (HBq.out.trans (hW.mono HBq.out.size))) (RecAt.below HJp.out (HBq.out.trans (hW.mono HBq.out.size))) (HVp.out.below (HBq.out.trans (hW.mono HBq.out.size)))).mono ?_
                      rintro e w' ⟨rfl, h2⟩
                      exact ⟨_, rfl, hW.trans (h2.mono hW.size), h2, rfl⟩
                    refine StepF.val (i := 31) (o := _) rfl (by decide) ?_ ?_
                    · intro bb vs wx _ hW hY
                      have y239 : vs 239 = .int .i64 WE := hY 17 239 (by kernel_rfl) (by kernel_rfl)
                      have y252 : vs 252 = .int .i64 WE := hY 30 252 (by kernel_rfl) (by kernel_rfl)
                      have y235 : vs 235 = .bool false := hY 13 235 (by kernel_rfl) (by kernel_rfl)
                      refine ⟨fl_wantg 303 HN.out rfl rfl rfl y235, fun ρ hρ => ⟨.bool false, wx, ?_, hW, Below.refl _ _, rfl⟩⟩
                      have r239x : ρ (.tmp 239) = .int .i64 WE := by rw [hρ, fl_in 303 HN.out rfl, y239]
                      have r252x : ρ (.tmp 252) = .int .i64 WE := by rw [hρ, fl_in 303 HN.out rfl, y252]
                      clear hρ
                      simp [execOp, go_sem, r239x, r252x]
                    refine StepF.val (i := 32) (o := _) rfl (by decide) ?_ ?_
                    · intro bb vs wx _ hW hY
                      have y235 : vs 235 = .bool false := hY 13 235 (by kernel_rfl) (by kernel_rfl)
                      have y253 : vs 253 = .bool false := hY 31 253 (by kernel_rfl) (by kernel_rfl)
                      refine ⟨fl_want rfl, fun ρ hρ => ⟨.bool false, wx, ?_, hW, Below.refl _ _, rfl⟩⟩
                      have r235x : ρ (.tmp 235) = .bool false := by rw [hρ, fl_in 303 HN.out rfl, y235]
                      have r253x : ρ (.tmp 253) = .bool false := by rw [hρ, fl_in 303 HN.out rfl, y253]
                      have rc : ∀ c, ρ (.const c) = c := fun c => by rw [hρ]; rfl
                      clear hρ
                      simp [execOp, go_sem, r235x, r253x, rc]
                    refine StepF.val (i := 33) (o := _) rfl (by decide) ?_ ?_
                    · intro bb vs wx _ hW hY
                      have y254 : vs 254 = .bool false := hY 32 254 (by kernel_rfl) (by kernel_rfl)
                      exact ⟨fl_want rfl, fun ρ hρ => ⟨.bool false, wx, ex_move rfl (by rw [hρ, fl_in 303 HN.out rfl, y254]), hW, Below.refl _ _, rfl⟩⟩
                    refine StepF.val (i := 34) (o := _) rfl (by decide) ?_ ?_
                    · intro bb vs wx _ hW hY
                      have y255 : vs 255 = .bool false := hY 33 255 (by kernel_rfl) (by kernel_rfl)
                      exact ⟨fl_wantg 303 HN.out rfl rfl rfl y255, fun ρ hρ => ⟨.int .i64 FR, wx, ex_move rfl (by rw [hρ, fl_out rfl, r36]), hW, Below.refl _ _, rfl⟩⟩
                    refine StepF.val (i := 35) (o := _) rfl (by decide) ?_ ?_
                    · intro bb vs wx _ hW hY
                      have y255 : vs 255 = .bool false := hY 33 255 (by kernel_rfl) (by kernel_rfl)
                      exact ⟨fl_wantg 303 HN.out rfl rfl rfl y255, fun ρ hρ => ⟨.int .i64 FR, wx, ex_move rfl (by rw [hρ, fl_out rfl, r38]), hW, Below.refl _ _, rfl⟩⟩
                    refine StepF.val (i := 36) (o := _) rfl (by decide) ?_ ?_
                    · intro bb vs wx _ hW hY
                      have y256 : vs 256 = .int .i64 FR := hY 34 256 (by kernel_rfl) (by kernel_rfl)
                      have y257 : vs 257 = .int .i64 FR := hY 35 257 (by kernel_rfl) (by kernel_rfl)
                      have y255 : vs 255 = .bool false := hY 33 255 (by kernel_rfl) (by kernel_rfl)
                      refine ⟨fl_wantg 303 HN.out rfl rfl rfl y255, fun ρ hρ => ⟨.bool false, wx, ?_, hW, Below.refl _ _, rfl⟩⟩
                      have r256x : ρ (.tmp 256) = .int .i64 FR := by rw [hρ, fl_in 303 HN.out rfl, y256]
                      have r257x : ρ (.tmp 257) = .int .i64 FR := by rw [hρ, fl_in 303 HN.out rfl, y257]
                      clear hρ
                      simp [execOp, go_sem, r256x, r257x]
                    refine StepF.val (i := 37) (o := _) rfl (by decide) ?_ ?_
                    · intro bb vs wx _ hW hY
                      have y255 : vs 255 = .bool false := hY 33 255 (by kernel_rfl) (by kernel_rfl)
                      have y258 : vs 258 = .bool false := hY 36 258 (by kernel_rfl) (by kernel_rfl)
                      refine ⟨fl_want rfl, fun ρ hρ => ⟨.bool false, wx, ?_, hW, Below.refl _ _, rfl⟩⟩
                      have r255x : ρ (.tmp 255) = .bool false := by rw [hρ, fl_in 303 HN.out rfl, y255]
                      have r258x : ρ (.tmp 258) = .bool false := by rw [hρ, fl_in 303 HN.out rfl, y258]
                      have rc : ∀ c, ρ (.const c) = c := fun c => by rw [hρ]; rfl
                      clear hρ
                      simp [execOp, go_sem, r255x, r258x, rc]
                    refine StepF.val (i := 38) (o := _) rfl (by decide) ?_ ?_
                    · intro bb vs wx _ hW hY
                      have y259 : vs 259 = .bool false := hY 37 259 (by kernel_rfl) (by kernel_rfl)
                      exact ⟨fl_want rfl, fun ρ hρ => ⟨.bool false, wx, ex_move rfl (by rw [hρ, fl_in 303 HN.out rfl, y259]), hW, Below.refl _ _, rfl⟩⟩
                    refine StepF.val (i := 39) (o := _) rfl (by decide) ?_ ?_
                    · intro bb vs wx _ hW hY
                      have y260 : vs 260 = .bool false := hY 38 260 (by kernel_rfl) (by kernel_rfl)
                      exact ⟨fl_wantg 303 HN.out rfl rfl rfl y260, fun ρ hρ => ⟨.int .i64 FE, wx, ex_move rfl (by rw [hρ, fl_out rfl, r37]), hW, Below.refl _ _, rfl⟩⟩
                    refine StepF.val (i := 40) (o := _) rfl (by decide) ?_ ?_
                    · intro bb vs wx _ hW hY
                      have y260 : vs 260 = .bool false := hY 38 260 (by kernel_rfl) (by kernel_rfl)
                      exact ⟨fl_wantg 303 HN.out rfl rfl rfl y260, fun ρ hρ => ⟨.int .i64 FE, wx, ex_move rfl (by rw [hρ, fl_out rfl, r39]), hW, Below.refl _ _, rfl⟩⟩
                    refine StepF.val (i := 41) (o := _) rfl (by decide) ?_ ?_
                    · intro bb vs wx _ hW hY
                      have y261 : vs 261 = .int .i64 FE := hY 39 261 (by kernel_rfl) (by kernel_rfl)
                      have y262 : vs 262 = .int .i64 FE := hY 40 262 (by kernel_rfl) (by kernel_rfl)
                      have y260 : vs 260 = .bool false := hY 38 260 (by kernel_rfl) (by kernel_rfl)
                      refine ⟨fl_wantg 303 HN.out rfl rfl rfl y260, fun ρ hρ => ⟨.bool false, wx, ?_, hW, Below.refl _ _, rfl⟩⟩
                      have r261x : ρ (.tmp 261) = .int .i64 FE := by rw [hρ, fl_in 303 HN.out rfl, y261]
                      have r262x : ρ (.tmp 262) = .int .i64 FE := by rw [hρ, fl_in 303 HN.out rfl, y262]
                      clear hρ
                      simp [execOp, go_sem, r261x, r262x]
                    refine StepF.val (i := 42) (o := _) rfl (by decide) ?_ ?_
                    · intro bb vs wx _ hW hY
                      have y260 : vs 260 = .bool false := hY 38 260 (by kernel_rfl) (by kernel_rfl)
                      have y263 : vs 263 = .bool false := hY 41 263 (by kernel_rfl) (by kernel_rfl)
                      refine ⟨fl_want rfl, fun ρ hρ => ⟨.bool false, wx, ?_, hW, Below.refl _ _, rfl⟩⟩
                      have r260x : ρ (.tmp 260) = .bool false := by rw [hρ, fl_in 303 HN.out rfl, y260]
                      have r263x : ρ (.tmp 263) = .bool false := by rw [hρ, fl_in 303 HN.out rfl, y263]
                      have rc : ∀ c, ρ (.const c) = c := fun c => by rw [hρ]; rfl
                      clear hρ
                      simp [execOp, go_sem, r260x, r263x, rc]
                    refine StepF.val (i := 43) (o := _) rfl (by decide) ?_ ?_
                    · intro bb vs wx _ hW hY
                      have y264 : vs 264 = .bool false := hY 42 264 (by kernel_rfl) (by kernel_rfl)
                      exact ⟨fl_want rfl, fun ρ hρ => ⟨.bool false, wx, ex_move rfl (by rw [hρ, fl_in 303 HN.out rfl, y264]), hW, Below.refl _ _, rfl⟩⟩
                    refine StepF.val (i := 44) (o := _) rfl (by decide) ?_ ?_
                    · intro bb vs wx _ hW hY
                      have y265 : vs 265 = .bool false := hY 43 265 (by kernel_rfl) (by kernel_rfl)
                      exact ⟨fl_wantg 303 HN.out rfl rfl rfl y265, fun ρ hρ => ⟨.int .i64 CR, wx, ex_move rfl (by rw [hρ, fl_out rfl, r40]), hW, Below.refl _ _, rfl⟩⟩
                    refine StepF.val (i := 45) (o := _) rfl (by decide) ?_ ?_
                    · intro bb vs wx _ hW hY
                      have y265 : vs 265 = .bool false := hY 43 265 (by kernel_rfl) (by kernel_rfl)
                      exact ⟨fl_wantg 303 HN.out rfl rfl rfl y265, fun ρ hρ => ⟨.int .i64 CR, wx, ex_move rfl (by rw [hρ, fl_out rfl, r42]), hW, Below.refl _ _, rfl⟩⟩
                    refine StepF.val (i := 46) (o := _) rfl (by decide) ?_ ?_
                    · intro bb vs wx _ hW hY
                      have y266 : vs 266 = .int .i64 CR := hY 44 266 (by kernel_rfl) (by kernel_rfl)
                      have y267 : vs 267 = .int .i64 CR := hY 45 267 (by kernel_rfl) (by kernel_rfl)
                      have y265 : vs 265 = .bool false := hY 43 265 (by kernel_rfl) (by kernel_rfl)
                      refine ⟨fl_wantg 303 HN.out rfl rfl rfl y265, fun ρ hρ => ⟨.bool false, wx, ?_, hW, Below.refl _ _, rfl⟩⟩
                      have r266x : ρ (.tmp 266) = .int .i64 CR := by rw [hρ, fl_in 303 HN.out rfl, y266]
                      have r267x : ρ (.tmp 267) = .int .i64 CR := by rw [hρ, fl_in 303 HN.out rfl, y267]
                      clear hρ
                      simp [execOp, go_sem, r266x, r267x]
                    refine StepF.val (i := 47) (o := _) rfl (by decide) ?_ ?_
                    · intro bb vs wx _ hW hY
                      have y265 : vs 265 = .bool false := hY 43 265 (by kernel_rfl) (by kernel_rfl)
                      have y268 : vs 268 = .bool false := hY 46 268 (by kernel_rfl) (by kernel_rfl)
                      refine ⟨fl_want rfl, fun ρ hρ => ⟨.bool false, wx, ?_, hW, Below.refl _ _, rfl⟩⟩
                      have r265x : ρ (.tmp 265) = .bool false := by rw [hρ, fl_in 303 HN.out rfl, y265]
                      have r268x : ρ (.tmp 268) = .bool false := by rw [hρ, fl_in 303 HN.out rfl, y268]
                      have rc : ∀ c, ρ (.const c) = c := fun c => by rw [hρ]; rfl
                      clear hρ
                      simp [execOp, go_sem, r265x, r268x, rc]
                    refine StepF.val (i := 48) (o := _) rfl (by decide) ?_ ?_
                    · intro bb vs wx _ hW hY
                      have y269 : vs 269 = .bool false := hY 47 269 (by kernel_rfl) (by kernel_rfl)
                      exact ⟨fl_want rfl, fun ρ hρ => ⟨.bool false, wx, ex_move rfl (by rw [hρ, fl_in 303 HN.out rfl, y269]), hW, Below.refl _ _, rfl⟩⟩
                    refine StepF.val (i := 49) (o := _) rfl (by decide) ?_ ?_
                    · intro bb vs wx _ hW hY
                      have y270 : vs 270 = .bool false := hY 48 270 (by kernel_rfl) (by kernel_rfl)
                      exact ⟨fl_wantg 303 HN.out rfl rfl rfl y270, fun ρ hρ => ⟨.int .i64 WE, wx, ex_move rfl (by rw [hρ, fl_out rfl, r41]), hW, Below.refl _ _, rfl⟩⟩
                    refine StepF.val (i := 50) (o := _) rfl (by decide) ?_ ?_
                    · intro bb vs wx _ hW hY
                      have y270 : vs 270 = .bool false := hY 48 270 (by kernel_rfl) (by kernel_rfl)
                      exact ⟨fl_wantg 303 HN.out rfl rfl rfl y270, fun ρ hρ => ⟨.int .i64 WE, wx, ex_move rfl (by rw [hρ, fl_out rfl, r43]), hW, Below.refl _ _, rfl⟩⟩
                    refine StepF.val (i := 51) (o := _) rfl (by decide) ?_ ?_
                    · intro bb vs wx _ hW hY
                      have y271 : vs 271 = .int .i64 WE := hY 49 271 (by kernel_rfl) (by kernel_rfl)
                      have y272 : vs 272 = .int .i64 WE := hY 50 272 (by kernel_rfl) (by kernel_rfl)
                      have y270 : vs 270 = .bool false := hY 48 270 (by kernel_rfl) (by kernel_rfl)
                      refine ⟨fl_wantg 303 HN.out rfl rfl rfl y270, fun ρ hρ => ⟨.bool false, wx, ?_, hW, Below.refl _ _, rfl⟩⟩
                      have r271x : ρ (.tmp 271) = .int .i64 WE := by rw [hρ, fl_in 303 HN.out rfl, y271]
                      have r272x : ρ (.tmp 272) = .int .i64 WE := by rw [hρ, fl_in 303 HN.out rfl, y272]
                      clear hρ
                      simp [execOp, go_sem, r271x, r272x]
                    refine StepF.val (i := 52) (o := _) rfl (by decide) ?_ ?_
                    · intro bb vs wx _ hW hY
                      have y270 : vs 270 = .bool false := hY 48 270 (by kernel_rfl) (by kernel_rfl)
                      have y273 : vs 273 = .bool false := hY 51 273 (by kernel_rfl) (by kernel_rfl)
                      refine ⟨fl_want rfl, fun ρ hρ => ⟨.bool false, wx, ?_, hW, Below.refl _ _, rfl⟩⟩
                      have r270x : ρ (.tmp 270) = .bool false := by rw [hρ, fl_in 303 HN.out rfl, y270]
                      have r273x : ρ (.tmp 273) = .bool false := by rw [hρ, fl_in 303 HN.out rfl, y273]
                      have rc : ∀ c, ρ (.const c) = c := fun c => by rw [hρ]; rfl
                      clear hρ
                      simp [execOp, go_sem, r270x, r273x, rc]
                    refine StepF.val (i := 53) (o := _) rfl (by decide) ?_ ?_
                    · intro bb vs wx _ hW hY
                      have y274 : vs 274 = .bool false := hY 52 274 (by kernel_rfl) (by kernel_rfl)
                      exact ⟨fl_want rfl, fun ρ hρ => ⟨.bool false, wx, ex_move rfl (by rw [hρ, fl_in 303 HN.out rfl, y274]), hW, Below.refl _ _, rfl⟩⟩
                    refine StepF.val (i := 54) (o := _) rfl (by decide) ?_ ?_
                    · intro bb vs wx _ hW hY
                      have y275 : vs 275 = .bool false := hY 53 275 (by kernel_rfl) (by kernel_rfl)
                      refine ⟨fl_wantg 303 HN.out rfl rfl rfl y275, fun ρ hρ => ⟨.agg #[.slice pa Q.persons.length xa, .slice pb Q.walk.length xb, .slice pc Q.dress.length xc, .slice pe Q.parts.length xe], wx, ?_, hW, Below.refl _ _, rfl⟩⟩
                      have r33x : ρ (.tmp 33) = .pointer (some ⟨Y, 0, none⟩) := by rw [hρ, fl_out rfl, r33]
                      have hS := HSq.out wx hW
                      have q0 := hS.1
                      have q1 := hS.2.1
                      have q2 := hS.2.2.1
                      have q3 := hS.2.2.2.1
                      clear hS
                      clear hρ
                      simp [execOp, go_sem, r33x, q0, q1, q2, q3]
                    refine StepF.val (i := 55) (o := _) rfl (by decide) ?_ ?_
                    · intro bb vs wx _ hW hY
                      have y275 : vs 275 = .bool false := hY 53 275 (by kernel_rfl) (by kernel_rfl)
                      exact ⟨fl_wantg 303 HN.out rfl rfl rfl y275, fun ρ hρ => ⟨.slice (some ⟨b27, 0, none⟩) 5 5, wx, ex_move rfl (by rw [hρ, fl_out rfl, r27]), hW, Below.refl _ _, rfl⟩⟩
                    refine StepF.val (i := 56) (o := _) rfl (by decide) ?_ ?_
                    · intro bb vs wx _ hW hY
                      have y275 : vs 275 = .bool false := hY 53 275 (by kernel_rfl) (by kernel_rfl)
                      exact ⟨fl_wantg 303 HN.out rfl rfl rfl y275, fun ρ hρ => ⟨.int .i64 k, wx, ex_move rfl (by rw [hρ, fl_out rfl, r32]), hW, Below.refl _ _, rfl⟩⟩
                    refine StepF.val (i := 57) (o := _) rfl (by decide) ?_ ?_
                    · intro bb vs wx _ hW hY
                      have y277 : vs 277 = .slice (some ⟨b27, 0, none⟩) 5 5 := hY 55 277 (by kernel_rfl) (by kernel_rfl)
                      have y278 : vs 278 = .int .i64 k := hY 56 278 (by kernel_rfl) (by kernel_rfl)
                      have y275 : vs 275 = .bool false := hY 53 275 (by kernel_rfl) (by kernel_rfl)
                      refine ⟨fl_wantg 303 HN.out rfl rfl rfl y275, fun ρ hρ => ⟨.pointer (some ⟨b27, k * 4, none⟩), wx, ?_, hW, Below.refl _ _, rfl⟩⟩
                      have r277x : ρ (.tmp 277) = .slice (some ⟨b27, 0, none⟩) 5 5 := by rw [hρ, fl_in 303 HN.out rfl, y277]
                      have r278x : ρ (.tmp 278) = .int .i64 k := by rw [hρ, fl_in 303 HN.out rfl, y278]
                      clear hρ
                      simp [execOp, go_sem, r277x, r278x, i1]
                    refine StepF.val (i := 58) (o := _) rfl (by decide) ?_ ?_
                    · intro bb vs wx _ hW hY
                      have y279 : vs 279 = .pointer (some ⟨b27, k * 4, none⟩) := hY 57 279 (by kernel_rfl) (by kernel_rfl)
                      have y275 : vs 275 = .bool false := hY 53 275 (by kernel_rfl) (by kernel_rfl)
                      refine ⟨fl_wantg 303 HN.out rfl rfl rfl y275, fun ρ hρ => ⟨.agg #[.slice qa Q.persons.length ka, .slice qb Q.walk.length kb, .slice qc Q.dress.length kc, .slice qe Q.parts.length ke], wx, ?_, hW, Below.refl _ _, rfl⟩⟩
                      have r279x : ρ (.tmp 279) = .pointer (some ⟨b27, k * 4, none⟩) := by rw [hρ, fl_in 303 HN.out rfl, y279]
                      have hS := HSq.out wx hW
                      have q0 := hS.2.2.2.2.1
                      have q1 := hS.2.2.2.2.2.1
                      have q2 := hS.2.2.2.2.2.2.1
                      have q3 := hS.2.2.2.2.2.2.2.1
                      clear hS
                      clear hρ
                      simp [execOp, go_sem, r279x, q0, q1, q2, q3]
                    refine StepF.call (i := 59) (o := _) rfl (by decide) ?_ ?_
                    · intro bb vs wx _ hW hY
                      have y276 : vs 276 = .agg #[.slice pa Q.persons.length xa, .slice pb Q.walk.length xb, .slice pc Q.dress.length xc, .slice pe Q.parts.length xe] := hY 54 276 (by kernel_rfl) (by kernel_rfl)
                      have y280 : vs 280 = .agg #[.slice qa Q.persons.length ka, .slice qb Q.walk.length kb, .slice qc Q.dress.length kc, .slice qe Q.parts.length ke] := hY 58 280 (by kernel_rfl) (by kernel_rfl)
                      have y275 : vs 275 = .bool false := hY 53 275 (by kernel_rfl) (by kernel_rfl)
                      refine ⟨fl_wantg 303 HN.out rfl rfl rfl y275, fun ρ hρ => ⟨30, _, ex_call (vs := #[(.agg #[.slice pa Q.persons.length xa, .slice pb Q.walk.length xb, .slice pc Q.dress.length xc, .slice pe Q.parts.length xe]), (.agg #[.slice qa Q.persons.length ka, .slice qb Q.walk.length kb, .slice qc Q.dress.length kc, .slice qe Q.parts.length ke])]) rfl (by rw [hρ]; rfl) (by simp [hρ, fl_in 303 HN.out, y276, fl_in 303 HN.out, y280]) Try.func30 (by kernel_rfl) rfl, ?_⟩⟩
                      refine (eqPlots_same Q _ _ _ _ _ _ _ _ _ _ _ (HQo.out.below (HBq.out.trans (hW.mono HBq.out.size))) (HQp.out.below (HBq.out.trans (hW.mono HBq.out.size))) HQN.out).mono ?_
                      rintro e w' ⟨rfl, h2⟩
                      exact ⟨_, rfl, hW.trans (h2.mono hW.size), h2, rfl⟩
                    refine StepF.val (i := 60) (o := _) rfl (by decide) ?_ ?_
                    · intro bb vs wx _ hW hY
                      have y281 : vs 281 = .bool true := hY 59 281 (by kernel_rfl) (by kernel_rfl)
                      have y275 : vs 275 = .bool false := hY 53 275 (by kernel_rfl) (by kernel_rfl)
                      refine ⟨fl_wantg 303 HN.out rfl rfl rfl y275, fun ρ hρ => ⟨.bool false, wx, ?_, hW, Below.refl _ _, rfl⟩⟩
                      have r281x : ρ (.tmp 281) = .bool true := by rw [hρ, fl_in 303 HN.out rfl, y281]
                      clear hρ
                      simp [execOp, go_sem, r281x]
                    refine StepF.val (i := 61) (o := _) rfl (by decide) ?_ ?_
                    · intro bb vs wx _ hW hY
                      have y275 : vs 275 = .bool false := hY 53 275 (by kernel_rfl) (by kernel_rfl)
                      have y282 : vs 282 = .bool false := hY 60 282 (by kernel_rfl) (by kernel_rfl)
                      refine ⟨fl_want rfl, fun ρ hρ => ⟨.bool false, wx, ?_, hW, Below.refl _ _, rfl⟩⟩
                      have r275x : ρ (.tmp 275) = .bool false := by rw [hρ, fl_in 303 HN.out rfl, y275]
                      have r282x : ρ (.tmp 282) = .bool false := by rw [hρ, fl_in 303 HN.out rfl, y282]
                      have rc : ∀ c, ρ (.const c) = c := fun c => by rw [hρ]; rfl
                      clear hρ
                      simp [execOp, go_sem, r275x, r282x, rc]
                    refine StepF.val (i := 62) (o := _) rfl (by decide) ?_ ?_
                    · intro bb vs wx _ hW hY
                      have y283 : vs 283 = .bool false := hY 61 283 (by kernel_rfl) (by kernel_rfl)
                      exact ⟨fl_want rfl, fun ρ hρ => ⟨.bool false, wx, ex_move rfl (by rw [hρ, fl_in 303 HN.out rfl, y283]), hW, Below.refl _ _, rfl⟩⟩
                    refine StepF.val (i := 63) (o := _) rfl (by decide) ?_ ?_
                    · intro bb vs wx _ hW hY
                      have y284 : vs 284 = .bool false := hY 62 284 (by kernel_rfl) (by kernel_rfl)
                      exact ⟨fl_wantg 303 HN.out rfl rfl rfl y284, fun ρ hρ => ⟨.slice ia I.length ja, wx, ex_move rfl (by rw [hρ, fl_out rfl, r34]), hW, Below.refl _ _, rfl⟩⟩
                    refine StepF.val (i := 64) (o := _) rfl (by decide) ?_ ?_
                    · intro bb vs wx _ hW hY
                      have y284 : vs 284 = .bool false := hY 62 284 (by kernel_rfl) (by kernel_rfl)
                      exact ⟨fl_wantg 303 HN.out rfl rfl rfl y284, fun ρ hρ => ⟨.slice (some ⟨b28, 0, none⟩) 5 5, wx, ex_move rfl (by rw [hρ, fl_out rfl, r28]), hW, Below.refl _ _, rfl⟩⟩
                    refine StepF.val (i := 65) (o := _) rfl (by decide) ?_ ?_
                    · intro bb vs wx _ hW hY
                      have y284 : vs 284 = .bool false := hY 62 284 (by kernel_rfl) (by kernel_rfl)
                      exact ⟨fl_wantg 303 HN.out rfl rfl rfl y284, fun ρ hρ => ⟨.int .i64 k, wx, ex_move rfl (by rw [hρ, fl_out rfl, r32]), hW, Below.refl _ _, rfl⟩⟩
                    refine StepF.val (i := 66) (o := _) rfl (by decide) ?_ ?_
                    · intro bb vs wx _ hW hY
                      have y286 : vs 286 = .slice (some ⟨b28, 0, none⟩) 5 5 := hY 64 286 (by kernel_rfl) (by kernel_rfl)
                      have y287 : vs 287 = .int .i64 k := hY 65 287 (by kernel_rfl) (by kernel_rfl)
                      have y284 : vs 284 = .bool false := hY 62 284 (by kernel_rfl) (by kernel_rfl)
                      refine ⟨fl_wantg 303 HN.out rfl rfl rfl y284, fun ρ hρ => ⟨.pointer (some ⟨b28, k, none⟩), wx, ?_, hW, Below.refl _ _, rfl⟩⟩
                      have r286x : ρ (.tmp 286) = .slice (some ⟨b28, 0, none⟩) 5 5 := by rw [hρ, fl_in 303 HN.out rfl, y286]
                      have r287x : ρ (.tmp 287) = .int .i64 k := by rw [hρ, fl_in 303 HN.out rfl, y287]
                      clear hρ
                      simp [execOp, go_sem, r286x, r287x, i1]
                    refine StepF.val (i := 67) (o := _) rfl (by decide) ?_ ?_
                    · intro bb vs wx _ hW hY
                      have y288 : vs 288 = .pointer (some ⟨b28, k, none⟩) := hY 66 288 (by kernel_rfl) (by kernel_rfl)
                      have y284 : vs 284 = .bool false := hY 62 284 (by kernel_rfl) (by kernel_rfl)
                      refine ⟨fl_wantg 303 HN.out rfl rfl rfl y284, fun ρ hρ => ⟨.slice qi I.length ki, wx, ?_, hW, Below.refl _ _, rfl⟩⟩
                      have r288x : ρ (.tmp 288) = .pointer (some ⟨b28, k, none⟩) := by rw [hρ, fl_in 303 HN.out rfl, y288]
                      have hS := HSq.out wx hW
                      have q0 := hS.2.2.2.2.2.2.2.2.1
                      clear hS
                      clear hρ
                      simp [execOp, go_sem, r288x, q0]
                    refine StepF.call (i := 68) (o := _) rfl (by decide) ?_ ?_
                    · intro bb vs wx _ hW hY
                      have y285 : vs 285 = .slice ia I.length ja := hY 63 285 (by kernel_rfl) (by kernel_rfl)
                      have y289 : vs 289 = .slice qi I.length ki := hY 67 289 (by kernel_rfl) (by kernel_rfl)
                      have y284 : vs 284 = .bool false := hY 62 284 (by kernel_rfl) (by kernel_rfl)
                      refine ⟨fl_wantg 303 HN.out rfl rfl rfl y284, fun ρ hρ => ⟨49, _, ex_call (vs := #[(.slice ia I.length ja), (.slice qi I.length ki)]) rfl (by rw [hρ]; rfl) (by simp [hρ, fl_in 303 HN.out, y285, fl_in 303 HN.out, y289]) Try.func49 (by kernel_rfl) rfl, ?_⟩⟩
                      refine (eqItems_same I _ _ _ _ _ (RecAt.below HJo.out (HBq.out.trans (hW.mono HBq.out.size))) (RecAt.below HJp.out (HBq.out.trans (hW.mono HBq.out.size))) (by omega)).mono ?_
                      rintro e w' ⟨rfl, h2⟩
                      exact ⟨_, rfl, hW.trans (h2.mono hW.size), h2, rfl⟩
                    refine StepF.val (i := 69) (o := _) rfl (by decide) ?_ ?_
                    · intro bb vs wx _ hW hY
                      have y290 : vs 290 = .bool true := hY 68 290 (by kernel_rfl) (by kernel_rfl)
                      have y284 : vs 284 = .bool false := hY 62 284 (by kernel_rfl) (by kernel_rfl)
                      refine ⟨fl_wantg 303 HN.out rfl rfl rfl y284, fun ρ hρ => ⟨.bool false, wx, ?_, hW, Below.refl _ _, rfl⟩⟩
                      have r290x : ρ (.tmp 290) = .bool true := by rw [hρ, fl_in 303 HN.out rfl, y290]
                      clear hρ
                      simp [execOp, go_sem, r290x]
                    refine StepF.val (i := 70) (o := _) rfl (by decide) ?_ ?_
                    · intro bb vs wx _ hW hY
                      have y284 : vs 284 = .bool false := hY 62 284 (by kernel_rfl) (by kernel_rfl)
                      have y291 : vs 291 = .bool false := hY 69 291 (by kernel_rfl) (by kernel_rfl)
                      refine ⟨fl_want rfl, fun ρ hρ => ⟨.bool false, wx, ?_, hW, Below.refl _ _, rfl⟩⟩
                      have r284x : ρ (.tmp 284) = .bool false := by rw [hρ, fl_in 303 HN.out rfl, y284]
                      have r291x : ρ (.tmp 291) = .bool false := by rw [hρ, fl_in 303 HN.out rfl, y291]
                      have rc : ∀ c, ρ (.const c) = c := fun c => by rw [hρ]; rfl
                      clear hρ
                      simp [execOp, go_sem, r284x, r291x, rc]
                    refine StepF.val (i := 71) (o := _) rfl (by decide) ?_ ?_
                    · intro bb vs wx _ hW hY
                      have y292 : vs 292 = .bool false := hY 70 292 (by kernel_rfl) (by kernel_rfl)
                      exact ⟨fl_want rfl, fun ρ hρ => ⟨.bool false, wx, ex_move rfl (by rw [hρ, fl_in 303 HN.out rfl, y292]), hW, Below.refl _ _, rfl⟩⟩
                    refine StepF.val (i := 72) (o := _) rfl (by decide) ?_ ?_
                    · intro bb vs wx _ hW hY
                      have y293 : vs 293 = .bool false := hY 71 293 (by kernel_rfl) (by kernel_rfl)
                      exact ⟨fl_wantg 303 HN.out rfl rfl rfl y293, fun ρ hρ => ⟨.slice ga WW.length gc, wx, ex_move rfl (by rw [hρ, fl_out rfl, r35]), hW, Below.refl _ _, rfl⟩⟩
                    refine StepF.val (i := 73) (o := _) rfl (by decide) ?_ ?_
                    · intro bb vs wx _ hW hY
                      have y293 : vs 293 = .bool false := hY 71 293 (by kernel_rfl) (by kernel_rfl)
                      exact ⟨fl_wantg 303 HN.out rfl rfl rfl y293, fun ρ hρ => ⟨.slice (some ⟨b29, 0, none⟩) 5 5, wx, ex_move rfl (by rw [hρ, fl_out rfl, r29]), hW, Below.refl _ _, rfl⟩⟩
                    refine StepF.val (i := 74) (o := _) rfl (by decide) ?_ ?_
                    · intro bb vs wx _ hW hY
                      have y293 : vs 293 = .bool false := hY 71 293 (by kernel_rfl) (by kernel_rfl)
                      exact ⟨fl_wantg 303 HN.out rfl rfl rfl y293, fun ρ hρ => ⟨.int .i64 k, wx, ex_move rfl (by rw [hρ, fl_out rfl, r32]), hW, Below.refl _ _, rfl⟩⟩
                    refine StepF.val (i := 75) (o := _) rfl (by decide) ?_ ?_
                    · intro bb vs wx _ hW hY
                      have y295 : vs 295 = .slice (some ⟨b29, 0, none⟩) 5 5 := hY 73 295 (by kernel_rfl) (by kernel_rfl)
                      have y296 : vs 296 = .int .i64 k := hY 74 296 (by kernel_rfl) (by kernel_rfl)
                      have y293 : vs 293 = .bool false := hY 71 293 (by kernel_rfl) (by kernel_rfl)
                      refine ⟨fl_wantg 303 HN.out rfl rfl rfl y293, fun ρ hρ => ⟨.pointer (some ⟨b29, k, none⟩), wx, ?_, hW, Below.refl _ _, rfl⟩⟩
                      have r295x : ρ (.tmp 295) = .slice (some ⟨b29, 0, none⟩) 5 5 := by rw [hρ, fl_in 303 HN.out rfl, y295]
                      have r296x : ρ (.tmp 296) = .int .i64 k := by rw [hρ, fl_in 303 HN.out rfl, y296]
                      clear hρ
                      simp [execOp, go_sem, r295x, r296x, i1]
                    refine StepF.val (i := 76) (o := _) rfl (by decide) ?_ ?_
                    · intro bb vs wx _ hW hY
                      have y297 : vs 297 = .pointer (some ⟨b29, k, none⟩) := hY 75 297 (by kernel_rfl) (by kernel_rfl)
                      have y293 : vs 293 = .bool false := hY 71 293 (by kernel_rfl) (by kernel_rfl)
                      refine ⟨fl_wantg 303 HN.out rfl rfl rfl y293, fun ρ hρ => ⟨.slice qw WW.length kw, wx, ?_, hW, Below.refl _ _, rfl⟩⟩
                      have r297x : ρ (.tmp 297) = .pointer (some ⟨b29, k, none⟩) := by rw [hρ, fl_in 303 HN.out rfl, y297]
                      have hS := HSq.out wx hW
                      have q0 := hS.2.2.2.2.2.2.2.2.2.1
                      clear hS
                      clear hρ
                      simp [execOp, go_sem, r297x, q0]
                    refine StepF.call (i := 77) (o := _) rfl (by decide) ?_ ?_
                    · intro bb vs wx _ hW hY
                      have y294 : vs 294 = .slice ga WW.length gc := hY 72 294 (by kernel_rfl) (by kernel_rfl)
                      have y298 : vs 298 = .slice qw WW.length kw := hY 76 298 (by kernel_rfl) (by kernel_rfl)
                      have y293 : vs 293 = .bool false := hY 71 293 (by kernel_rfl) (by kernel_rfl)
                      refine ⟨fl_wantg 303 HN.out rfl rfl rfl y293, fun ρ hρ => ⟨29, _, ex_call (vs := #[(.slice ga WW.length gc), (.slice qw WW.length kw)]) rfl (by rw [hρ]; rfl) (by simp [hρ, fl_in 303 HN.out, y294, fl_in 303 HN.out, y298]) Try.func29 (by kernel_rfl) rfl, ?_⟩⟩
                      refine (eqInts_same WW _ _ _ _ _ (HVq.out.below (HBq.out.trans (hW.mono HBq.out.size))) (HVp.out.below (HBq.out.trans (hW.mono HBq.out.size))) (by omega)).mono ?_
                      rintro e w' ⟨rfl, h2⟩
                      exact ⟨_, rfl, hW.trans (h2.mono hW.size), h2, rfl⟩
                    refine StepF.val (i := 78) (o := _) rfl (by decide) ?_ ?_
                    · intro bb vs wx _ hW hY
                      have y299 : vs 299 = .bool true := hY 77 299 (by kernel_rfl) (by kernel_rfl)
                      have y293 : vs 293 = .bool false := hY 71 293 (by kernel_rfl) (by kernel_rfl)
                      refine ⟨fl_wantg 303 HN.out rfl rfl rfl y293, fun ρ hρ => ⟨.bool false, wx, ?_, hW, Below.refl _ _, rfl⟩⟩
                      have r299x : ρ (.tmp 299) = .bool true := by rw [hρ, fl_in 303 HN.out rfl, y299]
                      clear hρ
                      simp [execOp, go_sem, r299x]
                    refine StepF.val (i := 79) (o := _) rfl (by decide) ?_ ?_
                    · intro bb vs wx _ hW hY
                      have y293 : vs 293 = .bool false := hY 71 293 (by kernel_rfl) (by kernel_rfl)
                      have y300 : vs 300 = .bool false := hY 78 300 (by kernel_rfl) (by kernel_rfl)
                      refine ⟨fl_want rfl, fun ρ hρ => ⟨.bool false, wx, ?_, hW, Below.refl _ _, rfl⟩⟩
                      have r293x : ρ (.tmp 293) = .bool false := by rw [hρ, fl_in 303 HN.out rfl, y293]
                      have r300x : ρ (.tmp 300) = .bool false := by rw [hρ, fl_in 303 HN.out rfl, y300]
                      have rc : ∀ c, ρ (.const c) = c := fun c => by rw [hρ]; rfl
                      clear hρ
                      simp [execOp, go_sem, r293x, r300x, rc]
                    exact StepF.nil
                  · intro vs wx hW hY
                    have y301 : vs 301 = .bool false := hY 79 301 (by kernel_rfl)
                    have HWx := hid (show Below wq.heap.size wq wx from hW)
                    clear hW hY r27 r28 r29 r32 r33 r34 r35 r36 r37 r38 r39 r40 r41 r42 r43 HN
                    rw [HA.out]
                    simp only [putAll, Act.put, List.setIfInBounds_toArray, List.set_cons_zero, List.set_cons_succ]
                    rw [y301]
                    clear HA y301
                    go_wp2_with fail
                    go_roundw
                    case rel => exact ⟨k + 1, by omega, by go_num, HB.out.trans ((HBo.out.trans ((HBq.out.trans (HWx.out.mono HBq.out.size)).mono HBo.out.size)).mono HB.out.size)⟩
                    case measure => simp [intOf] <;> omega
end Go.Proofs.Ytdcinngdilfpnaa
