/-
  WALK: the closure that looks for the cheapest wear and calls itself.
-/
import Derived.Test.YtdcinngdilfpnaaChp
import Derived.WalkMore
import Derived.Deep.LoopGhost
namespace Go.Proofs.Ytdcinngdilfpnaa
open Go.RowKit

attribute [local go_sem] Oper.semAt_some
theorem bool_ne (a b : Bool) : (a == b) = decide (a = b) := by cases a <;> cases b <;> rfl

set_option maxHeartbeats 4000000 in
set_option maxRecDepth 100000 in
/-- a whole wear -/
theorem chp_leaf (p : Plot) (items : List Item) (T I S G F Y base : Nat) (vp vw vd vq vi : Value) (cs : Cells) (w0 : World) (h : PlotAt none w0 vp vw vd vq p) (hI : ItemsAt none w0 vi items) (hv : itemsErr p items = 0) (C : Ctx S G F base cs w0)
    (t3 : (T, 3, vq) ∈ cs) (i0 : (I, 0, vi) ∈ cs)
    (b : List Int) (vn vb : Value) (g : Int) (f : Bool) (s : Bst) (w : World) (hw : wearsE p items p.parts b = 0) (hl : b.length = p.parts.length) (r : Rdy S G F base cs w0 vn b vb g f s w) :
    Calls Try.prog 102 #[vn, .pointer (some ⟨T, 0, none⟩), .pointer (some ⟨I, 0, none⟩), .pointer (some ⟨F, 0, none⟩), .pointer (some ⟨G, 0, none⟩), .pointer (some ⟨S, 0, none⟩), .pointer (some ⟨Y, 0, none⟩)] w
     fun e w' => e = .returned (.tuple #[]) ∧ ∃ vb' g' f', Rdy S G F base cs w0 vn b vb' g' f' (mergeB s (bestR p items p.parts 0 b)) w' ∧ FrC S G F vn.ownBlock w w' ∧ (∀ x, vb'.ownBlock = some x → vb.ownBlock = some x ∨ w.heap.size ≤ x) := by
  have R := hid r
  have HC := hid C
  obtain ⟨aq, cq, rfl⟩ := h.parts.form
  obtain ⟨ai, ci, rfl⟩ := hI.form
  obtain ⟨an, cn, rfl⟩ := (own_int.2 r.own).form
  obtain ⟨av, nv, cv, rfl⟩ : ∃ a n c, vb = .slice a n c := by
    cases s with
    | none => exact ⟨_, _, _, r.st.2.1⟩
    | some x => obtain ⟨l, c⟩ := x; obtain ⟨a, c', e⟩ := (own_int.2 r.st.2.2).form; exact ⟨_, _, _, e⟩
  have n1 := C.hSG
  have n2 := C.hSF
  have n3 := C.hGF
  have n4 := Ne.symm C.hSG
  have n5 := Ne.symm C.hSF
  have n6 := Ne.symm C.hGF
  have hfew := (plotErr_zero.1 (itemsErr_zero hv).1).few
  have hil := (itemsErr_zero hv).2.1
  have HCo := hid (fun W' (hb0 : Below w0.heap.size w0 W') (hw' : OwnInts base W' (.slice an b.length cn) b) => cost_any items b _ _ W' (hI.below hb0) (hw'.at (by simp)) (wears_within hw) (items_priced hv) (by omega) (by omega))
  have HBs := hid (show bestR p items p.parts 0 b = some (b, costW items b) from by simp only [bestR]; rw [if_pos hw])
  have hcb := costW_bd (items_priced hv) (wears_within hw)
  have hblen : b.length ≤ 1000000 := by omega
  obtain ⟨d1, d2⟩ := eq_bool (a := (b.length : Int)) (b := (p.parts.length : Int)) (by omega)
  have x1 := R.out.k.c (b := T) (o := 3) (v := .slice aq p.parts.length cq) (by simp [t3])
  have x2 := R.out.k.c (b := I) (o := 0) (v := .slice ai items.length ci) (by simp [i0])
  rw [HBs.out]
  clear h hI hv hw hl r C
  by_cases hs : s = none ∨ costW items b < g
  · have hm : mergeB s (some (b, costW items b)) = some (b, costW items b) := by
      cases s with
      | none => rfl
      | some x =>
        obtain ⟨l, c⟩ := x
        have hg := R.out.st.2.1
        rcases hs with hs | hs
        · cases hs
        · simp only [mergeB]; rw [if_pos (by omega)]
    rw [hm]
    have hcond : f = false ∨ (f = true ∧ costW items b < g) := by
      cases s with
      | none => exact .inl R.out.st.1
      | some x =>
        obtain ⟨l, c⟩ := x
        rcases hs with hs | hs
        · cases hs
        · exact .inr ⟨R.out.st.1, hs⟩
    clear hs hm
    rcases hcond with rfl | ⟨rfl, hlt⟩
    · go_enter Try.func102, Try.ntmps102
      go_step3
      go_wp2_with (first
        | (go_at_call 88; refine (HCo.out _ R.out.k.below R.out.own).mono ?_; rintro e w1 ⟨rfl, hb1⟩; have R1 := hid (R.out.later HC.out hb1); have HB1 := hid hb1; clear hb1; have y1 := R1.out.k.c (b := F) (o := 0) (v := .bool false) (by simp); have y2 := R1.out.k.c (b := G) (o := 0) (v := .int .i64 g) (by simp); have y3 := R1.out.k.c (b := S) (o := 0) (v := .slice av nv cv) (by simp); have z1 := R1.out.k.f (b := F) (o := 0) (v := .bool false) (by simp); have z2 := R1.out.k.f (b := G) (o := 0) (v := .int .i64 g) (by simp); have z3 := R1.out.k.f (b := S) (o := 0) (v := .slice av nv cv) (by simp))
        | (at_builtin; refine wpList_app encInt Try.underlying22 infoInt' (by decide) (by decide) (fun _ => rfl) rfl _ _ rfl w1.heap.size [] b (fun y _ => encInt_one y) _ _ rfl rfl (OwnR.empty encInt 1 3 (Nat.le_refl _)) (Src.ints (R1.out.own.later (below_alloc _ _) |>.at (d := none) (by simp)) (own_int.2 R1.out.own).sound) (by simpa using hblen) (by simp) ?_; intro v' w2 hown' hg2 _ hat2; rw [List.nil_append] at hown'; obtain ⟨a2, c2, rfl⟩ := hown'.form; have hb2 : Below w1.heap.size w1 w2 := ((below_alloc w1 _).grown hg2 (by simp) (fun g e => by cases e; exact Nat.le_refl _)); have R2 := hid (R1.out.later HC.out hb2); have H2 := hid (own_int.1 hown'); have HB2 := hid hb2; clear y1 y2 y3 z1 z2 z3 hown' hg2 hat2 hb2; have y1 := R2.out.k.c (b := F) (o := 0) (v := .bool false) (by simp); have y2 := R2.out.k.c (b := G) (o := 0) (v := .int .i64 g) (by simp); have y3 := R2.out.k.c (b := S) (o := 0) (v := .slice av nv cv) (by simp); have z1 := R2.out.k.f (b := F) (o := 0) (v := .bool false) (by simp); have z2 := R2.out.k.f (b := G) (o := 0) (v := .int .i64 g) (by simp); have z3 := R2.out.k.f (b := S) (o := 0) (v := .slice av nv cv) (by simp)))
      rw [Exit.noGoto_ret]
      have hst := R1.out.store HC.out HB2.out H2.out (costW items b) (Value.slice an b.length cn).ownBlock
      exact bodyPost_ret (v := .tuple #[]) (by simp [results, Try.results102, go_sem]) rfl ⟨rfl, .slice a2 b.length c2, costW items b, true, hst.1, (FrC.of_below HB1.out).trans' hst.2, fun x hx => .inr (Nat.le_trans HB1.out.size (H2.out.lt' hx).1)⟩
    · go_enter Try.func102, Try.ntmps102
      go_step3
      go_wp2_with (first
        | (go_at_call 88; refine (HCo.out _ R.out.k.below R.out.own).mono ?_; rintro e w1 ⟨rfl, hb1⟩; have R1 := hid (R.out.later HC.out hb1); have HB1 := hid hb1; clear hb1; have y1 := R1.out.k.c (b := F) (o := 0) (v := .bool true) (by simp); have y2 := R1.out.k.c (b := G) (o := 0) (v := .int .i64 g) (by simp); have y3 := R1.out.k.c (b := S) (o := 0) (v := .slice av nv cv) (by simp); have z1 := R1.out.k.f (b := F) (o := 0) (v := .bool true) (by simp); have z2 := R1.out.k.f (b := G) (o := 0) (v := .int .i64 g) (by simp); have z3 := R1.out.k.f (b := S) (o := 0) (v := .slice av nv cv) (by simp))
        | (at_builtin; refine wpList_app encInt Try.underlying22 infoInt' (by decide) (by decide) (fun _ => rfl) rfl _ _ rfl w1.heap.size [] b (fun y _ => encInt_one y) _ _ rfl rfl (OwnR.empty encInt 1 3 (Nat.le_refl _)) (Src.ints (R1.out.own.later (below_alloc _ _) |>.at (d := none) (by simp)) (own_int.2 R1.out.own).sound) (by simpa using hblen) (by simp) ?_; intro v' w2 hown' hg2 _ hat2; rw [List.nil_append] at hown'; obtain ⟨a2, c2, rfl⟩ := hown'.form; have hb2 : Below w1.heap.size w1 w2 := ((below_alloc w1 _).grown hg2 (by simp) (fun g e => by cases e; exact Nat.le_refl _)); have R2 := hid (R1.out.later HC.out hb2); have H2 := hid (own_int.1 hown'); have HB2 := hid hb2; clear y1 y2 y3 z1 z2 z3 hown' hg2 hat2 hb2; have y1 := R2.out.k.c (b := F) (o := 0) (v := .bool true) (by simp); have y2 := R2.out.k.c (b := G) (o := 0) (v := .int .i64 g) (by simp); have y3 := R2.out.k.c (b := S) (o := 0) (v := .slice av nv cv) (by simp); have z1 := R2.out.k.f (b := F) (o := 0) (v := .bool true) (by simp); have z2 := R2.out.k.f (b := G) (o := 0) (v := .int .i64 g) (by simp); have z3 := R2.out.k.f (b := S) (o := 0) (v := .slice av nv cv) (by simp)))
      rw [Exit.noGoto_ret]
      have hst := R1.out.store HC.out HB2.out H2.out (costW items b) (Value.slice an b.length cn).ownBlock
      exact bodyPost_ret (v := .tuple #[]) (by simp [results, Try.results102, go_sem]) rfl ⟨rfl, .slice a2 b.length c2, costW items b, true, hst.1, (FrC.of_below HB1.out).trans' hst.2, fun x hx => .inr (Nat.le_trans HB1.out.size (H2.out.lt' hx).1)⟩
  · obtain ⟨l, c, rfl⟩ : ∃ l c, s = some (l, c) := by
      cases s with
      | none => exact absurd (.inl rfl) hs
      | some x => obtain ⟨l, c⟩ := x; exact ⟨l, c, rfl⟩
    obtain ⟨rfl, hg, _⟩ := R.out.st
    have hge : ¬ costW items b < g := fun h => hs (.inr h)
    have hm : mergeB (some (l, c)) (some (b, costW items b)) = some (l, c) := by simp only [mergeB]; rw [if_neg (by omega)]
    rw [hm]
    clear hs hm hg
    go_enter Try.func102, Try.ntmps102
    go_step3
    go_wp2_with (first
      | (go_at_call 88; refine (HCo.out _ R.out.k.below R.out.own).mono ?_; rintro e w1 ⟨rfl, hb1⟩; have R1 := hid (R.out.later HC.out hb1); have HB1 := hid hb1; clear hb1; have y1 := R1.out.k.c (b := F) (o := 0) (v := .bool true) (by simp); have y2 := R1.out.k.c (b := G) (o := 0) (v := .int .i64 g) (by simp)))
    rw [Exit.noGoto_ret]
    exact bodyPost_ret (v := .tuple #[]) (by simp [results, Try.results102, go_sem]) rfl ⟨rfl, _, _, _, R1.out, FrC.of_below HB1.out, fun x hx => .inl hx⟩
end Go.Proofs.Ytdcinngdilfpnaa
