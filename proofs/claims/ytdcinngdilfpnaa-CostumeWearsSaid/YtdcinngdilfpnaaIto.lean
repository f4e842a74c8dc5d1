/-
  WALKS: ItemsOf.
-/
import Derived.Test.YtdcinngdilfpnaaPlo
namespace Go.Proofs.Ytdcinngdilfpnaa
open Go.RowKit

theorem it_snoc_old {xs : List Item} {x : Item} {i : Nat} (h : i < xs.length) : it (xs ++ [x]) i = it xs i := by
  unfold it; rw [List.getD_eq_getElem?_getD, List.getD_eq_getElem?_getD, List.getElem?_append_left h]
theorem it_snoc_new (xs : List Item) (x : Item) : it (xs ++ [x]) xs.length = x := by
  unfold it; rw [List.getD_eq_getElem?_getD, List.getElem?_append_right (Nat.le_refl _)]; simp
theorem iti_snoc {Q : Item → Prop} {xs : List Item} {x : Item} (h : ∀ i, i < xs.length → Q (it xs i)) (hx : Q x) : ∀ i, i < (xs ++ [x]).length → Q (it (xs ++ [x]) i) := by
  intro i hi
  rw [List.length_append, List.length_singleton] at hi
  by_cases e : i < xs.length
  · rw [it_snoc_old e]; exact h i e
  · obtain rfl : i = xs.length := by omega
    rw [it_snoc_new]; exact hx
theorem itemE_fine {p : Plot} {x : Item} (h1 : 0 ≤ x.kind ∧ x.kind < p.dress.length) (h2 : 1 ≤ x.lo) (h3 : x.lo ≤ x.hi) (h4 : x.hi ≤ 300) (h5 : 0 ≤ x.cost ∧ x.cost ≤ 1000000) (h6 : 0 ≤ x.clean ∧ x.clean ≤ 1440) : itemE p x = 0 := by
  unfold itemE
  rw [if_neg (by rw [inB_true.2 ⟨h1.1, by omega⟩]; simp), if_pos (figE_fine h2 h3 h4), if_neg (by rw [inB_true.2 h5]; simp), if_neg (by rw [inB_true.2 h6]; simp)]

def ItemsPost (d : Nat) (p : Plot) (most : Int) (w : World) (e : Ending) (w' : World) : Prop :=
  ∃ v items, e = .returned v ∧ itemsErr p items = 0 ∧ (items.length : Int) ≤ most ∧ ItemsAt (some d) w' v items ∧ Sound0 v ∧ Beat d w' ∧ w.grownBy w' (some d)

set_option linter.unusedSimpArgs false in
set_option linter.unusedVariables false in
set_option maxHeartbeats 8000000 in
set_option maxRecDepth 100000 in
theorem itemsOf_any (d : Nat) (most : Int) (p : Plot) (vp vw vd vq : Value) (w : World) (h : Beat d w) (hp : PlotAt (some d) w vp vw vd vq p) (hv : plotErr p = 0) (h3 : 0 ≤ most) (h4 : most ≤ 30) :
    Calls Try.prog 15 #[.pointer (some ⟨d, 0, none⟩), plotV vp vw vd vq, .int .i64 most] w (ItemsPost d p most w) := by
  have H := hid h
  have hdl := h.lt
  have V := hid (plotErr_zero.1 hv)
  have HV := hid hv
  obtain ⟨ap, cp, rfl⟩ := hp.persons.form
  obtain ⟨aw, cw, rfl⟩ := hp.walk.form
  obtain ⟨ad, cd, ed, _⟩ := hp.dress
  subst ed
  obtain ⟨aq, cq, rfl⟩ := hp.parts.form
  have hdd := V.out.dress
  clear h hp hv
  have G := hid (show w.grownBy (w.alloc (.cells #[.slice ap p.persons.length cp, .slice aw p.walk.length cw, .slice ad p.dress.length cd, .slice aq p.parts.length cq] 29)) (some d) from World.grownBy_alloc w _ _)
  have HB := hid (H.out.gb (below_alloc w (.cells #[.slice ap p.persons.length cp, .slice aw p.walk.length cw, .slice ad p.dress.length cd, .slice aq p.parts.length cq] 29)))
  have hc : (w.alloc (.cells #[.slice ap p.persons.length cp, .slice aw p.walk.length cw, .slice ad p.dress.length cd, .slice aq p.parts.length cq] 29)).cell? ⟨w.heap.size, 2, none⟩ = some (.slice ad p.dress.length cd) := cell_at rfl rfl
  have HC := hid hc
  have hsz : (w.alloc (.cells #[.slice ap p.persons.length cp, .slice aw p.walk.length cw, .slice ad p.dress.length cd, .slice aq p.parts.length cq] 29)).heap.size = w.heap.size + 1 := by simp
  have HZ := hid (Nat.le_of_eq hsz.symm)
  clear hc hsz H
  go_enter Try.func15, Try.ntmps15
  go_wp2_with fail
  obtain ⟨w1, hw1⟩ : ∃ w1, w.alloc (.cells #[.slice ap p.persons.length cp, .slice aw p.walk.length cw, .slice ad p.dress.length cd, .slice aq p.parts.length cq] 29) = w1 := ⟨_, rfl⟩
  rw [hw1] at G HB HC HZ ⊢
  clear hw1
  have hdP : w.heap.size ≠ d := by omega
  refine (roll_any d (most + 1) _ HB.out (by omega)).mono ?_
  rintro e w2 ⟨nn, rfl, hn1, hn2, hbt, hgb⟩
  have G := hid (gb_trans G.out hgb)
  have HC := hid (cell_gb hgb hdP HC.out)
  have HZ := hid (Nat.le_trans HZ.out hgb.size)
  have HB := hid hbt
  clear hbt hgb
  obtain ⟨u, rfl⟩ := Int.eq_ofNat_of_zero_le hn1
  have hu : (u : Int) ≤ most := by omega
  clear hn1 hn2
  go_wp2_with fail
  go_loopw [7, 8] (fun v i wr => ∃ (k : Nat) (va : Value) (xs : List Item), va = v ∧ k ≤ u ∧ i = .int .i64 ((u : Int) - k) ∧ xs.length = k ∧ (∀ j, j < xs.length → itemE p (it xs j) = 0) ∧ OwnR encItem 5 42 (w.heap.size + 1) wr va xs ∧ wr.cell? ⟨w.heap.size, 2, none⟩ = some (.slice ad p.dress.length cd) ∧ Beat d wr ∧ w.grownBy wr (some d) ∧ w.heap.size + 1 ≤ wr.heap.size)
    (fun _ i _ => (intOf i).toNat)
  case atStart => exact ⟨0, _, [], rfl, by omega, by simp, rfl, fun j hj => by simp at hj, OwnR.nil _ _ _ _ _, HC.out, HB.out, G.out, HZ.out⟩
  case round =>
    obtain ⟨k, va, xs, rfl, hk, rfl, hxl, hfi, hown, hc, hbt, hg, hz⟩ := hrel
    have HO := hid hown
    have HX := hid hxl
    have HF := hid hfi
    have HC := hid hc
    have HB := hid hbt
    have G := hid hg
    have HZ := hid hz
    clear hown hxl hfi hc hbt hg hz
    have hdB : d < w.heap.size + 1 := by omega
    obtain ⟨wo, rfl⟩ : ∃ wo : World, wo = wr := ⟨_, rfl⟩
    obtain ⟨av, cv, ev⟩ := HO.out.form
    subst ev
    by_cases hlt : k < u
    rotate_left
    · obtain rfl : k = u := by omega
      have Hfin := hid (show itemsErr p xs = 0 ∧ (xs.length : Int) ≤ most from ⟨by unfold itemsErr; rw [if_pos HV.out, if_neg (by have := HX.out; omega)]; exact firstBad_zero.2 HF.out, by have := HX.out; omega⟩)
      go_wp2_with fail
      go_ret
      exact ⟨_, xs, rfl, Hfin.out.1, Hfin.out.2, HO.out.items (fun j e => by cases e; exact hdB), HO.out.sound, HB.out, G.out⟩
    go_wp2_with fail
    refine (mid_any d 30 42 _ HB.out (by decide) (by decide) (by decide) (by decide)).mono ?_
    rintro e w3 ⟨lo, rfl, hl1, hl2, hbt, hgb⟩
    have Ga := hid hgb
    have HB := hid hbt
    have c3 := cell_gb hgb hdP HC.out
    have hl3 : lo ≤ 42 := by omega
    clear hbt hgb hl2
    go_wp2_with fail
    refine (roll_any d p.dress.length _ HB.out (by omega)).mono ?_
    rintro e w4 ⟨kd, rfl, hk1, hk2, hbt, hgb⟩
    have Ga := hid (gb_trans Ga.out hgb)
    have HB := hid hbt
    have hk3 : kd < p.dress.length := by omega
    clear hbt hgb c3 hk2
    go_wp2_with fail
    refine (roll_any d 6 _ HB.out (by decide)).mono ?_
    rintro e w5 ⟨r, rfl, hr1, hr2, hbt, hgb⟩
    have Ga := hid (gb_trans Ga.out hgb)
    have HB := hid hbt
    have hr3 : r < 6 := by omega
    clear hbt hgb hr2
    go_wp2_with fail
    refine (any_any d [r, 20] _ _ (HB.out.gb (below_alloc _ _)) (ints_two d w5 r 20 HB.out.lt) (by simp) (by simp)).mono ?_
    rintro e w6 ⟨i, hi, rfl, hbt, hgb⟩
    have Ga := hid (gb_trans (gb_trans Ga.out (gb_below (below_alloc _ _) _)) hgb)
    have HB := hid hbt
    have hz : 0 ≤ nm [r, 20] i ∧ nm [r, 20] i ≤ 20 := any_two (by omega) (by omega) hi
    obtain ⟨z, hze⟩ : ∃ z, nm [r, 20] i = z := ⟨_, rfl⟩
    rw [hze] at hz ⊢
    clear hbt hgb hze hi
    go_wp2_with fail
    refine (roll_any d 10 _ HB.out (by decide)).mono ?_
    rintro e w7 ⟨r1, rfl, hr11, hr12, hbt, hgb⟩
    have Ga := hid (gb_trans Ga.out hgb)
    have HB := hid hbt
    have hr13 : r1 < 10 := by omega
    clear hbt hgb hr12
    go_wp2_with fail
    refine (roll_any d 100 _ HB.out (by decide)).mono ?_
    rintro e w8 ⟨r2, rfl, hr21, hr22, hbt, hgb⟩
    have Ga := hid (gb_trans Ga.out hgb)
    have HB := hid hbt
    have hr23 : r2 < 100 := by omega
    clear hbt hgb hr22
    go_wp2_with fail
    refine (any_any d [0, r1, r2] _ _ (HB.out.gb (below_alloc _ _)) (ints_three d w8 0 r1 r2 HB.out.lt) (by simp) (by simp)).mono ?_
    rintro e w9 ⟨i, hi, rfl, hbt, hgb⟩
    have Ga := hid (gb_trans (gb_trans Ga.out (gb_below (below_alloc _ _) _)) hgb)
    have HB := hid hbt
    have hco : 0 ≤ nm [0, r1, r2] i ∧ nm [0, r1, r2] i ≤ 100 := any_three (by omega) (by omega) (by omega) hi
    obtain ⟨co, hce⟩ : ∃ z, nm [0, r1, r2] i = z := ⟨_, rfl⟩
    rw [hce] at hco ⊢
    clear hbt hgb hce hi
    go_wp2_with fail
    refine (roll_any d 10 _ HB.out (by decide)).mono ?_
    rintro e w10 ⟨r3, rfl, hr31, hr32, hbt, hgb⟩
    have Ga := hid (gb_trans Ga.out hgb)
    have HB := hid hbt
    have hr33 : r3 < 10 := by omega
    clear hbt hgb hr32
    go_wp2_with fail
    refine (any_any d [0, r3] _ _ (HB.out.gb (below_alloc _ _)) (ints_two d w10 0 r3 HB.out.lt) (by simp) (by simp)).mono ?_
    rintro e w11 ⟨i, hi, rfl, hbt, hgb⟩
    have Ga := hid (gb_trans (gb_trans Ga.out (gb_below (below_alloc _ _) _)) hgb)
    have HB := hid hbt
    have hcl : 0 ≤ nm [0, r3] i ∧ nm [0, r3] i ≤ 10 := any_two (by omega) (by omega) hi
    obtain ⟨cl, hcle⟩ : ∃ z, nm [0, r3] i = z := ⟨_, rfl⟩
    rw [hcle] at hcl ⊢
    clear hbt hgb hcle hi
    have HO := hid (HO.out.go hdB Ga.out)
    have HC := hid (cell_gb Ga.out hdP HC.out)
    have HZ := hid (Nat.le_trans HZ.out Ga.out.size)
    have G := hid (gb_trans G.out Ga.out)
    have HF := hid (iti_snoc (Q := fun x => itemE p x = 0) HF.out (x := ⟨kd, lo, lo + z, co, cl⟩) (itemE_fine ⟨hk1, hk3⟩ (by show 1 ≤ lo; omega) (by show lo ≤ lo + z; omega) (by show lo + z ≤ 300; omega) ⟨hco.1, by show co ≤ 1000000; omega⟩ ⟨hcl.1, by show cl ≤ 1440; omega⟩))
    go_wp2_with (at_builtin; refine wpList_app encItem Try.underlying31 infoItem (by decide) (by decide) (fun _ => rfl) rfl _ _ rfl (w.heap.size + 1) xs [⟨kd, lo, lo + z, co, cl⟩] (fun y _ => encItem_one y) _ _ rfl rfl (HO.out.later (below_alloc _ _)) (Src.lit encItem w11 ⟨kd, lo, lo + z, co, cl⟩ _ 1 rfl) (by have := HX.out; simp; omega) (by have := HZ.out; simp; omega) ?_; intro v' w' hown' hg hnil hat; have hbl := (HO.out.later (below_alloc w11 (.cells (encItem ⟨kd, lo, lo + z, co, cl⟩).toArray 42))).below hg (by have := HZ.out; simp; omega); have HOn := hid hown'; have HBl := hid hbl; have Hg := hid hg)
    go_roundw
    case rel => exact ⟨k + 1, _, xs ++ [⟨kd, lo, lo + z, co, cl⟩], rfl, by omega, by go_num, by rw [List.length_append, HX.out]; rfl, HF.out, HOn.out, cell_back HBl.out (Nat.lt_succ_self _) (cell_up HC.out), (HB.out.gb (below_alloc _ _)).under HBl.out hdB, gb_under (gb_trans G.out (gb_below (below_alloc _ _) _)) (HBl.out.mono (Nat.le_succ _)), Nat.le_trans HZ.out (Nat.le_trans (by simp) HBl.out.size)⟩
    case measure => simp [intOf] <;> omega
end Go.Proofs.Ytdcinngdilfpnaa
