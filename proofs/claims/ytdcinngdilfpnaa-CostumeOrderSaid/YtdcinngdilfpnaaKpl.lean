/-
  WALK: OwnPlot, the copy of a plot: all its lists are the call's own.
-/
import Derived.Test.YtdcinngdilfpnaaKls
import Derived.Test.YtdcinngdilfpnaaFlow
namespace Go.Proofs.Ytdcinngdilfpnaa
open Go.RowKit

/-- what OwnPlot wants of the plot that it copies: no hidden room, and no more than a million of anything -/
structure PlotN (p : Plot) : Prop where
  persons : p.persons.length ≤ 1000
  walk : p.walk.length ≤ 1000
  rows : ∀ i, i < p.walk.length → (lst p.walk i).length ≤ 1000
  dress : p.dress.length ≤ 1000
  parts : p.parts.length ≤ 1000
theorem PlotN.ofValid {p : Plot} (v : Valid p) : PlotN p :=
  ⟨by have := v.persons; omega, by have := v.walk; omega, fun i hi => by have := (rowE_zero (v.rows i hi)).1; have := v.walk; omega, by have := v.dress; omega, by have := v.few; omega⟩

theorem put4_cells {w : World} {R : Nat} {a b c d a0 b0 c0 d0 : Value} (h0 : w.cell? ⟨R, 0, none⟩ = some a0) (h1 : w.cell? ⟨R, 1, none⟩ = some b0) (h2 : w.cell? ⟨R, 2, none⟩ = some c0) (h3 : w.cell? ⟨R, 3, none⟩ = some d0) :
    ((((w.setCell ⟨R, 0, none⟩ a).setCell ⟨R, 1, none⟩ b).setCell ⟨R, 2, none⟩ c).setCell ⟨R, 3, none⟩ d).cell? ⟨R, 0, none⟩ = some a ∧ ((((w.setCell ⟨R, 0, none⟩ a).setCell ⟨R, 1, none⟩ b).setCell ⟨R, 2, none⟩ c).setCell ⟨R, 3, none⟩ d).cell? ⟨R, 1, none⟩ = some b ∧
    ((((w.setCell ⟨R, 0, none⟩ a).setCell ⟨R, 1, none⟩ b).setCell ⟨R, 2, none⟩ c).setCell ⟨R, 3, none⟩ d).cell? ⟨R, 2, none⟩ = some c ∧ ((((w.setCell ⟨R, 0, none⟩ a).setCell ⟨R, 1, none⟩ b).setCell ⟨R, 2, none⟩ c).setCell ⟨R, 3, none⟩ d).cell? ⟨R, 3, none⟩ = some d := by
  have go : ∀ (w : World) (i j : Nat) (x y : Value), i ≠ j → w.cell? ⟨R, j, none⟩ = some y → (w.setCell ⟨R, i, none⟩ x).cell? ⟨R, j, none⟩ = some y := fun w i j x y hij h =>
    (World.cell?_setCell_other _ _ _ _ (by intro e; cases e; exact hij rfl)).trans h
  refine ⟨?_, ?_, ?_, ?_⟩
  · exact go _ 3 0 _ _ (by decide) (go _ 2 0 _ _ (by decide) (go _ 1 0 _ _ (by decide) (World.cell?_setCell_same _ _ _ h0)))
  · exact go _ 3 1 _ _ (by decide) (go _ 2 1 _ _ (by decide) (World.cell?_setCell_same _ _ _ (go _ 0 1 _ _ (by decide) h1)))
  · exact go _ 3 2 _ _ (by decide) (World.cell?_setCell_same _ _ _ (go _ 1 2 _ _ (by decide) (go _ 0 2 _ _ (by decide) h2)))
  · exact World.cell?_setCell_same _ _ _ (go _ 2 3 _ _ (by decide) (go _ 1 3 _ _ (by decide) (go _ 0 3 _ _ (by decide) h3)))

set_option maxHeartbeats 8000000 in
set_option maxRecDepth 100000 in
theorem ownPlot_any (p : Plot) (vp vw vd vq : Value) (d : Option Nat) (w : World) (hX : PlotS d w vp vw vd vq p) (hn : PlotN p) :
    Calls Try.prog 21 #[plotV vp vw vd vq] w fun e w' => ∃ vp' vw' vd' vq', e = .returned (plotV vp' vw' vd' vq') ∧ OwnP w.heap.size w' vp' vw' vd' vq' p ∧ Below w.heap.size w w' := by
  have HX := hid hX
  have HN := hid hn
  obtain ⟨ap, cp, rfl⟩ := hX.persons.1.form
  obtain ⟨aw, cw, rfl⟩ := hX.walk.form
  obtain ⟨ad, cd, ed, _⟩ := hX.dress.1
  subst ed
  obtain ⟨aq, cq, rfl⟩ := hX.parts.1.form
  clear hX hn
  go_enter Try.func21, Try.ntmps21
  go_upto_region 1 with fail
  obtain ⟨P, hP⟩ : ∃ P, w.heap.size = P := ⟨_, rfl⟩
  have hb1 : Below w.heap.size w ((w.alloc (.cells #[.slice ap p.persons.length cp, .slice aw p.walk.length cw, .slice ad p.dress.length cd, .slice aq p.parts.length cq] 29)).alloc (.cells #[.slice none 0 0, .slice none 0 0, .slice none 0 0, .slice none 0 0] 29)) := below_trans (below_alloc _ _) (below_alloc _ _)
  have c0 : ((w.alloc (.cells #[.slice ap p.persons.length cp, .slice aw p.walk.length cw, .slice ad p.dress.length cd, .slice aq p.parts.length cq] 29)).alloc (.cells #[.slice none 0 0, .slice none 0 0, .slice none 0 0, .slice none 0 0] 29)).cell? ⟨P, 0, none⟩ = some (.slice ap p.persons.length cp) := cell_up (cell_at hP.symm rfl)
  have c1 : ((w.alloc (.cells #[.slice ap p.persons.length cp, .slice aw p.walk.length cw, .slice ad p.dress.length cd, .slice aq p.parts.length cq] 29)).alloc (.cells #[.slice none 0 0, .slice none 0 0, .slice none 0 0, .slice none 0 0] 29)).cell? ⟨P, 1, none⟩ = some (.slice aw p.walk.length cw) := cell_up (cell_at hP.symm rfl)
  have c2 : ((w.alloc (.cells #[.slice ap p.persons.length cp, .slice aw p.walk.length cw, .slice ad p.dress.length cd, .slice aq p.parts.length cq] 29)).alloc (.cells #[.slice none 0 0, .slice none 0 0, .slice none 0 0, .slice none 0 0] 29)).cell? ⟨P, 2, none⟩ = some (.slice ad p.dress.length cd) := cell_up (cell_at hP.symm rfl)
  have c3 : ((w.alloc (.cells #[.slice ap p.persons.length cp, .slice aw p.walk.length cw, .slice ad p.dress.length cd, .slice aq p.parts.length cq] 29)).alloc (.cells #[.slice none 0 0, .slice none 0 0, .slice none 0 0, .slice none 0 0] 29)).cell? ⟨P, 3, none⟩ = some (.slice aq p.parts.length cq) := cell_up (cell_at hP.symm rfl)
  have r0 : ∀ o, o < 4 → ((w.alloc (.cells #[.slice ap p.persons.length cp, .slice aw p.walk.length cw, .slice ad p.dress.length cd, .slice aq p.parts.length cq] 29)).alloc (.cells #[.slice none 0 0, .slice none 0 0, .slice none 0 0, .slice none 0 0] 29)).cell? ⟨P + 1, o, none⟩ = some (.slice none 0 0) := fun o ho => by
    rcases (by omega : o = 0 ∨ o = 1 ∨ o = 2 ∨ o = 3) with rfl | rfl | rfl | rfl <;> exact cell_at (by rw [← hP]; simp) rfl
  have f0 : ∀ o, ((w.alloc (.cells #[.slice ap p.persons.length cp, .slice aw p.walk.length cw, .slice ad p.dress.length cd, .slice aq p.parts.length cq] 29)).alloc (.cells #[.slice none 0 0, .slice none 0 0, .slice none 0 0, .slice none 0 0] 29)).frozen? ⟨P, o, none⟩ = false := fun o => frozen_up (by simp; omega) (frozen_at hP.symm)
  have f1 : ∀ o, ((w.alloc (.cells #[.slice ap p.persons.length cp, .slice aw p.walk.length cw, .slice ad p.dress.length cd, .slice aq p.parts.length cq] 29)).alloc (.cells #[.slice none 0 0, .slice none 0 0, .slice none 0 0, .slice none 0 0] 29)).frozen? ⟨P + 1, o, none⟩ = false := fun o => frozen_at (by rw [← hP]; simp)
  have hsz : ((w.alloc (.cells #[.slice ap p.persons.length cp, .slice aw p.walk.length cw, .slice ad p.dress.length cd, .slice aq p.parts.length cq] 29)).alloc (.cells #[.slice none 0 0, .slice none 0 0, .slice none 0 0, .slice none 0 0] 29)).heap.size = P + 2 := by rw [← hP]; simp
  rw [hP] at hb1 ⊢
  obtain ⟨w1, hw1⟩ : ∃ w1, ((w.alloc (.cells #[.slice ap p.persons.length cp, .slice aw p.walk.length cw, .slice ad p.dress.length cd, .slice aq p.parts.length cq] 29)).alloc (.cells #[.slice none 0 0, .slice none 0 0, .slice none 0 0, .slice none 0 0] 29)) = w1 := ⟨_, rfl⟩
  rw [hw1] at hb1 c0 c1 c2 c3 r0 f0 f1 hsz ⊢
  have HX1 := hid (show PlotS d w1 _ _ _ _ p from HX.out.below (by rw [hP]; exact hb1))
  have HB1 := hid hb1
  have HR0 := hid r0
  have HF0 := hid f0
  have HF1 := hid f1
  have HC := hid (fun W' (hb : Below (P + 2) w1 W') => (⟨cell_back hb (by omega) c0, cell_back hb (by omega) c1, cell_back hb (by omega) c2, cell_back hb (by omega) c3⟩ :
    W'.cell? ⟨P, 0, none⟩ = some (.slice ap p.persons.length cp) ∧ W'.cell? ⟨P, 1, none⟩ = some (.slice aw p.walk.length cw) ∧ W'.cell? ⟨P, 2, none⟩ = some (.slice ad p.dress.length cd) ∧ W'.cell? ⟨P, 3, none⟩ = some (.slice aq p.parts.length cq)))
  have HSz := hid hsz
  have HXW := hid (fun W' (hb : Below (P + 2) w1 W') => (show PlotS d W' _ _ _ _ p from HX1.out.below (by rw [HSz.out]; exact hb)))
  have HPw := hid hP
  clear hw1 hb1 r0 f0 f1 c0 c1 c2 c3 HX hsz hP
  refine wp_region_flow_tail 14 (by kernel_rfl) (by kernel_rfl) [3, 4, 5, 6, 7, 8, 9, 10, 11, 12, 13, 14, 15, 16] 12
    (fun _ w' => Below (P + 2) w1 w') (fun a b => Below a.heap.size a b) (fun a b => ∃ E, a.grownBy b (some E) ∧ a.heap[E]? = some (.cells #[] 38 (0, 0)))
    (fun b i v w' => match i, b with
      | 0, _ => v = .pointer (some ⟨P, 0, none⟩)
      | 1, _ => v = .slice ap p.persons.length cp
      | 2, _ => OwnR encSpan 2 40 (P + 2) w' v p.persons
      | 3, _ => v = .pointer (some ⟨P, 1, none⟩)
      | 4, _ => v = .slice aw p.walk.length cw
      | 5, _ => ∃ us, RowsO (P + 2) w' v us p.walk
      | 6, _ => v = .pointer (some ⟨P, 2, none⟩)
      | 7, _ => v = .slice ad p.dress.length cd
      | 8, _ => OwnR encInt 1 3 (P + 2) w' v p.dress
      | 9, false => ∃ E, v = .slice (some ⟨E, 0, none⟩) 0 0 ∧ P + 2 ≤ E ∧ w'.heap[E]? = some (.cells #[] 38 (0, 0))
      | 10, _ => v = .pointer (some ⟨P, 3, none⟩)
      | 11, _ => v = .slice aq p.parts.length cq
      | 12, false => False
      | 12, true => OwnR encPart 5 38 (P + 2) w' v p.parts
      | 13, _ => v = .pointer (some ⟨P, 0, none⟩)
      | _, _ => True)
    [0, 1, 2, 3, 4, 5, 6, 7, 8, 9, 10, 11, 12, 13] (by kernel_rfl) (by kernel_rfl) rfl ?_ ?_ ?_ ?_ ?_
  · intro b i v w2 w3 hW hg hy
    match i, b with
    | 0, _ => exact hy
    | 1, _ => exact hy
    | 2, _ => exact OwnR.later hy hg
    | 3, _ => exact hy
    | 4, _ => exact hy
    | 5, _ => obtain ⟨us, h⟩ := hy; exact ⟨us, h.later hg⟩
    | 6, _ => exact hy
    | 7, _ => exact hy
    | 8, _ => exact OwnR.later hy hg
    | 9, false => obtain ⟨E, h, h2, h3⟩ := hy; exact ⟨E, h, h2, (hg.block E (Array.getElem?_eq_some_iff.1 h3).1).trans h3⟩
    | 10, _ => exact hy
    | 11, _ => exact hy
    | 12, false => exact hy
    | 12, true => exact OwnR.later hy hg
    | 13, _ => exact hy
    | 9, true => exact trivial
    | n + 14, _ => exact trivial
  · rintro i v w2 w3 _ ⟨E, hg, hE⟩ hy
    match i with
    | 0 => exact hy
    | 1 => exact hy
    | 2 => exact OwnR.kept hy hg (OwnR.apart hy (OwnR.made encPart 5 (Nat.zero_le E) hE) (by decide))
    | 3 => exact hy
    | 4 => exact hy
    | 5 => obtain ⟨us, h⟩ := hy; exact ⟨us, h.other (OwnR.made encPart 5 (Nat.zero_le E) hE) (by decide) (by decide) hg⟩
    | 6 => exact hy
    | 7 => exact hy
    | 8 => exact OwnR.kept hy hg (OwnR.apart hy (OwnR.made encPart 5 (Nat.zero_le E) hE) (by decide))
    | 9 => exact trivial
    | 10 => exact hy
    | 11 => exact hy
    | 12 => exact hy.elim
    | 13 => exact hy
    | n + 14 => exact trivial
  · exact (Below.refl _ _).drew
  · skip
    refine StepF.cons (i := 0) (o := _) rfl (by decide) (fun b vs wx hb hW hY K hK => ?_) ?_
    · simp only [putAll, Act.put, List.setIfInBounds_toArray, List.set_cons_zero, List.set_cons_succ]
      go_simp
      have hk := hK.out (.pointer (some ⟨P, 0, none⟩)) _ hW (Below.refl _ _) (fun _ => rfl)
      simp only [putAll, Act.put, List.setIfInBounds_toArray, List.set_cons_zero, List.set_cons_succ] at hk
      exact hk
    refine StepF.cons (i := 1) (o := _) rfl (by decide) (fun b vs wx hb hW hY K hK => ?_) ?_
    · have y0 : vs 3 = .pointer (some ⟨P, 0, none⟩) := hY 0 3 (by kernel_rfl) (by kernel_rfl)
      have q0 := (HC.out _ hW).1
      simp only [putAll, Act.put, List.setIfInBounds_toArray, List.set_cons_zero, List.set_cons_succ]
      simp only [y0]
      go_simp
      have hk := hK.out (.slice ap p.persons.length cp) _ hW (Below.refl _ _) (fun _ => rfl)
      simp only [putAll, Act.put, List.setIfInBounds_toArray, List.set_cons_zero, List.set_cons_succ, y0] at hk
      exact hk
    refine StepF.cons (i := 2) (o := _) rfl (by decide) (fun b vs wx hb hW hY K hK => ?_) ?_
    · have y1 : vs 4 = .slice ap p.persons.length cp := hY 1 4 (by kernel_rfl) (by kernel_rfl)
      simp only [putAll, Act.put, List.setIfInBounds_toArray, List.set_cons_zero, List.set_cons_succ]
      simp only [y1]
      go_simp
      go_at_call 62
      refine (copySpans_any _ _ _ _ (HXW.out _ hW).persons.1 (HXW.out _ hW).persons.2 (by have := HN.out.persons; omega)).mono ?_
      rintro e wy ⟨v2, rfl, ho, hb2⟩
      have hk := hK.out (_) _ (hW.trans (hb2.mono (by have := hW.size; rw [HSz.out] at this; exact this))) hb2 (fun _ => ho.base' (by have := hW.size; rw [HSz.out] at this; exact this))
      simp only [putAll, Act.put, List.setIfInBounds_toArray, List.set_cons_zero, List.set_cons_succ, y1] at hk
      exact hk
    refine StepF.cons (i := 3) (o := _) rfl (by decide) (fun b vs wx hb hW hY K hK => ?_) ?_
    · simp only [putAll, Act.put, List.setIfInBounds_toArray, List.set_cons_zero, List.set_cons_succ]
      go_simp
      have hk := hK.out (.pointer (some ⟨P, 1, none⟩)) _ hW (Below.refl _ _) (fun _ => rfl)
      simp only [putAll, Act.put, List.setIfInBounds_toArray, List.set_cons_zero, List.set_cons_succ] at hk
      exact hk
    refine StepF.cons (i := 4) (o := _) rfl (by decide) (fun b vs wx hb hW hY K hK => ?_) ?_
    · have y3 : vs 6 = .pointer (some ⟨P, 1, none⟩) := hY 3 6 (by kernel_rfl) (by kernel_rfl)
      have q0 := (HC.out _ hW).2.1
      simp only [putAll, Act.put, List.setIfInBounds_toArray, List.set_cons_zero, List.set_cons_succ]
      simp only [y3]
      go_simp
      have hk := hK.out (.slice aw p.walk.length cw) _ hW (Below.refl _ _) (fun _ => rfl)
      simp only [putAll, Act.put, List.setIfInBounds_toArray, List.set_cons_zero, List.set_cons_succ, y3] at hk
      exact hk
    refine StepF.cons (i := 5) (o := _) rfl (by decide) (fun b vs wx hb hW hY K hK => ?_) ?_
    · have y4 : vs 7 = .slice aw p.walk.length cw := hY 4 7 (by kernel_rfl) (by kernel_rfl)
      simp only [putAll, Act.put, List.setIfInBounds_toArray, List.set_cons_zero, List.set_cons_succ]
      simp only [y4]
      go_simp
      go_at_call 63
      refine (lists_any _ _ _ _ (HXW.out _ hW).walk (by have := HN.out.walk; omega) (fun i hi => by have := HN.out.rows i hi; omega)).mono ?_
      rintro e wy ⟨v2, vs2, rfl, ho, hb2⟩
      have hk := hK.out (_) _ (hW.trans (hb2.mono (by have := hW.size; rw [HSz.out] at this; exact this))) hb2 (fun _ => ⟨vs2, ho.base (by have := hW.size; rw [HSz.out] at this; exact this)⟩)
      simp only [putAll, Act.put, List.setIfInBounds_toArray, List.set_cons_zero, List.set_cons_succ, y4] at hk
      exact hk
    refine StepF.cons (i := 6) (o := _) rfl (by decide) (fun b vs wx hb hW hY K hK => ?_) ?_
    · simp only [putAll, Act.put, List.setIfInBounds_toArray, List.set_cons_zero, List.set_cons_succ]
      go_simp
      have hk := hK.out (.pointer (some ⟨P, 2, none⟩)) _ hW (Below.refl _ _) (fun _ => rfl)
      simp only [putAll, Act.put, List.setIfInBounds_toArray, List.set_cons_zero, List.set_cons_succ] at hk
      exact hk
    refine StepF.cons (i := 7) (o := _) rfl (by decide) (fun b vs wx hb hW hY K hK => ?_) ?_
    · have y6 : vs 9 = .pointer (some ⟨P, 2, none⟩) := hY 6 9 (by kernel_rfl) (by kernel_rfl)
      have q0 := (HC.out _ hW).2.2.1
      simp only [putAll, Act.put, List.setIfInBounds_toArray, List.set_cons_zero, List.set_cons_succ]
      simp only [y6]
      go_simp
      have hk := hK.out (.slice ad p.dress.length cd) _ hW (Below.refl _ _) (fun _ => rfl)
      simp only [putAll, Act.put, List.setIfInBounds_toArray, List.set_cons_zero, List.set_cons_succ, y6] at hk
      exact hk
    refine StepF.cons (i := 8) (o := _) rfl (by decide) (fun b vs wx hb hW hY K hK => ?_) ?_
    · have y7 : vs 10 = .slice ad p.dress.length cd := hY 7 10 (by kernel_rfl) (by kernel_rfl)
      simp only [putAll, Act.put, List.setIfInBounds_toArray, List.set_cons_zero, List.set_cons_succ]
      simp only [y7]
      go_simp
      go_at_call 34
      refine (copyInts_any _ _ _ _ (HXW.out _ hW).dress.1 (HXW.out _ hW).dress.2 (by have := HN.out.dress; omega)).mono ?_
      rintro e wy ⟨v2, rfl, ho, hb2⟩
      have hk := hK.out (_) _ (hW.trans (hb2.mono (by have := hW.size; rw [HSz.out] at this; exact this))) hb2 (fun _ => (own_int.2 ho).base' (by have := hW.size; rw [HSz.out] at this; exact this))
      simp only [putAll, Act.put, List.setIfInBounds_toArray, List.set_cons_zero, List.set_cons_succ, y7] at hk
      exact hk
    refine StepF.cons (i := 9) (o := _) rfl (by decide) (fun b vs wx hb hW hY K hK => ?_) ?_
    · simp only [putAll, Act.put, List.setIfInBounds_toArray, List.set_cons_zero, List.set_cons_succ]
      go_simp
      obtain ⟨wy, hwy⟩ : ∃ wy, wx.alloc (.cells #[] 38) = wy := ⟨_, rfl⟩
      have hb2 : Below wx.heap.size wx wy := by rw [← hwy]; exact below_alloc _ _
      have hE : wy.heap[wx.heap.size]? = some (.cells #[] 38 (0, 0)) := by rw [← hwy]; exact Array.getElem?_push_size
      rw [hwy]
      have hk := hK.out (.slice (some ⟨wx.heap.size, 0, none⟩) 0 0) _ (hW.trans (hb2.mono (by have := hW.size; rw [HSz.out] at this; exact this))) hb2 (fun _ => (by cases b with | true => exact absurd (hb (by kernel_rfl)) Bool.noConfusion | false => exact ⟨_, rfl, (by have := hW.size; rw [HSz.out] at this; exact this), hE⟩))
      simp only [putAll, Act.put, List.setIfInBounds_toArray, List.set_cons_zero, List.set_cons_succ] at hk
      exact hk
    refine StepF.cons (i := 10) (o := _) rfl (by decide) (fun b vs wx hb hW hY K hK => ?_) ?_
    · simp only [putAll, Act.put, List.setIfInBounds_toArray, List.set_cons_zero, List.set_cons_succ]
      go_simp
      have hk := hK.out (.pointer (some ⟨P, 3, none⟩)) _ hW (Below.refl _ _) (fun _ => rfl)
      simp only [putAll, Act.put, List.setIfInBounds_toArray, List.set_cons_zero, List.set_cons_succ] at hk
      exact hk
    refine StepF.cons (i := 11) (o := _) rfl (by decide) (fun b vs wx hb hW hY K hK => ?_) ?_
    · have y10 : vs 13 = .pointer (some ⟨P, 3, none⟩) := hY 10 13 (by kernel_rfl) (by kernel_rfl)
      have q0 := (HC.out _ hW).2.2.2
      simp only [putAll, Act.put, List.setIfInBounds_toArray, List.set_cons_zero, List.set_cons_succ]
      simp only [y10]
      go_simp
      have hk := hK.out (.slice aq p.parts.length cq) _ hW (Below.refl _ _) (fun _ => rfl)
      simp only [putAll, Act.put, List.setIfInBounds_toArray, List.set_cons_zero, List.set_cons_succ, y10] at hk
      exact hk
    refine StepF.app (i := 12) (o := _) rfl rfl (fun vs wx hW hY K hK => ?_) ?_
    · have y9 : ∃ E, vs 12 = .slice (some ⟨E, 0, none⟩) 0 0 ∧ P + 2 ≤ E ∧ wx.heap[E]? = some (.cells #[] 38 (0, 0)) := hY 9 12 (by kernel_rfl) (by kernel_rfl)
      have y11 : vs 14 = .slice aq p.parts.length cq := hY 11 14 (by kernel_rfl) (by kernel_rfl)
      obtain ⟨E, e0, hE, hE2⟩ := y9
      have hsx : P + 2 ≤ wx.heap.size := by have := hW.size; rw [HSz.out] at this; exact this
      rw [if_pos (by simp [Region.wanted])]
      refine wp_app encPart Try.underlying27 infoPart' (by decide) (by decide) (fun _ => rfl) _ _ rfl (P + 2) [] p.parts (fun y _ => encPart_one y) (.slice (some ⟨E, 0, none⟩) 0 0) (.slice aq p.parts.length cq) ((show _ = vs 12 from by kernel_rfl).trans e0) ((show _ = vs 14 from by kernel_rfl).trans y11) (OwnR.made encPart 5 hE hE2) (Src.parts (HXW.out _ hW).parts.1 (HXW.out _ hW).parts.2) (by have := HN.out.parts; simp; omega) hsx ?_
      intro v' w' hown' hg hnil hat
      have hbl := (OwnR.made encPart 5 hE hE2).below hg hsx
      exact hK.out v' w' (hW.trans hbl) ⟨E, hg, hE2⟩ (fun _ => hown')
    refine StepF.cons (i := 13) (o := _) rfl (by decide) (fun b vs wx hb hW hY K hK => ?_) ?_
    · simp only [putAll, Act.put, List.setIfInBounds_toArray, List.set_cons_zero, List.set_cons_succ]
      go_simp
      have hk := hK.out (.pointer (some ⟨P, 0, none⟩)) _ hW (Below.refl _ _) (fun _ => rfl)
      simp only [putAll, Act.put, List.setIfInBounds_toArray, List.set_cons_zero, List.set_cons_succ] at hk
      exact hk
    exact StepF.nil
  · intro vs wx hW hY
    have y2 : OwnR encSpan 2 40 (P + 2) wx (vs 5) p.persons := hY 2 5 (by kernel_rfl)
    have y5 : ∃ us, RowsO (P + 2) wx (vs 8) us p.walk := hY 5 8 (by kernel_rfl)
    have y8 : OwnR encInt 1 3 (P + 2) wx (vs 11) p.dress := hY 8 11 (by kernel_rfl)
    have y12 : OwnR encPart 5 38 (P + 2) wx (vs 15) p.parts := hY 12 15 (by kernel_rfl)
    have y13 : vs 16 = .pointer (some ⟨P, 0, none⟩) := hY 13 16 (by kernel_rfl)
    have H16 := hid y13
    have Y1 := hid (show OwnP (P + 2) wx (vs 5) (vs 8) (vs 11) (vs 15) p from ⟨y2, y5, y8, y12⟩)
    have HW2 := hid (show Below (P + 2) w1 wx from hW)
    obtain ⟨sp5, cp5, e5⟩ := y2.form
    obtain ⟨sp8, cp8, e8⟩ : ∃ a c, vs 8 = .slice a p.walk.length c := by
      obtain ⟨us, h⟩ := y5
      obtain ⟨a, c, e⟩ := h.own.form
      rw [h.len] at e
      exact ⟨a, c, e⟩
    obtain ⟨sp11, cp11, e11⟩ := y8.form
    obtain ⟨sp15, cp15, e15⟩ := y12.form
    rw [e5, e8, e11, e15] at Y1
    have H5 := hid e5
    have H8 := hid e8
    have H11 := hid e11
    have H15 := hid e15
    clear hY y2 y5 y8 y12 y13 hW e5 e8 e11 e15
    simp only [putAll, Act.put, List.setIfInBounds_toArray, List.set_cons_zero, List.set_cons_succ, List.drop_succ_cons, List.drop_zero]
    rw [H5.out, H8.out, H11.out, H15.out, H16.out]
    obtain ⟨q0, q1, q2, q3⟩ := HC.out wx HW2.out
    have g0 : wx.frozen? ⟨P, 0, none⟩ = false := (HW2.out.frozen (p := ⟨P, 0, none⟩) (by show P < P + 2; omega)).trans (HF0.out 0)
    have g1 : wx.frozen? ⟨P, 1, none⟩ = false := (HW2.out.frozen (p := ⟨P, 1, none⟩) (by show P < P + 2; omega)).trans (HF0.out 1)
    have g2 : wx.frozen? ⟨P, 2, none⟩ = false := (HW2.out.frozen (p := ⟨P, 2, none⟩) (by show P < P + 2; omega)).trans (HF0.out 2)
    have g3 : wx.frozen? ⟨P, 3, none⟩ = false := (HW2.out.frozen (p := ⟨P, 3, none⟩) (by show P < P + 2; omega)).trans (HF0.out 3)
    have t0 := cell_back HW2.out (by omega) (HR0.out 0 (by decide))
    have t1 := cell_back HW2.out (by omega) (HR0.out 1 (by decide))
    have t2 := cell_back HW2.out (by omega) (HR0.out 2 (by decide))
    have t3 := cell_back HW2.out (by omega) (HR0.out 3 (by decide))
    have k0 : wx.frozen? ⟨P + 1, 0, none⟩ = false := (HW2.out.frozen (p := ⟨P + 1, 0, none⟩) (by show P + 1 < P + 2; omega)).trans (HF1.out 0)
    have k1 : wx.frozen? ⟨P + 1, 1, none⟩ = false := (HW2.out.frozen (p := ⟨P + 1, 1, none⟩) (by show P + 1 < P + 2; omega)).trans (HF1.out 1)
    have k2 : wx.frozen? ⟨P + 1, 2, none⟩ = false := (HW2.out.frozen (p := ⟨P + 1, 2, none⟩) (by show P + 1 < P + 2; omega)).trans (HF1.out 2)
    have k3 : wx.frozen? ⟨P + 1, 3, none⟩ = false := (HW2.out.frozen (p := ⟨P + 1, 3, none⟩) (by show P + 1 < P + 2; omega)).trans (HF1.out 3)
    go_wp2_with fail
    obtain ⟨wy, hwy⟩ : ∃ wy, (((wx.setCell ⟨P, 0, none⟩ (.slice sp5 p.persons.length cp5)).setCell ⟨P, 1, none⟩ (.slice sp8 p.walk.length cp8)).setCell ⟨P, 2, none⟩ (.slice sp11 p.dress.length cp11)).setCell ⟨P, 3, none⟩ (.slice sp15 p.parts.length cp15) = wy := ⟨_, rfl⟩
    have hgP : wx.grownBy wy (some P) := by rw [← hwy]; exact gb_trans (gb_trans (gb_trans (gb_put _ P _ _) (gb_put _ P _ _)) (gb_put _ P _ _)) (gb_put _ P _ _)
    rw [hwy]
    obtain ⟨l0, l1, l2, l3⟩ := put4_cells (R := P + 1) (w := wy) (a := .slice sp5 p.persons.length cp5) (b := .slice sp8 p.walk.length cp8) (c := .slice sp11 p.dress.length cp11) (d := .slice sp15 p.parts.length cp15) (cell_gb hgP (by omega) t0) (cell_gb hgP (by omega) t1) (cell_gb hgP (by omega) t2) (cell_gb hgP (by omega) t3)
    have hgQ : wy.grownBy ((((wy.setCell ⟨P + 1, 0, none⟩ (.slice sp5 p.persons.length cp5)).setCell ⟨P + 1, 1, none⟩ (.slice sp8 p.walk.length cp8)).setCell ⟨P + 1, 2, none⟩ (.slice sp11 p.dress.length cp11)).setCell ⟨P + 1, 3, none⟩ (.slice sp15 p.parts.length cp15)) (some (P + 1)) := gb_trans (gb_trans (gb_trans (gb_put _ _ _ _) (gb_put _ _ _ _)) (gb_put _ _ _ _)) (gb_put _ _ _ _)
    have hsx : P + 2 ≤ wx.heap.size := by have := HW2.out.size; rw [HSz.out] at this; exact this
    obtain ⟨wz, hwz⟩ : ∃ wz, ((((wy.setCell ⟨P + 1, 0, none⟩ (.slice sp5 p.persons.length cp5)).setCell ⟨P + 1, 1, none⟩ (.slice sp8 p.walk.length cp8)).setCell ⟨P + 1, 2, none⟩ (.slice sp11 p.dress.length cp11)).setCell ⟨P + 1, 3, none⟩ (.slice sp15 p.parts.length cp15)) = wz := ⟨_, rfl⟩
    rw [hwz] at l0 l1 l2 l3 hgQ ⊢
    refine bodyPost_ret (v := plotV (.slice sp5 p.persons.length cp5) (.slice sp8 p.walk.length cp8) (.slice sp11 p.dress.length cp11) (.slice sp15 p.parts.length cp15)) (by simp [results, Try.results21, go_sem, l0, l1, l2, l3]) rfl ?_
    have hPw : w.heap.size = P := HPw.out
    refine ⟨_, _, _, _, rfl, ?_, ?_⟩
    · exact ((Y1.out.go (by omega) hgP).go (by omega) hgQ).base (by omega)
    · have h1 : Below P w wx := by have := HB1.out; exact this.trans (HW2.out.mono (by omega))
      rw [hPw]
      exact (h1.grown hgP (by omega) (fun g e => by cases e; exact Nat.le_refl _)).grown hgQ (by have := hgP.size; omega) (fun g e => by cases e; omega)
end Go.Proofs.Ytdcinngdilfpnaa
