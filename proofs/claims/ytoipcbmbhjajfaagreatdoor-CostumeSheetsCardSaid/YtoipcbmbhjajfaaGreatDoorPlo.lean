/-
  WALKS: PlotOf.
-/
import Derived.Test.YtoipcbmbhjajfaaGreatDoorCpo
import Derived.Test.YtoipcbmbhjajfaaGreatDoorFlow
import Derived.Test.YtoipcbmbhjajfaaGreatDoorRck
import Derived.Test.YtoipcbmbhjajfaaGreatDoorKdo
import Derived.Deep.CutRange
namespace Go.Proofs.YtoipcbmbhjajfaaGreatDoor
open Go.RowKit

def PlotPost (d : Nat) (persons parts : Int) (w : World) (e : Ending) (w' : World) : Prop :=
  ∃ vp vw vd vq p, e = .returned (plotV vp vw vd vq) ∧ plotErr p = 0 ∧ (p.persons.length : Int) ≤ persons ∧ (p.parts.length : Int) ≤ parts ∧ PlotAt (some d) w' vp vw vd vq p ∧ Sound0 vq ∧ Beat d w' ∧ w.grownBy w' (some d)

set_option linter.unusedSimpArgs false in
set_option linter.unusedVariables false in
set_option maxHeartbeats 16000000 in
set_option maxRecDepth 100000 in
theorem plotOf_any (d : Nat) (persons parts : Int) (w : World) (h : Beat d w) (h1 : 1 ≤ persons) (h2 : persons ≤ 12) (h3 : 0 ≤ parts) (h4 : parts ≤ 30) :
    Calls Tryz.prog 7 #[.pointer (some ⟨d, 0, none⟩), .int .i64 persons, .int .i64 parts] w
     (PlotPost d persons parts w) := by
  have H := hid h
  have hdl := h.lt
  clear h
  obtain ⟨P, hP⟩ : ∃ P, w.heap.size + 1 = P := ⟨_, rfl⟩
  have K : Hid (PS d P (P + 1) w (.slice none 0 0) (.slice none 0 0) (.slice none 0 0) (.slice none 0 0) ((w.alloc (.cells #[.slice none 0 0, .slice none 0 0, .slice none 0 0, .slice none 0 0] 27)).alloc (.cells #[.slice none 0 0, .slice none 0 0, .slice none 0 0, .slice none 0 0] 27))) := by
    have e1 : P = (w.alloc (.cells #[.slice none 0 0, .slice none 0 0, .slice none 0 0, .slice none 0 0] 27)).heap.size := by rw [← hP]; simp
    refine hid ⟨gb_trans (World.grownBy_alloc w _ _) (World.grownBy_alloc _ _ _), (H.out.gb (below_alloc _ _)).gb (below_alloc _ _), hdl, by omega, by omega, by rw [← hP]; simp, ⟨cell_at e1 rfl, cell_at e1 rfl, cell_at e1 rfl, cell_at e1 rfl⟩, fun o => frozen_at e1, ⟨cell_up (cell_at rfl rfl), cell_up (cell_at rfl rfl), cell_up (cell_at rfl rfl), cell_up (cell_at rfl rfl)⟩, fun o => frozen_up (by simp) (frozen_at rfl)⟩
  go_enter Tryz.func7, Tryz.ntmps7
  go_wp2_with fail
  obtain ⟨w1, hw1, K1⟩ := K.out.name
  rw [hw1]
  have K := hid K1
  have HP := hid hP
  clear hw1 K1 H hP
  refine (mid_any d 1 persons _ K.out.beat (by decide) (by decide) (by omega) (by omega)).mono ?_
  rintro e w2 ⟨np, rfl, hn1, hn2, hbt, hgb⟩
  have K := hid (K.out.go hgb hbt)
  clear hbt hgb
  obtain ⟨m, rfl⟩ := Int.eq_ofNat_of_zero_le (show 0 ≤ np by omega)
  have hm : 1 ≤ m ∧ m ≤ 12 ∧ (m : Int) ≤ persons := ⟨by omega, by omega, by omega⟩
  clear hn1 hn2
  go_wp2_with fail
  go_loopw [8] (fun i wr => ∃ (k : Nat) (c0 : Value) (xs : List (Int × Int)), k ≤ m ∧ i = .int .i64 ((m : Int) - k) ∧ xs.length = k ∧ (∀ j, j < xs.length → figE (sp xs j) = 0) ∧ OwnR encSpan 2 58 (P + 1) wr c0 xs ∧ PS d P (P + 1) w c0 (.slice none 0 0) (.slice none 0 0) (.slice none 0 0) wr)
    (fun i _ => (intOf i).toNat)
  case atStart => exact ⟨0, _, [], by omega, by simp, rfl, fun j hj => by simp at hj, OwnR.nil _ _ _ _ _, K.out⟩
  case round =>
    obtain ⟨k, c0, xs, hk, rfl, hxl, hfig, hown, KK⟩ := hrel
    have K := hid KK
    have HO := hid hown
    have HX := hid hxl
    have HF := hid hfig
    clear KK hown hxl hfig
    obtain ⟨wo, rfl⟩ : ∃ wo : World, wo = wr := ⟨_, rfl⟩
    by_cases hlt : k < m
    · go_wp2_with fail
      refine (mid_any d 36 44 _ K.out.beat (by decide) (by decide) (by decide) (by decide)).mono ?_
      rintro e w3 ⟨s, rfl, hs1, hs2, hbt, hgb⟩
      have K := hid (K.out.go hgb hbt)
      have HO := hid (HO.out.go K.out.dB hgb)
      clear hbt hgb
      have hs3 : s ≤ 44 := by omega
      have z1 : ∀ z : Int, 0 ≤ z → z ≤ 3 → IntKind.i64.wrap (s + z) = s + z := fun z a b => IntWalk.i64_in _ (by omega)
      have Z := hid z1
      clear z1
      go_upto_region 6 with fail
      have hBd := K.out.dB
      have hPd : P ≠ d := Nat.ne_of_gt K.out.dP
      refine wp_region_flow_tail 12 (by kernel_rfl) (by kernel_rfl) [29, 30, 31, 32, 33, 34, 35, 36, 37, 38, 39, 40] 100
        (fun _ w' => PS d P (P + 1) w c0 (.slice none 0 0) (.slice none 0 0) (.slice none 0 0) w' ∧ OwnR encSpan 2 58 (P + 1) w' c0 xs) (fun a b => a.grownBy b (some d)) (fun _ _ => False)
        (fun _ i v w' => match i with
          | 0 => v = .pointer (some ⟨P, 0, none⟩)
          | 1 => v = c0
          | 2 => v = .int .i64 s
          | 3 => v = .int .i64 s
          | 4 => v = .pointer (some ⟨d, 0, none⟩)
          | 5 => v = .pointer (some ⟨d, 0, none⟩)
          | 6 => ∃ r : Int, v = .int .i64 r ∧ 0 ≤ r ∧ r < 4
          | 7 => ∃ r : Int, IntsAt (some d) w' v [0, 0, r] ∧ 0 ≤ r ∧ r < 4
          | 8 => ∃ z : Int, v = .int .i64 z ∧ 0 ≤ z ∧ z ≤ 3
          | 9 => ∃ z : Int, v = .int .i64 z ∧ s ≤ z ∧ z ≤ s + 3
          | 10 => ∃ z : Int, v = .agg #[.int .i64 s, .int .i64 z] ∧ s ≤ z ∧ z ≤ s + 3
          | 11 => ∃ z : Int, SpansAt (some d) w' v [(s, z)] ∧ s ≤ z ∧ z ≤ s + 3
          | _ => True)
        [0, 1, 2, 3, 4, 5, 6, 7, 8, 9, 10, 11] (by kernel_rfl) (by kernel_rfl) rfl ?_ ?_ ?_ ?_ ?_
      · intro b i v w1 w2 hW hg hy
        match i with
        | 0 => exact hy
        | 1 => exact hy
        | 2 => exact hy
        | 3 => exact hy
        | 4 => exact hy
        | 5 => exact hy
        | 6 => exact hy
        | 7 => obtain ⟨r, h, h'⟩ := hy; exact ⟨r, h.kept hg, h'⟩
        | 8 => exact hy
        | 9 => exact hy
        | 10 => exact hy
        | 11 => obtain ⟨r, h, h'⟩ := hy; exact ⟨r, RecAt.kept h hg, h'⟩
        | n + 12 => exact trivial
      · intro i v w1 w2 _ h; exact h.elim
      · exact ⟨K.out.later (Below.refl _ _).drew, HO.out.later (Below.refl _ _).drew⟩
      · skip
        refine StepF.cons (i := 0) (o := _) rfl (by decide) (fun b vs wx hb hW hY K hK => ?_) ?_
        · simp only [putAll, Act.put, List.setIfInBounds_toArray, List.set_cons_zero, List.set_cons_succ]
          go_simp
          have hk := hK.out (.pointer (some ⟨P, 0, none⟩)) _ hW (gb_refl _ _) (fun _ => rfl)
          simp only [putAll, Act.put, List.setIfInBounds_toArray, List.set_cons_zero, List.set_cons_succ] at hk
          exact hk
        refine StepF.cons (i := 1) (o := _) rfl (by decide) (fun b vs wx hb hW hY K hK => ?_) ?_
        · have y0 : vs 29 = .pointer (some ⟨P, 0, none⟩) := hY 0 29 (by kernel_rfl) (by kernel_rfl)
          have q0 := hW.1.cell.1
          simp only [putAll, Act.put, List.setIfInBounds_toArray, List.set_cons_zero, List.set_cons_succ]
          simp only [y0]
          go_simp
          have hk := hK.out (c0) _ hW (gb_refl _ _) (fun _ => rfl)
          simp only [putAll, Act.put, List.setIfInBounds_toArray, List.set_cons_zero, List.set_cons_succ, y0] at hk
          exact hk
        refine StepF.cons (i := 2) (o := _) rfl (by decide) (fun b vs wx hb hW hY K hK => ?_) ?_
        · simp only [putAll, Act.put, List.setIfInBounds_toArray, List.set_cons_zero, List.set_cons_succ]
          go_simp
          have hk := hK.out (.int .i64 s) _ hW (gb_refl _ _) (fun _ => rfl)
          simp only [putAll, Act.put, List.setIfInBounds_toArray, List.set_cons_zero, List.set_cons_succ] at hk
          exact hk
        refine StepF.cons (i := 3) (o := _) rfl (by decide) (fun b vs wx hb hW hY K hK => ?_) ?_
        · simp only [putAll, Act.put, List.setIfInBounds_toArray, List.set_cons_zero, List.set_cons_succ]
          go_simp
          have hk := hK.out (.int .i64 s) _ hW (gb_refl _ _) (fun _ => rfl)
          simp only [putAll, Act.put, List.setIfInBounds_toArray, List.set_cons_zero, List.set_cons_succ] at hk
          exact hk
        refine StepF.cons (i := 4) (o := _) rfl (by decide) (fun b vs wx hb hW hY K hK => ?_) ?_
        · simp only [putAll, Act.put, List.setIfInBounds_toArray, List.set_cons_zero, List.set_cons_succ]
          go_simp
          have hk := hK.out (.pointer (some ⟨d, 0, none⟩)) _ hW (gb_refl _ _) (fun _ => rfl)
          simp only [putAll, Act.put, List.setIfInBounds_toArray, List.set_cons_zero, List.set_cons_succ] at hk
          exact hk
        refine StepF.cons (i := 5) (o := _) rfl (by decide) (fun b vs wx hb hW hY K hK => ?_) ?_
        · simp only [putAll, Act.put, List.setIfInBounds_toArray, List.set_cons_zero, List.set_cons_succ]
          go_simp
          have hk := hK.out (.pointer (some ⟨d, 0, none⟩)) _ hW (gb_refl _ _) (fun _ => rfl)
          simp only [putAll, Act.put, List.setIfInBounds_toArray, List.set_cons_zero, List.set_cons_succ] at hk
          exact hk
        refine StepF.cons (i := 6) (o := _) rfl (by decide) (fun b vs wx hb hW hY K hK => ?_) ?_
        · have y5 : vs 34 = .pointer (some ⟨d, 0, none⟩) := hY 5 34 (by kernel_rfl) (by kernel_rfl)
          simp only [putAll, Act.put, List.setIfInBounds_toArray, List.set_cons_zero, List.set_cons_succ]
          simp only [y5]
          go_simp
          go_at_call 23
          refine (roll_any _ 4 _ hW.1.beat (by decide)).mono ?_
          rintro e wy ⟨r, rfl, hr1, hr2, hbt, hgb⟩
          have hk := hK.out (.int .i64 r) _ ⟨hW.1.go hgb hbt, hW.2.go hBd hgb⟩ hgb (fun _ => ⟨r, rfl, hr1, hr2⟩)
          simp only [putAll, Act.put, List.setIfInBounds_toArray, List.set_cons_zero, List.set_cons_succ, y5] at hk
          exact hk
        refine StepF.cons (i := 7) (o := _) rfl (by decide) (fun b vs wx hb hW hY K hK => ?_) ?_
        · have y6 : ∃ r : Int, vs 35 = .int .i64 r ∧ 0 ≤ r ∧ r < 4 := hY 6 35 (by kernel_rfl) (by kernel_rfl)
          apply Exists.elim y6
          intro r hr
          have y6 := hr.1
          simp only [putAll, Act.put, List.setIfInBounds_toArray, List.set_cons_zero, List.set_cons_succ]
          simp only [y6]
          go_simp
          have hk := hK.out (.slice (some ⟨wx.heap.size, 0, none⟩) 3 3) _ ⟨hW.1.later (below_alloc _ _), hW.2.later (below_alloc _ _)⟩ (gb_below (below_alloc _ _) _) (fun _ => ⟨r, ints_three d _ 0 0 r hW.1.beat.lt, hr.2⟩)
          simp only [putAll, Act.put, List.setIfInBounds_toArray, List.set_cons_zero, List.set_cons_succ, y6] at hk
          exact hk
        refine StepF.cons (i := 8) (o := _) rfl (by decide) (fun b vs wx hb hW hY K hK => ?_) ?_
        · have y4 : vs 33 = .pointer (some ⟨d, 0, none⟩) := hY 4 33 (by kernel_rfl) (by kernel_rfl)
          have y7 : ∃ r : Int, IntsAt (some d) wx (vs 36) [0, 0, r] ∧ 0 ≤ r ∧ r < 4 := hY 7 36 (by kernel_rfl) (by kernel_rfl)
          apply Exists.elim y7
          intro r hr
          have hr1 := hr.2
          simp only [putAll, Act.put, List.setIfInBounds_toArray, List.set_cons_zero, List.set_cons_succ]
          simp only [y4]
          go_simp
          go_at_call 22
          refine (any_any d [0, 0, r] _ _ hW.1.beat hr.1 (by simp) (by simp)).mono ?_
          rintro e wy ⟨i, hi, rfl, hbt, hgb⟩
          have hx : 0 ≤ nm [0, 0, r] i ∧ nm [0, 0, r] i ≤ 3 := any_three (by omega) (by omega) (by omega) hi
          have hk := hK.out (.int .i64 (nm [0, 0, r] i)) _ ⟨hW.1.go hgb hbt, hW.2.go hBd hgb⟩ hgb (fun _ => ⟨_, rfl, hx⟩)
          simp only [putAll, Act.put, List.setIfInBounds_toArray, List.set_cons_zero, List.set_cons_succ, y4] at hk
          exact hk
        refine StepF.cons (i := 9) (o := _) rfl (by decide) (fun b vs wx hb hW hY K hK => ?_) ?_
        · have y3 : vs 32 = .int .i64 s := hY 3 32 (by kernel_rfl) (by kernel_rfl)
          have y8 : ∃ z : Int, vs 37 = .int .i64 z ∧ 0 ≤ z ∧ z ≤ 3 := hY 8 37 (by kernel_rfl) (by kernel_rfl)
          apply Exists.elim y8
          intro z hz
          have y8 := hz.1
          have zz := Z.out z hz.2.1 hz.2.2
          simp only [putAll, Act.put, List.setIfInBounds_toArray, List.set_cons_zero, List.set_cons_succ]
          simp only [y3, y8]
          go_simp
          try rw [zz]
          have hk := hK.out (.int .i64 (s + z)) _ hW (gb_refl _ _) (fun _ => ⟨_, rfl, by omega, by omega⟩)
          simp only [putAll, Act.put, List.setIfInBounds_toArray, List.set_cons_zero, List.set_cons_succ, y3, y8] at hk
          exact hk
        refine StepF.cons (i := 10) (o := _) rfl (by decide) (fun b vs wx hb hW hY K hK => ?_) ?_
        · have y2 : vs 31 = .int .i64 s := hY 2 31 (by kernel_rfl) (by kernel_rfl)
          have y9 : ∃ z : Int, vs 38 = .int .i64 z ∧ s ≤ z ∧ z ≤ s + 3 := hY 9 38 (by kernel_rfl) (by kernel_rfl)
          apply Exists.elim y9
          intro z hz
          have y9 := hz.1
          simp only [putAll, Act.put, List.setIfInBounds_toArray, List.set_cons_zero, List.set_cons_succ]
          simp only [y2, y9]
          go_simp
          have hk := hK.out (.agg #[.int .i64 s, .int .i64 z]) _ hW (gb_refl _ _) (fun _ => ⟨z, rfl, hz.2⟩)
          simp only [putAll, Act.put, List.setIfInBounds_toArray, List.set_cons_zero, List.set_cons_succ, y2, y9] at hk
          exact hk
        refine StepF.cons (i := 11) (o := _) rfl (by decide) (fun b vs wx hb hW hY K hK => ?_) ?_
        · have y10 : ∃ z : Int, vs 39 = .agg #[.int .i64 s, .int .i64 z] ∧ s ≤ z ∧ z ≤ s + 3 := hY 10 39 (by kernel_rfl) (by kernel_rfl)
          apply Exists.elim y10
          intro z hz
          have y10 := hz.1
          simp only [putAll, Act.put, List.setIfInBounds_toArray, List.set_cons_zero, List.set_cons_succ]
          simp only [y10]
          go_simp
          have hk := hK.out (.slice (some ⟨wx.heap.size, 0, none⟩) 1 1) _ ⟨hW.1.later (below_alloc _ _), hW.2.later (below_alloc _ _)⟩ (gb_below (below_alloc _ _) _) (fun _ => ⟨z, spans_one d _ s z hW.1.beat.lt, hz.2⟩)
          simp only [putAll, Act.put, List.setIfInBounds_toArray, List.set_cons_zero, List.set_cons_succ, y10] at hk
          exact hk
        exact StepF.nil
      · intro vs wx hW hY
        have y1 : vs 30 = c0 := hY 1 30 (by kernel_rfl)
        have y11 : ∃ z : Int, SpansAt (some d) wx (vs 40) [(s, z)] ∧ s ≤ z ∧ z ≤ s + 3 := hY 11 40 (by kernel_rfl)
        apply Exists.elim y11
        intro z hz
        have HZ := hid hz
        have HWx := hid hW
        have Y1 := hid y1
        clear hY y1 y11 hW hz
        simp only [putAll, Act.put, List.setIfInBounds_toArray, List.set_cons_zero, List.set_cons_succ, List.drop_succ_cons, List.drop_zero]
        refine wpList_app encSpan Tryz.underlying22 infoSpan (by decide) (by decide) (fun _ => rfl) rfl _ _ rfl (P + 1) xs [(s, z)] (fun y _ => encSpan_one y) c0 (vs 40) Y1.out rfl HWx.out.2 (Src.spans HZ.out.1 (RecAt.sound HZ.out.1 (by simp))) (by have := HX.out; simp; omega) HWx.out.1.hs ?_
        intro v' w' hown' hg hnil hat
        obtain ⟨a', c', e⟩ := hown'.form
        rw [List.length_append, List.length_singleton] at e
        subst e
        have K := hid (HWx.out.1.under (HWx.out.2.below hg HWx.out.1.hs))
        have HO := hid hown'
        have q0 := K.out.cell.1
        have f0 := K.out.thaw 0
        have K2 := hid (K.out.put 0 (.slice a' (xs.length + 1) c'))
        simp only [if_true, if_neg (show ¬ (0 : Nat) = 1 by decide), if_neg (show ¬ (0 : Nat) = 2 by decide), if_neg (show ¬ (0 : Nat) = 3 by decide)] at K2
        have HO2 := hid (HO.out.put (Z := P) (o := 0) (u := .slice a' (xs.length + 1) c') (Nat.lt_succ_self P))
        have HF2 := hid (all_snoc (Q := fun x => figE x = 0) HF.out (figE_fine (a := s) (b := z) (by omega) (by have := HZ.out; omega) (by have := HZ.out; omega)))
        clear hown' hg hnil hat
        go_wp2_with fail
        go_roundw
        case rel => exact ⟨k + 1, _, xs ++ [(s, z)], by omega, by go_num, by rw [List.length_append, HX.out]; rfl, HF2.out, HO2.out, K2.out⟩
        case measure => simp [intOf] <;> omega
    · obtain rfl : k = m := by omega
      have HS := hid (OwnR.spans HO.out (d := some d) (fun j e => by cases e; exact K.out.dB))
      have HL0 := hid (HO.out.low (P := P) (Nat.lt_succ_self P) (Nat.le_refl _))
      obtain ⟨B1, hB1⟩ : ∃ B1, wo.heap.size = B1 := ⟨_, rfl⟩
      have hB1P : P < B1 := by have := K.out.ltP; omega
      have K := hid (K.out.lift (b' := B1) (by omega) (by omega))
      rw [hB1] at HL0
      clear HO hB1
      go_wp2_with fail
      refine (mid_any d 1 3 _ K.out.beat (by decide) (by decide) (by decide) (by decide)).mono ?_
      rintro e w4 ⟨nn, rfl, hn1, hn2, hbt, hgb⟩
      have K := hid (K.out.go hgb hbt)
      have HS := hid (RecAt.kept HS.out hgb)
      clear hbt hgb
      obtain ⟨n, rfl⟩ := Int.eq_ofNat_of_zero_le (show 0 ≤ nn by omega)
      have hn : 1 ≤ n ∧ n ≤ 3 := ⟨by omega, by omega⟩
      clear hn1 hn2
      go_wp2_with fail
      go_loopw [11] (fun i wr => ∃ (k : Nat) (c1 : Value) (vs : List Value) (rs : List (List Int)), k ≤ n ∧ i = .int .i64 k ∧ rs.length = k ∧ RowsMade n rs ∧ RowsK d P B1 wr c1 vs rs ∧ SpansAt (some d) wr c0 xs ∧ PS d P B1 w c0 c1 (.slice none 0 0) (.slice none 0 0) wr)
        (fun i _ => n - (intOf i).toNat)
      case atStart => exact ⟨0, _, [], [], by omega, rfl, rfl, fun j hj => by simp at hj, RowsK.nil d _ hB1P, HS.out, K.out⟩
      case round =>
        obtain ⟨i, c1, vs, rs, hi, rfl, hrl, hrm, hrk, hs0, KK⟩ := hrel
        have K := hid KK
        have HR := hid hrk
        have HM := hid hrm
        have HL := hid hrl
        have HS := hid hs0
        clear KK hrk hrm hrl hs0
        obtain ⟨wo, rfl⟩ : ∃ wo : World, wo = wr := ⟨_, rfl⟩
        by_cases hlt : i < n
        · have hPo := K.out.ltP
          obtain ⟨a1, k1, ec1⟩ := HR.out.own.form
          rw [HR.out.len, HL.out] at ec1
          subst ec1
          have Hc1 := hid (fun g (e : (Value.slice a1 i k1).ownBlock = some g) => (HR.out.own.lt e).2)
          go_wp2_with fail
          go_loopw [12, 13] (fun row j wi => ∃ (q : Nat) (r : List Int) (vr : Value), vr = row ∧ q ≤ n ∧ j = .int .i64 q ∧ r.length = q ∧ (∀ t, t < q → 0 ≤ nm r t ∧ nm r t ≤ 7 ∧ (i = t → nm r t = 0)) ∧ OwnR encInt 1 3 wo.heap.size wi vr r ∧ Beat d wi ∧ wo.grownBy wi (some d))
            (fun _ j _ => n - (intOf j).toNat)
          case atStart => exact ⟨0, [], _, rfl, by omega, rfl, rfl, fun t ht => absurd ht (by omega), OwnR.nil _ _ _ _ _, K.out.beat, gb_refl _ _⟩
          case round =>
            obtain ⟨q, r, vr, rfl, hq, rfl, hql, hqr, hown, hbt, hgb⟩ := hrel
            have HQ := hid hqr
            have HQl := hid hql
            have HO := hid hown
            have HG := hid hgb
            have hdo : d < wo.heap.size := K.out.beat.lt
            clear hqr hql hown hgb
            obtain ⟨wi, rfl⟩ : ∃ wi : World, wi = wr := ⟨_, rfl⟩
            by_cases hltq : q < n
            · go_wp2_with fail
              refine (roll_any d 8 _ hbt (by decide)).mono ?_
              rintro e w5 ⟨z, rfl, hz1, hz2, hbt2, hgb2⟩
              have HO := hid (HO.out.go hdo hgb2)
              have HG := hid (gb_trans HG.out hgb2)
              clear hgb2
              have hw5 : wo.heap.size ≤ w5.heap.size := HG.out.size
              have hal := hid (fun (y : Int) (h0 : 0 ≤ y ∧ y ≤ 7 ∧ (i = q → y = 0)) (t : Nat) (ht : t < q + 1) => show 0 ≤ nm (r ++ [y]) t ∧ nm (r ++ [y]) t ≤ 7 ∧ (i = t → nm (r ++ [y]) t = 0) from by
                by_cases e : t < q
                · rw [nm_snoc_old (by rw [HQl.out]; exact e)]; exact HQ.out t e
                · obtain rfl : t = q := by omega
                  have := HQl.out
                  rw [← this, nm_snoc_new, this]
                  exact h0)
              by_cases hd : i = q
              · obtain ⟨e1, e2⟩ := eq_bool (a := (i : Int)) (b := (q : Int)) (by omega)
                have hal := hid (hal.out 0 ⟨by omega, by omega, fun _ => rfl⟩)
                clear hd
                go_wp2_with (at_builtin; refine wpList_app encInt Tryz.underlying24 infoInt' (by decide) (by decide) (fun _ => rfl) rfl _ _ rfl wo.heap.size r [0] (fun y _ => encInt_one y) _ _ rfl rfl (HO.out.later (below_alloc _ _)) (Src.lit encInt w5 0 _ 1 rfl) (by have := HQl.out; simp; omega) (by simp; omega) ?_; intro v' w' hown' hg hnil hat)
                have hbl := (HO.out.later (below_alloc w5 (.cells (encInt 0).toArray 3))).below hg (by simp; omega)
                have hG := hid (gb_trans HG.out ((World.grownBy_alloc w5 (.cells (encInt 0).toArray 3) (some d)))) 
                go_roundw
                case rel => exact ⟨q + 1, r ++ [0], _, rfl, by omega, by go_num, by rw [List.length_append, HQl.out]; rfl, hal.out, hown', (hbt2.gb (below_alloc w5 (.cells (encInt 0).toArray 3))).under hbl (by omega), gb_under hG.out hbl⟩
                case measure => simp [intOf] <;> omega
              · obtain ⟨e1, e2⟩ := ne_bool (a := (i : Int)) (b := (q : Int)) (by omega)
                have hal := hid (hal.out z ⟨by omega, by omega, fun e => absurd e hd⟩)
                clear hd
                go_wp2_with (at_builtin; refine wpList_app encInt Tryz.underlying24 infoInt' (by decide) (by decide) (fun _ => rfl) rfl _ _ rfl wo.heap.size r [z] (fun y _ => encInt_one y) _ _ rfl rfl (HO.out.later (below_alloc _ _)) (Src.lit encInt w5 z _ 1 rfl) (by have := HQl.out; simp; omega) (by simp; omega) ?_; intro v' w' hown' hg hnil hat)
                have hbl := (HO.out.later (below_alloc w5 (.cells (encInt z).toArray 3))).below hg (by simp; omega)
                have hG := hid (gb_trans HG.out ((World.grownBy_alloc w5 (.cells (encInt z).toArray 3) (some d))))
                go_roundw
                case rel => exact ⟨q + 1, r ++ [z], _, rfl, by omega, by go_num, by rw [List.length_append, HQl.out]; rfl, hal.out, hown', (hbt2.gb (below_alloc w5 (.cells (encInt z).toArray 3))).under hbl (by omega), gb_under hG.out hbl⟩
                case measure => simp [intOf] <;> omega
            · obtain rfl : q = n := by omega
              obtain ⟨ar, cr, er⟩ := HO.out.form
              rw [HQl.out] at er
              subst er
              have K := hid (K.out.go HG.out hbt)
              have HR := hid (HR.out.go K.out.dB HG.out)
              have HS := hid (RecAt.kept HS.out HG.out)
              have q1 := K.out.cell.2.1
              have f1 := K.out.thaw 1
              have Hrow := hid ((own_int.1 HO.out).at (d := some d) (fun j e => by cases e; exact hdo))
              have Hblk := hid (fun b (hb : (Value.slice ar q cr).ownBlock = some b) => HO.out.lt hb)
              have HQl2 := HQl
              go_wp2_with (at_builtin; refine wpList_app encV Tryz.underlying23 infoSl' (by decide) (by decide) (fun _ => rfl) rfl _ _ rfl B1 vs [.slice ar q cr] (fun y hy u hu => by rw [List.mem_singleton.1 hy] at hu; rw [List.mem_singleton.1 hu]; rfl) _ _ rfl rfl (HR.out.own.later (below_alloc _ _)) (Src.lit encV wi (.slice ar q cr) _ 1 rfl) (by have := HR.out.len; have := HL.out; simp; omega) (by have := K.out.hs; simp; omega) ?_; intro v' w' hown' hg hnil hat; obtain ⟨a', c', e⟩ := hown'.form; rw [List.length_append, List.length_singleton, HR.out.len] at e; subst e; have HB := hid ((HR.out.own.later (below_alloc wi (.cells (encV (.slice ar q cr)).toArray 24))).below hg (by have := K.out.hs; simp; omega)); have K := hid ((K.out.later (below_alloc wi (.cells (encV (.slice ar q cr)).toArray 24))).under HB.out); have q1 := K.out.cell.2.1; have f1 := K.out.thaw 1; have HOn := hid hown'; have HGr := hid hg; have HAt := hid hat)
              have HR := hid ((HR.out.go K.out.dB (gb_below (below_alloc wi (.cells (encV (.slice ar q cr)).toArray 24)) _)).snoc (Hrow.out.kept (gb_below (below_alloc wi (.cells (encV (.slice ar q cr)).toArray 24)) _)) (fun b hb => ⟨by have := (Hblk.out b hb).1; omega, by have := (Hblk.out b hb).2; simp; omega, fun e => by have := Hc1.out b e; have := (Hblk.out b hb).1; omega⟩) HOn.out HGr.out HAt.out)
              have HS := hid (RecAt.low (RecAt.kept HS.out (gb_below (below_alloc wi (.cells (encV (.slice ar q cr)).toArray 24)) _)) HL0.out HB.out)
              have K := hid (K.out.put 1 (.slice a' (rs.length + 1) c'))
              simp only [if_true, if_neg (show ¬ (1 : Nat) = 0 by decide), if_neg (show ¬ (1 : Nat) = 2 by decide), if_neg (show ¬ (1 : Nat) = 3 by decide)] at K
              have HR := hid (HR.out.put 1 (.slice a' (rs.length + 1) c'))
              have HS := hid (RecAt.put HS.out HL0.out 1 (.slice a' (rs.length + 1) c'))
              have HM := hid (rows_snoc HM.out HQl2.out (by rw [HL.out]; exact HQ.out))
              go_roundw
              case rel => exact ⟨i + 1, _, vs ++ [.slice ar q cr], rs ++ [r], by omega, by go_num, by rw [List.length_append, HL.out]; rfl, HM.out, HR.out, HS.out, K.out⟩
              case measure => simp [intOf] <;> omega
        · obtain rfl : n = i := by omega
          have HR := hid (HR.out.done K.out.dB)
          obtain ⟨B2, hB2⟩ : ∃ B2, wo.heap.size = B2 := ⟨_, rfl⟩
          have hB12 : B1 ≤ B2 := by have := K.out.hs; omega
          have hB2P : P < B2 := by omega
          have K := hid (K.out.lift (b' := B2) hB12 (by omega))
          rw [hB2] at HR
          have HL0 := hid (HL0.out.mono hB12)
          clear hB2
          go_wp2_with fail
          refine (mid_any d 1 3 _ K.out.beat (by decide) (by decide) (by decide) (by decide)).mono ?_
          rintro e w6 ⟨nn, rfl, hn1, hn2, hbt, hgb⟩
          have K := hid (K.out.go hgb hbt)
          have HS := hid (RecAt.kept HS.out hgb)
          have HR := hid (HR.out.go hgb)
          clear hbt hgb
          obtain ⟨nd, rfl⟩ := Int.eq_ofNat_of_zero_le (show 0 ≤ nn by omega)
          have hnd : 1 ≤ nd ∧ nd ≤ 3 := ⟨by omega, by omega⟩
          clear hn1 hn2
          go_wp2_with fail
          go_loopw [15] (fun i wr => ∃ (k : Nat) (c2 : Value) (ds : List Int), k ≤ nd ∧ i = .int .i64 ((nd : Int) - k) ∧ ds.length = k ∧ (∀ j, j < ds.length → 0 ≤ nm ds j ∧ nm ds j ≤ 1440) ∧ OwnR encInt 1 3 B2 wr c2 ds ∧ SpansAt (some d) wr c0 xs ∧ RowsAt d P B2 wr c1 vs rs ∧ PS d P B2 w c0 c1 c2 (.slice none 0 0) wr)
            (fun i _ => (intOf i).toNat)
          case atStart => exact ⟨0, _, [], by omega, by simp, rfl, fun j hj => by simp at hj, OwnR.nil _ _ _ _ _, HS.out, HR.out, K.out⟩
          case round =>
            obtain ⟨k, c2, ds, hk, rfl, hdl, hdb, hown, hs0, hr0, KK⟩ := hrel
            have K := hid KK
            have HO := hid hown
            have HD := hid hdb
            have HDl := hid hdl
            have HS := hid hs0
            have HR := hid hr0
            clear KK hown hdb hdl hs0 hr0
            obtain ⟨wo, rfl⟩ : ∃ wo : World, wo = wr := ⟨_, rfl⟩
            by_cases hlt : k < nd
            · go_upto_region 23 with fail
              have hBd := K.out.dB
              refine wp_region_flow_tail 8 (by kernel_rfl) (by kernel_rfl) [76, 77, 78, 79, 80, 81, 82, 83] 100
                (fun _ w' => PS d P B2 w c0 c1 c2 (.slice none 0 0) w' ∧ OwnR encInt 1 3 B2 w' c2 ds ∧ SpansAt (some d) w' c0 xs ∧ RowsAt d P B2 w' c1 vs rs) (fun a b => a.grownBy b (some d)) (fun _ _ => False)
                (fun _ i v w' => match i with
                  | 0 => v = .pointer (some ⟨P, 2, none⟩)
                  | 1 => v = c2
                  | 2 => v = .pointer (some ⟨d, 0, none⟩)
                  | 3 => v = .pointer (some ⟨d, 0, none⟩)
                  | 4 => ∃ r : Int, v = .int .i64 r ∧ 0 ≤ r ∧ r < 10
                  | 5 => ∃ r : Int, IntsAt (some d) w' v [0, r] ∧ 0 ≤ r ∧ r < 10
                  | 6 => ∃ z : Int, v = .int .i64 z ∧ 0 ≤ z ∧ z ≤ 9
                  | 7 => ∃ z : Int, IntsAt (some d) w' v [z] ∧ 0 ≤ z ∧ z ≤ 9
                  | _ => True)
                [0, 1, 2, 3, 4, 5, 6, 7] (by kernel_rfl) (by kernel_rfl) rfl ?_ ?_ ?_ ?_ ?_
              · intro b i v w1 w2 hW hg hy
                match i with
                | 0 => exact hy
                | 1 => exact hy
                | 2 => exact hy
                | 3 => exact hy
                | 4 => exact hy
                | 5 => obtain ⟨r, h, h'⟩ := hy; exact ⟨r, h.kept hg, h'⟩
                | 6 => exact hy
                | 7 => obtain ⟨r, h, h'⟩ := hy; exact ⟨r, h.kept hg, h'⟩
                | n + 8 => exact trivial
              · intro i v w1 w2 _ h; exact h.elim
              · exact ⟨K.out.later (Below.refl _ _).drew, HO.out.later (Below.refl _ _).drew, RecAt.kept HS.out (gb_below (Below.refl _ _).drew _), HR.out.go (gb_below (Below.refl _ _).drew _)⟩
              · skip
                refine StepF.cons (i := 0) (o := _) rfl (by decide) (fun b us wx hb hW hY K hK => ?_) ?_
                · simp only [putAll, Act.put, List.setIfInBounds_toArray, List.set_cons_zero, List.set_cons_succ]
                  go_simp
                  have hk := hK.out (.pointer (some ⟨P, 2, none⟩)) _ hW (gb_refl _ _) (fun _ => rfl)
                  simp only [putAll, Act.put, List.setIfInBounds_toArray, List.set_cons_zero, List.set_cons_succ] at hk
                  exact hk
                refine StepF.cons (i := 1) (o := _) rfl (by decide) (fun b us wx hb hW hY K hK => ?_) ?_
                · have y0 : us 76 = .pointer (some ⟨P, 2, none⟩) := hY 0 76 (by kernel_rfl) (by kernel_rfl)
                  have q0 := hW.1.cell.2.2.1
                  simp only [putAll, Act.put, List.setIfInBounds_toArray, List.set_cons_zero, List.set_cons_succ]
                  simp only [y0]
                  go_simp
                  have hk := hK.out (c2) _ hW (gb_refl _ _) (fun _ => rfl)
                  simp only [putAll, Act.put, List.setIfInBounds_toArray, List.set_cons_zero, List.set_cons_succ, y0] at hk
                  exact hk
                refine StepF.cons (i := 2) (o := _) rfl (by decide) (fun b us wx hb hW hY K hK => ?_) ?_
                · simp only [putAll, Act.put, List.setIfInBounds_toArray, List.set_cons_zero, List.set_cons_succ]
                  go_simp
                  have hk := hK.out (.pointer (some ⟨d, 0, none⟩)) _ hW (gb_refl _ _) (fun _ => rfl)
                  simp only [putAll, Act.put, List.setIfInBounds_toArray, List.set_cons_zero, List.set_cons_succ] at hk
                  exact hk
                refine StepF.cons (i := 3) (o := _) rfl (by decide) (fun b us wx hb hW hY K hK => ?_) ?_
                · simp only [putAll, Act.put, List.setIfInBounds_toArray, List.set_cons_zero, List.set_cons_succ]
                  go_simp
                  have hk := hK.out (.pointer (some ⟨d, 0, none⟩)) _ hW (gb_refl _ _) (fun _ => rfl)
                  simp only [putAll, Act.put, List.setIfInBounds_toArray, List.set_cons_zero, List.set_cons_succ] at hk
                  exact hk
                refine StepF.cons (i := 4) (o := _) rfl (by decide) (fun b us wx hb hW hY K hK => ?_) ?_
                · have y3 : us 79 = .pointer (some ⟨d, 0, none⟩) := hY 3 79 (by kernel_rfl) (by kernel_rfl)
                  simp only [putAll, Act.put, List.setIfInBounds_toArray, List.set_cons_zero, List.set_cons_succ]
                  simp only [y3]
                  go_simp
                  go_at_call 23
                  refine (roll_any _ 10 _ hW.1.beat (by decide)).mono ?_
                  rintro e wy ⟨r, rfl, hr1, hr2, hbt, hgb⟩
                  have hk := hK.out (.int .i64 r) _ ⟨hW.1.go hgb hbt, hW.2.1.go hBd hgb, RecAt.kept hW.2.2.1 hgb, hW.2.2.2.go hgb⟩ hgb (fun _ => ⟨r, rfl, hr1, hr2⟩)
                  simp only [putAll, Act.put, List.setIfInBounds_toArray, List.set_cons_zero, List.set_cons_succ, y3] at hk
                  exact hk
                refine StepF.cons (i := 5) (o := _) rfl (by decide) (fun b us wx hb hW hY K hK => ?_) ?_
                · have y4 : ∃ r : Int, us 80 = .int .i64 r ∧ 0 ≤ r ∧ r < 10 := hY 4 80 (by kernel_rfl) (by kernel_rfl)
                  apply Exists.elim y4
                  intro r hr
                  have y4 := hr.1
                  simp only [putAll, Act.put, List.setIfInBounds_toArray, List.set_cons_zero, List.set_cons_succ]
                  simp only [y4]
                  go_simp
                  have hk := hK.out (.slice (some ⟨wx.heap.size, 0, none⟩) 2 2) _ ⟨hW.1.later (below_alloc _ _), hW.2.1.later (below_alloc _ _), RecAt.kept hW.2.2.1 (gb_below (below_alloc _ _) _), hW.2.2.2.go (gb_below (below_alloc _ _) _)⟩ (gb_below (below_alloc _ _) _) (fun _ => ⟨r, ints_two d _ 0 r hW.1.beat.lt, hr.2⟩)
                  simp only [putAll, Act.put, List.setIfInBounds_toArray, List.set_cons_zero, List.set_cons_succ, y4] at hk
                  exact hk
                refine StepF.cons (i := 6) (o := _) rfl (by decide) (fun b us wx hb hW hY K hK => ?_) ?_
                · have y2 : us 78 = .pointer (some ⟨d, 0, none⟩) := hY 2 78 (by kernel_rfl) (by kernel_rfl)
                  have y5 : ∃ r : Int, IntsAt (some d) wx (us 81) [0, r] ∧ 0 ≤ r ∧ r < 10 := hY 5 81 (by kernel_rfl) (by kernel_rfl)
                  apply Exists.elim y5
                  intro r hr
                  have hr1 := hr.2
                  simp only [putAll, Act.put, List.setIfInBounds_toArray, List.set_cons_zero, List.set_cons_succ]
                  simp only [y2]
                  go_simp
                  go_at_call 22
                  refine (any_any d [0, r] _ _ hW.1.beat hr.1 (by simp) (by simp)).mono ?_
                  rintro e wy ⟨i, hi, rfl, hbt, hgb⟩
                  have hx : 0 ≤ nm [0, r] i ∧ nm [0, r] i ≤ 9 := any_two (by omega) (by omega) hi
                  have hk := hK.out (.int .i64 (nm [0, r] i)) _ ⟨hW.1.go hgb hbt, hW.2.1.go hBd hgb, RecAt.kept hW.2.2.1 hgb, hW.2.2.2.go hgb⟩ hgb (fun _ => ⟨_, rfl, hx⟩)
                  simp only [putAll, Act.put, List.setIfInBounds_toArray, List.set_cons_zero, List.set_cons_succ, y2] at hk
                  exact hk
                refine StepF.cons (i := 7) (o := _) rfl (by decide) (fun b us wx hb hW hY K hK => ?_) ?_
                · have y6 : ∃ z : Int, us 82 = .int .i64 z ∧ 0 ≤ z ∧ z ≤ 9 := hY 6 82 (by kernel_rfl) (by kernel_rfl)
                  apply Exists.elim y6
                  intro z hz
                  have y6 := hz.1
                  simp only [putAll, Act.put, List.setIfInBounds_toArray, List.set_cons_zero, List.set_cons_succ]
                  simp only [y6]
                  go_simp
                  have hk := hK.out (.slice (some ⟨wx.heap.size, 0, none⟩) 1 1) _ ⟨hW.1.later (below_alloc _ _), hW.2.1.later (below_alloc _ _), RecAt.kept hW.2.2.1 (gb_below (below_alloc _ _) _), hW.2.2.2.go (gb_below (below_alloc _ _) _)⟩ (gb_below (below_alloc _ _) _) (fun _ => ⟨z, ints_one d _ z hW.1.beat.lt, hz.2⟩)
                  simp only [putAll, Act.put, List.setIfInBounds_toArray, List.set_cons_zero, List.set_cons_succ, y6] at hk
                  exact hk
                exact StepF.nil
              · intro vs' wx hW hY
                have y1 : vs' 77 = c2 := hY 1 77 (by kernel_rfl)
                have y7 : ∃ z : Int, IntsAt (some d) wx (vs' 83) [z] ∧ 0 ≤ z ∧ z ≤ 9 := hY 7 83 (by kernel_rfl)
                apply Exists.elim y7
                intro z hz
                have HZ := hid hz
                have HWx := hid hW
                have Y1 := hid y1
                clear hY y1 y7 hW hz
                simp only [putAll, Act.put, List.setIfInBounds_toArray, List.set_cons_zero, List.set_cons_succ, List.drop_succ_cons, List.drop_zero]
                refine wpList_app encInt Tryz.underlying24 infoInt' (by decide) (by decide) (fun _ => rfl) rfl _ _ rfl B2 ds [z] (fun y _ => encInt_one y) c2 (vs' 83) Y1.out rfl HWx.out.2.1 (Src.ints HZ.out.1 (HZ.out.1.soundI (by simp))) (by have := HDl.out; simp; omega) HWx.out.1.hs ?_
                intro v' w' hown' hg hnil hat
                obtain ⟨a', c', e⟩ := hown'.form
                rw [List.length_append, List.length_singleton] at e
                subst e
                have HB := hid (HWx.out.2.1.below hg HWx.out.1.hs)
                have K := hid (HWx.out.1.under HB.out)
                have q0 := K.out.cell.2.2.1
                have f0 := K.out.thaw 2
                have K2 := hid (K.out.put 2 (.slice a' (ds.length + 1) c'))
                simp only [if_true, if_neg (show ¬ (2 : Nat) = 0 by decide), if_neg (show ¬ (2 : Nat) = 1 by decide), if_neg (show ¬ (2 : Nat) = 3 by decide)] at K2
                have HO2 := hid (OwnR.put (Z := P) (o := 2) (u := .slice a' (ds.length + 1) c') hown' hB2P)
                have HS2 := hid (RecAt.put (RecAt.low HWx.out.2.2.1 HL0.out HB.out) HL0.out 2 (.slice a' (ds.length + 1) c'))
                have HR2 := hid ((HWx.out.2.2.2.base HB.out).put 2 (.slice a' (ds.length + 1) c'))
                have HD2 := hid (alln_snoc (Q := fun x => 0 ≤ x ∧ x ≤ 1440) HD.out (x := z) ⟨HZ.out.2.1, by have := HZ.out.2.2; omega⟩)
                clear hown' hg hnil hat
                go_wp2_with fail
                go_roundw
                case rel => exact ⟨k + 1, _, ds ++ [z], by omega, by go_num, by rw [List.length_append, HDl.out]; rfl, HD2.out, HO2.out, HS2.out, HR2.out, K2.out⟩
                case measure => simp [intOf] <;> omega
            · obtain rfl : k = nd := by omega
              have HD2 := hid ((own_int.1 HO.out).at (d := some d) (fun j e => by cases e; exact K.out.dB))
              have HL2 := hid (HO.out.low (P := P) hB2P (Nat.le_refl _))
              have HV := hid (base_made (ps := xs) (rs := rs) (ds := ds) ⟨by have := HX.out; omega, by have := HX.out; omega⟩ HF.out ⟨by omega, by omega⟩ HL.out HM.out ⟨by have := HDl.out; omega, by have := HDl.out; omega⟩ HD.out)
              have hB3 : B2 ≤ wo.heap.size := K.out.hs
              have HQ := hid (show PQ d P wo.heap.size w c0 c1 c2 (.slice none 0 0) xs vs rs ds [] wo from ⟨K.out.lift hB3 (Nat.le_refl _), HS.out, HR.out.mono hB3, HD2.out, ⟨none, 0, rfl, fun h => by simp at h⟩, HL0.out.mono hB3, HL2.out, ⟨0, fun b e => by cases e⟩, fun n c e => by cases e; exact ⟨rfl, rfl⟩⟩)
              obtain ⟨B3, hB3'⟩ : ∃ B3, wo.heap.size = B3 := ⟨_, rfl⟩
              rw [hB3'] at HQ
              clear hB3' hB3 HO HD2 HL2
              go_wp2_with fail
              refine (roll_any d (parts + 1) _ HQ.out.ks.beat (by omega)).mono ?_
              rintro e w7 ⟨np, rfl, hp1, hp2, hbt, hgb⟩
              have HQ := hid (HQ.out.go hgb hbt)
              clear hbt hgb
              obtain ⟨u, rfl⟩ := Int.eq_ofNat_of_zero_le hp1
              have hu : (u : Int) ≤ parts := by omega
              clear hp1 hp2
              obtain ⟨a0, k0, e0⟩ := SpansAt.form HQ.out.s
              subst e0
              obtain ⟨a1, k1, e1⟩ := HQ.out.r.spine.frm
              subst e1
              obtain ⟨a2, k2, e2⟩ := (IntsAt.rec.1 HQ.out.i).frm
              subst e2
              have hnn : 1 ≤ (n : Int) ∧ (n : Int) ≤ 3 := by omega
              have Hxl := hid (show xs.length ≤ 12 from by have := HX.out; omega)
              have Hdl := hid (show ds.length ≤ 3 from by have := HDl.out; omega)
              have Hxm := hid (show (xs.length : Int) ≤ persons from by have := HX.out; omega)
              go_wp2_with fail
              go_loopw [16] (fun i wr => ∃ (k : Nat) (c3 : Value) (qs : List Part), k ≤ u ∧ i = .int .i64 ((u : Int) - k) ∧ qs.length ≤ k ∧ plotErr ⟨xs, rs, ds, qs⟩ = 0 ∧ PQ d P B3 w (.slice a0 xs.length k0) (.slice a1 rs.length k1) (.slice a2 ds.length k2) c3 xs vs rs ds qs wr)
                (fun i _ => (intOf i).toNat)
              case atStart => exact ⟨0, _, [], by omega, by simp, by simp, HV.out, HQ.out⟩
              case round =>
                obtain ⟨k, c3, qs, hk, rfl, hql, hqe, KK⟩ := hrel
                have HQ := hid KK
                have HE := hid hqe
                have HQl := hid hql
                clear KK hqe hql K HS HR HV
                obtain ⟨wo, rfl⟩ : ∃ wo : World, wo = wr := ⟨_, rfl⟩
                by_cases hlt : k < u
                rotate_left
                · obtain rfl : k = u := by omega
                  obtain ⟨a3, k3, e3⟩ := PartsAt.form HQ.out.p
                  subst e3
                  have p0 := HQ.out.ks.cell.1
                  have p1 := HQ.out.ks.cell.2.1
                  have p2 := HQ.out.ks.cell.2.2.1
                  have p3 := HQ.out.ks.cell.2.2.2
                  have r0 := HQ.out.ks.res.1.1
                  have r1 := HQ.out.ks.res.1.2.1
                  have r2 := HQ.out.ks.res.1.2.2.1
                  have r3 := HQ.out.ks.res.1.2.2.2
                  have f0 := HQ.out.ks.res.2 0
                  have f1 := HQ.out.ks.res.2 1
                  have f2 := HQ.out.ks.res.2 2
                  have f3 := HQ.out.ks.res.2 3
                  have HRt := hid HQ.out.ret
                  have hgf : w.grownBy ((((wo.setCell ⟨w.heap.size, 0, none⟩ (.slice a0 xs.length k0)).setCell ⟨w.heap.size, 1, none⟩ (.slice a1 rs.length k1)).setCell ⟨w.heap.size, 2, none⟩ (.slice a2 ds.length k2)).setCell ⟨w.heap.size, 3, none⟩ (.slice a3 qs.length k3)) (some d) := gb_out (gb_out (gb_out (gb_out HQ.out.ks.gb (Nat.le_refl _)) (Nat.le_refl _)) (Nat.le_refl _)) (Nat.le_refl _)
                  have hwd : w.heap.size ≠ d := Nat.ne_of_gt hdl
                  have hbf : Beat d ((((wo.setCell ⟨w.heap.size, 0, none⟩ (.slice a0 xs.length k0)).setCell ⟨w.heap.size, 1, none⟩ (.slice a1 rs.length k1)).setCell ⟨w.heap.size, 2, none⟩ (.slice a2 ds.length k2)).setCell ⟨w.heap.size, 3, none⟩ (.slice a3 qs.length k3)) := (((HQ.out.ks.beat.putFar hwd).putFar hwd).putFar hwd).putFar hwd
                  have Hgf := hid hgf
                  have Hbf := hid hbf
                  have Hfin := hid (show ((⟨xs, rs, ds, qs⟩ : Plot).persons.length : Int) ≤ persons ∧ ((⟨xs, rs, ds, qs⟩ : Plot).parts.length : Int) ≤ parts from ⟨Hxm.out, by have := HQl.out; show (qs.length : Int) ≤ parts; omega⟩)
                  clear hgf hbf
                  go_wp2_with fail
                  have c0 : ((((wo.setCell ⟨w.heap.size, 0, none⟩ (.slice a0 xs.length k0)).setCell ⟨w.heap.size, 1, none⟩ (.slice a1 rs.length k1)).setCell ⟨w.heap.size, 2, none⟩ (.slice a2 ds.length k2)).setCell ⟨w.heap.size, 3, none⟩ (.slice a3 qs.length k3)).cell? ⟨w.heap.size, 0, none⟩ = some (.slice a0 xs.length k0) := by go_simp
                  have c1 : ((((wo.setCell ⟨w.heap.size, 0, none⟩ (.slice a0 xs.length k0)).setCell ⟨w.heap.size, 1, none⟩ (.slice a1 rs.length k1)).setCell ⟨w.heap.size, 2, none⟩ (.slice a2 ds.length k2)).setCell ⟨w.heap.size, 3, none⟩ (.slice a3 qs.length k3)).cell? ⟨w.heap.size, 1, none⟩ = some (.slice a1 rs.length k1) := by go_simp
                  have c2 : ((((wo.setCell ⟨w.heap.size, 0, none⟩ (.slice a0 xs.length k0)).setCell ⟨w.heap.size, 1, none⟩ (.slice a1 rs.length k1)).setCell ⟨w.heap.size, 2, none⟩ (.slice a2 ds.length k2)).setCell ⟨w.heap.size, 3, none⟩ (.slice a3 qs.length k3)).cell? ⟨w.heap.size, 2, none⟩ = some (.slice a2 ds.length k2) := by go_simp
                  have c3 : ((((wo.setCell ⟨w.heap.size, 0, none⟩ (.slice a0 xs.length k0)).setCell ⟨w.heap.size, 1, none⟩ (.slice a1 rs.length k1)).setCell ⟨w.heap.size, 2, none⟩ (.slice a2 ds.length k2)).setCell ⟨w.heap.size, 3, none⟩ (.slice a3 qs.length k3)).cell? ⟨w.heap.size, 3, none⟩ = some (.slice a3 qs.length k3) := by go_simp
                  refine bodyPost_ret (v := plotV (.slice a0 xs.length k0) (.slice a1 rs.length k1) (.slice a2 ds.length k2) (.slice a3 qs.length k3)) (by simp [results, Tryz.results7, go_sem, c0, c1, c2, c3]) rfl ?_
                  exact ⟨_, _, _, _, ⟨xs, rs, ds, qs⟩, rfl, HE.out, Hfin.out.1, Hfin.out.2, HRt.out, HQ.out.s3, Hbf.out, Hgf.out⟩
                go_wp2_with fail
                refine (any_any d [40, 120] _ _ (HQ.out.later (below_alloc _ _)).ks.beat (ints_two d wo 40 120 HQ.out.ks.beat.lt) (by simp) (by simp)).mono ?_
                rintro e w8 ⟨j, hj, rfl, hbt, hgb⟩
                have HQ := hid ((HQ.out.later (below_alloc _ _)).go hgb hbt)
                have hy : 40 ≤ nm [40, 120] j ∧ nm [40, 120] j ≤ 120 := any_two (by omega) (by omega) hj
                obtain ⟨lim, hlim⟩ : ∃ lim, nm [40, 120] j = lim := ⟨_, rfl⟩
                rw [hlim] at hy ⊢
                clear hlim hbt hgb hj
                go_wp2_with fail
                refine (roll_any d lim _ HQ.out.ks.beat (by omega)).mono ?_
                rintro e w9 ⟨f, rfl, hf1, hf2, hbt, hgb⟩
                have HQ := hid (HQ.out.go hgb hbt)
                have hf3 : f ≤ 120 := by omega
                clear hbt hgb hf2 hy
                obtain ⟨a3, k3, e3⟩ := PartsAt.form HQ.out.p
                subst e3
                have HZ := hid (fun (z : Int) (a : 1 ≤ z) (b : z ≤ 30) => (IntWalk.i64_in (f + z) (by omega) : IntKind.i64.wrap (f + z) = f + z))
                go_upto_region 28 with fail
                refine wp_region_flow_tail 23 (by kernel_rfl) (by kernel_rfl) [99, 100, 101, 102, 103, 104, 105, 106, 107, 108, 109, 110, 111, 112, 113, 114, 115, 116, 117, 118, 119, 120, 18] 100
                  (fun _ w' => Beat d w' ∧ w9.grownBy w' (some d)) (fun a b => a.grownBy b (some d)) (fun _ _ => False)
                  (fun _ i v w' => match i with
                    | 0 => v = .pointer (some ⟨d, 0, none⟩)
                    | 1 => v = .pointer (some ⟨P, 0, none⟩)
                    | 2 => v = .slice a0 xs.length k0
                    | 3 => v = .int .i64 xs.length
                    | 4 => ∃ r : Int, v = .int .i64 r
                    | 5 => v = .pointer (some ⟨d, 0, none⟩)
                    | 6 => v = .int .i64 n
                    | 7 => ∃ r : Int, v = .int .i64 r
                    | 8 => v = .pointer (some ⟨d, 0, none⟩)
                    | 9 => v = .pointer (some ⟨P, 2, none⟩)
                    | 10 => v = .slice a2 ds.length k2
                    | 11 => v = .int .i64 ds.length
                    | 12 => ∃ r : Int, v = .int .i64 r
                    | 13 => v = .int .i64 f
                    | 14 => v = .int .i64 f
                    | 15 => v = .pointer (some ⟨d, 0, none⟩)
                    | 16 => v = .pointer (some ⟨d, 0, none⟩)
                    | 17 => IntsAt (some d) w' v [6, 30]
                    | 18 => ∃ z : Int, v = .int .i64 z ∧ 6 ≤ z ∧ z ≤ 30
                    | 19 => ∃ z : Int, v = .int .i64 z ∧ 1 ≤ z ∧ z ≤ 30
                    | 20 => ∃ z : Int, v = .int .i64 z
                    | 21 => ∃ x : Part, v = partV x
                    | 22 => ∃ X, v = .pointer (some ⟨X, 0, none⟩) ∧ NewBox w9 w' X 5
                    | _ => True)
                  [0, 1, 2, 3, 4, 5, 6, 7, 8, 9, 10, 11, 12, 13, 14, 15, 16, 17, 18, 19, 20, 21, 22] (by kernel_rfl) (by kernel_rfl) rfl ?_ ?_ ?_ ?_ ?_
                · intro b i v w1 w2 hW hg hy
                  match i with
                  | 0 => exact hy
                  | 1 => exact hy
                  | 2 => exact hy
                  | 3 => exact hy
                  | 4 => exact hy
                  | 5 => exact hy
                  | 6 => exact hy
                  | 7 => exact hy
                  | 8 => exact hy
                  | 9 => exact hy
                  | 10 => exact hy
                  | 11 => exact hy
                  | 12 => exact hy
                  | 13 => exact hy
                  | 14 => exact hy
                  | 15 => exact hy
                  | 16 => exact hy
                  | 17 => exact hy.kept hg
                  | 18 => exact hy
                  | 19 => exact hy
                  | 20 => exact hy
                  | 21 => exact hy
                  | 22 => obtain ⟨X, h, h2⟩ := hy; exact ⟨X, h, h2.go HQ.out.ks.beat.lt (by decide) hg⟩
                  | n + 23 => exact trivial
                · intro i v w1 w2 _ h; exact h.elim
                · exact ⟨HQ.out.ks.beat.gb (Below.refl _ _).drew, gb_below (Below.refl _ _).drew _⟩
                · skip
                  refine StepF.cons (i := 0) (o := _) rfl (by decide) (fun b us wx hb hW hY K hK => ?_) ?_
                  · simp only [putAll, Act.put, List.setIfInBounds_toArray, List.set_cons_zero, List.set_cons_succ]
                    go_simp
                    have hk := hK.out (.pointer (some ⟨d, 0, none⟩)) _ hW (gb_refl _ _) (fun _ => rfl)
                    simp only [putAll, Act.put, List.setIfInBounds_toArray, List.set_cons_zero, List.set_cons_succ] at hk
                    exact hk
                  refine StepF.cons (i := 1) (o := _) rfl (by decide) (fun b us wx hb hW hY K hK => ?_) ?_
                  · simp only [putAll, Act.put, List.setIfInBounds_toArray, List.set_cons_zero, List.set_cons_succ]
                    go_simp
                    have hk := hK.out (.pointer (some ⟨P, 0, none⟩)) _ hW (gb_refl _ _) (fun _ => rfl)
                    simp only [putAll, Act.put, List.setIfInBounds_toArray, List.set_cons_zero, List.set_cons_succ] at hk
                    exact hk
                  refine StepF.cons (i := 2) (o := _) rfl (by decide) (fun b us wx hb hW hY K hK => ?_) ?_
                  · have y1 : us 100 = .pointer (some ⟨P, 0, none⟩) := hY 1 100 (by kernel_rfl) (by kernel_rfl)
                    have q0 := (HQ.out.go hW.2 hW.1).ks.cell.1
                    simp only [putAll, Act.put, List.setIfInBounds_toArray, List.set_cons_zero, List.set_cons_succ]
                    simp only [y1]
                    go_simp
                    have hk := hK.out (.slice a0 xs.length k0) _ hW (gb_refl _ _) (fun _ => rfl)
                    simp only [putAll, Act.put, List.setIfInBounds_toArray, List.set_cons_zero, List.set_cons_succ, y1] at hk
                    exact hk
                  refine StepF.cons (i := 3) (o := _) rfl (by decide) (fun b us wx hb hW hY K hK => ?_) ?_
                  · have y2 : us 101 = .slice a0 xs.length k0 := hY 2 101 (by kernel_rfl) (by kernel_rfl)
                    simp only [putAll, Act.put, List.setIfInBounds_toArray, List.set_cons_zero, List.set_cons_succ]
                    simp only [y2]
                    go_simp
                    have hk := hK.out (.int .i64 xs.length) _ hW (gb_refl _ _) (fun _ => rfl)
                    simp only [putAll, Act.put, List.setIfInBounds_toArray, List.set_cons_zero, List.set_cons_succ, y2] at hk
                    exact hk
                  refine StepF.cons (i := 4) (o := _) rfl (by decide) (fun b us wx hb hW hY K hK => ?_) ?_
                  · have y0 : us 99 = .pointer (some ⟨d, 0, none⟩) := hY 0 99 (by kernel_rfl) (by kernel_rfl)
                    have y3 : us 102 = .int .i64 xs.length := hY 3 102 (by kernel_rfl) (by kernel_rfl)
                    simp only [putAll, Act.put, List.setIfInBounds_toArray, List.set_cons_zero, List.set_cons_succ]
                    simp only [y0, y3]
                    go_simp
                    go_at_call 23
                    refine (roll_any _ (xs.length : Int) _ hW.1 (by have := Hxl.out; omega)).mono ?_
                    rintro e wy ⟨r, rfl, hr1, hr2, hbt, hgb⟩
                    have hk := hK.out (.int .i64 r) _ ⟨hbt, gb_trans hW.2 hgb⟩ hgb (fun _ => ⟨r, rfl⟩)
                    simp only [putAll, Act.put, List.setIfInBounds_toArray, List.set_cons_zero, List.set_cons_succ, y0, y3] at hk
                    exact hk
                  refine StepF.cons (i := 5) (o := _) rfl (by decide) (fun b us wx hb hW hY K hK => ?_) ?_
                  · simp only [putAll, Act.put, List.setIfInBounds_toArray, List.set_cons_zero, List.set_cons_succ]
                    go_simp
                    have hk := hK.out (.pointer (some ⟨d, 0, none⟩)) _ hW (gb_refl _ _) (fun _ => rfl)
                    simp only [putAll, Act.put, List.setIfInBounds_toArray, List.set_cons_zero, List.set_cons_succ] at hk
                    exact hk
                  refine StepF.cons (i := 6) (o := _) rfl (by decide) (fun b us wx hb hW hY K hK => ?_) ?_
                  · simp only [putAll, Act.put, List.setIfInBounds_toArray, List.set_cons_zero, List.set_cons_succ]
                    go_simp
                    have hk := hK.out (.int .i64 n) _ hW (gb_refl _ _) (fun _ => rfl)
                    simp only [putAll, Act.put, List.setIfInBounds_toArray, List.set_cons_zero, List.set_cons_succ] at hk
                    exact hk
                  refine StepF.cons (i := 7) (o := _) rfl (by decide) (fun b us wx hb hW hY K hK => ?_) ?_
                  · have y5 : us 104 = .pointer (some ⟨d, 0, none⟩) := hY 5 104 (by kernel_rfl) (by kernel_rfl)
                    have y6 : us 105 = .int .i64 n := hY 6 105 (by kernel_rfl) (by kernel_rfl)
                    simp only [putAll, Act.put, List.setIfInBounds_toArray, List.set_cons_zero, List.set_cons_succ]
                    simp only [y5, y6]
                    go_simp
                    go_at_call 23
                    refine (roll_any _ (n : Int) _ hW.1 (by omega)).mono ?_
                    rintro e wy ⟨r, rfl, hr1, hr2, hbt, hgb⟩
                    have hk := hK.out (.int .i64 r) _ ⟨hbt, gb_trans hW.2 hgb⟩ hgb (fun _ => ⟨r, rfl⟩)
                    simp only [putAll, Act.put, List.setIfInBounds_toArray, List.set_cons_zero, List.set_cons_succ, y5, y6] at hk
                    exact hk
                  refine StepF.cons (i := 8) (o := _) rfl (by decide) (fun b us wx hb hW hY K hK => ?_) ?_
                  · simp only [putAll, Act.put, List.setIfInBounds_toArray, List.set_cons_zero, List.set_cons_succ]
                    go_simp
                    have hk := hK.out (.pointer (some ⟨d, 0, none⟩)) _ hW (gb_refl _ _) (fun _ => rfl)
                    simp only [putAll, Act.put, List.setIfInBounds_toArray, List.set_cons_zero, List.set_cons_succ] at hk
                    exact hk
                  refine StepF.cons (i := 9) (o := _) rfl (by decide) (fun b us wx hb hW hY K hK => ?_) ?_
                  · simp only [putAll, Act.put, List.setIfInBounds_toArray, List.set_cons_zero, List.set_cons_succ]
                    go_simp
                    have hk := hK.out (.pointer (some ⟨P, 2, none⟩)) _ hW (gb_refl _ _) (fun _ => rfl)
                    simp only [putAll, Act.put, List.setIfInBounds_toArray, List.set_cons_zero, List.set_cons_succ] at hk
                    exact hk
                  refine StepF.cons (i := 10) (o := _) rfl (by decide) (fun b us wx hb hW hY K hK => ?_) ?_
                  · have y9 : us 108 = .pointer (some ⟨P, 2, none⟩) := hY 9 108 (by kernel_rfl) (by kernel_rfl)
                    have q0 := (HQ.out.go hW.2 hW.1).ks.cell.2.2.1
                    simp only [putAll, Act.put, List.setIfInBounds_toArray, List.set_cons_zero, List.set_cons_succ]
                    simp only [y9]
                    go_simp
                    have hk := hK.out (.slice a2 ds.length k2) _ hW (gb_refl _ _) (fun _ => rfl)
                    simp only [putAll, Act.put, List.setIfInBounds_toArray, List.set_cons_zero, List.set_cons_succ, y9] at hk
                    exact hk
                  refine StepF.cons (i := 11) (o := _) rfl (by decide) (fun b us wx hb hW hY K hK => ?_) ?_
                  · have y10 : us 109 = .slice a2 ds.length k2 := hY 10 109 (by kernel_rfl) (by kernel_rfl)
                    simp only [putAll, Act.put, List.setIfInBounds_toArray, List.set_cons_zero, List.set_cons_succ]
                    simp only [y10]
                    go_simp
                    have hk := hK.out (.int .i64 ds.length) _ hW (gb_refl _ _) (fun _ => rfl)
                    simp only [putAll, Act.put, List.setIfInBounds_toArray, List.set_cons_zero, List.set_cons_succ, y10] at hk
                    exact hk
                  refine StepF.cons (i := 12) (o := _) rfl (by decide) (fun b us wx hb hW hY K hK => ?_) ?_
                  · have y8 : us 107 = .pointer (some ⟨d, 0, none⟩) := hY 8 107 (by kernel_rfl) (by kernel_rfl)
                    have y11 : us 110 = .int .i64 ds.length := hY 11 110 (by kernel_rfl) (by kernel_rfl)
                    simp only [putAll, Act.put, List.setIfInBounds_toArray, List.set_cons_zero, List.set_cons_succ]
                    simp only [y8, y11]
                    go_simp
                    go_at_call 23
                    refine (roll_any _ (ds.length : Int) _ hW.1 (by have := Hdl.out; omega)).mono ?_
                    rintro e wy ⟨r, rfl, hr1, hr2, hbt, hgb⟩
                    have hk := hK.out (.int .i64 r) _ ⟨hbt, gb_trans hW.2 hgb⟩ hgb (fun _ => ⟨r, rfl⟩)
                    simp only [putAll, Act.put, List.setIfInBounds_toArray, List.set_cons_zero, List.set_cons_succ, y8, y11] at hk
                    exact hk
                  refine StepF.cons (i := 13) (o := _) rfl (by decide) (fun b us wx hb hW hY K hK => ?_) ?_
                  · simp only [putAll, Act.put, List.setIfInBounds_toArray, List.set_cons_zero, List.set_cons_succ]
                    go_simp
                    have hk := hK.out (.int .i64 f) _ hW (gb_refl _ _) (fun _ => rfl)
                    simp only [putAll, Act.put, List.setIfInBounds_toArray, List.set_cons_zero, List.set_cons_succ] at hk
                    exact hk
                  refine StepF.cons (i := 14) (o := _) rfl (by decide) (fun b us wx hb hW hY K hK => ?_) ?_
                  · simp only [putAll, Act.put, List.setIfInBounds_toArray, List.set_cons_zero, List.set_cons_succ]
                    go_simp
                    have hk := hK.out (.int .i64 f) _ hW (gb_refl _ _) (fun _ => rfl)
                    simp only [putAll, Act.put, List.setIfInBounds_toArray, List.set_cons_zero, List.set_cons_succ] at hk
                    exact hk
                  refine StepF.cons (i := 15) (o := _) rfl (by decide) (fun b us wx hb hW hY K hK => ?_) ?_
                  · simp only [putAll, Act.put, List.setIfInBounds_toArray, List.set_cons_zero, List.set_cons_succ]
                    go_simp
                    have hk := hK.out (.pointer (some ⟨d, 0, none⟩)) _ hW (gb_refl _ _) (fun _ => rfl)
                    simp only [putAll, Act.put, List.setIfInBounds_toArray, List.set_cons_zero, List.set_cons_succ] at hk
                    exact hk
                  refine StepF.cons (i := 16) (o := _) rfl (by decide) (fun b us wx hb hW hY K hK => ?_) ?_
                  · simp only [putAll, Act.put, List.setIfInBounds_toArray, List.set_cons_zero, List.set_cons_succ]
                    go_simp
                    have hk := hK.out (.pointer (some ⟨d, 0, none⟩)) _ hW (gb_refl _ _) (fun _ => rfl)
                    simp only [putAll, Act.put, List.setIfInBounds_toArray, List.set_cons_zero, List.set_cons_succ] at hk
                    exact hk
                  refine StepF.cons (i := 17) (o := _) rfl (by decide) (fun b us wx hb hW hY K hK => ?_) ?_
                  · simp only [putAll, Act.put, List.setIfInBounds_toArray, List.set_cons_zero, List.set_cons_succ]
                    go_simp
                    have hk := hK.out (.slice (some ⟨wx.heap.size, 0, none⟩) 2 2) _ ⟨hW.1.gb (below_alloc _ _), gb_trans hW.2 (gb_below (below_alloc _ _) _)⟩ (gb_below (below_alloc _ _) _) (fun _ => ints_two d _ 6 30 hW.1.lt)
                    simp only [putAll, Act.put, List.setIfInBounds_toArray, List.set_cons_zero, List.set_cons_succ] at hk
                    exact hk
                  refine StepF.cons (i := 18) (o := _) rfl (by decide) (fun b us wx hb hW hY K hK => ?_) ?_
                  · have y16 : us 115 = .pointer (some ⟨d, 0, none⟩) := hY 16 115 (by kernel_rfl) (by kernel_rfl)
                    have y17 : IntsAt (some d) wx (us 116) [6, 30] := hY 17 116 (by kernel_rfl) (by kernel_rfl)
                    simp only [putAll, Act.put, List.setIfInBounds_toArray, List.set_cons_zero, List.set_cons_succ]
                    simp only [y16]
                    go_simp
                    go_at_call 22
                    refine (any_any d [6, 30] _ _ hW.1 y17 (by simp) (by simp)).mono ?_
                    rintro e wy ⟨i, hi, rfl, hbt, hgb⟩
                    have hx : 6 ≤ nm [6, 30] i ∧ nm [6, 30] i ≤ 30 := any_two (by omega) (by omega) hi
                    have hk := hK.out (.int .i64 (nm [6, 30] i)) _ ⟨hbt, gb_trans hW.2 hgb⟩ hgb (fun _ => ⟨_, rfl, hx⟩)
                    simp only [putAll, Act.put, List.setIfInBounds_toArray, List.set_cons_zero, List.set_cons_succ, y16] at hk
                    exact hk
                  refine StepF.cons (i := 19) (o := _) rfl (by decide) (fun b us wx hb hW hY K hK => ?_) ?_
                  · have y15 : us 114 = .pointer (some ⟨d, 0, none⟩) := hY 15 114 (by kernel_rfl) (by kernel_rfl)
                    have y18 : ∃ z : Int, us 117 = .int .i64 z ∧ 6 ≤ z ∧ z ≤ 30 := hY 18 117 (by kernel_rfl) (by kernel_rfl)
                    apply Exists.elim y18
                    intro z hz
                    have y18 := hz.1
                    have hz1 := hz.2.1
                    have hz2 := hz.2.2
                    simp only [putAll, Act.put, List.setIfInBounds_toArray, List.set_cons_zero, List.set_cons_succ]
                    simp only [y15, y18]
                    go_simp
                    go_at_call 21
                    refine (mid_any d 1 z _ hW.1 (by decide) (by decide) (by omega) (by omega)).mono ?_
                    rintro e wy ⟨r, rfl, hr1, hr2, hbt, hgb⟩
                    have hk := hK.out (.int .i64 r) _ ⟨hbt, gb_trans hW.2 hgb⟩ hgb (fun _ => ⟨r, rfl, by omega, by omega⟩)
                    simp only [putAll, Act.put, List.setIfInBounds_toArray, List.set_cons_zero, List.set_cons_succ, y15, y18] at hk
                    exact hk
                  refine StepF.cons (i := 20) (o := _) rfl (by decide) (fun b us wx hb hW hY K hK => ?_) ?_
                  · have y14 : us 113 = .int .i64 f := hY 14 113 (by kernel_rfl) (by kernel_rfl)
                    have y19 : ∃ z : Int, us 118 = .int .i64 z ∧ 1 ≤ z ∧ z ≤ 30 := hY 19 118 (by kernel_rfl) (by kernel_rfl)
                    apply Exists.elim y19
                    intro z hz
                    have y19 := hz.1
                    have zz := HZ.out z hz.2.1 hz.2.2
                    simp only [putAll, Act.put, List.setIfInBounds_toArray, List.set_cons_zero, List.set_cons_succ]
                    simp only [y14, y19]
                    go_simp
                    try rw [zz]
                    have hk := hK.out (.int .i64 (f + z)) _ hW (gb_refl _ _) (fun _ => ⟨_, rfl⟩)
                    simp only [putAll, Act.put, List.setIfInBounds_toArray, List.set_cons_zero, List.set_cons_succ, y14, y19] at hk
                    exact hk
                  refine StepF.cons (i := 21) (o := _) rfl (by decide) (fun b us wx hb hW hY K hK => ?_) ?_
                  · have y4 : ∃ r : Int, us 103 = .int .i64 r := hY 4 103 (by kernel_rfl) (by kernel_rfl)
                    have y7 : ∃ r : Int, us 106 = .int .i64 r := hY 7 106 (by kernel_rfl) (by kernel_rfl)
                    have y12 : ∃ r : Int, us 111 = .int .i64 r := hY 12 111 (by kernel_rfl) (by kernel_rfl)
                    have y13 : us 112 = .int .i64 f := hY 13 112 (by kernel_rfl) (by kernel_rfl)
                    have y20 : ∃ z : Int, us 119 = .int .i64 z := hY 20 119 (by kernel_rfl) (by kernel_rfl)
                    apply Exists.elim y4
                    intro r4 y4
                    apply Exists.elim y7
                    intro r7 y7
                    apply Exists.elim y12
                    intro r12 y12
                    apply Exists.elim y20
                    intro r20 y20
                    simp only [putAll, Act.put, List.setIfInBounds_toArray, List.set_cons_zero, List.set_cons_succ]
                    simp only [y4, y7, y12, y13, y20]
                    go_simp
                    have hk := hK.out (partV ⟨r4, r7, r12, f, r20⟩) _ hW (gb_refl _ _) (fun _ => ⟨_, rfl⟩)
                    simp only [putAll, Act.put, List.setIfInBounds_toArray, List.set_cons_zero, List.set_cons_succ, y4, y7, y12, y13, y20] at hk
                    exact hk
                  refine StepF.cons (i := 22) (o := _) rfl (by decide) (fun b us wx hb hW hY K hK => ?_) ?_
                  · simp only [putAll, Act.put, List.setIfInBounds_toArray, List.set_cons_zero, List.set_cons_succ]
                    go_simp
                    have hk := hK.out (.pointer (some ⟨wx.heap.size, 0, none⟩)) (wx.alloc (.cells #[.int .i64 0, .int .i64 0, .int .i64 0, .int .i64 0, .int .i64 0] 60)) ⟨hW.1.gb (below_alloc _ _), gb_trans hW.2 (gb_below (below_alloc _ _) _)⟩ (gb_below (below_alloc _ _) _) (fun _ => ⟨_, rfl, hW.2.size, fun o ho => cell_at rfl (zero5 ho), fun o => frozen_at rfl⟩)
                    simp only [putAll, Act.put, List.setIfInBounds_toArray, List.set_cons_zero, List.set_cons_succ] at hk
                    exact hk
                  exact StepF.nil
                · intro us wx hW hY
                  have y21 : ∃ x : Part, us 120 = partV x := hY 21 120 (by kernel_rfl)
                  have y22 : ∃ X, us 18 = .pointer (some ⟨X, 0, none⟩) ∧ NewBox w9 wx X 5 := hY 22 18 (by kernel_rfl)
                  apply Exists.elim y21
                  intro x hx
                  apply Exists.elim y22
                  intro X hX0
                  have hX := hX0.1
                  have HXb := hid hX0.2
                  have HWx := hid hW
                  clear hY y21 y22 hW hX0
                  simp only [putAll, Act.put, List.setIfInBounds_toArray, List.set_cons_zero, List.set_cons_succ, List.drop_succ_cons, List.drop_zero]
                  simp only [hx, hX]
                  have b0 := HXb.out.cell 0 (by decide)
                  have b1 := HXb.out.cell 1 (by decide)
                  have b2 := HXb.out.cell 2 (by decide)
                  have b3 := HXb.out.cell 3 (by decide)
                  have b4 := HXb.out.cell 4 (by decide)
                  have g0 := HXb.out.thaw 0
                  have g1 := HXb.out.thaw 1
                  have g2 := HXb.out.thaw 2
                  have g3 := HXb.out.thaw 3
                  have g4 := HXb.out.thaw 4
                  have hfill := hid (HXb.out.fill HWx.out.2 HWx.out.1 HQ.out.ks.beat.lt x)
                  go_upto_region 29 with fail
                  obtain ⟨wA, hwA⟩ : ∃ wA, (((((wx.setCell ⟨X, 0, none⟩ (.int .i64 x.person)).setCell ⟨X, 1, none⟩ (.int .i64 x.place)).setCell ⟨X, 2, none⟩ (.int .i64 x.kind)).setCell ⟨X, 3, none⟩ (.int .i64 x.start)).setCell ⟨X, 4, none⟩ (.int .i64 x.stop)) = wA := ⟨_, rfl⟩
                  rw [hwA] at hfill ⊢
                  have HQA := hid (HQ.out.go hfill.out.1 hfill.out.2.1)
                  have HXn := hid (show d < X ∧ X < wA.heap.size ∧ w9.heap.size ≤ X from ⟨by have := HXb.out.new; have := HQ.out.ks.beat.lt; omega, World.block_lt_of_cell? wA ⟨X, 0, none⟩ (hfill.out.2.2 0 (by decide)), HXb.out.new⟩)
                  clear hwA b0 b1 b2 b3 b4 g0 g1 g2 g3 g4 HXb HWx
                  have p0 := HQA.out.ks.cell.1
                  have p1 := HQA.out.ks.cell.2.1
                  have p2 := HQA.out.ks.cell.2.2.1
                  have p3 := HQA.out.ks.cell.2.2.2
                  go_upto_region 30 with fail
                  obtain ⟨M, hM⟩ : ∃ M, wA.heap.size = M := ⟨_, rfl⟩
                  obtain ⟨wB, hwB⟩ : ∃ wB, wA.alloc (.cells #[.slice a0 xs.length k0, .slice a1 rs.length k1, .slice a2 ds.length k2, .slice a3 qs.length k3] 27) = wB := ⟨_, rfl⟩
                  have HMB := hid (show (wB.cell? ⟨M, 0, none⟩ = some (.slice a0 xs.length k0) ∧ wB.cell? ⟨M, 1, none⟩ = some (.slice a1 rs.length k1) ∧ wB.cell? ⟨M, 2, none⟩ = some (.slice a2 ds.length k2) ∧ wB.cell? ⟨M, 3, none⟩ = some (.slice a3 qs.length k3)) ∧ (∀ o, wB.frozen? ⟨M, o, none⟩ = false) ∧ wB.heap.size = M + 1 from by
                    rw [← hwB, ← hM]
                    exact ⟨⟨cell_at rfl rfl, cell_at rfl rfl, cell_at rfl rfl, cell_at rfl rfl⟩, fun o => frozen_at rfl, by simp⟩)
                  have hAB : Below wA.heap.size wA wB := by rw [← hwB]; exact below_alloc _ _
                  have HAB := hid hAB
                  have HQB := hid (HQA.out.later hAB)
                  rw [hwB, hM]
                  have HXB := hid (fun j hj => cell_back hAB HXn.out.2.1 (hfill.out.2.2 j hj))
                  have HMd := hid (show d < M ∧ w9.heap.size ≤ M ∧ X < M ∧ P < M from ⟨by have := HQA.out.ks.beat.lt; omega, by have := hfill.out.1.size; omega, by have := HXn.out.2.1; omega, by have := HQA.out.ks.ltP; omega⟩)
                  have HG9 := hid (gb_trans hfill.out.1 (gb_below hAB _))
                  clear p0 p1 p2 p3 hwB hM hAB hfill HQA HAB
                  refine wp_region_flow_tail 6 (by kernel_rfl) (by kernel_rfl) [122, 123, 124, 125, 126, 127] 3
                    (fun _ w' => Beat d w' ∧ wB.grownBy w' (some d)) (fun a b => a.grownBy b (some d)) (fun a b => ∃ E, a.grownBy b (some E) ∧ a.heap[E]? = some (.cells #[] 60 (0, 0)))
                    (fun b i v w' => match i, b with
                      | 0, false => ∃ E, v = .slice (some ⟨E, 0, none⟩) 0 0 ∧ wB.heap.size ≤ E ∧ w'.heap[E]? = some (.cells #[] 60 (0, 0))
                      | 1, _ => v = .pointer (some ⟨P, 3, none⟩)
                      | 2, _ => v = .slice a3 qs.length k3
                      | 3, false => False
                      | 3, true => OwnR encPart 5 60 wB.heap.size w' v qs
                      | 4, _ => v = partV x
                      | 5, _ => LitR encPart wB.heap.size w' v x
                      | _, _ => True)
                    [0, 1, 2, 3, 4, 5] (by kernel_rfl) (by kernel_rfl) rfl ?_ ?_ ?_ ?_ ?_
                  · intro b i v w1 w2 hW hg hy
                    have hdB : d < wB.heap.size := HQB.out.ks.beat.lt
                    match i, b with
                    | 0, false => obtain ⟨E, h, h2, h3⟩ := hy; exact ⟨E, h, h2, (hg.block E (Array.getElem?_eq_some_iff.1 h3).1 (by intro e; have := Option.some.inj e; omega)).trans h3⟩
                    | 0, true => exact trivial
                    | 1, _ => exact hy
                    | 2, _ => exact hy
                    | 3, false => exact hy
                    | 3, true => exact OwnR.go hy hdB hg
                    | 4, _ => exact hy
                    | 5, _ => exact LitR.go hy hdB hg
                    | n + 6, _ => exact trivial
                  · intro i v w1 w2 hW hg hy
                    obtain ⟨E, hg, hE⟩ := hg
                    match i with
                    | 0 => exact trivial
                    | 1 => exact hy
                    | 2 => exact hy
                    | 3 => exact hy.elim
                    | 4 => exact hy
                    | 5 => exact LitR.apart hy ⟨_, rfl⟩ hE hg
                    | n + 6 => exact trivial
                  · exact ⟨HQB.out.ks.beat.gb (Below.refl _ _).drew, gb_below (Below.refl _ _).drew _⟩
                  · skip
                    refine StepF.cons (i := 0) (o := _) rfl (by decide) (fun b us wx hb hW hY K hK => ?_) ?_
                    · simp only [putAll, Act.put, List.setIfInBounds_toArray, List.set_cons_zero, List.set_cons_succ]
                      go_simp
                      cases b with
                      | true => (have hk := hK.out (.slice (some ⟨wx.heap.size, 0, none⟩) 0 0) (wx.alloc (.cells #[] 60)) ⟨hW.1.gb (below_alloc _ _), gb_trans hW.2 (gb_below (below_alloc _ _) _)⟩ (gb_below (below_alloc _ _) _) (fun _ => trivial); simp only [putAll, Act.put, List.setIfInBounds_toArray, List.set_cons_zero, List.set_cons_succ] at hk; exact hk)
                      | false => (have hk := hK.out (.slice (some ⟨wx.heap.size, 0, none⟩) 0 0) (wx.alloc (.cells #[] 60)) ⟨hW.1.gb (below_alloc _ _), gb_trans hW.2 (gb_below (below_alloc _ _) _)⟩ (gb_below (below_alloc _ _) _) (fun _ => ⟨_, rfl, hW.2.size, box_new _ _ _⟩); simp only [putAll, Act.put, List.setIfInBounds_toArray, List.set_cons_zero, List.set_cons_succ] at hk; exact hk)
                    refine StepF.cons (i := 1) (o := _) rfl (by decide) (fun b us wx hb hW hY K hK => ?_) ?_
                    · simp only [putAll, Act.put, List.setIfInBounds_toArray, List.set_cons_zero, List.set_cons_succ]
                      go_simp
                      have hk := hK.out (.pointer (some ⟨P, 3, none⟩)) _ hW (gb_refl _ _) (fun _ => rfl)
                      simp only [putAll, Act.put, List.setIfInBounds_toArray, List.set_cons_zero, List.set_cons_succ] at hk
                      exact hk
                    refine StepF.cons (i := 2) (o := _) rfl (by decide) (fun b us wx hb hW hY K hK => ?_) ?_
                    · have y1 : us 123 = .pointer (some ⟨P, 3, none⟩) := hY 1 123 (by kernel_rfl) (by kernel_rfl)
                      have q0 := (HQB.out.go hW.2 hW.1).ks.cell.2.2.2
                      simp only [putAll, Act.put, List.setIfInBounds_toArray, List.set_cons_zero, List.set_cons_succ]
                      simp only [y1]
                      go_simp
                      have hk := hK.out (.slice a3 qs.length k3) _ hW (gb_refl _ _) (fun _ => rfl)
                      simp only [putAll, Act.put, List.setIfInBounds_toArray, List.set_cons_zero, List.set_cons_succ, y1] at hk
                      exact hk
                    refine StepF.app (i := 3) (o := _) rfl rfl (fun us wx hW hY K hK => ?_) ?_
                    · have y0 : ∃ E, us 122 = .slice (some ⟨E, 0, none⟩) 0 0 ∧ wB.heap.size ≤ E ∧ wx.heap[E]? = some (.cells #[] 60 (0, 0)) := hY 0 122 (by kernel_rfl) (by kernel_rfl)
                      have y2 : us 124 = .slice a3 qs.length k3 := hY 2 124 (by kernel_rfl) (by kernel_rfl)
                      obtain ⟨E, e0, hE, hE2⟩ := y0
                      rw [if_pos (by simp [Region.wanted])]
                      refine wp_app encPart Tryz.underlying25 infoPart' (by decide) (by decide) (fun _ => rfl) _ _ rfl wB.heap.size [] qs (fun y _ => encPart_one y) (.slice (some ⟨E, 0, none⟩) 0 0) (.slice a3 qs.length k3) ((show _ = us 122 from by kernel_rfl).trans e0) ((show _ = us 124 from by kernel_rfl).trans y2) (OwnR.made encPart 5 hE hE2) (Src.parts (HQB.out.go hW.2 hW.1).p HQB.out.s3) (by have := HQl.out; simp; omega) hW.2.size ?_
                      intro v' w' hown' hg hnil hat
                      have hbl := (OwnR.made encPart 5 hE hE2).below hg hW.2.size
                      exact hK.out v' w' ⟨hW.1.under hbl HQB.out.ks.beat.lt, gb_under hW.2 hbl⟩ ⟨E, hg, hE2⟩ (fun _ => hown')
                    refine StepF.cons (i := 4) (o := _) rfl (by decide) (fun b us wx hb hW hY K hK => ?_) ?_
                    · have hX0 : X ≠ d := by have := HXn.out.1; omega
                      have q0 := cell_gb hW.2 hX0 (HXB.out 0 (by decide))
                      have q1 := cell_gb hW.2 hX0 (HXB.out 1 (by decide))
                      have q2 := cell_gb hW.2 hX0 (HXB.out 2 (by decide))
                      have q3 := cell_gb hW.2 hX0 (HXB.out 3 (by decide))
                      have q4 := cell_gb hW.2 hX0 (HXB.out 4 (by decide))
                      simp only [partCell] at q0 q1 q2 q3 q4
                      clear hX0
                      simp only [putAll, Act.put, List.setIfInBounds_toArray, List.set_cons_zero, List.set_cons_succ]
                      go_simp
                      have hk := hK.out (partV x) _ hW (gb_refl _ _) (fun _ => rfl)
                      simp only [putAll, Act.put, List.setIfInBounds_toArray, List.set_cons_zero, List.set_cons_succ] at hk
                      exact hk
                    refine StepF.cons (i := 5) (o := _) rfl (by decide) (fun b us wx hb hW hY K hK => ?_) ?_
                    · have y4 : us 126 = partV x := hY 4 126 (by kernel_rfl) (by kernel_rfl)
                      simp only [putAll, Act.put, List.setIfInBounds_toArray, List.set_cons_zero, List.set_cons_succ]
                      simp only [y4]
                      go_simp
                      have hk := hK.out (.slice (some ⟨wx.heap.size, 0, none⟩) 1 1) _ ⟨hW.1.gb (below_alloc _ _), gb_trans hW.2 (gb_below (below_alloc _ _) _)⟩ (gb_below (below_alloc _ _) _) (fun _ => LitR.new encPart hW.2.size x 60)
                      simp only [putAll, Act.put, List.setIfInBounds_toArray, List.set_cons_zero, List.set_cons_succ, y4] at hk
                      exact hk
                    exact StepF.nil
                  · intro us wy hW hY
                    have y3 : OwnR encPart 5 60 wB.heap.size wy (us 125) qs := hY 3 125 (by kernel_rfl)
                    have y5 : LitR encPart wB.heap.size wy (us 127) x := hY 5 127 (by kernel_rfl)
                    have Y3 := hid y3
                    have Y5 := hid y5
                    have HWy := hid hW
                    clear hY hW y3 y5
                    simp only [putAll, Act.put, List.setIfInBounds_toArray, List.set_cons_zero, List.set_cons_succ, List.drop_succ_cons, List.drop_zero]
                    refine wpList_app encPart Tryz.underlying25 infoPart' (by decide) (by decide) (fun _ => rfl) rfl _ _ rfl wB.heap.size qs [x] (fun y _ => encPart_one y) (us 125) (us 127) rfl rfl Y3.out Y5.out.src (by have := HQl.out; simp; omega) HWy.out.2.size ?_
                    intro v' w' hown' hg hnil hat
                    obtain ⟨a', c', e⟩ := hown'.form
                    rw [List.length_append, List.length_singleton] at e
                    subst e
                    have hbl := Y3.out.below hg HWy.out.2.size
                    have hGB := gb_under HWy.out.2 hbl
                    have hBt := HWy.out.1.under hbl HQB.out.ks.beat.lt
                    have hMB : M < wB.heap.size := by have := HMB.out.2.2; omega
                    have hMne : M ≠ d := by have := HMd.out.1; omega
                    have m0 := cell_gb hGB hMne HMB.out.1.1
                    have m1 := cell_gb hGB hMne HMB.out.1.2.1
                    have m2 := cell_gb hGB hMne HMB.out.1.2.2.1
                    have m3 := cell_gb hGB hMne HMB.out.1.2.2.2
                    have mf := frozen_gb hGB hMB hMne (HMB.out.2.1 3)
                    have HGC := hid (gb_out (b := M) (o := 3) (u := .slice a' (qs.length + 1) c') (gb_trans HG9.out hGB) HMd.out.2.1)
                    have HBC := hid (hBt.putFar (b := M) (o := 3) (u := .slice a' (qs.length + 1) c') hMne)
                    have HOC := hid (OwnR.put (Z := M) (o := 3) (u := .slice a' (qs.length + 1) c') hown' hMB)
                    have HMC := hid (show ((w'.setCell ⟨M, 3, none⟩ (.slice a' (qs.length + 1) c')).cell? ⟨M, 0, none⟩ = some (.slice a0 xs.length k0) ∧ (w'.setCell ⟨M, 3, none⟩ (.slice a' (qs.length + 1) c')).cell? ⟨M, 1, none⟩ = some (.slice a1 rs.length k1) ∧ (w'.setCell ⟨M, 3, none⟩ (.slice a' (qs.length + 1) c')).cell? ⟨M, 2, none⟩ = some (.slice a2 ds.length k2) ∧ (w'.setCell ⟨M, 3, none⟩ (.slice a' (qs.length + 1) c')).cell? ⟨M, 3, none⟩ = some (.slice a' (qs.length + 1) c')) from
                      ⟨(World.cell?_setCell_other _ _ _ _ (by intro e; cases e)).trans m0, (World.cell?_setCell_other _ _ _ _ (by intro e; cases e)).trans m1, (World.cell?_setCell_other _ _ _ _ (by intro e; cases e)).trans m2, World.cell?_setCell_same _ _ _ m3⟩)
                    clear hown' hg hnil hat hbl hGB hBt m0 m1 m2
                    go_upto_region 31 with fail
                    obtain ⟨wC, hwC⟩ : ∃ wC, w'.setCell ⟨M, 3, none⟩ (.slice a' (qs.length + 1) c') = wC := ⟨_, rfl⟩
                    rw [hwC] at HGC HBC HOC HMC ⊢
                    clear hwC m3 mf hMB hMne Y3 Y5 HWy
                    have HQC := hid (HQ.out.go HGC.out HBC.out)
                    have HPC := hid (show PartsAt (some d) wC (.slice a' (qs.length + 1) c') (qs ++ [x]) from HOC.out.parts (fun j e => by cases e; exact HQB.out.ks.beat.lt))
                    have HLC := hid (HOC.out.low (P := P) (B := wC.heap.size) (by have := HMB.out.2.2; have := HMd.out.2.2.2; omega) (Nat.le_refl _))
                    have HSC := hid HOC.out.sound
                    have Hck := hid (rcheck_plot ⟨xs, rs, ds, qs ++ [x]⟩ _ _ _ _ wC (PlotAt.any (q := some d) ⟨HQC.out.s, HQC.out.r.lists, HQC.out.i, HPC.out⟩))
                    have HMb := hid (show M < wC.heap.size from World.block_lt_of_cell? wC ⟨M, 0, none⟩ HMC.out.1)
                    obtain ⟨pe, hpe⟩ : ∃ pe, plotErr ⟨xs, rs, ds, qs ++ [x]⟩ = pe := ⟨_, rfl⟩
                    rw [hpe] at Hck
                    have HPE := hid hpe
                    have m0 := HMC.out.1
                    have m1 := HMC.out.2.1
                    have m2 := HMC.out.2.2.1
                    have m3 := HMC.out.2.2.2
                    clear hpe
                    go_wp2_with fail
                    refine Hck.out.mono ?_
                    rintro e wD ⟨rfl, hbD⟩
                    have HQD := hid (HQC.out.later hbD)
                    have HPD := hid (RecAt.below HPC.out hbD)
                    clear m0 m1 m2 m3
                    have m0 := cell_back hbD HMb.out HMC.out.1
                    have m1 := cell_back hbD HMb.out HMC.out.2.1
                    have m2 := cell_back hbD HMb.out HMC.out.2.2.1
                    have m3 := cell_back hbD HMb.out HMC.out.2.2.2
                    clear hbD
                    by_cases hp0 : pe = 0
                    · obtain ⟨e1, e2⟩ := eq_bool hp0
                      have HE2 := hid (HPE.out.trans hp0)
                      clear hp0
                      have p0 := HQD.out.ks.cell.1
                      have p1 := HQD.out.ks.cell.2.1
                      have p2 := HQD.out.ks.cell.2.2.1
                      have p3 := HQD.out.ks.cell.2.2.2
                      have t0 := HQD.out.ks.thaw 0
                      have t1 := HQD.out.ks.thaw 1
                      have t2 := HQD.out.ks.thaw 2
                      have t3 := HQD.out.ks.thaw 3
                      have HQE := hid (HQD.out.turn HPD.out ⟨_, HLC.out⟩ HSC.out)
                      go_wp2_with fail
                      go_roundw
                      case rel => exact ⟨k + 1, _, qs ++ [x], by omega, by go_num, by have := HQl.out; simp; omega, HE2.out, HQE.out⟩
                      case measure => simp [intOf] <;> omega
                    · obtain ⟨e1, e2⟩ := ne_bool hp0
                      clear hp0
                      go_wp2_with fail
                      go_roundw
                      case rel => exact ⟨k + 1, _, qs, by omega, by go_num, by have := HQl.out; omega, HE.out, HQD.out⟩
                      case measure => simp [intOf] <;> omega
end Go.Proofs.YtoipcbmbhjajfaaGreatDoor
