/-
  WALK: CostumeBest: whatever the numbers are, it returns true.
-/
import Derived.Test.YtdcinngdilfpnaaLwk
import Derived.Test.YtdcinngdilfpnaaKwr
import Derived.Test.YtdcinngdilfpnaaCbs
import Derived.Test.YtdcinngdilfpnaaKpl
import Derived.Test.YtdcinngdilfpnaaKqq
import Derived.Test.YtdcinngdilfpnaaFlow
import Derived.Test.YtdcinngdilfpnaaKbs
import Derived.Deep.CutRange
import Derived.StillTailTactics
namespace Go.Proofs.Ytdcinngdilfpnaa
open Go.RowKit

theorem OwnP.qformB {base : Nat} {w : World} {vp vw vd vq : Value} {p : Plot} (h : OwnP base w vp vw vd vq p) (h0 : ¬ p.parts.length = 0) : ∃ g c, vq = .slice (some ⟨g, 0, none⟩) p.parts.length c ∧ base ≤ g ∧ p.parts.length ≤ c := by
  rcases h.parts.2 with ⟨_, h1⟩ | ⟨g, cap, cur, e, hg, _, hc, _⟩
  · exact absurd h1 h0
  · exact ⟨g, cap, e, hg, hc⟩
theorem item_ok {p : Plot} {k c : Int} (hk : 0 ≤ k ∧ k < p.dress.length) (hc : 0 ≤ c ∧ c ≤ 1000000) : itemE p (⟨k, 1, 300, c, 0⟩ : Item) = 0 := by
  unfold itemE
  rw [if_neg (by rw [inB_true.2 (show 0 ≤ k ∧ k ≤ (p.dress.length : Int) - 1 by omega)]; simp), if_pos (show figE ((1 : Int), (300 : Int)) = 0 by decide), if_neg (by rw [inB_true.2 (show 0 ≤ c ∧ c ≤ 1000000 from hc)]; simp), if_neg (show ¬ inB (0 : Int) 0 1440 = false by decide)]
theorem items_more {p : Plot} {items : List Item} {x : Item} (h : itemsErr p items = 0) (hx : itemE p x = 0) (hl : items.length ≤ 20) : itemsErr p (items ++ [x]) = 0 := by
  obtain ⟨h1, h2, h3⟩ := itemsErr_zero h
  unfold itemsErr
  rw [if_pos h1, if_neg (by simp; omega)]
  refine firstBad_zero.2 fun i hi => ?_
  rw [List.length_append, List.length_singleton] at hi
  by_cases e : i < items.length
  · rw [it_old e]; exact h3 i e
  · obtain rfl : i = items.length := by omega
    rw [it_new]; exact hx

set_option maxHeartbeats 16000000 in
set_option maxRecDepth 100000 in
theorem cbest_any (xs : List Int) (v : Value) (w : World) (hX : IntsAt none w v xs) (hn : xs.length ≤ 9223372036854775807) :
    Calls Try.prog 9 #[v] w fun e w' => e = .returned (.bool true) ∧ Below w.heap.size w w' := by
  have HX := hid hX
  obtain ⟨a, c, rfl, _⟩ := hX
  go_enter Try.func9, Try.ntmps9
  go_upto_region 3 with (first
    | (go_at_call 13; refine (drumOf_any xs _ _ HX.out hn).mono ?_; rintro e w1 ⟨rfl, hbt, hbl⟩; have HBt := hid hbt; have HBl := hid hbl; clear hbt hbl)
    | (go_at_call 14; refine (plotOf_any w.heap.size 3 3 _ HBt.out (by omega) (by omega) (by omega) (by omega)).mono ?_; rintro e w2 ⟨vp, vw, vd, vq, p, rfl, hv, hpl, hql, hP, hsd, hbt, hg⟩; obtain ⟨ap, cp, rfl⟩ := hP.persons.form; obtain ⟨aw, cw, rfl⟩ := hP.walk.form; obtain ⟨ad, cd, ed, _⟩ := hP.dress; subst ed; obtain ⟨aq, cq, rfl⟩ := hP.parts.form; have HV := hid hv; have HSd := hid hsd; have LF0 := hid (LF.start hbt hP (HBl.out.grown hg HBl.out.size (fun g e => by cases e; exact Nat.le_refl _)) (Nat.le_refl _) 29); clear hv hP hbt hg hsd))
  obtain ⟨w3, hw3, L3⟩ := LF0.out.name
  rw [hw3]
  obtain ⟨X, hXs⟩ : ∃ X, w2.heap.size = X := ⟨_, rfl⟩
  rw [hXs] at L3 ⊢
  have L := hid L3
  have AW := hid (fun W' => awake_any W')
  have Vd := hid (plotErr_zero.1 HV.out)
  clear hw3 L3 LF0 HBt HBl HX hXs hn
  have y0 := L.out.c0
  have y1 := L.out.c1
  have y2 := L.out.c2
  have y3 := L.out.c3
  go_upto_region 4 with (go_at_call 15; refine (itemsOf_any w.heap.size 4 p _ _ _ _ _ L.out.beat L.out.plot HV.out (by omega) (by omega)).mono ?_; rintro e w4 ⟨vi, items, rfl, hie, hil, hI, hsi, hbt, hg⟩; obtain ⟨ai, ci, rfl⟩ := ItemsAt.form hI; have L := hid (L.out.go hbt hg); have HI := hid hI; have HIe := hid hie; have HSi := hid hsi; clear hie hI hsi hbt hg y0 y1 y2 y3)
  have hsm : smallErr p items = 0 := by unfold smallErr; rw [if_pos HIe.out, if_neg (by omega)]
  have hce : cheapErr p items = if (bestP p items p.parts).isSome = true then 0 else 7 := by unfold cheapErr; rw [if_pos hsm]
  have hcb : cheapB p items = bestP p items p.parts := by unfold cheapB; rw [if_pos hsm]
  have HCh := hid (fun vp vw vd vq vi W' (h1 : PlotAt none W' vp vw vd vq p) (h2 : ItemsAt none W' vi items) => by have := cheapest_any p items vp vw vd vq vi W' h1 h2; unfold CheapestPost at this; rw [hce, hcb] at this; exact this)
  obtain ⟨s, hs⟩ : ∃ s, bestP p items p.parts = s := ⟨_, rfl⟩
  rw [hs] at HCh
  have HS := hid hs
  obtain ⟨eN, heN⟩ : ∃ eN : Int, (if s.isSome = true then 0 else 7) = eN := ⟨_, rfl⟩
  rw [heN] at HCh
  have HeN := hid heN
  clear hsm hce hcb hs heN
  have y0 := L.out.c0
  have y1 := L.out.c1
  have y2 := L.out.c2
  have y3 := L.out.c3
  go_upto_region 5 with (go_at_call 18; refine (HCh.out _ _ _ _ _ _ L.out.any (RecAt.any HI.out)).mono ?_; rintro e w7 ⟨v7, rfl, ho, hb7⟩; obtain ⟨a7, c7, rfl⟩ := (own_int.2 ho).form; have HBst := hid (OwnInts.at (d := some w.heap.size) ho (fun k e => by cases e; exact L.out.beat.lt)); have L := hid (L.out.later hb7); have HI := hid (HI.out.below hb7); clear ho hb7 y0 y1 y2 y3)
  have hdp := Vd.out.dress
  have hDB : w.heap.size < w7.heap.size := L.out.beat.lt
  go_cut [9] from 37 to 49 (fun s9 wx => ∃ (x : Item) (a9 : Option Addr) (c9 : Nat), s9 = .slice a9 (items.length + 1) c9 ∧ itemE p x = 0 ∧ ItemsAt (some w.heap.size) wx (.slice a9 (items.length + 1) c9) (items ++ [x]) ∧ LF w.heap.size X p (.slice ap p.persons.length cp) (.slice aw p.walk.length cw) (.slice ad p.dress.length cd) (.slice aq p.parts.length cq) w wx ∧ w7.grownBy wx (some w.heap.size))
  case first =>
    refine wp_region_flow_tail 12 (by kernel_rfl) (by kernel_rfl) [37, 38, 39, 40, 41, 42, 43, 44, 45, 46, 47, 48] 100
      (fun _ w' => w7.grownBy w' (some w.heap.size) ∧ LF w.heap.size X p (.slice ap p.persons.length cp) (.slice aw p.walk.length cw) (.slice ad p.dress.length cd) (.slice aq p.parts.length cq) w w' ∧ ItemsAt (some w.heap.size) w' (.slice ai items.length ci) items) (fun a b => a.grownBy b (some w.heap.size)) (fun _ _ => False)
      (fun _ i v w' => match i with
        | 0 => v = .slice ai items.length ci
        | 1 => OwnR encItem 5 42 w7.heap.size w' v items
        | 2 => v = .pointer (some ⟨w.heap.size, 0, none⟩)
        | 3 => v = .pointer (some ⟨X, 2, none⟩)
        | 4 => v = .slice ad p.dress.length cd
        | 5 => v = .int .i64 p.dress.length
        | 6 => ∃ r : Int, v = .int .i64 r ∧ 0 ≤ r ∧ r < max (p.dress.length : Int) 1
        | 7 => v = .agg #[.int .i64 1, .int .i64 300]
        | 8 => v = .pointer (some ⟨w.heap.size, 0, none⟩)
        | 9 => ∃ r : Int, v = .int .i64 r ∧ 0 ≤ r ∧ r < 60
        | 10 => ∃ k1 c1 : Int, v = .agg #[.int .i64 k1, .int .i64 1, .int .i64 300, .int .i64 c1, .int .i64 0] ∧ (0 ≤ k1 ∧ k1 < max (p.dress.length : Int) 1) ∧ 0 ≤ c1 ∧ c1 < 60
        | 11 => ∃ k1 c1 : Int, LitR encItem w7.heap.size w' v (⟨k1, 1, 300, c1, 0⟩ : Item) ∧ (0 ≤ k1 ∧ k1 < max (p.dress.length : Int) 1) ∧ 0 ≤ c1 ∧ c1 < 60
        | _ => True)
      [0, 1, 2, 3, 4, 5, 6, 7, 8, 9, 10, 11] (by kernel_rfl) (by kernel_rfl) rfl ?_ ?_ ?_ ?_ ?_
    · intro b i v w8 w9 hW hg hy
      match i with
      | 0 => exact hy
      | 1 => exact OwnR.go hy hDB hg
      | 2 => exact hy
      | 3 => exact hy
      | 4 => exact hy
      | 5 => exact hy
      | 6 => exact hy
      | 7 => exact hy
      | 8 => exact hy
      | 9 => exact hy
      | 10 => exact hy
      | 11 => obtain ⟨k1, c1, h, h2⟩ := hy; exact ⟨k1, c1, h.go hDB hg, h2⟩
      | n + 12 => exact trivial
    · intro i v w8 w9 _ h; exact h.elim
    · exact ⟨gb_below (Below.refl _ _).drew _, L.out.later (Below.refl _ _).drew, HI.out.below (Below.refl _ _).drew⟩
    · skip
      refine StepF.cons (i := 0) (o := _) rfl (by decide) ?_ ?_
      · intro b vs wx hb hW hY K hK
        simp only [putAll, Act.put, List.setIfInBounds_toArray, List.set_cons_zero, List.set_cons_succ]
        go_simp
        have hk := hK.out (.slice ai items.length ci) _ hW (gb_refl _ _) (fun _ => rfl)
        simp only [putAll, Act.put, List.setIfInBounds_toArray, List.set_cons_zero, List.set_cons_succ] at hk
        with_reducible exact hk
      refine StepF.cons (i := 1) (o := _) rfl (by decide) ?_ ?_
      · intro b vs wx hb hW hY K hK
        have y0 : vs 37 = .slice ai items.length ci := hY 0 37 (by kernel_rfl) (by kernel_rfl)
        simp only [putAll, Act.put, List.setIfInBounds_toArray, List.set_cons_zero, List.set_cons_succ]
        simp only [y0]
        go_simp
        go_at_call 37
        refine (ownItems_any items _ _ _ hW.2.2 HSi.out (by omega)).mono ?_
        rintro e wy ⟨v2, rfl, ho, hb2⟩
        have hk := hK.out (_) _ ⟨gb_trans hW.1 (gb_below hb2 _), hW.2.1.later hb2, hW.2.2.below hb2⟩ (gb_below hb2 _) (fun _ => ho.base' hW.1.size)
        simp only [putAll, Act.put, List.setIfInBounds_toArray, List.set_cons_zero, List.set_cons_succ, y0] at hk
        with_reducible exact hk
      refine StepF.cons (i := 2) (o := _) rfl (by decide) ?_ ?_
      · intro b vs wx hb hW hY K hK
        simp only [putAll, Act.put, List.setIfInBounds_toArray, List.set_cons_zero, List.set_cons_succ]
        go_simp
        have hk := hK.out (.pointer (some ⟨w.heap.size, 0, none⟩)) _ hW (gb_refl _ _) (fun _ => rfl)
        simp only [putAll, Act.put, List.setIfInBounds_toArray, List.set_cons_zero, List.set_cons_succ] at hk
        with_reducible exact hk
      refine StepF.cons (i := 3) (o := _) rfl (by decide) ?_ ?_
      · intro b vs wx hb hW hY K hK
        simp only [putAll, Act.put, List.setIfInBounds_toArray, List.set_cons_zero, List.set_cons_succ]
        go_simp
        have hk := hK.out (.pointer (some ⟨X, 2, none⟩)) _ hW (gb_refl _ _) (fun _ => rfl)
        simp only [putAll, Act.put, List.setIfInBounds_toArray, List.set_cons_zero, List.set_cons_succ] at hk
        with_reducible exact hk
      refine StepF.cons (i := 4) (o := _) rfl (by decide) ?_ ?_
      · intro b vs wx hb hW hY K hK
        have y3 : vs 40 = .pointer (some ⟨X, 2, none⟩) := hY 3 40 (by kernel_rfl) (by kernel_rfl)
        have q0 := hW.2.1.c2
        simp only [putAll, Act.put, List.setIfInBounds_toArray, List.set_cons_zero, List.set_cons_succ]
        simp only [y3]
        go_simp
        have hk := hK.out (.slice ad p.dress.length cd) _ hW (gb_refl _ _) (fun _ => rfl)
        simp only [putAll, Act.put, List.setIfInBounds_toArray, List.set_cons_zero, List.set_cons_succ, y3] at hk
        with_reducible exact hk
      refine StepF.cons (i := 5) (o := _) rfl (by decide) ?_ ?_
      · intro b vs wx hb hW hY K hK
        have y4 : vs 41 = .slice ad p.dress.length cd := hY 4 41 (by kernel_rfl) (by kernel_rfl)
        simp only [putAll, Act.put, List.setIfInBounds_toArray, List.set_cons_zero, List.set_cons_succ]
        simp only [y4]
        go_simp
        have hk := hK.out (.int .i64 p.dress.length) _ hW (gb_refl _ _) (fun _ => rfl)
        simp only [putAll, Act.put, List.setIfInBounds_toArray, List.set_cons_zero, List.set_cons_succ, y4] at hk
        with_reducible exact hk
      refine StepF.cons (i := 6) (o := _) rfl (by decide) ?_ ?_
      · intro b vs wx hb hW hY K hK
        have y2 : vs 39 = .pointer (some ⟨w.heap.size, 0, none⟩) := hY 2 39 (by kernel_rfl) (by kernel_rfl)
        have y5 : vs 42 = .int .i64 p.dress.length := hY 5 42 (by kernel_rfl) (by kernel_rfl)
        simp only [putAll, Act.put, List.setIfInBounds_toArray, List.set_cons_zero, List.set_cons_succ]
        simp only [y2, y5]
        go_simp
        go_at_call 16
        refine (roll_any w.heap.size (p.dress.length : Int) _ hW.2.1.beat (by omega)).mono ?_
        rintro e wy ⟨r, rfl, hr1, hr2, hbt, hgb⟩
        have hk := hK.out (.int .i64 r) _ ⟨gb_trans hW.1 hgb, hW.2.1.go hbt hgb, RecAt.kept hW.2.2 hgb⟩ hgb (fun _ => ⟨r, rfl, hr1, hr2⟩)
        simp only [putAll, Act.put, List.setIfInBounds_toArray, List.set_cons_zero, List.set_cons_succ, y2, y5] at hk
        with_reducible exact hk
      refine StepF.cons (i := 7) (o := _) rfl (by decide) ?_ ?_
      · intro b vs wx hb hW hY K hK
        simp only [putAll, Act.put, List.setIfInBounds_toArray, List.set_cons_zero, List.set_cons_succ]
        go_simp
        go_at_call 38
        refine (span_any 1 300 _).mono ?_
        rintro e wy ⟨rfl, hwy⟩
        have hb2 : Below wx.heap.size wx wy := by rw [← hwy]; exact below_alloc _ _
        have hk := hK.out (.agg #[.int .i64 1, .int .i64 300]) _ ⟨gb_trans hW.1 (gb_below hb2 _), hW.2.1.later hb2, hW.2.2.below hb2⟩ (gb_below hb2 _) (fun _ => rfl)
        simp only [putAll, Act.put, List.setIfInBounds_toArray, List.set_cons_zero, List.set_cons_succ] at hk
        with_reducible exact hk
      refine StepF.cons (i := 8) (o := _) rfl (by decide) ?_ ?_
      · intro b vs wx hb hW hY K hK
        simp only [putAll, Act.put, List.setIfInBounds_toArray, List.set_cons_zero, List.set_cons_succ]
        go_simp
        have hk := hK.out (.pointer (some ⟨w.heap.size, 0, none⟩)) _ hW (gb_refl _ _) (fun _ => rfl)
        simp only [putAll, Act.put, List.setIfInBounds_toArray, List.set_cons_zero, List.set_cons_succ] at hk
        with_reducible exact hk
      refine StepF.cons (i := 9) (o := _) rfl (by decide) ?_ ?_
      · intro b vs wx hb hW hY K hK
        have y8 : vs 45 = .pointer (some ⟨w.heap.size, 0, none⟩) := hY 8 45 (by kernel_rfl) (by kernel_rfl)
        simp only [putAll, Act.put, List.setIfInBounds_toArray, List.set_cons_zero, List.set_cons_succ]
        simp only [y8]
        go_simp
        go_at_call 16
        refine (roll_any w.heap.size 60 _ hW.2.1.beat (by decide)).mono ?_
        rintro e wy ⟨r, rfl, hr1, hr2, hbt, hgb⟩
        have hk := hK.out (.int .i64 r) _ ⟨gb_trans hW.1 hgb, hW.2.1.go hbt hgb, RecAt.kept hW.2.2 hgb⟩ hgb (fun _ => ⟨r, rfl, hr1, by omega⟩)
        simp only [putAll, Act.put, List.setIfInBounds_toArray, List.set_cons_zero, List.set_cons_succ, y8] at hk
        with_reducible exact hk
      refine StepF.cons (i := 10) (o := _) rfl (by decide) ?_ ?_
      · intro b vs wx hb hW hY K hK
        have y6 : ∃ r : Int, vs 43 = .int .i64 r ∧ 0 ≤ r ∧ r < max (p.dress.length : Int) 1 := hY 6 43 (by kernel_rfl) (by kernel_rfl)
        have y7 : vs 44 = .agg #[.int .i64 1, .int .i64 300] := hY 7 44 (by kernel_rfl) (by kernel_rfl)
        have y9 : ∃ r : Int, vs 46 = .int .i64 r ∧ 0 ≤ r ∧ r < 60 := hY 9 46 (by kernel_rfl) (by kernel_rfl)
        obtain ⟨k1, y6, hk1⟩ := y6
        obtain ⟨c1, y9, hc1⟩ := y9
        simp only [putAll, Act.put, List.setIfInBounds_toArray, List.set_cons_zero, List.set_cons_succ]
        simp only [y6, y7, y9]
        go_simp
        have hk := hK.out (.agg #[.int .i64 k1, .int .i64 1, .int .i64 300, .int .i64 c1, .int .i64 0]) _ hW (gb_refl _ _) (fun _ => ⟨k1, c1, rfl, hk1, hc1⟩)
        simp only [putAll, Act.put, List.setIfInBounds_toArray, List.set_cons_zero, List.set_cons_succ, y6, y7, y9] at hk
        with_reducible exact hk
      refine StepF.cons (i := 11) (o := _) rfl (by decide) ?_ ?_
      · intro b vs wx hb hW hY K hK
        have y10 : ∃ k1 c1 : Int, vs 47 = .agg #[.int .i64 k1, .int .i64 1, .int .i64 300, .int .i64 c1, .int .i64 0] ∧ (0 ≤ k1 ∧ k1 < max (p.dress.length : Int) 1) ∧ 0 ≤ c1 ∧ c1 < 60 := hY 10 47 (by kernel_rfl) (by kernel_rfl)
        obtain ⟨k1, c1, y10, hk1, hc1⟩ := y10
        simp only [putAll, Act.put, List.setIfInBounds_toArray, List.set_cons_zero, List.set_cons_succ]
        simp only [y10]
        go_simp
        have hk := hK.out (.slice (some ⟨wx.heap.size, 0, none⟩) 1 1) _ ⟨gb_trans hW.1 (gb_below (below_alloc _ _) _), hW.2.1.later (below_alloc _ _), hW.2.2.below (below_alloc _ _)⟩ (gb_below (below_alloc _ _) _) (fun _ => ⟨k1, c1, LitR.new encItem hW.1.size (⟨k1, 1, 300, c1, 0⟩ : Item) 42, hk1, hc1⟩)
        simp only [putAll, Act.put, List.setIfInBounds_toArray, List.set_cons_zero, List.set_cons_succ, y10] at hk
        exact hk
      exact StepF.nil
    · intro vs wx hW hY
      have y1 : OwnR encItem 5 42 w7.heap.size wx (vs 38) items := hY 1 38 (by kernel_rfl)
      have y11 : ∃ k1 c1 : Int, LitR encItem w7.heap.size wx (vs 48) (⟨k1, 1, 300, c1, 0⟩ : Item) ∧ (0 ≤ k1 ∧ k1 < max (p.dress.length : Int) 1) ∧ 0 ≤ c1 ∧ c1 < 60 := hY 11 48 (by kernel_rfl)
      obtain ⟨k1, c1, hlit, hk1, hc1⟩ := y11
      obtain ⟨xx, hxx⟩ : ∃ xx : Item, xx = ⟨k1, 1, 300, c1, 0⟩ := ⟨_, rfl⟩
      rw [← hxx] at hlit
      have hxe : itemE p xx = 0 := by
        rw [hxx]
        exact item_ok (by omega) (by omega)
      have HXe := hid hxe
      have HW := hid hW
      have H1 := hid y1
      have HL := hid hlit
      clear hY hW y1 hlit hxe hxx
      simp only [putAll, Act.put, List.setIfInBounds_toArray, List.set_cons_zero, List.set_cons_succ, List.drop_succ_cons, List.drop_zero]
      refine wpList_app encItem Try.underlying31 infoItem (by decide) (by decide) (fun _ => rfl) rfl _ _ rfl w7.heap.size items [xx] (fun y _ => encItem_one y) (vs 38) (vs 48) rfl rfl H1.out HL.out.src (by simp; omega) HW.out.1.size ?_
      intro v' w' hown' hg hnil hat
      obtain ⟨a', c', e⟩ := hown'.form
      rw [List.length_append, List.length_singleton] at e
      subst e
      have HOn := hid hown'
      have hbb := H1.out.below hg HW.out.1.size
      have HBb := hid hbb
      have hD : w.heap.size < w7.heap.size := hDB
      have HIt := hid (show ItemsAt (some w.heap.size) w' _ (items ++ [xx]) from hown'.items (fun j e => by cases e; exact hD))
      have HG := hid (show w7.grownBy w' (some w.heap.size) from ⟨hbb.os.trans HW.out.1.os, hbb.tape.trans HW.out.1.tape, hbb.output.trans HW.out.1.output, Nat.le_trans HW.out.1.size hbb.size, fun i hi hn => (hbb.block i hi).trans (HW.out.1.block i hi hn)⟩)
      have HBt := hid (show Beat w.heap.size w' from by
        obtain ⟨u, q1, q2⟩ := HW.out.2.1.beat
        exact ⟨u, cell_back hbb hD q1, (hbb.frozen (p := ⟨w.heap.size, 0, none⟩) hD).trans q2⟩)
      clear hown' hg hnil hat hbb
      go_wp2_with fail
      go_meet
      refine ⟨xx, a', c', rfl, HXe.out, ?_, L.out.go HBt.out HG.out, HG.out⟩
      exact HIt.out
  case rest =>
    obtain ⟨x, a9, c9, rfl, hxe, hIm, hL, hG⟩ := hcut
    have HBst := hid (HBst.out.kept hG)
    have HI := hid (RecAt.kept HI.out hG)
    have HIm := hid hIm
    have L := hid hL
    have hie2 := items_more HIe.out hxe (by omega)
    have hsm : smallErr p (items ++ [x]) = 0 := by unfold smallErr; rw [if_pos hie2, if_neg (by simp; omega)]
    have hce : cheapErr p (items ++ [x]) = if (bestP p (items ++ [x]) p.parts).isSome = true then 0 else 7 := by unfold cheapErr; rw [if_pos hsm]
    have hcb : cheapB p (items ++ [x]) = bestP p (items ++ [x]) p.parts := by unfold cheapB; rw [if_pos hsm]
    have HCm := hid (fun vp vw vd vq vi W' (h1 : PlotAt none W' vp vw vd vq p) (h2 : ItemsAt none W' vi (items ++ [x])) => by have := cheapest_any p (items ++ [x]) vp vw vd vq vi W' h1 h2; unfold CheapestPost at this; rw [hce, hcb] at this; exact this)
    have HMr := hid (fun b c (h : bestP p items p.parts = some (b, c)) => best_more (x := x) h)
    obtain ⟨s2, hs2⟩ : ∃ s2, bestP p (items ++ [x]) p.parts = s2 := ⟨_, rfl⟩
    rw [hs2] at HCm HMr
    obtain ⟨eM, heM⟩ : ∃ eM : Int, (if s2.isSome = true then 0 else 7) = eM := ⟨_, rfl⟩
    rw [heM] at HCm
    have HeM := hid heM
    clear hxe hIm hL hG hie2 hsm hce hcb hs2 heM
    have y0 := L.out.c0
    have y1 := L.out.c1
    have y2 := L.out.c2
    have y3 := L.out.c3
    cases s with
    | none =>
      obtain rfl : eN = 7 := HeN.out.symm
      go_upto_region 9 with (go_at_call 18; refine (HCm.out _ _ _ _ _ _ L.out.any (RecAt.any HIm.out)).mono ?_; rintro e w10 ⟨v10, rfl, ho, hb7⟩; obtain ⟨a10, c10, rfl⟩ := (own_int.2 ho).form; have HBst := hid (HBst.out.below hb7); have L := hid (L.out.later hb7); have HI := hid (HI.out.below hb7); clear ho hb7 y0 y1 y2 y3; have y3 := L.out.c3)
      clear HMr HeM HeN
      have y3 := L.out.c3
      go_upto_region 10 with (go_at_call 39; refine (wears_any items.length (by omega) p.parts.length p.parts.length [] _ _ (OwnR.nil _ _ _ _ _) (by simp) (by omega)).mono ?_; rintro e w11 ⟨v11, vs, rfl, hry, hb7⟩; obtain ⟨a11, c11, rfl⟩ := hry.form; have HRY := hid hry; have L := hid (L.out.later hb7); have HI := hid (HI.out.below hb7); clear hry hb7 y3)
      have hnn := fun i hi => best_none (p := p) (items := items) HS.out (i := i) hi
      have hrl := fun i hi => allW_row (n := items.length) (r := p.parts.length) (i := i) hi
      obtain ⟨A, hA⟩ : ∃ A, allW items.length p.parts.length [] = A := ⟨_, rfl⟩
      rw [hA] at HRY hnn hrl ⊢
      have HNn := hid hnn
      have HRl := hid hrl
      have HAl := hid (show A.length ≤ 64 from by
        rw [← hA, allW_len]
        calc items.length ^ p.parts.length ≤ 4 ^ p.parts.length := Nat.pow_le_pow_left (by omega) _
          _ ≤ 4 ^ 3 := Nat.pow_le_pow_right (by decide) (by omega)
          _ ≤ 64 := by decide)
      clear hA hnn hrl
      go_wp2_with fail
      go_loopw [14, 15] (fun f i wr => ∃ k : Nat, k ≤ A.length ∧ f = .bool false ∧ i = .int .i64 k ∧ Below w11.heap.size w11 wr) (fun _ i _ => A.length - (intOf i).toNat)
      case atStart => exact ⟨0, by omega, rfl, rfl, Below.refl _ _⟩
      case round =>
        as_aux_lemma =>
        obtain ⟨k, hk, rfl, rfl, hb⟩ := hrel
        obtain ⟨wo, rfl⟩ : ∃ wo : World, wo = wr := ⟨_, rfl⟩
        have HB := hid hb
        have L := hid (L.out.later hb)
        have HI := hid (HI.out.below hb)
        clear hb
        by_cases hlt : k < A.length
        rotate_left
        · obtain rfl : k = A.length := by omega
          have y3 := L.out.c3
          by_cases hp0 : p.parts.length = 0
          all_goals (
            first
            | (have n1 : ¬ (p.parts.length : Int) > 0 := (by omega); clear hp0; go_wp2_with (go_at_call 19; refine (AW.out _).mono ?_; rintro e wz ⟨rfl, hbz⟩; have L := hid (L.out.later hbz); clear hbz); go_ret; exact ⟨rfl, L.out.below⟩)
            | (have n1 : (p.parts.length : Int) > 0 := (by omega); clear hp0; go_wp2_with (go_at_call 19; refine (AW.out _).mono ?_; rintro e wz ⟨rfl, hbz⟩; have L := hid (L.out.later hbz); clear hbz); go_ret; exact ⟨rfl, L.out.below⟩))
        have hrw := ListsAt.row (HRY.out.lists.below HB.out) hlt
        obtain ⟨b11, o11, u, e, hb11, cu, hu⟩ := hrw
        cases e
        obtain ⟨ar, cr, eu, _⟩ := hu
        subst eu
        have hu := (ListsAt.row (HRY.out.lists.below HB.out) hlt)
        obtain ⟨b12, o12, u2, e, _, cu2, hu2⟩ := hu
        cases e
        rw [cu] at cu2
        cases cu2
        have HU := hid hu2
        have hrl := HRl.out k hlt
        have y0 := L.out.c0
        have y1 := L.out.c1
        have y2 := L.out.c2
        have y3 := L.out.c3
        have i1 : (k : Int) < (A.length : Int) := by omega
        have hA64 := HAl.out
        have z1 : IntKind.i64.wrap ((k : Int) + 1) = (k : Int) + 1 := IntWalk.i64_in _ (by omega)
        clear hA64
        have hwe : wearErr p items (lst A k) = wearsE p items p.parts (lst A k) := by unfold wearErr; rw [if_pos HIe.out, if_pos hrl]
        have HCo := hid (fun vp vw vd vq vi vb W' h hI hB => by have := costc_any p items (lst A k) vp vw vd vq vi vb W' h hI hB; rw [hwe] at this; exact this)
        have hcr : wearsE p items p.parts (lst A k) = 0 → costRes p items (lst A k) = costW items (lst A k) := fun h => by unfold costRes; rw [if_pos (hwe.trans h)]
        obtain ⟨E, hE⟩ : ∃ E, wearsE p items p.parts (lst A k) = E := ⟨_, rfl⟩
        obtain ⟨N, hN⟩ : ∃ N, costRes p items (lst A k) = N := ⟨_, rfl⟩
        rw [hE] at hcr
        rw [hN] at hcr
        rw [hE, hN] at HCo
        have HE := hid hE
        have HN := hid hcr
        have HSx := hid (fun W' (hb : Below wo.heap.size wo.drew W') => (⟨cell_back hb (World.block_lt_of_cell? wo ⟨X, 0, none⟩ y0) y0, cell_back hb (World.block_lt_of_cell? wo ⟨X, 1, none⟩ y1) y1, cell_back hb (World.block_lt_of_cell? wo ⟨X, 2, none⟩ y2) y2, cell_back hb (World.block_lt_of_cell? wo ⟨X, 3, none⟩ y3) y3, cell_back hb (World.block_lt_of_cell? wo ⟨b11, o11 + k, none⟩ cu) cu⟩ : W'.cell? ⟨X, 0, none⟩ = some (.slice ap p.persons.length cp) ∧ W'.cell? ⟨X, 1, none⟩ = some (.slice aw p.walk.length cw) ∧ W'.cell? ⟨X, 2, none⟩ = some (.slice ad p.dress.length cd) ∧ W'.cell? ⟨X, 3, none⟩ = some (.slice aq p.parts.length cq) ∧ W'.cell? ⟨b11, o11 + k, none⟩ = some (.slice ar (lst A k).length cr)))
        have HBd := hid (Below.refl wo.heap.size wo.drew)
        have L := hid (show LF w.heap.size X p (.slice ap p.persons.length cp) (.slice aw p.walk.length cw) (.slice ad p.dress.length cd) (.slice aq p.parts.length cq) w wo.drew from L.out.later (Below.refl _ _).drew)
        have HI := hid (show ItemsAt (some w.heap.size) wo.drew _ items from HI.out.below (Below.refl _ _).drew)
        have HU := hid (show IntsAt none wo.drew _ (lst A k) from HU.out.below (Below.refl _ _).drew)
        have HB := hid (show Below w11.heap.size w11 wo.drew from HB.out.trans ((Below.refl wo.heap.size wo).drew.mono HB.out.size))
        clear hE hN hcr hwe hrl y0 y1 y2 y3 cu
        go_upto_region 14 with fail
        go_region_held3 (fun W' => W'.cell? ⟨X, 0, none⟩ = some (.slice ap p.persons.length cp) ∧ W'.cell? ⟨X, 1, none⟩ = some (.slice aw p.walk.length cw) ∧ W'.cell? ⟨X, 2, none⟩ = some (.slice ad p.dress.length cd) ∧ W'.cell? ⟨X, 3, none⟩ = some (.slice aq p.parts.length cq) ∧ W'.cell? ⟨b11, o11 + k, none⟩ = some (.slice ar (lst A k).length cr))
          (first | exact HSx.out _ HBd.out) (first
          | (go_at_call 40; refine (HCo.out _ _ _ _ _ _ _ L.out.any (RecAt.any HI.out) HU.out).mono ?_; rintro e w12 ⟨rfl, hb7⟩; have L := hid (L.out.later hb7); have HI := hid (HI.out.below hb7); have HU := hid (HU.out.below hb7); have HB := hid (HB.out.trans (hb7.mono HB.out.size)); have HBd := hid (HBd.out.trans (hb7.mono HBd.out.size)); clear hb7))
        have hEn : E ≠ 0 := fun h => HNn.out k hlt (HE.out.trans h)
        obtain ⟨e1, e2⟩ := ne_bool hEn
        clear hEn
        go_wp2_with fail
        go_roundw
        case rel => exact ⟨k + 1, by omega, rfl, by go_num, HB.out⟩
        case measure => simp [intOf] <;> omega
    | some bc =>
      obtain ⟨bst, cst⟩ := bc
      obtain rfl : eN = 0 := HeN.out.symm
      obtain ⟨b', c', rfl, hcc⟩ := HMr.out bst cst HS.out
      obtain rfl : eM = 0 := HeM.out.symm
      have n0 : ¬ c' > cst := by omega
      rw [show bestL (some (bst, cst)) = bst from rfl, show bestC (some (bst, cst)) = cst from rfl]
      have HBst := hid (show IntsAt (some w.heap.size) wc (.slice a7 bst.length c7) bst from HBst.out)
      have HCm := hid (fun vp vw vd vq vi W' (h1 : PlotAt none W' vp vw vd vq p) (h2 : ItemsAt none W' vi (items ++ [x])) => (HCm.out vp vw vd vq vi W' h1 h2).mono fun e w' (h : ∃ v', e = .returned (.tuple #[v', .int .i64 c', .int .i64 0]) ∧ OwnInts W'.heap.size w' v' b' ∧ Below W'.heap.size W' w') => h)
      clear hcc
      go_upto_region 9 with (go_at_call 18; refine (HCm.out _ _ _ _ _ _ L.out.any (RecAt.any HIm.out)).mono ?_; rintro e w10 ⟨v10, rfl, ho, hb7⟩; obtain ⟨a10, c10, rfl⟩ := (own_int.2 ho).form; have HBst := hid (HBst.out.below hb7); have L := hid (L.out.later hb7); have HI := hid (HI.out.below hb7); clear ho hb7 y0 y1 y2 y3; have y3 := L.out.c3)
      go_upto_region 10 with (go_at_call 39; refine (wears_any items.length (by omega) p.parts.length p.parts.length [] _ _ (OwnR.nil _ _ _ _ _) (by simp) (by omega)).mono ?_; rintro e w11 ⟨v11, vs, rfl, hry, hb7⟩; obtain ⟨a11, c11, rfl⟩ := hry.form; have HRY := hid hry; have L := hid (L.out.later hb7); have HI := hid (HI.out.below hb7); have HBst := hid (HBst.out.below hb7); clear hry hb7 y3)
      obtain ⟨j, hj, hjb, hjv, hjc, hle, hfi⟩ := best_first (p := p) (items := items) HS.out
      have hrl := fun i hi => allW_row (n := items.length) (r := p.parts.length) (i := i) hi
      obtain ⟨A, hA⟩ : ∃ A, allW items.length p.parts.length [] = A := ⟨_, rfl⟩
      rw [hA] at HRY hj hjb hle hfi hrl ⊢
      have HRl := hid hrl
      have HLe := hid hle
      have HFi := hid hfi
      have HJb := hid hjb
      have HJv := hid hjv
      have HJc := hid hjc
      have HAl := hid (show A.length ≤ 64 from by
        rw [← hA, allW_len]
        calc items.length ^ p.parts.length ≤ 4 ^ p.parts.length := Nat.pow_le_pow_left (by omega) _
          _ ≤ 4 ^ 3 := Nat.pow_le_pow_right (by decide) (by omega)
          _ ≤ 64 := by decide)
      have HBl := hid (show bst.length ≤ 64 from by
        have := (bestR_some (b := []) HS.out).2.2.1
        simp at this
        omega)
      clear hA hjb hjv hjc hle hfi hrl n0
      go_wp2_with fail
      go_loopw [14, 15] (fun f i wr => ∃ (k : Nat) (b : Bool), k ≤ A.length ∧ f = .bool b ∧ i = .int .i64 k ∧ (b = true ↔ ∃ i, i < k ∧ wearsE p items p.parts (lst A i) = 0 ∧ costW items (lst A i) = cst) ∧ Below w11.heap.size w11 wr) (fun _ i _ => A.length - (intOf i).toNat)
      case atStart => exact ⟨0, false, by omega, rfl, rfl, ⟨(fun h => by cases h), fun ⟨i, hi, _⟩ => by omega⟩, Below.refl _ _⟩
      case round =>
        as_aux_lemma =>
        obtain ⟨k, f, hk, rfl, rfl, hf, hb⟩ := hrel
        obtain ⟨wo, rfl⟩ : ∃ wo : World, wo = wr := ⟨_, rfl⟩
        have HF := hid hf
        have HB := hid hb
        have L := hid (L.out.later hb)
        have HI := hid (HI.out.below hb)
        have HBst := hid (HBst.out.below hb)
        clear hb hf
        by_cases hlt : k < A.length
        rotate_left
        · obtain rfl : k = A.length := by omega
          have hft : f = true := HF.out.2 ⟨j, hj, by rw [HJb.out]; exact HJv.out, by rw [HJb.out]; exact HJc.out⟩
          subst hft
          have y3 := L.out.c3
          by_cases hp0 : p.parts.length = 0
          · have n1 : ¬ (p.parts.length : Int) > 0 := by omega
            clear hp0
            go_wp2_with (go_at_call 19; refine (AW.out _).mono ?_; rintro e wz ⟨rfl, hbz⟩; have L := hid (L.out.later hbz); clear hbz)
            go_ret
            exact ⟨rfl, L.out.below⟩
          have n1 : (p.parts.length : Int) > 0 := by omega
          have HP0 := hid hp0
          clear hp0
          have y0 := L.out.c0
          have y1 := L.out.c1
          have y2 := L.out.c2
          have L0 := L
          have HI0 := HI
          go_upto_region 23 with (go_at_call 21; refine (ownPlot_any p _ _ _ _ _ _ (PlotS.ofValid L.out.plot Vd.out HSd.out) (PlotN.ofValid Vd.out)).mono ?_; rintro e w20 ⟨vp', vw', vd', vq', rfl, hown, hb5⟩; have HOw := hid hown; have HB5 := hid hb5; obtain ⟨ap', cp', rfl⟩ := hown.persons.form; obtain ⟨aw', cw', rfl⟩ := hown.wform; obtain ⟨ad', cd', rfl⟩ := hown.dress.form; obtain ⟨g, cq', rfl, hgb, hcq⟩ := hown.qformB HP0.out; clear hown hb5 y0 y1 y2 y3)
          obtain ⟨base, hbase⟩ : ∃ base, wo.heap.size = base := ⟨_, rfl⟩
          obtain ⟨Z, hZ⟩ : ∃ Z, w20.heap.size = Z := ⟨_, rfl⟩
          have hdb : w.heap.size < base := by rw [← hbase]; exact L.out.beat.lt
          have hZb : base ≤ Z := by rw [← hbase, ← hZ]; exact HB5.out.size
          have hgz : g < Z := by rw [← hZ]; exact (HOw.out.parts.lt rfl).2
          obtain ⟨w21, hw21⟩ : ∃ w21, w20.alloc (.cells #[.slice ap' p.persons.length cp', .slice aw' p.walk.length cw', .slice ad' p.dress.length cd', .slice (some ⟨g, 0, none⟩) p.parts.length cq'] 29) = w21 := ⟨_, rfl⟩
          have hb21 : Below w20.heap.size w20 w21 := by rw [← hw21]; exact below_alloc _ _
          have hzz : w21.cell? ⟨Z, 0, none⟩ = some (.slice ap' p.persons.length cp') ∧ w21.cell? ⟨Z, 1, none⟩ = some (.slice aw' p.walk.length cw') ∧ w21.cell? ⟨Z, 2, none⟩ = some (.slice ad' p.dress.length cd') ∧ w21.cell? ⟨Z, 3, none⟩ = some (.slice (some ⟨g, 0, none⟩) p.parts.length cq') := by
            rw [← hw21]; exact ⟨cell_at hZ.symm rfl, cell_at hZ.symm rfl, cell_at hZ.symm rfl, cell_at hZ.symm rfl⟩
          have hzf : w21.frozen? ⟨Z, 3, none⟩ = false := by rw [← hw21]; exact frozen_at hZ.symm
          have L := hid (L.out.later (below_trans HB5.out hb21))
          have HI := hid (HI.out.below (below_trans HB5.out hb21))
          have HOw := hid (HOw.out.later hb21)
          have HG21 := hid (gb_below (below_trans HB5.out hb21) (some w.heap.size))
          have hzh : w21.heap[Z]? = some (.cells #[.slice ap' p.persons.length cp', .slice aw' p.walk.length cw', .slice ad' p.dress.length cd', .slice (some ⟨g, 0, none⟩) p.parts.length cq'] 29 (0, 0)) := by rw [← hw21, ← hZ]; exact Array.getElem?_push_size
          have HZh := hid hzh
          have HBs := hid hbase
          rw [hbase] at HOw
          rw [hZ, hw21]
          have HZZ := hid hzz
          have HZf := hid hzf
          have hzd : Z ≠ w.heap.size := by omega
          clear hw21 hb21 hzz hzf hzh HB5 hbase hZ
          have y3 := L.out.c3
          go_upto_region 24 with (go_at_call 16; (with_reducible refine (roll_any w.heap.size (p.parts.length : Int) _ L.out.beat (by omega)).mono ?_); rintro e w22 ⟨r, rfl, hr0, hr1, hbt, hg⟩; obtain ⟨q, rfl⟩ := Int.eq_ofNat_of_zero_le hr0; have hqp : q < p.parts.length := (by have := HP0.out; omega); have L := hid (L.out.go hbt hg); have HI := hid (RecAt.kept HI.out hg); have HOw := hid (HOw.out.go hdb hg); have HGq := hid (gb_trans HG21.out hg); have HZh := hid ((hg.block Z (World.block_lt_of_cell? w21 ⟨Z, 3, none⟩ HZZ.out.2.2.2) (by intro e; have := Option.some.inj e; omega)).trans HZh.out); have zf := (World.frozen?_of_block (a := ⟨Z, 3, none⟩) (hg.block Z (World.block_lt_of_cell? w21 ⟨Z, 3, none⟩ HZZ.out.2.2.2) (by intro e; have := Option.some.inj e; omega))).trans HZf.out; have HZZ := hid (show w22.cell? _ = _ ∧ w22.cell? _ = _ ∧ w22.cell? _ = _ ∧ w22.cell? _ = _ from ⟨cell_gb hg hzd HZZ.out.1, cell_gb hg hzd HZZ.out.2.1, cell_gb hg hzd HZZ.out.2.2.1, cell_gb hg hzd HZZ.out.2.2.2⟩); clear hr0 hr1 hbt hg y3)
          have ZF := hid zf
          have y3 := L.out.c3
          have z3 := HZZ.out.2.2.2
          have hcc := PartsAt.cells L.out.any.parts hqp
          obtain ⟨bq, oq, e, hbq, _⟩ := hcc
          cases e
          have hcap : p.parts.length ≤ cq := by
            obtain ⟨a', c'', e, hh⟩ := L.out.any.parts
            cases e
            obtain ⟨_, _, _, h1, _⟩ := hh (by omega)
            exact h1
          have i1 : (q : Int) < (p.parts.length : Int) := by omega
          have hfew := Vd.out.few
          have z1 : IntKind.i64.wrap ((q : Int) + 1) = (q : Int) + 1 := IntWalk.i64_in _ (by omega)
          have i2 : (q : Int) ≤ (cq' : Int) := by omega
          have i3 : ((q + 1 : Nat) : Int) ≤ (p.parts.length : Int) := by omega
          have i4 : q + 1 ≤ p.parts.length := by omega
          have i5 : q ≤ cq' := by omega
          obtain ⟨aE, had⟩ : ∃ aE : Addr, (if cq = q + 1 then (⟨bq, oq, none⟩ : Addr) else (⟨bq, oq, none⟩ : Addr).add ((q + 1) * 5)) = aE := ⟨_, rfl⟩
          have HAd := hid had
          have hsrc : Src encPart w22.drew (.slice (some aE) (p.parts.length - (q + 1)) (cq - (q + 1))) (p.parts.drop (q + 1)) := by
            have hpa : PartsAt none w22.drew (.slice (some ⟨bq, oq, none⟩) p.parts.length cq) p.parts := L.out.any.parts.below (Below.refl _ _).drew
            by_cases hm : cq = q + 1
            · refine .inl ⟨aE, cq - (q + 1), by rw [List.length_drop], fun j u hj => ?_⟩
              rw [List.drop_of_length_le (by omega)] at hj
              simp at hj
            · rw [← had, if_neg hm]
              exact Src.dropP hpa rfl _
          have HSrc := hid hsrc
          have HRun := hid (fun W' : World => (show (Instr.sliceAt 27 (.slice (some ⟨bq, oq, none⟩) p.parts.length cq) (some (.int .i64 ((q : Int) + 1))) none none).run Try.prog W' = .ok (.slice (some aE) (p.parts.length - (q + 1)) (cq - (q + 1))) W' from by rw [← had]; exact run_sliceFrom W' ⟨bq, oq, none⟩ p.parts.length cq (q + 1) i4))
          clear had hsrc
          refine wp_region_flow_tail 9 (by kernel_rfl) (by kernel_rfl) [150, 151, 152, 153, 154, 155, 156, 157, 158] 100
            (fun _ w' => Hid (w' = w22.drew)) (fun a b => b = a) (fun _ _ => False)
            (fun _ i v _ => match i with
              | 0 => v = .pointer (some ⟨Z, 3, none⟩)
              | 1 => v = .slice (some ⟨g, 0, none⟩) p.parts.length cq'
              | 2 => v = .int .i64 q
              | 3 => v = (.slice (some ⟨g, 0, none⟩) q cq')
              | 4 => v = .pointer (some ⟨X, 3, none⟩)
              | 5 => v = .slice (some ⟨bq, oq, none⟩) p.parts.length cq
              | 6 => v = .int .i64 q
              | 7 => v = .int .i64 ((q : Int) + 1)
              | 8 => v = .slice (some aE) (p.parts.length - (q + 1)) (cq - (q + 1))
              | _ => True)
            [0, 1, 2, 3, 4, 5, 6, 7, 8] (by kernel_rfl) (by kernel_rfl) rfl ?_ ?_ ?_ ?_ ?_
          · intro b i v w2 w3 _ _ hy; exact hy
          · intro i v w2 w3 _ h; exact h.elim
          · exact hid rfl
          · skip
            refine StepF.cons (i := 0) (o := _) rfl (by decide) ?_ ?_
            · intro b vs wx hb hW hY K hK
              simp only [putAll, Act.put, List.setIfInBounds_toArray, List.set_cons_zero, List.set_cons_succ]
              go_simp
              have hk := hK.out (.pointer (some ⟨Z, 3, none⟩)) _ hW rfl (fun _ => rfl)
              simp only [putAll, Act.put, List.setIfInBounds_toArray, List.set_cons_zero, List.set_cons_succ] at hk
              with_reducible exact hk
            refine StepF.cons (i := 1) (o := _) rfl (by decide) ?_ ?_
            · intro b vs wx hb hW hY K hK
              have y0 : vs 150 = .pointer (some ⟨Z, 3, none⟩) := hY 0 150 (by kernel_rfl) (by kernel_rfl)
              have q0 : wx.cell? ⟨Z, 3, none⟩ = some (.slice (some ⟨g, 0, none⟩) p.parts.length cq') := by rw [hW.out]; exact HZZ.out.2.2.2
              simp only [putAll, Act.put, List.setIfInBounds_toArray, List.set_cons_zero, List.set_cons_succ]
              simp only [y0]
              go_simp
              have hk := hK.out (.slice (some ⟨g, 0, none⟩) p.parts.length cq') _ hW rfl (fun _ => rfl)
              simp only [putAll, Act.put, List.setIfInBounds_toArray, List.set_cons_zero, List.set_cons_succ, y0] at hk
              with_reducible exact hk
            refine StepF.cons (i := 2) (o := _) rfl (by decide) ?_ ?_
            · intro b vs wx hb hW hY K hK
              simp only [putAll, Act.put, List.setIfInBounds_toArray, List.set_cons_zero, List.set_cons_succ]
              go_simp
              have hk := hK.out (.int .i64 q) _ hW rfl (fun _ => rfl)
              simp only [putAll, Act.put, List.setIfInBounds_toArray, List.set_cons_zero, List.set_cons_succ] at hk
              with_reducible exact hk
            refine StepF.cons (i := 3) (o := _) rfl (by decide) ?_ ?_
            · intro b vs wx hb hW hY K hK
              have y1 : vs 151 = .slice (some ⟨g, 0, none⟩) p.parts.length cq' := hY 1 151 (by kernel_rfl) (by kernel_rfl)
              have y2 : vs 152 = .int .i64 q := hY 2 152 (by kernel_rfl) (by kernel_rfl)
              simp only [putAll, Act.put, List.setIfInBounds_toArray, List.set_cons_zero, List.set_cons_succ]
              rw [if_pos (by simp [Region.wanted])]
              simp only [y1, y2]
              refine wp_slice (.tmp 151) none (some (.tmp 152)) (.slice (some ⟨g, 0, none⟩) p.parts.length cq') none (some (.int .i64 (q : Int))) ((.slice (some ⟨g, 0, none⟩) q cq')) rfl rfl rfl rfl (run_sliceTo wx g p.parts.length cq' q i5) ?_
              simp only [Act.put, List.setIfInBounds_toArray, List.set_cons_zero, List.set_cons_succ]
              have hk := hK.out ((.slice (some ⟨g, 0, none⟩) q cq')) _ hW rfl (fun _ => rfl)
              simp only [putAll, Act.put, List.setIfInBounds_toArray, List.set_cons_zero, List.set_cons_succ, y1, y2] at hk
              with_reducible exact hk
            refine StepF.cons (i := 4) (o := _) rfl (by decide) ?_ ?_
            · intro b vs wx hb hW hY K hK
              simp only [putAll, Act.put, List.setIfInBounds_toArray, List.set_cons_zero, List.set_cons_succ]
              go_simp
              have hk := hK.out (.pointer (some ⟨X, 3, none⟩)) _ hW rfl (fun _ => rfl)
              simp only [putAll, Act.put, List.setIfInBounds_toArray, List.set_cons_zero, List.set_cons_succ] at hk
              with_reducible exact hk
            refine StepF.cons (i := 5) (o := _) rfl (by decide) ?_ ?_
            · intro b vs wx hb hW hY K hK
              have y4 : vs 154 = .pointer (some ⟨X, 3, none⟩) := hY 4 154 (by kernel_rfl) (by kernel_rfl)
              have q0 : wx.cell? ⟨X, 3, none⟩ = some (.slice (some ⟨bq, oq, none⟩) p.parts.length cq) := by rw [hW.out]; exact L.out.c3
              simp only [putAll, Act.put, List.setIfInBounds_toArray, List.set_cons_zero, List.set_cons_succ]
              simp only [y4]
              go_simp
              have hk := hK.out (.slice (some ⟨bq, oq, none⟩) p.parts.length cq) _ hW rfl (fun _ => rfl)
              simp only [putAll, Act.put, List.setIfInBounds_toArray, List.set_cons_zero, List.set_cons_succ, y4] at hk
              with_reducible exact hk
            refine StepF.cons (i := 6) (o := _) rfl (by decide) ?_ ?_
            · intro b vs wx hb hW hY K hK
              simp only [putAll, Act.put, List.setIfInBounds_toArray, List.set_cons_zero, List.set_cons_succ]
              go_simp
              have hk := hK.out (.int .i64 q) _ hW rfl (fun _ => rfl)
              simp only [putAll, Act.put, List.setIfInBounds_toArray, List.set_cons_zero, List.set_cons_succ] at hk
              with_reducible exact hk
            refine StepF.cons (i := 7) (o := _) rfl (by decide) ?_ ?_
            · intro b vs wx hb hW hY K hK
              have y6 : vs 156 = .int .i64 q := hY 6 156 (by kernel_rfl) (by kernel_rfl)
              simp only [putAll, Act.put, List.setIfInBounds_toArray, List.set_cons_zero, List.set_cons_succ]
              simp only [y6]
              go_simp
              have hk := hK.out (.int .i64 ((q : Int) + 1)) _ hW rfl (fun _ => rfl)
              simp only [putAll, Act.put, List.setIfInBounds_toArray, List.set_cons_zero, List.set_cons_succ, y6] at hk
              with_reducible exact hk
            refine StepF.cons (i := 8) (o := _) rfl (by decide) ?_ ?_
            · intro b vs wx hb hW hY K hK
              have y5 : vs 155 = .slice (some ⟨bq, oq, none⟩) p.parts.length cq := hY 5 155 (by kernel_rfl) (by kernel_rfl)
              have y7 : vs 157 = .int .i64 ((q : Int) + 1) := hY 7 157 (by kernel_rfl) (by kernel_rfl)
              simp only [putAll, Act.put, List.setIfInBounds_toArray, List.set_cons_zero, List.set_cons_succ]
              rw [if_pos (by simp [Region.wanted])]
              simp only [y5, y7]
              refine wp_slice (.tmp 155) (some (.tmp 157)) none (.slice (some ⟨bq, oq, none⟩) p.parts.length cq) (some (.int .i64 ((q : Int) + 1))) none (.slice (some aE) (p.parts.length - (q + 1)) (cq - (q + 1))) rfl rfl rfl rfl (HRun.out wx) ?_
              simp only [Act.put, List.setIfInBounds_toArray, List.set_cons_zero, List.set_cons_succ]
              have hk := hK.out (.slice (some aE) (p.parts.length - (q + 1)) (cq - (q + 1))) _ hW rfl (fun _ => rfl)
              simp only [putAll, Act.put, List.setIfInBounds_toArray, List.set_cons_zero, List.set_cons_succ, y5, y7] at hk
              with_reducible exact hk
            exact StepF.nil
          · intro vs wx hW hY
            have y3 : vs 153 = .slice (some ⟨g, 0, none⟩) q cq' := hY 3 153 (by kernel_rfl)
            have y8 : vs 158 = .slice (some aE) (p.parts.length - (q + 1)) (cq - (q + 1)) := hY 8 158 (by kernel_rfl)
            have hx : wx = w22.drew := hW.out
            clear hY hW
            subst hx
            simp only [putAll, Act.put, List.setIfInBounds_toArray, List.set_cons_zero, List.set_cons_succ, List.drop_succ_cons, List.drop_zero]
            have L := hid (show LF w.heap.size X p (.slice ap p.persons.length cp) (.slice aw p.walk.length cw) (.slice ad p.dress.length cd) (.slice (some ⟨bq, oq, none⟩) p.parts.length cq) w w22.drew from L.out.later (Below.refl _ _).drew)
            have HI := hid (HI.out.below (w' := w22.drew) (Below.refl _ _).drew)
            have HOw := hid (HOw.out.later (w' := w22.drew) (Below.refl _ _).drew)
            rw [y3, y8]
            refine wpList_app encPart Try.underlying27 infoPart' (by decide) (by decide) (fun _ => rfl) rfl _ _ rfl base (p.parts.take q) (p.parts.drop (q + 1)) (fun y _ => encPart_one y) (.slice (some ⟨g, 0, none⟩) q cq') _ rfl rfl (OwnR.takeP (enc := encPart) (k := 5) (fun _ => rfl) HOw.out.parts (by omega)) HSrc.out (by simp; omega) (by have := (HOw.out.parts.lt (g := g) rfl); omega) ?_
            intro v' w23 hown' hg hnil hat
            obtain ⟨a23, c23, e⟩ := hown'.form
            rw [← List.eraseIdx_eq_take_drop_succ] at hown' e
            subst e
            have hg' : w22.drew.grownBy w23 (some g) := hg
            have hsz : base ≤ w22.drew.heap.size := by have := (HOw.out.parts.lt (g := g) rfl); omega
            have hbb : Below base w22.drew w23 := OwnR.below (OwnR.takeP (enc := encPart) (k := 5) (i := q) (fun _ => rfl) HOw.out.parts (by omega)) hg hsz
            have hP' := HOw.out.turn hown' hg'
            have hG23 : wo.grownBy w23 (some w.heap.size) := ⟨hbb.os.trans HGq.out.os, hbb.tape.trans HGq.out.tape, hbb.output.trans HGq.out.output, Nat.le_trans HGq.out.size hbb.size, fun i hi hn => (hbb.block i (by rw [← HBs.out]; exact hi)).trans (HGq.out.block i hi hn)⟩
            have hB23 : Beat w.heap.size w23 := by
              obtain ⟨u, q1, q2⟩ := L.out.beat
              exact ⟨u, cell_back hbb hdb q1, (hbb.frozen (p := ⟨w.heap.size, 0, none⟩) hdb).trans q2⟩
            have hgz2 : Z ≠ g := by omega
            have hz3 := cell_gb hg' hgz2 (show w22.drew.cell? ⟨Z, 3, none⟩ = some _ from HZZ.out.2.2.2)
            have hzf : w23.frozen? ⟨Z, 3, none⟩ = false := (World.frozen?_of_block (a := ⟨Z, 3, none⟩) (hg'.block Z (World.block_lt_of_cell? w22.drew ⟨Z, 3, none⟩ HZZ.out.2.2.2) (by intro e; have := Option.some.inj e; omega))).trans ZF.out
            have HP' := hid hP'
            have HG23 := hid hG23
            have HB23 := hid hB23
            have HG' := hid hg'
            clear hown' hg hnil hat hP' hG23 hB23 hbb
            go_upto_region 25 with fail
            have hZw : wo.heap.size ≤ Z := by rw [HBs.out]; exact hZb
            have L24 := L0.out.go (HB23.out.putFar (b := Z) (o := 3) (u := .slice a23 (p.parts.eraseIdx q).length c23) (by omega)) (gb_out HG23.out (b := Z) (o := 3) (u := .slice a23 (p.parts.eraseIdx q).length c23) hZw)
            have HI24 := hid (RecAt.kept HI0.out (gb_out HG23.out (b := Z) (o := 3) (u := .slice a23 (p.parts.eraseIdx q).length c23) hZw))
            have hZl : Z < w22.heap.size := World.block_lt_of_cell? w22 ⟨Z, 3, none⟩ HZZ.out.2.2.2
            have hzh23 := (HG'.out.block Z hZl (by intro e; have := Option.some.inj e; omega)).trans (((Below.refl w22.heap.size w22).drew.block Z hZl).trans HZh.out)
            have HP24 := hid ((HP'.out.off hzh23 (gb_put w23 Z 3 (.slice a23 (p.parts.eraseIdx q).length c23))).at (d := none) (fun j e => by cases e))
            have x0 : (w23.setCell ⟨Z, 3, none⟩ (.slice a23 (p.parts.eraseIdx q).length c23)).cell? ⟨Z, 0, none⟩ = some (.slice ap' p.persons.length cp') := (World.cell?_setCell_other _ _ _ _ (by intro e; cases e)).trans (cell_gb HG'.out hgz2 (show w22.drew.cell? ⟨Z, 0, none⟩ = some _ from HZZ.out.1))
            have x1 : (w23.setCell ⟨Z, 3, none⟩ (.slice a23 (p.parts.eraseIdx q).length c23)).cell? ⟨Z, 1, none⟩ = some (.slice aw' p.walk.length cw') := (World.cell?_setCell_other _ _ _ _ (by intro e; cases e)).trans (cell_gb HG'.out hgz2 (show w22.drew.cell? ⟨Z, 1, none⟩ = some _ from HZZ.out.2.1))
            have x2 : (w23.setCell ⟨Z, 3, none⟩ (.slice a23 (p.parts.eraseIdx q).length c23)).cell? ⟨Z, 2, none⟩ = some (.slice ad' p.dress.length cd') := (World.cell?_setCell_other _ _ _ _ (by intro e; cases e)).trans (cell_gb HG'.out hgz2 (show w22.drew.cell? ⟨Z, 2, none⟩ = some _ from HZZ.out.2.2.1))
            have x3 : (w23.setCell ⟨Z, 3, none⟩ (.slice a23 (p.parts.eraseIdx q).length c23)).cell? ⟨Z, 3, none⟩ = some (.slice a23 (p.parts.eraseIdx q).length c23) := World.cell?_setCell_same _ _ _ hz3
            have hvl := valid_less Vd.out hqp
            have hie2 : itemsErr { p with parts := p.parts.eraseIdx q } items = 0 := by
              obtain ⟨_, i2, i3⟩ := itemsErr_zero HIe.out
              unfold itemsErr
              rw [if_pos (plotErr_zero.2 hvl), if_neg (by omega)]
              exact firstBad_zero.2 i3
            have hel : (p.parts.eraseIdx q).length ≤ 3 := by rw [List.length_eraseIdx_of_lt hqp]; omega
            have hsmF : smallErr { p with parts := p.parts.eraseIdx q } items = 0 := by unfold smallErr; rw [if_pos hie2, if_neg (by show ¬ (6 < (p.parts.eraseIdx q).length ∨ 10 < items.length); omega)]
            obtain ⟨bF, cF, hbF, hcF⟩ := best_less (items_priced HIe.out) hqp HS.out
            have hbF2 : bestP { p with parts := p.parts.eraseIdx q } items (p.parts.eraseIdx q) = some (bF, cF) := (bestP_parts (p := { p with parts := p.parts.eraseIdx q }) (q := p) rfl rfl rfl _).trans hbF
            have hceF : cheapErr { p with parts := p.parts.eraseIdx q } items = 0 := by unfold cheapErr; rw [if_pos hsmF]; show (if (bestP { p with parts := p.parts.eraseIdx q } items (p.parts.eraseIdx q)).isSome = true then (0 : Int) else 7) = 0; rw [hbF2]; rfl
            have hcbF : cheapB { p with parts := p.parts.eraseIdx q } items = some (bF, cF) := by unfold cheapB; rw [if_pos hsmF]; exact hbF2
            have HCf := hid (fun vp vw vd vq vi W' (h1 : PlotAt none W' vp vw vd vq { p with parts := p.parts.eraseIdx q }) (h2 : ItemsAt none W' vi items) => by have := cheapest_any { p with parts := p.parts.eraseIdx q } items vp vw vd vq vi W' h1 h2; unfold CheapestPost at this; rw [hceF, hcbF] at this; exact this)
            have HCf := hid (fun vp vw vd vq vi W' (h1 : PlotAt none W' vp vw vd vq { p with parts := p.parts.eraseIdx q }) (h2 : ItemsAt none W' vi items) => (HCf.out vp vw vd vq vi W' h1 h2).mono fun e w' (h : ∃ v', e = .returned (.tuple #[v', .int .i64 cF, .int .i64 0]) ∧ OwnInts W'.heap.size w' v' bF ∧ Below W'.heap.size W' w') => h)
            have n2 : ¬ cF > cst := by omega
            have L := hid L24
            clear hvl hie2 hel hsmF hbF hcF hbF2 hceF hcbF L24 L0 HI0 HOw HZZ HZh HG' HP' HG23 HB23 HSrc HRun ZF hzh23 hz3 zf y3 z3
            obtain ⟨w24, hw24⟩ : ∃ w24, w23.setCell ⟨Z, 3, none⟩ (.slice a23 (p.parts.eraseIdx q).length c23) = w24 := ⟨_, rfl⟩
            rw [hw24] at x0 x1 x2 x3 HP24 HI24 L ⊢
            clear hw24
            go_wp2_with (first
              | (go_at_call 18; refine (HCf.out _ _ _ _ _ _ HP24.out (RecAt.any HI24.out)).mono ?_; rintro e w25 ⟨v25, rfl, ho, hb7⟩; have L := hid (L.out.later hb7); clear ho hb7 x0 x1 x2 x3)
              | (go_at_call 19; refine (AW.out _).mono ?_; rintro e wz ⟨rfl, hbz⟩; have L := hid (L.out.later hbz); clear hbz))
            go_ret
            exact ⟨rfl, L.out.below⟩
        have hrw := ListsAt.row (HRY.out.lists.below HB.out) hlt
        obtain ⟨b11, o11, u, e, hb11, cu, hu⟩ := hrw
        cases e
        obtain ⟨ar, cr, eu, _⟩ := hu
        subst eu
        have hu := (ListsAt.row (HRY.out.lists.below HB.out) hlt)
        obtain ⟨b12, o12, u2, e, _, cu2, hu2⟩ := hu
        cases e
        rw [cu] at cu2
        cases cu2
        have HU := hid hu2
        have hrl := HRl.out k hlt
        have y0 := L.out.c0
        have y1 := L.out.c1
        have y2 := L.out.c2
        have y3 := L.out.c3
        have i1 : (k : Int) < (A.length : Int) := by omega
        have hA64 := HAl.out
        have z1 : IntKind.i64.wrap ((k : Int) + 1) = (k : Int) + 1 := IntWalk.i64_in _ (by omega)
        clear hA64
        have hwe : wearErr p items (lst A k) = wearsE p items p.parts (lst A k) := by unfold wearErr; rw [if_pos HIe.out, if_pos hrl]
        have HCo := hid (fun vp vw vd vq vi vb W' h hI hB => by have := costc_any p items (lst A k) vp vw vd vq vi vb W' h hI hB; rw [hwe] at this; exact this)
        have hcr : wearsE p items p.parts (lst A k) = 0 → costRes p items (lst A k) = costW items (lst A k) := fun h => by unfold costRes; rw [if_pos (hwe.trans h)]
        obtain ⟨E, hE⟩ : ∃ E, wearsE p items p.parts (lst A k) = E := ⟨_, rfl⟩
        obtain ⟨N, hN⟩ : ∃ N, costRes p items (lst A k) = N := ⟨_, rfl⟩
        rw [hE] at hcr
        rw [hN] at hcr
        rw [hE, hN] at HCo
        have HE := hid hE
        have HN := hid hcr
        have HSx := hid (fun W' (hb : Below wo.heap.size wo.drew W') => (⟨cell_back hb (World.block_lt_of_cell? wo ⟨X, 0, none⟩ y0) y0, cell_back hb (World.block_lt_of_cell? wo ⟨X, 1, none⟩ y1) y1, cell_back hb (World.block_lt_of_cell? wo ⟨X, 2, none⟩ y2) y2, cell_back hb (World.block_lt_of_cell? wo ⟨X, 3, none⟩ y3) y3, cell_back hb (World.block_lt_of_cell? wo ⟨b11, o11 + k, none⟩ cu) cu⟩ : W'.cell? ⟨X, 0, none⟩ = some (.slice ap p.persons.length cp) ∧ W'.cell? ⟨X, 1, none⟩ = some (.slice aw p.walk.length cw) ∧ W'.cell? ⟨X, 2, none⟩ = some (.slice ad p.dress.length cd) ∧ W'.cell? ⟨X, 3, none⟩ = some (.slice aq p.parts.length cq) ∧ W'.cell? ⟨b11, o11 + k, none⟩ = some (.slice ar (lst A k).length cr)))
        have HBd := hid (Below.refl wo.heap.size wo.drew)
        have L := hid (show LF w.heap.size X p (.slice ap p.persons.length cp) (.slice aw p.walk.length cw) (.slice ad p.dress.length cd) (.slice aq p.parts.length cq) w wo.drew from L.out.later (Below.refl _ _).drew)
        have HI := hid (show ItemsAt (some w.heap.size) wo.drew _ items from HI.out.below (Below.refl _ _).drew)
        have HU := hid (show IntsAt none wo.drew _ (lst A k) from HU.out.below (Below.refl _ _).drew)
        have HBst := hid (show IntsAt (some w.heap.size) wo.drew (.slice a7 bst.length c7) bst from HBst.out.below (Below.refl _ _).drew)
        have HB := hid (show Below w11.heap.size w11 wo.drew from HB.out.trans ((Below.refl wo.heap.size wo).drew.mono HB.out.size))
        clear hE hN hcr hwe hrl y0 y1 y2 y3 cu
        go_upto_region 14 with fail
        go_region_held3 (fun W' => W'.cell? ⟨X, 0, none⟩ = some (.slice ap p.persons.length cp) ∧ W'.cell? ⟨X, 1, none⟩ = some (.slice aw p.walk.length cw) ∧ W'.cell? ⟨X, 2, none⟩ = some (.slice ad p.dress.length cd) ∧ W'.cell? ⟨X, 3, none⟩ = some (.slice aq p.parts.length cq) ∧ W'.cell? ⟨b11, o11 + k, none⟩ = some (.slice ar (lst A k).length cr))
          (first | exact HSx.out _ HBd.out) (first
          | (go_at_call 40; refine (HCo.out _ _ _ _ _ _ _ L.out.any (RecAt.any HI.out) HU.out).mono ?_; rintro e w12 ⟨rfl, hb7⟩; have L := hid (L.out.later hb7); have HI := hid (HI.out.below hb7); have HU := hid (HU.out.below hb7); have HB := hid (HB.out.trans (hb7.mono HB.out.size)); have HBd := hid (HBd.out.trans (hb7.mono HBd.out.size)); have HBst := hid (HBst.out.below hb7); clear hb7))
        by_cases hE0 : E = 0
        rotate_left
        · obtain ⟨e1, e2⟩ := ne_bool hE0
          have HE0 := hid hE0
          clear hE0
          go_wp2_with fail
          go_roundw
          case rel => exact ⟨k + 1, f, by omega, rfl, by go_num, HF.out.trans ⟨fun ⟨i, hi, h⟩ => ⟨i, by omega, h⟩, fun ⟨i, hi, h⟩ => by
            by_cases e : i = k
            · subst e; exact absurd (HE.out.symm.trans h.1) HE0.out
            · exact ⟨i, by omega, h⟩⟩, HB.out⟩
          case measure => simp [intOf] <;> omega
        have hNW := HN.out hE0
        have hval := HE.out.trans hE0
        have hle := HLe.out k hlt hval
        rw [← hNW] at hle
        have HNW := hid hNW
        have HVl := hid hval
        subst hE0
        have n1 : ¬ N < cst := by omega
        clear hNW hval
        by_cases hNc : N = cst
        · obtain ⟨c1, c2⟩ := eq_bool hNc
          have HNc := hid hNc
          clear hNc
          cases f with
          | false =>
            have hrow : lst A k = bst := by
              rcases Nat.lt_trichotomy j k with h | h | h
              · have := HF.out.2 ⟨j, h, by rw [HJb.out]; exact HJv.out, by rw [HJb.out]; exact HJc.out⟩
                cases this
              · rw [← h]; exact HJb.out
              · have h1 := HFi.out k h HVl.out
                have h2 := HNW.out
                have h3 := HNc.out
                omega
            have hu3 : IntsAt none w12 (.slice ar (lst A k).length cr) bst := by
              have h := HU.out
              rw [hrow] at h ⊢
              exact h
            have HU := hid hu3
            clear hrow hu3
            go_wp2_with (go_at_call 29; refine (eqInts_same bst _ _ _ _ _ HU.out HBst.out (by have := HBl.out; omega)).mono ?_; rintro e w13 ⟨rfl, hb8⟩; have HB := hid (HB.out.trans (hb8.mono HB.out.size)); clear hb8)
            go_roundw
            case rel => exact ⟨k + 1, true, by omega, rfl, by go_num, ⟨fun _ => ⟨k, by omega, HVl.out, HNW.out.symm.trans HNc.out⟩, fun _ => rfl⟩, HB.out⟩
            case measure => simp [intOf] <;> omega
          | true =>
            go_wp2_with fail
            go_roundw
            case rel => exact ⟨k + 1, true, by omega, rfl, by go_num, ⟨fun _ => ⟨k, by omega, HVl.out, HNW.out.symm.trans HNc.out⟩, fun _ => rfl⟩, HB.out⟩
            case measure => simp [intOf] <;> omega
        · obtain ⟨c1, c2⟩ := ne_bool hNc
          have HNc := hid hNc
          clear hNc
          have hfk : (f = true ↔ ∃ i, i < k + 1 ∧ wearsE p items p.parts (lst A i) = 0 ∧ costW items (lst A i) = cst) := HF.out.trans ⟨fun ⟨i, hi, h⟩ => ⟨i, by omega, h⟩, fun ⟨i, hi, h⟩ => by
            by_cases e : i = k
            · subst e; exact absurd (HNW.out.trans h.2) HNc.out
            · exact ⟨i, by omega, h⟩⟩
          have HFk := hid hfk
          clear hfk
          cases f with
          | false =>
            go_wp2_with fail
            go_roundw
            case rel => exact ⟨k + 1, false, by omega, rfl, by go_num, HFk.out, HB.out⟩
            case measure => simp [intOf] <;> omega
          | true =>
            go_wp2_with fail
            go_roundw
            case rel => exact ⟨k + 1, true, by omega, rfl, by go_num, HFk.out, HB.out⟩
            case measure => simp [intOf] <;> omega
end Go.Proofs.Ytdcinngdilfpnaa
