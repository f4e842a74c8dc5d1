/-
  WALK: CostumeOne: whatever the numbers are, it returns true.
-/
import Derived.Test.YtdcinngdilfpnaaLwk
import Derived.Test.YtdcinngdilfpnaaCfi
import Derived.Test.YtdcinngdilfpnaaKcp
import Derived.Deep.CutRange
namespace Go.Proofs.Ytdcinngdilfpnaa
open Go.RowKit

def BoxP (P : Nat) (x : Part) (w : World) : Prop := w.cell? ⟨P, 0, none⟩ = some (.int .i64 x.person) ∧ w.cell? ⟨P, 1, none⟩ = some (.int .i64 x.place) ∧ w.cell? ⟨P, 2, none⟩ = some (.int .i64 x.kind) ∧ w.cell? ⟨P, 3, none⟩ = some (.int .i64 x.start) ∧ w.cell? ⟨P, 4, none⟩ = some (.int .i64 x.stop)
def BoxI (P : Nat) (x : Item) (w : World) : Prop := w.cell? ⟨P, 0, none⟩ = some (.int .i64 x.kind) ∧ w.cell? ⟨P, 1, none⟩ = some (.int .i64 x.lo) ∧ w.cell? ⟨P, 2, none⟩ = some (.int .i64 x.hi) ∧ w.cell? ⟨P, 3, none⟩ = some (.int .i64 x.cost) ∧ w.cell? ⟨P, 4, none⟩ = some (.int .i64 x.clean)
theorem BoxP.later {P : Nat} {x : Part} {w w' : World} (h : BoxP P x w) (hb : Below w.heap.size w w') : BoxP P x w' := ⟨cell_now hb h.1, cell_now hb h.2.1, cell_now hb h.2.2.1, cell_now hb h.2.2.2.1, cell_now hb h.2.2.2.2⟩
theorem BoxI.later {P : Nat} {x : Item} {w w' : World} (h : BoxI P x w) (hb : Below w.heap.size w w') : BoxI P x w' := ⟨cell_now hb h.1, cell_now hb h.2.1, cell_now hb h.2.2.1, cell_now hb h.2.2.2.1, cell_now hb h.2.2.2.2⟩
/-- the plot, the items, and a wear of them -/
structure LW (D X : Nat) (p : Plot) (vp vw vd vq vi vl : Value) (items : List Item) (l : List Int) (w0 w : World) : Prop where
  lf : LF D X p vp vw vd vq w0 w
  items : ItemsAt (some D) w vi items
  wear : IntsAt (some D) w vl l
theorem LW.later {D X : Nat} {p : Plot} {vp vw vd vq vi vl : Value} {items : List Item} {l : List Int} {w0 w w' : World} (k : LW D X p vp vw vd vq vi vl items l w0 w) (hb : Below w.heap.size w w') : LW D X p vp vw vd vq vi vl items l w0 w' :=
  ⟨k.lf.later hb, k.items.below hb, k.wear.below hb⟩
theorem LW.go {D X : Nat} {p : Plot} {vp vw vd vq vi vl : Value} {items : List Item} {l : List Int} {w0 w w' : World} (k : LW D X p vp vw vd vq vi vl items l w0 w) (hb : Beat D w') (hg : w.grownBy w' (some D)) : LW D X p vp vw vd vq vi vl items l w0 w' :=
  ⟨k.lf.go hb hg, RecAt.kept k.items hg, k.wear.kept hg⟩
theorem within_set {items : List Item} {l : List Int} {i : Nat} {z : Int} (h : Within items l) (hi : i < l.length) (hz : 0 ≤ z ∧ z < items.length) : Within items (l.set i z) := by
  intro k hk
  rw [List.length_set] at hk
  unfold nm
  rw [List.getD_eq_getElem?_getD, List.getElem?_set]
  by_cases e : i = k
  · subst e; simpa [hi] using hz
  · rw [if_neg e]
    have := h k hk
    unfold nm at this
    rwa [List.getD_eq_getElem?_getD] at this

set_option maxHeartbeats 16000000 in
set_option maxRecDepth 100000 in
theorem cone_any (xs : List Int) (v : Value) (w : World) (hX : IntsAt none w v xs) (hn : xs.length ≤ 9223372036854775807) :
    Calls Try.prog 8 #[v] w fun e w' => e = .returned (.bool true) ∧ Below w.heap.size w w' := by
  have HX := hid hX
  obtain ⟨a, c, rfl, _⟩ := hX
  go_enter Try.func8, Try.ntmps8
  go_upto_region 3 with (first
    | (go_at_call 13; refine (drumOf_any xs _ _ HX.out hn).mono ?_; rintro e w1 ⟨rfl, hbt, hbl⟩; have HBt := hid hbt; have HBl := hid hbl; clear hbt hbl)
    | (go_at_call 14; refine (plotOf_any w.heap.size 3 5 _ HBt.out (by omega) (by omega) (by omega) (by omega)).mono ?_; rintro e w2 ⟨vp, vw, vd, vq, p, rfl, hv, hpl, hql, hP, _, hbt, hg⟩; obtain ⟨ap, cp, rfl⟩ := hP.persons.form; obtain ⟨aw, cw, rfl⟩ := hP.walk.form; obtain ⟨ad, cd, ed, _⟩ := hP.dress; subst ed; obtain ⟨aq, cq, rfl⟩ := hP.parts.form; have HV := hid hv; have LF0 := hid (LF.start hbt hP (HBl.out.grown hg HBl.out.size (fun g e => by cases e; exact Nat.le_refl _)) (Nat.le_refl _) 29); clear hv hP hbt hg))
  obtain ⟨w3, hw3, L3⟩ := LF0.out.name
  rw [hw3]
  obtain ⟨X, hXs⟩ : ∃ X, w2.heap.size = X := ⟨_, rfl⟩
  rw [hXs] at L3 ⊢
  have L := hid L3
  have AW := hid (fun W' => awake_any W')
  have Vd := hid (plotErr_zero.1 HV.out)
  clear hw3 L3 LF0 HBt HBl HX hXs hn
  have y0 := L.out.c0
  have y1 := L.out.c1
  have y2 := L.out.c2
  have y3 := L.out.c3
  go_upto_region 4 with (go_at_call 15; refine (itemsOf_any w.heap.size 8 p _ _ _ _ _ L.out.beat L.out.plot HV.out (by omega) (by omega)).mono ?_; rintro e w4 ⟨vi, items, rfl, hie, hil, hI, _, hbt, hg⟩; obtain ⟨ai, ci, rfl⟩ := ItemsAt.form hI; have L := hid (L.out.go hbt hg); have HI := hid hI; have HIe := hid hie; clear hie hI hbt hg y0 y1 y2 y3)
  have hsm : smallErr p items = 0 := by unfold smallErr; rw [if_pos HIe.out, if_neg (by omega)]
  have hce : cheapErr p items = if (bestP p items p.parts).isSome = true then 0 else 7 := by unfold cheapErr; rw [if_pos hsm]
  have hcb : cheapB p items = bestP p items p.parts := by unfold cheapB; rw [if_pos hsm]
  have HCh := hid (fun vp vw vd vq vi W' (h1 : PlotAt none W' vp vw vd vq p) (h2 : ItemsAt none W' vi items) => by have := cheapest_any p items vp vw vd vq vi W' h1 h2; unfold CheapestPost at this; rw [hce, hcb] at this; exact this)
  obtain ⟨s, hs⟩ : ∃ s, bestP p items p.parts = s := ⟨_, rfl⟩
  rw [hs] at HCh
  have HS := hid hs
  clear hsm hce hcb hs
  have y0 := L.out.c0
  have y1 := L.out.c1
  have y2 := L.out.c2
  have y3 := L.out.c3
  cases s with
  | none =>
    clear HS
    go_wp2_with (first
      | (go_at_call 18; refine (HCh.out _ _ _ _ _ _ L.out.any (RecAt.any HI.out)).mono ?_; rintro e w7 ⟨v7, rfl, ho, hb7⟩; obtain ⟨a7, c7, rfl⟩ := (own_int.2 ho).form; have L := hid (L.out.later hb7); clear ho hb7 y0 y1 y2 y3)
      | (go_at_call 19; refine (AW.out _).mono ?_; rintro e w8 ⟨rfl, hb8⟩; have L := hid (L.out.later hb8); clear hb8))
    go_ret
    exact ⟨rfl, L.out.below⟩
  | some x =>
    obtain ⟨l, cst⟩ := x
    have hsome := bestR_some (b := []) HS.out
    have hll : l.length = p.parts.length := by have := hsome.2.2.1; simpa using this
    have HWt := hid (wears_within hsome.1)
    have HLl := hid hll
    clear hsome HS hll
    go_upto_region 7 with (go_at_call 18; refine (HCh.out _ _ _ _ _ _ L.out.any (RecAt.any HI.out)).mono ?_; rintro e w7 ⟨v7, rfl, ho, hb7⟩; have ho : OwnInts w4.heap.size w7 v7 l := ho; obtain ⟨a7, c7, e7⟩ := (own_int.2 ho).form; subst e7; have HW0 := hid (show LW w.heap.size X p _ _ _ _ _ _ items l w w7 from ⟨L.out.later hb7, HI.out.below hb7, OwnInts.at (d := some w.heap.size) ho (fun k e => by cases e; exact L.out.beat.lt)⟩); have HSd := hid (own_int.2 ho).sound; clear ho hb7 y0 y1 y2 y3 HI L)
    have hll := HLl.out
    have hl5 : l.length ≤ 5 := by omega
    clear hll
    go_cut [42] from 36 to 42 (fun s wx => ∃ r : Bool, s = .bool r ∧ (r = true → 0 < l.length) ∧ LW w.heap.size X p (.slice ap p.persons.length cp) (.slice aw p.walk.length cw) (.slice ad p.dress.length cd) (.slice aq p.parts.length cq) (.slice ai items.length ci) (.slice a7 l.length c7) items l w wx)
    case first =>
      as_aux_lemma =>
      by_cases h0 : l.length = 0
      · have n0 : ¬ (l.length : Int) > 0 := by omega
        clear h0
        go_wp2_with fail
        go_meet
        exact ⟨false, rfl, (fun h => by cases h), HW0.out⟩
      · have n0 : (l.length : Int) > 0 := by omega
        have N0 := hid h0
        clear h0
        go_wp2_with (go_at_call 33; (with_reducible refine (rare_any w.heap.size 2 _ HW0.out.lf.beat (by omega)).mono ?_); rintro e w9 ⟨r, rfl, hbt, hg⟩; have HW0 := hid (HW0.out.go hbt hg); clear hbt hg)
        go_meet
        exact ⟨r, rfl, fun _ => by have := N0.out; omega, HW0.out⟩
    case rest =>
      as_aux_lemma =>
      obtain ⟨r, rfl, hr, hlw⟩ := hcut
      have HW0 := hid hlw
      have HR := hid hr
      clear hlw hr
      go_upto_if 42 with fail
      go_cut [6] from 43 to 54 (fun s wx => ∃ (a6 : Option Addr) (c6 : Nat) (l' : List Int), s = .slice a6 l'.length c6 ∧ l'.length = l.length ∧ Within items l' ∧ LW w.heap.size X p (.slice ap p.persons.length cp) (.slice aw p.walk.length cw) (.slice ad p.dress.length cd) (.slice aq p.parts.length cq) (.slice ai items.length ci) (.slice a6 l'.length c6) items l' w wx)
      case first =>
        as_aux_lemma =>
        cases r with
        | false =>
          go_wp2_with fail
          go_meet
          exact ⟨_, _, l, rfl, rfl, HWt.out, HW0.out⟩
        | true =>
          have hl0 := HR.out rfl
          have hil : 0 < items.length := by have := HWt.out 0 hl0; omega
          have hDl := HW0.out.lf.beat.lt
          go_wp2_with (first
            | (go_at_call 34; refine (copyInts_any l _ _ _ HW0.out.wear HSd.out (by omega)).mono ?_; rintro e w9 ⟨v9, rfl, ho, hb9⟩; have hform : ∃ g c9, v9 = .slice (some ⟨g, 0, none⟩) l.length c9 ∧ wc.heap.size ≤ g := (by
                rcases (own_int.2 ho).2 with ⟨_, h0⟩ | ⟨g, cap, cur, e, hg, _⟩
                · omega
                · exact ⟨g, cap, e, hg⟩); obtain ⟨g, c9, e9, hgw⟩ := hform; subst e9; have HO := hid (own_int.2 ho); have HG := hid (gb_below hb9 (some w.heap.size)); have HBt := hid (HW0.out.lf.later hb9).beat; clear ho hb9)
            | (go_at_call 16; (with_reducible refine (roll_any w.heap.size (l.length : Int) _ HBt.out (by omega)).mono ?_); rintro e w10 ⟨r1, rfl, r10, r11, hbt, hg⟩; obtain ⟨q, rfl⟩ := Int.eq_ofNat_of_zero_le r10; have hql : q < l.length := (by omega); have HO := hid (HO.out.go hDl hg); have HG := hid (gb_trans HG.out hg); have HBt := hid hbt; clear hbt hg)
            | (go_at_call 16; (with_reducible refine (roll_any w.heap.size (items.length : Int) _ HBt.out (by omega)).mono ?_); rintro e w11 ⟨r2, rfl, r20, r21, hbt, hg⟩; have HO := hid (HO.out.go hDl hg); have HG := hid (gb_trans HG.out hg); have HBt := hid hbt; clear hbt hg; have hcg := IntsAt.cell (OwnInts.at (d := none) (own_int.1 HO.out) (by simp)) hql; have hfg := HO.out.thaw rfl q; have i1 : (q : Int) < (l.length : Int) := (by omega); rw [Nat.zero_add] at hcg))
          go_meet
          refine ⟨_, _, l.set q r2, by rw [List.length_set], by rw [List.length_set], within_set HWt.out hql (by omega), ?_⟩
          have hO2 := OwnInts.setI (own_int.1 HO.out) hql r2
          have hW2 := HW0.out.go (HBt.out.putFar (b := g) (o := q) (u := .int .i64 r2) (by omega)) (gb_out HG.out (b := g) (o := q) (u := .int .i64 r2) (by omega))
          exact ⟨hW2.lf, hW2.items, by rw [List.length_set]; exact OwnInts.at hO2 (fun k e => by cases e; exact hDl)⟩
      case rest =>
        as_aux_lemma =>
        obtain ⟨a6, c6, l', rfl, hl', hw', hlw⟩ := hcut
        have HWt := hid hw'
        have HW0 := hid hlw
        have hlp : l'.length = p.parts.length := hl'.trans HLl.out
        have hl5 : l'.length ≤ 5 := by omega
        have HLp := hid hlp
        obtain ⟨e1, e2⟩ := eq_bool (a := (l'.length : Int)) (b := (p.parts.length : Int)) (by omega)
        clear hlp hl' hw' hlw HR HSd HLl HCh
        have y3 := HW0.out.lf.c3
        go_wp2_with fail
        clear y3 e1 e2
        go_loopw [9, 10] (fun f i wr => ∃ (k : Nat) (b : Bool), k ≤ l'.length ∧ f = .bool b ∧ i = .int .i64 k ∧ (b = true ↔ FineI p items l' k) ∧ LW w.heap.size X p (.slice ap p.persons.length cp) (.slice aw p.walk.length cw) (.slice ad p.dress.length cd) (.slice aq p.parts.length cq) (.slice ai items.length ci) (.slice a6 l'.length c6) items l' w wr) (fun _ i _ => l'.length - (intOf i).toNat)
        case atStart => exact ⟨0, true, by omega, rfl, rfl, ⟨fun _ => fineI_zero, fun _ => rfl⟩, HW0.out⟩
        case round =>
          as_aux_lemma =>
          obtain ⟨k, f, hk, rfl, rfl, hf, hL⟩ := hrel
          obtain ⟨wo, rfl⟩ : ∃ wo : World, wo = wr := ⟨_, rfl⟩
          have HW0 := hid hL
          have HF := hid hf
          clear hL hf
          by_cases hlt : k < l'.length
          rotate_left
          · obtain rfl : k = l'.length := by omega
            have HC := hid (fun vp vw vd vq vi vb W' h hI hB => wear_any p items l' vp vw vd vq vi vb W' h hI hB)
            have hwe : wearErr p items l' = wearsE p items p.parts l' := by unfold wearErr; rw [if_pos HIe.out, if_pos HLp.out]
            rw [hwe] at HC
            have HFw := hid ((fine_wears (p := p) HWt.out).trans HF.out.symm)
            obtain ⟨E, hE⟩ : ∃ E, wearsE p items p.parts l' = E := ⟨_, rfl⟩
            rw [hE] at HC HFw
            clear hwe hE
            have y0 := HW0.out.lf.c0
            have y1 := HW0.out.lf.c1
            have y2 := HW0.out.lf.c2
            have y3 := HW0.out.lf.c3
            cases f with
            | true =>
              obtain rfl : E = 0 := HFw.out.2 rfl
              go_wp2_with (first
                | (go_at_call 36; refine (HC.out _ _ _ _ _ _ _ HW0.out.lf.any (RecAt.any HW0.out.items) HW0.out.wear.anyI).mono ?_; rintro e w7 ⟨rfl, hb7⟩; have HW0 := hid (HW0.out.later hb7); clear hb7 y0 y1 y2 y3)
                | (go_at_call 19; refine (AW.out _).mono ?_; rintro e w8 ⟨rfl, hb8⟩; have HW0 := hid (HW0.out.later hb8); clear hb8))
              go_ret
              exact ⟨rfl, HW0.out.lf.below⟩
            | false =>
              have hne : E ≠ 0 := fun h => by have := HFw.out.1 h; cases this
              obtain ⟨e1, e2⟩ := ne_bool hne
              have HNe := hid hne
              clear hne
              go_wp2_with (first
                | (go_at_call 36; refine (HC.out _ _ _ _ _ _ _ HW0.out.lf.any (RecAt.any HW0.out.items) HW0.out.wear.anyI).mono ?_; rintro e w7 ⟨rfl, hb7⟩; have HW0 := hid (HW0.out.later hb7); clear hb7 y0 y1 y2 y3)
                | (go_at_call 19; refine (AW.out _).mono ?_; rintro e w8 ⟨rfl, hb8⟩; have HW0 := hid (HW0.out.later hb8); clear hb8))
              go_ret
              exact ⟨rfl, HW0.out.lf.below⟩
          have hkp : k < p.parts.length := by have := HLp.out; omega
          obtain ⟨m1, m2⟩ := HWt.out k hlt
          obtain ⟨t, ht⟩ := Int.eq_ofNat_of_zero_le m1
          have htl : t < items.length := by omega
          obtain ⟨b6, o6, cc6, e, _, _⟩ := HW0.out.wear.slice (by omega)
          cases e
          have hc1 := IntsAt.cell HW0.out.wear hlt
          rw [ht] at hc1
          have hcc := PartsAt.cells HW0.out.lf.any.parts hkp
          obtain ⟨bq, oq, e, hbq, d0, d1, d2, d3, d4⟩ := hcc
          cases e
          have hci := ItemsAt.cells HW0.out.items htl
          obtain ⟨bi, oi, e, hbi, g0, g1, g2, g3, g4⟩ := hci
          cases e
          obtain ⟨y, hy⟩ : ∃ y, pt p.parts k = y := ⟨_, rfl⟩
          obtain ⟨x, hx⟩ : ∃ x, it items t = x := ⟨_, rfl⟩
          rw [hy] at d0 d1 d2 d3 d4
          rw [hx] at g0 g1 g2 g3 g4
          have hitc := items_clean HIe.out t htl
          rw [hx] at hitc
          have htm := alone_timed (Vd.out.parts k hkp)
          have hpl := alone_placed (Vd.out.parts k hkp)
          have hap := (aloneE_zero (Vd.out.parts k hkp)).1
          rw [hy] at htm hpl hap
          have HTm := hid htm
          have HPl := hid hpl
          have HPe := hid hap
          have HCl := hid hitc
          have HT := hid ht
          have HY := hid hy
          have HX := hid hx
          have y3 := HW0.out.lf.c3
          have i1 : (k : Int) < (l'.length : Int) := by omega
          have i2 : (k : Int) < (p.parts.length : Int) := by omega
          have i3 : (t : Int) < (items.length : Int) := by omega
          have n0 : ¬ (t : Int) < 0 := by omega
          have n1 : ¬ (t : Int) ≥ (items.length : Int) := by omega
          have z1 : IntKind.i64.wrap ((k : Int) + 1) = (k : Int) + 1 := IntWalk.i64_in _ (by omega)
          have HS := hid (fun W' (hb : Below wo.heap.size wo W') => (⟨cell_now hb y3, cell_now hb hc1, cell_now hb d0, cell_now hb d1, cell_now hb d2, cell_now hb d3, cell_now hb d4, cell_now hb g0, cell_now hb g1, cell_now hb g2, cell_now hb g3, cell_now hb g4⟩ :
            W'.cell? ⟨X, 3, none⟩ = some (.slice (some ⟨bq, oq, none⟩) p.parts.length cq) ∧ W'.cell? ⟨b6, o6 + k, none⟩ = some (.int .i64 t) ∧ W'.cell? ⟨bq, oq + k * 5, none⟩ = some (.int .i64 y.person) ∧ W'.cell? ⟨bq, oq + k * 5 + 1, none⟩ = some (.int .i64 y.place) ∧ W'.cell? ⟨bq, oq + k * 5 + 2, none⟩ = some (.int .i64 y.kind) ∧ W'.cell? ⟨bq, oq + k * 5 + 3, none⟩ = some (.int .i64 y.start) ∧ W'.cell? ⟨bq, oq + k * 5 + 4, none⟩ = some (.int .i64 y.stop) ∧ W'.cell? ⟨bi, oi + t * 5, none⟩ = some (.int .i64 x.kind) ∧ W'.cell? ⟨bi, oi + t * 5 + 1, none⟩ = some (.int .i64 x.lo) ∧ W'.cell? ⟨bi, oi + t * 5 + 2, none⟩ = some (.int .i64 x.hi) ∧ W'.cell? ⟨bi, oi + t * 5 + 3, none⟩ = some (.int .i64 x.cost) ∧ W'.cell? ⟨bi, oi + t * 5 + 4, none⟩ = some (.int .i64 x.clean)))
          clear ht hy hx m1 m2 htm hpl hap hitc
          go_upto_region 18 with fail
          clear y3 hc1 d0 d1 d2 d3 d4 g0 g1 g2 g3 g4
          go_cut [11, 12] from 61 to 220 (fun s11 s12 wx => ∃ P Q, s11 = .pointer (some ⟨P, 0, none⟩) ∧ s12 = .pointer (some ⟨Q, 0, none⟩) ∧ BoxP P y wx ∧ BoxI Q x wx ∧ Below wo.heap.size wo wx)
          case first =>
            as_aux_lemma =>
            go_region_held3 (fun W' => W'.cell? ⟨X, 3, none⟩ = some (.slice (some ⟨bq, oq, none⟩) p.parts.length cq) ∧ W'.cell? ⟨b6, o6 + k, none⟩ = some (.int .i64 t) ∧ W'.cell? ⟨bq, oq + k * 5, none⟩ = some (.int .i64 y.person) ∧ W'.cell? ⟨bq, oq + k * 5 + 1, none⟩ = some (.int .i64 y.place) ∧ W'.cell? ⟨bq, oq + k * 5 + 2, none⟩ = some (.int .i64 y.kind) ∧ W'.cell? ⟨bq, oq + k * 5 + 3, none⟩ = some (.int .i64 y.start) ∧ W'.cell? ⟨bq, oq + k * 5 + 4, none⟩ = some (.int .i64 y.stop) ∧ W'.cell? ⟨bi, oi + t * 5, none⟩ = some (.int .i64 x.kind) ∧ W'.cell? ⟨bi, oi + t * 5 + 1, none⟩ = some (.int .i64 x.lo) ∧ W'.cell? ⟨bi, oi + t * 5 + 2, none⟩ = some (.int .i64 x.hi) ∧ W'.cell? ⟨bi, oi + t * 5 + 3, none⟩ = some (.int .i64 x.cost) ∧ W'.cell? ⟨bi, oi + t * 5 + 4, none⟩ = some (.int .i64 x.clean))
              ((refine HS.out _ ?_; repeat (first | exact Below.refl _ _ | refine Below.drew ?_ | refine Below.alloc ?_ (by simp [World.setCell]) _ | refine Below.alloc ?_ (by simp [World.setCell]; omega) _ | refine Below.setCell ?_ (by simp) _ | refine Below.setCell ?_ (by simp; omega) _))) (fail)
            all_goals (
              go_wp2_with fail
              go_meet
              first
              | exact ⟨_, _, rfl, rfl, ⟨cell_up (cell_at rfl rfl), cell_up (cell_at rfl rfl), cell_up (cell_at rfl rfl), cell_up (cell_at rfl rfl), cell_up (cell_at rfl rfl)⟩, ⟨cell_at (by simp) rfl, cell_at (by simp) rfl, cell_at (by simp) rfl, cell_at (by simp) rfl, cell_at (by simp) rfl⟩, (below_trans (below_alloc _ _) (below_alloc _ _)).drew⟩
              | exact ⟨_, _, rfl, rfl, ⟨cell_at (by simp) rfl, cell_at (by simp) rfl, cell_at (by simp) rfl, cell_at (by simp) rfl, cell_at (by simp) rfl⟩, ⟨cell_up (cell_at rfl rfl), cell_up (cell_at rfl rfl), cell_up (cell_at rfl rfl), cell_up (cell_at rfl rfl), cell_up (cell_at rfl rfl)⟩, (below_trans (below_alloc _ _) (below_alloc _ _)).drew⟩)
          case rest =>
            as_aux_lemma =>
            obtain ⟨P, Q, rfl, rfl, hbp, hbi2, hbz⟩ := hcut
            have HW0 := hid (HW0.out.later hbz)
            have HP := hid hbp
            have HQ := hid hbi2
            clear hbp hbi2 hbz HS
            obtain ⟨pn, hpn⟩ : ∃ pn : Nat, y.person = (pn : Int) := ⟨y.person.toNat, by have := HPe.out; omega⟩
            have hpnl : pn < p.persons.length := by have := HPe.out; omega
            have hcs := SpansAt.cells HW0.out.lf.any.persons hpnl
            obtain ⟨bs, os, e, hbs, s0, s1⟩ := hcs
            cases e
            obtain ⟨⟨lo, hi⟩, hsp⟩ : ∃ s, sp p.persons pn = s := ⟨_, rfl⟩
            rw [hsp] at s0 s1
            dsimp only at s0 s1
            have y0 := HW0.out.lf.c0
            have i4 : (pn : Int) < (p.persons.length : Int) := by omega
            have HPn := hid hpn
            have hK0 : FineK p items l' k 0 ↔ (f = true ∧ x.kind = y.kind) ∧ (x.lo ≤ lo ∧ hi ≤ x.hi) := by
              rw [fineK_zero, ← HF.out]
              unfold SingleF
              rw [HT.out, Int.toNat_natCast, HX.out, HY.out, hpn, Int.toNat_natCast, hsp]
              exact ⟨fun h => ⟨⟨h.1, h.2.1⟩, h.2.2⟩, fun h => ⟨h.1.1, h.1.2, h.2⟩⟩
            have HK0 := hid hK0
            have HSr := hid (show SpansAt none wc _ p.persons from HW0.out.lf.any.persons)
            have HCs := hid (fun W' (hb : Below wc.heap.size wc.drew W') => (⟨cell_back hb (World.block_lt_of_cell? wc ⟨X, 0, none⟩ y0) y0, (HP.out.later ((Below.refl wc.heap.size wc).drew.trans hb)).1.trans (by rw [HPn.out]), (HP.out.later ((Below.refl wc.heap.size wc).drew.trans hb)).2.2.1, (HQ.out.later ((Below.refl wc.heap.size wc).drew.trans hb)).1, (HQ.out.later ((Below.refl wc.heap.size wc).drew.trans hb)).2.1, (HQ.out.later ((Below.refl wc.heap.size wc).drew.trans hb)).2.2.1, cell_back hb hbs s0, cell_back hb hbs s1⟩ :
              W'.cell? ⟨X, 0, none⟩ = some (.slice (some ⟨bs, os, none⟩) p.persons.length cp) ∧ W'.cell? ⟨P, 0, none⟩ = some (.int .i64 pn) ∧ W'.cell? ⟨P, 2, none⟩ = some (.int .i64 y.kind) ∧ W'.cell? ⟨Q, 0, none⟩ = some (.int .i64 x.kind) ∧ W'.cell? ⟨Q, 1, none⟩ = some (.int .i64 x.lo) ∧ W'.cell? ⟨Q, 2, none⟩ = some (.int .i64 x.hi) ∧ W'.cell? ⟨bs, os + pn * 2, none⟩ = some (.int .i64 lo) ∧ W'.cell? ⟨bs, os + pn * 2 + 1, none⟩ = some (.int .i64 hi)))
            have HBd := hid (Below.refl wc.heap.size wc.drew)
            obtain ⟨p0, p1, p2, p3, p4⟩ := HP.out
            obtain ⟨q0, q1, q2, q3, q4⟩ := HQ.out
            rw [hpn] at p0
            clear hsp hpn hK0
            go_upto_region 19 with fail
            go_cut [9] from 61 to 220 (fun s9 wx => ∃ b : Bool, s9 = .bool b ∧ (b = true ↔ FineK p items l' k 0) ∧ Below wc.heap.size wc wx)
            case first =>
              as_aux_lemma =>
              cases f with
              | false =>
                go_quiet (fail)
                go_wp2_with fail
                go_meet
                exact ⟨false, rfl, ⟨(fun h => by cases h), fun h => (HK0.out.1 h).1.1⟩, below_drewN (Below.refl _ _) nq⟩
              | true =>
                by_cases hkd : x.kind = y.kind
                · obtain ⟨e1, e2⟩ := eq_bool hkd
                  have HKd := hid hkd
                  clear hkd p0 p1 p2 p3 p4 q0 q1 q2 q3 q4 y0 s0 s1
                  go_region_held3 (fun W' => W'.cell? ⟨X, 0, none⟩ = some (.slice (some ⟨bs, os, none⟩) p.persons.length cp) ∧ W'.cell? ⟨P, 0, none⟩ = some (.int .i64 pn) ∧ W'.cell? ⟨P, 2, none⟩ = some (.int .i64 y.kind) ∧ W'.cell? ⟨Q, 0, none⟩ = some (.int .i64 x.kind) ∧ W'.cell? ⟨Q, 1, none⟩ = some (.int .i64 x.lo) ∧ W'.cell? ⟨Q, 2, none⟩ = some (.int .i64 x.hi) ∧ W'.cell? ⟨bs, os + pn * 2, none⟩ = some (.int .i64 lo) ∧ W'.cell? ⟨bs, os + pn * 2 + 1, none⟩ = some (.int .i64 hi))
                    (first | exact HCs.out _ HBd.out) (first
                    | (go_at_call 35; refine (insideC_any _ _ _ _ _).mono ?_; rintro e w2 ⟨rfl, hb2⟩; have HBd := hid (HBd.out.trans (hb2.mono HBd.out.size)); clear hb2))
                  all_goals (
                    go_wp2_with fail
                    go_meet
                    exact ⟨_, rfl, by rw [HK0.out]; simp [HKd.out], (Below.refl wc.heap.size wc).drew.trans HBd.out⟩)
                · obtain ⟨e1, e2⟩ := ne_bool hkd
                  have HKd := hid hkd
                  clear hkd
                  go_quiet (fail)
                  go_wp2_with fail
                  go_meet
                  exact ⟨false, rfl, ⟨(fun h => by cases h), fun h => absurd (HK0.out.1 h).1.2 HKd.out⟩, below_drewN (Below.refl _ _) nq⟩
            case rest =>
              as_aux_lemma =>
              obtain ⟨f1, rfl, hf1, hb1⟩ := hcut
              have HF1 := hid hf1
              have HW0 := hid (HW0.out.later hb1)
              have HP := hid (HP.out.later hb1)
              have HQ := hid (HQ.out.later hb1)
              clear hf1 hb1 p0 p1 p2 p3 p4 q0 q1 q2 q3 q4 y0 s0 s1 HCs HBd HK0 HSr
              obtain ⟨wi, hwi⟩ : ∃ wi, wi = wc := ⟨_, rfl⟩
              go_wp2_with fail
              go_loopw [9, 13] (fun g j wr => ∃ (q : Nat) (b : Bool), q ≤ l'.length ∧ g = .bool b ∧ j = .int .i64 q ∧ (b = true ↔ FineK p items l' k q) ∧ Below wc.heap.size wc wr) (fun _ j _ => l'.length - (intOf j).toNat)
              case atStart => exact ⟨0, f1, by omega, rfl, rfl, HF1.out, Below.refl _ _⟩
              case round =>
                as_aux_lemma =>
                obtain ⟨q, g, hq, rfl, rfl, hg, hb⟩ := hrel
                obtain ⟨wj, rfl⟩ : ∃ wj : World, wj = wr := ⟨_, rfl⟩
                have HG := hid hg
                have HB := hid hb
                have HW0 := hid (HW0.out.later hb)
                have HP := hid (HP.out.later hb)
                have HQ := hid (HQ.out.later hb)
                clear hg hb
                by_cases hltq : q < l'.length
                rotate_left
                · obtain rfl : q = l'.length := by omega
                  go_wp2_with fail
                  go_roundw
                  case rel => exact ⟨k + 1, g, by omega, rfl, by go_num, HG.out.trans fineI_succ, HW0.out⟩
                  case measure => simp [intOf] <;> omega
                have hqp : q < p.parts.length := by have := HLp.out; omega
                obtain ⟨m1, m2⟩ := HWt.out q hltq
                obtain ⟨u, hu⟩ := Int.eq_ofNat_of_zero_le m1
                have hcc := PartsAt.cells HW0.out.lf.any.parts hqp
                obtain ⟨bq', oq', e, hbq', d0, d1, d2, d3, d4⟩ := hcc
                cases e
                obtain ⟨z, hz⟩ : ∃ z, pt p.parts q = z := ⟨_, rfl⟩
                rw [hz] at d0 d1 d2 d3 d4
                have y3 := HW0.out.lf.c3
                have i4 : (q : Int) < (p.parts.length : Int) := by omega
                have z2 : IntKind.i64.wrap ((q : Int) + 1) = (q : Int) + 1 := IntWalk.i64_in _ (by omega)
                have HU := hid hu
                have HZ := hid hz
                obtain ⟨p0, p1, p2, p3, p4⟩ := HP.out
                obtain ⟨q0, q1, q2, q3, q4⟩ := HQ.out
                clear hu hz m1 m2
                go_upto_region 24 with fail
                obtain ⟨R, hR⟩ : ∃ R, wj.heap.size = R := ⟨_, rfl⟩
                obtain ⟨wk, hwk⟩ : ∃ wk, wj.alloc (.cells #[.int .i64 z.person, .int .i64 z.place, .int .i64 z.kind, .int .i64 z.start, .int .i64 z.stop] 38) = wk := ⟨_, rfl⟩
                have hbk : Below wj.heap.size wj wk := by rw [← hwk]; exact below_alloc _ _
                have hrb : BoxP R z wk := by rw [← hwk]; exact ⟨cell_at hR.symm rfl, cell_at hR.symm rfl, cell_at hR.symm rfl, cell_at hR.symm rfl, cell_at hR.symm rfl⟩
                rw [hwk, hR]
                have hB2 := HB.out.trans (hbk.mono HB.out.size)
                have HP := HP.out.later hbk
                have HQ := HQ.out.later hbk
                have HWk := HW0.out.later hbk
                have HC := hid (fun W' (hb : Below wk.heap.size wk W') => (⟨HP.later hb, HQ.later hb, hrb.later hb, HWk.later hb⟩ : BoxP P y W' ∧ BoxI Q x W' ∧ BoxP R z W' ∧ LW w.heap.size X p (.slice (some ⟨bs, os, none⟩) p.persons.length cp) (.slice aw p.walk.length cw) (.slice ad p.dress.length cd) (.slice (some ⟨bq, oq, none⟩) p.parts.length cq) (.slice (some ⟨bi, oi, none⟩) items.length ci) (.slice (some ⟨b6, o6, none⟩) l'.length c6) items l' w W'))
                have HB := hid (fun W' (hb : Below wk.heap.size wk W') => hB2.trans (hb.mono hB2.size))
                have HLd := hid (show Lead p.parts k q ↔ (y.start < z.start ∨ y.start = z.start ∧ k < q) from by unfold Lead; rw [HY.out, HZ.out])
                have HIff := hid (show Lead p.parts k q → (FineK p items l' k (q + 1) ↔ g = true ∧ (y.person ≠ z.person → (t : Int) = u → y.stop + x.clean ≤ z.start) ∧ (y.person = z.person → y.kind = z.kind → (t : Int) ≠ u → y.stop + nm (lst p.walk y.place.toNat) z.place.toNat + nm p.dress z.kind.toNat ≤ z.start)) from fun hl => by
                  rw [fineK_succ, ← HG.out]
                  unfold PairOk
                  rw [HY.out, HZ.out, HT.out, HU.out, Int.toNat_natCast, HX.out]
                  exact ⟨fun h => ⟨h.1, h.2 hl⟩, fun h => ⟨h.1, fun _ => h.2⟩⟩)
                clear hR hwk hbk hrb hB2 HP HQ HWk HW0 p0 p1 p2 p3 p4 q0 q1 q2 q3 q4 d0 d1 d2 d3 d4 y3
                obtain ⟨⟨p0, p1, p2, p3, p4⟩, ⟨q0, q1, q2, q3, q4⟩, ⟨r0, r1, r2, r3, r4⟩, hlw⟩ := HC.out wk (Below.refl _ _)
                have HB0 := hid (Below.refl wk.heap.size wk)
                go_cut [144] from 112 to 220 (fun s wx => ∃ b : Bool, s = .bool b ∧ (b = false ↔ Lead p.parts k q) ∧ wx = wk)
                case first =>
                  as_aux_lemma =>
                  by_cases hqk : q = k
                  · obtain ⟨e1, e2⟩ := eq_bool (a := (q : Int)) (b := (k : Int)) (by omega)
                    have HQk := hid hqk
                    clear hqk
                    go_wp2_with fail
                    go_meet
                    exact ⟨true, rfl, ⟨(fun h => by cases h), fun h => by rw [HQk.out] at h; exact absurd h (lead_not h)⟩, rfl⟩
                  · obtain ⟨e1, e2⟩ := ne_bool (a := (q : Int)) (b := (k : Int)) (by omega)
                    have HQk := hid hqk
                    clear hqk
                    by_cases h1 : z.start < y.start
                    · go_wp2_with fail
                      go_meet
                      exact ⟨true, rfl, ⟨(fun h => by cases h), fun h => by have := HLd.out.1 h; omega⟩, rfl⟩
                    · by_cases h2 : z.start = y.start
                      · obtain ⟨e3, e4⟩ := eq_bool h2
                        have H2 := hid h2
                        clear h2
                        by_cases h3 : (q : Int) < (k : Int)
                        · go_wp2_with fail
                          go_meet
                          exact ⟨true, rfl, ⟨(fun h => by cases h), fun h => by have := HLd.out.1 h; have := H2.out; omega⟩, rfl⟩
                        · go_wp2_with fail
                          go_meet
                          exact ⟨false, rfl, ⟨fun _ => HLd.out.2 (by have := H2.out; have := HQk.out; omega), fun _ => rfl⟩, rfl⟩
                      · obtain ⟨e3, e4⟩ := ne_bool h2
                        have H2 := hid h2
                        clear h2
                        go_wp2_with fail
                        go_meet
                        exact ⟨false, rfl, ⟨fun _ => HLd.out.2 (by have := H2.out; omega), fun _ => rfl⟩, rfl⟩
                case rest =>
                  as_aux_lemma =>
                  obtain ⟨bl, rfl, hbl, rfl⟩ := hcut
                  obtain ⟨wk, rfl⟩ : ∃ wk : World, wk = wc := ⟨_, rfl⟩
                  cases bl with
                  | true =>
                    have HNl := hid (show ¬ Lead p.parts k q from fun h => by have := hbl.2 h; cases this)
                    clear hbl
                    go_wp2_with fail
                    go_roundw
                    case rel => exact ⟨q + 1, g, by omega, rfl, by go_num, HG.out.trans (fineK_skip HNl.out), HB.out _ HB0.out⟩
                    case measure => simp [intOf] <;> omega
                  | false =>
                    have HIff := hid (HIff.out (hbl.1 rfl))
                    clear hbl HLd
                    have htm1 := HTm.out
                    have htm2 := alone_timed (Vd.out.parts q hqp)
                    rw [HZ.out] at htm2
                    unfold Timed at htm1 htm2
                    have hcl := HCl.out
                    have z3 : IntKind.i64.wrap (y.stop + x.clean) = y.stop + x.clean := IntWalk.i64_in _ (by omega)
                    have HTm1 := hid htm1
                    have HTm2 := hid htm2
                    clear htm1 htm2 hcl
                    by_cases hpe : y.person = z.person
                    · obtain ⟨e1, e2⟩ := eq_bool hpe
                      have HPeq := hid hpe
                      clear hpe
                      go_upto_region 25 with fail
                      go_quiet (fail)
                      obtain ⟨wn, hwn⟩ : ∃ wn, World.drewN wk nq = wn := ⟨_, rfl⟩
                      have HB0 := hid (show Below wk.heap.size wk wn from by rw [← hwn]; exact below_drewN HB0.out nq)
                      rw [hwn]
                      clear hwn p0 p1 p2 p3 p4 q0 q1 q2 q3 q4 r0 r1 r2 r3 r4 hlw
                      obtain ⟨⟨p0, p1, p2, p3, p4⟩, ⟨q0, q1, q2, q3, q4⟩, ⟨r0, r1, r2, r3, r4⟩, hlw⟩ := HC.out wn HB0.out
                      by_cases hkd : y.kind = z.kind
                      · obtain ⟨e3, e4⟩ := eq_bool hkd
                        have HKd := hid hkd
                        clear hkd
                        have hc1 := IntsAt.cell hlw.wear hlt
                        have hc2 := IntsAt.cell hlw.wear hltq
                        rw [HT.out] at hc1
                        rw [HU.out] at hc2
                        by_cases htu : (t : Int) = (u : Int)
                        · obtain ⟨e5, e6⟩ := eq_bool htu
                          have HTu := hid htu
                          clear htu
                          go_upto_region 27 with fail
                          go_quiet (fail)
                          have HB0 := hid (show Below wk.heap.size wk _ from below_drewN HB0.out nq)
                          go_wp2_with fail
                          go_roundw
                          case rel => exact ⟨q + 1, g, by omega, rfl, by go_num, ⟨fun h => HIff.out.2 ⟨h, fun h1 => absurd HPeq.out h1, fun _ _ h1 => absurd HTu.out h1⟩, fun h => (HIff.out.1 h).1⟩, HB.out _ HB0.out⟩
                          case measure => simp [intOf] <;> omega
                        · obtain ⟨e5, e6⟩ := ne_bool htu
                          have HTu := hid htu
                          clear htu
                          obtain ⟨pa, hpa⟩ : ∃ pa : Nat, y.place = (pa : Int) := ⟨y.place.toNat, by have := HPl.out.1; omega⟩
                          have hpl2 := alone_placed (Vd.out.parts q hqp)
                          rw [HZ.out] at hpl2
                          obtain ⟨pb, hpb⟩ : ∃ pb : Nat, z.place = (pb : Int) := ⟨z.place.toNat, by have := hpl2.1; omega⟩
                          obtain ⟨kb, hkb⟩ : ∃ kb : Nat, z.kind = (kb : Int) := ⟨z.kind.toNat, by have := hpl2.2; omega⟩
                          have hpal : pa < p.walk.length := by have := HPl.out.1; omega
                          have hpbl : pb < p.walk.length := by have := hpl2.1; omega
                          have hkbl : kb < p.dress.length := by have := hpl2.2; omega
                          clear hpl2
                          obtain ⟨hrl, hrb⟩ := rowE_zero (Vd.out.rows pa hpal)
                          have hN1 := hrb pb hpbl
                          have hN2 := Vd.out.dresses kb hkbl
                          have hif := HIff.out
                          rw [hpa, hpb, hkb, Int.toNat_natCast, Int.toNat_natCast, Int.toNat_natCast] at hif
                          obtain ⟨N1, hN1e⟩ : ∃ N1, nm (lst p.walk pa) pb = N1 := ⟨_, rfl⟩
                          obtain ⟨N2, hN2e⟩ : ∃ N2, nm p.dress kb = N2 := ⟨_, rfl⟩
                          rw [hN1e] at hif hN1
                          rw [hN2e] at hif hN2
                          have HIf := hid hif
                          have HN1 := hid hN1e
                          have HN2 := hid hN2e
                          have HRl := hid hrl
                          have HPa := hid hpa
                          have HPb := hid hpb
                          have HKb := hid hkb
                          have htm1 := HTm1.out
                          have htm2 := HTm2.out
                          have z4 : IntKind.i64.wrap (y.stop + N1) = y.stop + N1 := IntWalk.i64_in _ (by omega)
                          have z5 : IntKind.i64.wrap (y.stop + N1 + N2) = y.stop + N1 + N2 := IntWalk.i64_in _ (by omega)
                          have j1 : (pa : Int) < (p.walk.length : Int) := by omega
                          have j2 : (pb : Int) < (p.walk.length : Int) := by omega
                          have j3 : (kb : Int) < (p.dress.length : Int) := by omega
                          clear hif hN1e hN2e hrl hrb hpa hpb hkb hN1 hN2 htm1 htm2
                          go_upto_region 27 with fail
                          go_quiet (fail)
                          obtain ⟨wm, hwn⟩ : ∃ wm, World.drewN wn nq = wm := ⟨_, rfl⟩
                          have HB0 := hid (show Below wk.heap.size wk wm from by rw [← hwn]; exact below_drewN HB0.out nq)
                          rw [hwn]
                          clear hwn p0 p1 p2 p3 p4 q0 q1 q2 q3 q4 r0 r1 r2 r3 r4 hlw hc1 hc2
                          obtain ⟨⟨p0, p1, p2, p3, p4⟩, ⟨q0, q1, q2, q3, q4⟩, ⟨r0, r1, r2, r3, r4⟩, hlw⟩ := HC.out wm HB0.out
                          have hrw := ListsAt.row hlw.lf.any.walk hpal
                          obtain ⟨bw, ow, uu, e, hbw, cu, hu⟩ := hrw
                          cases e
                          obtain ⟨br, orr, cr, e, _, _⟩ := hu.slice (by rw [HRl.out]; omega)
                          subst e
                          have hcw := IntsAt.cell hu (i := pb) (by rw [HRl.out]; omega)
                          rw [HN1.out] at hcw
                          rw [HRl.out] at cu
                          obtain ⟨bd, od, cdd, e, _, _⟩ := hlw.lf.any.dress.slice (by omega)
                          cases e
                          have hcd := IntsAt.cell hlw.lf.any.dress hkbl
                          rw [HN2.out] at hcd
                          have y1 := hlw.lf.c1
                          have y2 := hlw.lf.c2
                          rw [HPa.out] at p1
                          rw [HPb.out] at r1
                          rw [HKb.out] at r2
                          clear hu
                          cases g with
                          | false =>
                            go_upto_region 28 with fail
                            go_quiet (fail)
                            have HB0 := hid (show Below wk.heap.size wk _ from below_drewN HB0.out nq)
                            go_wp2_with fail
                            go_roundw
                            case rel => exact ⟨q + 1, false, by omega, rfl, by go_num, ⟨(fun h => by cases h), fun h => (HIf.out.1 h).1⟩, HB.out _ HB0.out⟩
                            case measure => simp [intOf] <;> omega
                          | true =>
                            by_cases hle : z.start ≥ y.stop + N1 + N2
                            · go_upto_region 28 with fail
                              go_quiet (fail)
                              have HB0 := hid (show Below wk.heap.size wk _ from below_drewN HB0.out nq)
                              go_wp2_with fail
                              go_roundw
                              case rel => exact ⟨q + 1, true, by omega, rfl, by go_num, ⟨fun _ => HIf.out.2 ⟨rfl, fun h1 => absurd HPeq.out h1, fun _ _ _ => by omega⟩, fun _ => rfl⟩, HB.out _ HB0.out⟩
                              case measure => simp [intOf] <;> omega
                            · go_upto_region 28 with fail
                              go_quiet (fail)
                              have HB0 := hid (show Below wk.heap.size wk _ from below_drewN HB0.out nq)
                              go_wp2_with fail
                              go_roundw
                              case rel => exact ⟨q + 1, false, by omega, rfl, by go_num, ⟨(fun h => by cases h), fun h => absurd ((HIf.out.1 h).2.2 HPeq.out (by have := HKd.out; have := HKb.out; omega) HTu.out) (by omega)⟩, HB.out _ HB0.out⟩
                              case measure => simp [intOf] <;> omega
                      · obtain ⟨e3, e4⟩ := ne_bool hkd
                        have HKd := hid hkd
                        clear hkd
                        go_upto_region 27 with fail
                        go_quiet (fail)
                        have HB0 := hid (show Below wk.heap.size wk _ from below_drewN HB0.out nq)
                        go_wp2_with fail
                        go_roundw
                        case rel => exact ⟨q + 1, g, by omega, rfl, by go_num, ⟨fun h => HIff.out.2 ⟨h, fun h1 => absurd HPeq.out h1, fun _ h1 => absurd h1 HKd.out⟩, fun h => (HIff.out.1 h).1⟩, HB.out _ HB0.out⟩
                        case measure => simp [intOf] <;> omega
                    · obtain ⟨e1, e2⟩ := ne_bool hpe
                      have HPne := hid hpe
                      clear hpe
                      have hc1 := IntsAt.cell hlw.wear hlt
                      have hc2 := IntsAt.cell hlw.wear hltq
                      rw [HT.out] at hc1
                      rw [HU.out] at hc2
                      by_cases htu : (t : Int) = (u : Int)
                      · obtain ⟨e5, e6⟩ := eq_bool htu
                        have HTu := hid htu
                        clear htu
                        go_upto_region 25 with fail
                        go_quiet (fail)
                        obtain ⟨wn, hwn⟩ : ∃ wn, World.drewN wk nq = wn := ⟨_, rfl⟩
                        have HB0 := hid (show Below wk.heap.size wk wn from by rw [← hwn]; exact below_drewN HB0.out nq)
                        rw [hwn]
                        clear hwn p0 p1 p2 p3 p4 q0 q1 q2 q3 q4 r0 r1 r2 r3 r4 hlw hc1 hc2
                        obtain ⟨⟨p0, p1, p2, p3, p4⟩, ⟨q0, q1, q2, q3, q4⟩, ⟨r0, r1, r2, r3, r4⟩, hlw⟩ := HC.out wn HB0.out
                        cases g with
                        | false =>
                          go_upto_region 27 with fail
                          go_quiet (fail)
                          have HB0 := hid (show Below wk.heap.size wk _ from below_drewN HB0.out nq)
                          go_wp2_with fail
                          go_roundw
                          case rel => exact ⟨q + 1, false, by omega, rfl, by go_num, ⟨(fun h => by cases h), fun h => (HIff.out.1 h).1⟩, HB.out _ HB0.out⟩
                          case measure => simp [intOf] <;> omega
                        | true =>
                          by_cases hle : z.start ≥ y.stop + x.clean
                          · go_upto_region 27 with fail
                            go_quiet (fail)
                            have HB0 := hid (show Below wk.heap.size wk _ from below_drewN HB0.out nq)
                            go_wp2_with fail
                            go_roundw
                            case rel => exact ⟨q + 1, true, by omega, rfl, by go_num, ⟨fun _ => HIff.out.2 ⟨rfl, fun _ _ => by omega, fun h1 => absurd h1 HPne.out⟩, fun _ => rfl⟩, HB.out _ HB0.out⟩
                            case measure => simp [intOf] <;> omega
                          · go_upto_region 27 with fail
                            go_quiet (fail)
                            have HB0 := hid (show Below wk.heap.size wk _ from below_drewN HB0.out nq)
                            go_wp2_with fail
                            go_roundw
                            case rel => exact ⟨q + 1, false, by omega, rfl, by go_num, ⟨(fun h => by cases h), fun h => absurd ((HIff.out.1 h).2.1 HPne.out HTu.out) (by omega)⟩, HB.out _ HB0.out⟩
                            case measure => simp [intOf] <;> omega
                      · obtain ⟨e5, e6⟩ := ne_bool htu
                        have HTu := hid htu
                        clear htu
                        go_upto_region 25 with fail
                        go_quiet (fail)
                        obtain ⟨wn, hwn⟩ : ∃ wn, World.drewN wk nq = wn := ⟨_, rfl⟩
                        have HB0 := hid (show Below wk.heap.size wk wn from by rw [← hwn]; exact below_drewN HB0.out nq)
                        rw [hwn]
                        clear hwn p0 p1 p2 p3 p4 q0 q1 q2 q3 q4 r0 r1 r2 r3 r4 hlw hc1 hc2
                        obtain ⟨⟨p0, p1, p2, p3, p4⟩, ⟨q0, q1, q2, q3, q4⟩, ⟨r0, r1, r2, r3, r4⟩, hlw⟩ := HC.out wn HB0.out
                        go_upto_region 27 with fail
                        go_quiet (fail)
                        have HB0 := hid (show Below wk.heap.size wk _ from below_drewN HB0.out nq)
                        go_wp2_with fail
                        go_roundw
                        case rel => exact ⟨q + 1, g, by omega, rfl, by go_num, ⟨fun h => HIff.out.2 ⟨h, fun _ h1 => absurd h1 HTu.out, fun h1 => absurd h1 HPne.out⟩, fun h => (HIff.out.1 h).1⟩, HB.out _ HB0.out⟩
                        case measure => simp [intOf] <;> omega
end Go.Proofs.Ytdcinngdilfpnaa
