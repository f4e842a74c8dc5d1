/-
  WALKS: ParadeBest.
-/
import Derived.Test.YtgfipifgijohhaaDoorLca
import Derived.Test.YtgfipifgijohhaaDoorPln
import Derived.Test.YtgfipifgijohhaaDoorPlp
import Derived.Test.YtgfipifgijohhaaDoorOrdG
namespace Go.Proofs.YtgfipifgijohhaaDoor
open Go.RowKit

set_option linter.unusedSimpArgs false in
set_option maxHeartbeats 16000000 in
set_option maxRecDepth 100000 in
theorem bestL_any (xs : List Int) (v : Value) (w : World) (hX : IntsAt none w v xs) (hn : xs.length ≤ 9223372036854775807) :
    Calls Tryd.prog 15 #[v] w fun e w' => e = .returned (.bool true) ∧ Below w.heap.size w w' := by
  have HX := hid hX
  obtain ⟨ax, cx, rfl, _⟩ := hX
  go_enter Tryd.func15, Tryd.ntmps15
  go_wp2_with fail
  refine (drumOf_any xs _ w HX.out hn).mono ?_
  rintro e w1 ⟨rfl, hb1, hl1⟩
  have K := hid (LK.start hb1 hl1 (Nat.le_refl _))
  obtain ⟨D, hD⟩ : ∃ D, w.heap.size = D := ⟨_, rfl⟩
  rw [hD] at K ⊢
  have HD := hid hD
  clear hb1 hl1 HX hD
  go_wp2_with fail
  refine (schoolOf_any _ 4 _ K.out.beat (by decide) (by decide)).mono ?_
  rintro e w3 ⟨route, vw, ws, rfl, hr1, hr2, h0, h6, hm, hown, hbt, hgb⟩
  obtain ⟨bw, ow, cap, rfl, _, _⟩ := (hown.at (d := none) (by simp)).slice h0
  have K := hid (K.out.addWgs (K.out.go hgb hbt) hown)
  clear hgb hbt hown
  have h8 : ws.length ≤ 8 := by omega
  have hc := hid (made_check hm hr1 hr2 h0 h8)
  go_wp2_with fail
  refine (rulesOf_any _ _ K.out.beat).mono ?_
  rintro e w5 ⟨ra, rb, rc, rfl, ha1, ha2, hab, hb2, hc1, hc2, hbt, hgb⟩
  have K := hid (K.out.go hgb hbt)
  clear hbt hgb
  have K := hid (K.out.box2 (.int .i64 route) (.slice (some ⟨bw, ow, none⟩) ws.length cap) 24)
  have Hneq := hid (fun b o v h => Nat.ne_of_lt (K.out.clt (b := b) (o := o) (v := v) h))
  have K := hid (K.out.box3 (.int .i64 ra) (.int .i64 rb) (.int .i64 rc) 50)
  go_upto_region 3 with fail
  simp only [World.size_alloc] at K Hneq
  obtain ⟨B, hB⟩ : ∃ B, w5.heap.size = B := ⟨_, rfl⟩
  rw [hB] at K Hneq ⊢
  obtain ⟨Y, hY⟩ : ∃ Y, B + 1 = Y := ⟨_, rfl⟩
  rw [hY] at K Hneq ⊢
  obtain ⟨wA, hwA, KA⟩ := K.out.name
  rw [hwA]
  have K := hid KA
  clear hwA KA hB hY
  have K0 := K
  have K := hid K.out.drew
  have y1 := K.out.c (b := Y) (o := 1) (v := .int .i64 rb) (by simp)
  have f1 := K.out.f (b := Y) (o := 1) (v := .int .i64 rb) (by simp)
  refine wp_region_noPanic ?_
  refine wp_region_G (L := 7) (S := fun w' : World => w'.cell? ⟨Y, 1, none⟩ = some (.int .i64 rb)) (by kernel_rfl) ?_
  refine wpAnyG_take (i := 0) (oi := _) (v := ?_) rfl (by kernel_rfl) (by kernel_rfl) (by kernel_rfl) (by kernel_rfl) (fun _ _ _ h => h) (Or.inl ⟨by rfl, ?_⟩) (y1) ?_
  rotate_left
  · intro w hSw; (try dsimp only at hSw); go_simp; try with_reducible rfl
  try simp only [Act.put, List.setIfInBounds_toArray, List.set_cons_zero, List.set_cons_succ]
  refine wpAnyG_take (i := 1) (oi := _) (v := ?_) rfl (by kernel_rfl) (by kernel_rfl) (by kernel_rfl) (by kernel_rfl) (fun _ _ _ h => h) (Or.inl ⟨by rfl, ?_⟩) (y1) ?_
  rotate_left
  · intro w hSw; (try dsimp only at hSw); go_simp; try with_reducible rfl
  try simp only [Act.put, List.setIfInBounds_toArray, List.set_cons_zero, List.set_cons_succ]
  refine wpAnyG_take (i := 2) (oi := _) (v := ?_) rfl (by kernel_rfl) (by kernel_rfl) (by kernel_rfl) (by kernel_rfl) (fun _ _ _ h => h) (Or.inl ⟨by rfl, ?_⟩) (y1) ?_
  rotate_left
  · intro w hSw; (try dsimp only at hSw); go_simp; try with_reducible rfl
  try simp only [Act.put, List.setIfInBounds_toArray, List.set_cons_zero, List.set_cons_succ]
  refine wpAnyG_ready (rs := [3]) (by kernel_rfl) (by simp) ?_
  refine AllReadyG.cons (o := _) rfl (fun K' hK => ?_) ?_
  rotate_left
  · exact AllReadyG.nil
  go_simp
  have K := hid (K0.out.alloc (.cells #[.int .i64 0, .int .i64 300, .int .i64 5000] 3)).drew
  have HLt := hid ((ints_three D wA 0 300 5000 K0.out.beat.lt).below (Below.refl _ _).drew)
  clear y1
  have y1 := K.out.c (b := Y) (o := 1) (v := .int .i64 rb) (by simp)
  refine hK.out _ _ (fun _ => y1) (fun _ => ?_)
  clear hK K'
  try simp only [Act.put, List.setIfInBounds_toArray, List.set_cons_zero, List.set_cons_succ]
  refine wpAnyG_ready (rs := [4]) (by kernel_rfl) (by simp) ?_
  refine AllReadyG.cons (o := _) rfl (fun K' hK => ?_) ?_
  rotate_left
  · exact AllReadyG.nil
  go_simp
  go_at_call 36; refine (any_any _ [0, 300, 5000] _ _ K.out.beat HLt.out (by simp) (by simp)).mono ?_; rintro e w6 ⟨j, hj, rfl, hbt, hgb⟩
  have K := hid (K.out.go hgb hbt)
  clear hbt hgb
  obtain ⟨z, hzq, hz1, hz2⟩ := any_three_ex (lo := 0) (hi := 5000) (by omega) (by omega) (by omega) hj
  rw [hzq]
  clear hzq hj
  have zw : IntKind.i64.wrap (rb + z) = rb + z := IntWalk.i64_in _ (by omega)
  clear y1 f1
  have y1 := K.out.c (b := Y) (o := 1) (v := .int .i64 rb) (by simp)
  have f1 := K.out.f (b := Y) (o := 1) (v := .int .i64 rb) (by simp)
  refine hK.out _ _ (fun _ => y1) (fun _ => ?_)
  clear hK K'
  try simp only [Act.put, List.setIfInBounds_toArray, List.set_cons_zero, List.set_cons_succ]
  refine wpAnyG_take (i := 5) (oi := _) (v := ?_) rfl (by kernel_rfl) (by kernel_rfl) (by kernel_rfl) (by kernel_rfl) (fun _ _ _ h => h) (Or.inl ⟨by rfl, ?_⟩) (y1) ?_
  rotate_left
  · intro w hSw; (try dsimp only at hSw); go_simp; try with_reducible rfl
  try simp only [Act.put, List.setIfInBounds_toArray, List.set_cons_zero, List.set_cons_succ]
  refine wpAnyG_take (i := 6) (oi := _) (v := ?_) rfl (by kernel_rfl) (by kernel_rfl) (by kernel_rfl) (by kernel_rfl) (fun _ _ _ h => h) (Or.inl ⟨by rfl, ?_⟩) (y1) ?_
  rotate_left
  · intro w hSw; (try dsimp only at hSw); go_simp; try with_reducible rfl
  try simp only [Act.put, List.setIfInBounds_toArray, List.set_cons_zero, List.set_cons_succ]
  refine wpAnyG_ready (rs := [7]) (by kernel_rfl) (by simp) ?_
  refine AllReadyG.cons (o := _) rfl (fun K' hK => ?_) ?_
  rotate_left
  · exact AllReadyG.nil
  go_simp
  refine hK.out _ _ (fun h => absurd rfl h) (fun _ => ?_)
  clear hK K'
  try simp only [Act.put, List.setIfInBounds_toArray, List.set_cons_zero, List.set_cons_succ]
  refine wpAnyG_done (by kernel_rfl) ?_ _
  refine NoPanic.normal ?_
  have K := hid (K.out.put3_1 Hneq.out (x' := .int .i64 (rb + z)))
  obtain ⟨wC, hwC, KC⟩ := K.out.name
  rw [hwC]
  have K := hid KC
  clear hwC KC y1 f1 K0 HLt
  obtain ⟨M, hM⟩ : ∃ M, rb + z = M := ⟨_, rfl⟩
  rw [hM] at K ⊢
  have hM1 : ra ≤ M := by omega
  have hM2 : M ≤ 7400 := by omega
  clear hM zw
  have b0 := K.out.c (b := B) (o := 0) (v := .int .i64 route) (by simp)
  have b1 := K.out.c (b := B) (o := 1) (v := .slice (some ⟨bw, ow, none⟩) ws.length cap) (by simp)
  have y0 := K.out.c (b := Y) (o := 0) (v := .int .i64 ra) (by simp)
  have y1 := K.out.c (b := Y) (o := 1) (v := .int .i64 M) (by simp)
  have y2 := K.out.c (b := Y) (o := 2) (v := .int .i64 rc) (by simp)
  have PF := hid (plan_facts (route := route) (ws := ws) (a := ra) (b := M) (c := rc) hc.out (by omega) (rules_wide (by omega) (by omega) (by omega) (by omega) (by omega)))
  have PW := hid (fun a' b' (h1 : 0 ≤ a') (h2 : a' ≤ ra) (h3 : M ≤ b') (h4 : b' ≤ 100000) => plan_wider (route := route) (ws := ws) (a := ra) (b := M) (c := rc) (a' := a') (b' := b') (c' := rc) hc.out (by omega) (rules_wide (by omega) (by omega) (by omega) (by omega) (by omega)) (rules_wide h1 (by omega) h4 (by omega) (by omega)) h2 h3)
  go_wp2_with fail
  refine (pPlan_any ws route ra M rc _ _ (K.out.g (by simp)).any (by omega) (made_size hm h8)).mono ?_
  rintro e w7 ⟨vb, rfl, hob, hb7⟩
  obtain ⟨best, G, hO⟩ : ∃ best G, planRes route ws ra M rc = (best, G) := ⟨_, _, rfl⟩
  obtain ⟨E, hE⟩ : ∃ E, planErr route ws ra M rc = E := ⟨_, rfl⟩
  have hbl : best.length ≤ 1000000 := planRes_len hO (by omega)
  rw [hO, hE] at PF PW ⊢
  rw [hO] at hob
  dsimp only at PF PW hob ⊢
  obtain ⟨ab, cb, rfl⟩ := hob.form
  have K := hid (K.out.addInts (K.out.later hb7) hob)
  clear hO hE hob hb7 b0 b1 y0 y1 y2
  have y0 := K.out.c (b := Y) (o := 0) (v := .int .i64 ra) (by simp)
  have y1 := K.out.c (b := Y) (o := 1) (v := .int .i64 M) (by simp)
  have y2 := K.out.c (b := Y) (o := 2) (v := .int .i64 rc) (by simp)
  have HneqZ := hid (fun b o v h => Nat.ne_of_lt (K.out.clt (b := b) (o := o) (v := v) h))
  have K := hid (K.out.box3 (.int .i64 ra) (.int .i64 M) (.int .i64 rc) 50)
  go_upto_region 6 with fail
  obtain ⟨Z, hZ⟩ : ∃ Z, w7.heap.size = Z := ⟨_, rfl⟩
  rw [hZ] at K HneqZ ⊢
  obtain ⟨wD, hwD, KD⟩ := K.out.name
  rw [hwD]
  have K := hid KD
  clear hwD KD hZ y0 y1 y2
  have hZY : Z ≠ Y := Ne.symm (HneqZ.out Y 0 (.int .i64 ra) (by simp))
  go_cut [] from 44 to 55 (fun wx => ∃ q1 q2 : Int, 0 ≤ q1 ∧ q1 ≤ ra ∧ 0 ≤ q2 ∧ q2 ≤ 100 ∧ LK D [(Z, 0, .int .i64 q1), (Z, 1, .int .i64 (M + q2)), (Z, 2, .int .i64 rc), (Y, 0, .int .i64 ra), (Y, 1, .int .i64 M), (Y, 2, .int .i64 rc), (B, 0, .int .i64 route), (B, 1, .slice (some ⟨bw, ow, none⟩) ws.length cap)] [(.slice ab best.length cb, best)] [(.slice (some ⟨bw, ow, none⟩) ws.length cap, ws)] w wx)
  case first =>
    have K := hid K.out.drew
    have zw1 : IntKind.i64.wrap (ra + 1) = ra + 1 := IntWalk.i64_in _ (by omega)
    go_region_held3 (fun w' => w'.cell? ⟨Y, 0, none⟩ = some (.int .i64 ra) ∧ w'.cell? ⟨Y, 1, none⟩ = some (.int .i64 M))
      (first | exact ⟨K.out.c (by simp), K.out.c (by simp)⟩ | exact ⟨cell_set_far hZY (K.out.c (by simp)), cell_set_far hZY (K.out.c (by simp))⟩ | exact ⟨cell_set_far hZY (cell_set_far hZY (K.out.c (by simp))), cell_set_far hZY (cell_set_far hZY (K.out.c (by simp)))⟩) (first
      | (go_at_call 40; with_reducible refine (roll_any _ (ra + 1) _ K.out.beat ?_).mono ?_; omega; rintro e w8 ⟨q1, rfl, hq1, hq2, hbt, hgb⟩; have K := hid (K.out.go hgb hbt); clear hbt hgb; have z0 := K.out.c (b := Z) (o := 0) (v := .int .i64 ra) (by simp); have z1 := K.out.c (b := Z) (o := 1) (v := .int .i64 M) (by simp); have g0 := K.out.f (b := Z) (o := 0) (v := .int .i64 ra) (by simp); have g1 := K.out.f (b := Z) (o := 1) (v := .int .i64 M) (by simp))
      | (go_at_call 40; with_reducible refine (roll_any _ 100 _ K.out.beat ?_).mono ?_; omega; rintro e w9 ⟨q2, rfl, hq3, hq4, hbt, hgb⟩; have K := hid (K.out.go hgb hbt); clear hbt hgb; have zw2 : IntKind.i64.wrap (M + q2) = M + q2 := IntWalk.i64_in _ (by omega); have z0 := K.out.c (b := Z) (o := 0) (v := .int .i64 ra) (by simp); have z1 := K.out.c (b := Z) (o := 1) (v := .int .i64 M) (by simp); have g0 := K.out.f (b := Z) (o := 0) (v := .int .i64 ra) (by simp); have g1 := K.out.f (b := Z) (o := 1) (v := .int .i64 M) (by simp)))
    all_goals (
      go_wp2_with fail
      go_meet
      exact ⟨q1, q2, by omega, by omega, by omega, by omega, by first | exact (K.out.put3_0 HneqZ.out).put3_1 HneqZ.out | exact (K.out.put3_1 HneqZ.out).put3_0 HneqZ.out⟩)
  case rest =>
    as_aux_lemma =>
    obtain ⟨q1, q2, hq1, hq2, hq3, hq4, KK⟩ := hcut
    have K := hid KK
    clear KK
    have b0 := K.out.c (b := B) (o := 0) (v := .int .i64 route) (by simp)
    have b1 := K.out.c (b := B) (o := 1) (v := .slice (some ⟨bw, ow, none⟩) ws.length cap) (by simp)
    have z0 := K.out.c (b := Z) (o := 0) (v := .int .i64 q1) (by simp)
    have z1 := K.out.c (b := Z) (o := 1) (v := .int .i64 (M + q2)) (by simp)
    have z2 := K.out.c (b := Z) (o := 2) (v := .int .i64 rc) (by simp)
    go_wp2_with fail
    refine (pPlan_any ws route q1 (M + q2) rc _ _ (K.out.g (by simp)).any (by omega) (made_size hm h8)).mono ?_
    rintro e w10 ⟨vL, rfl, hob, hb10⟩
    obtain ⟨lb, LG, hO⟩ : ∃ lb LG, planRes route ws q1 (M + q2) rc = (lb, LG) := ⟨_, _, rfl⟩
    obtain ⟨F, hF⟩ : ∃ F, planErr route ws q1 (M + q2) rc = F := ⟨_, rfl⟩
    have PW := hid (PW.out q1 (M + q2) hq1 hq2 (by omega) (by omega))
    rw [hO, hF] at PW ⊢
    dsimp only at PW ⊢
    have K := hid (K.out.later hb10)
    clear hO hF hob hb10 b0 b1 z0 z1 z2
    have hE07 := PF.out.err
    go_upto_region 8 with fail
    go_cut [81] from 63 to 81 (fun s wx => s = .bool false ∧ LK D [(Z, 0, .int .i64 q1), (Z, 1, .int .i64 (M + q2)), (Z, 2, .int .i64 rc), (Y, 0, .int .i64 ra), (Y, 1, .int .i64 M), (Y, 2, .int .i64 rc), (B, 0, .int .i64 route), (B, 1, .slice (some ⟨bw, ow, none⟩) ws.length cap)] [(.slice ab best.length cb, best)] [(.slice (some ⟨bw, ow, none⟩) ws.length cap, ws)] w wx)
    case first =>
      rcases hE07 with hE | hE
      · obtain ⟨d1, d2⟩ := PW.out hE
        subst hE
        obtain ⟨e1, e2⟩ := eq_bool d1
        have hle : ¬ G < LG := by omega
        clear d1 d2
        go_wp2_with fail
        go_meet
        exact ⟨rfl, K.out⟩
      · subst hE
        go_wp2_with fail
        go_meet
        exact ⟨rfl, K.out⟩
    case rest =>
      as_aux_lemma =>
      obtain ⟨rfl, hcut⟩ := hcut
      have K := hid hcut
      clear hcut PW
      have Hsm := hid (Small.of_check hc.out)
      have b0 := K.out.c (b := B) (o := 0) (v := .int .i64 route) (by simp)
      have b1 := K.out.c (b := B) (o := 1) (v := .slice (some ⟨bw, ow, none⟩) ws.length cap) (by simp)
      go_wp2_with fail
      refine (rplans_any ws route Hsm.out (by omega) h0 ws.length [] _ (.slice none 0 0) wc.heap.size wc (K.out.g (by simp)).any (own_nil _ _) (fun _ => rfl) (Nat.le_refl _) (Begun.nil ws) (by simp)).mono ?_
      rintro e w11 ⟨v3, rfl, ⟨vs3, hR3⟩, hb11⟩
      have Hmem := hid (show ∀ p, p ∈ plansR ws ws.length [] → checkStarts route ws p = 0 ∧ p.length = ws.length from fun p hp => by
        obtain ⟨g1, g2⟩ := plansR_mem Hsm.out (Begun.nil ws) (by simp) hp
        exact ⟨g1.whole hc.out g2, g2⟩)
      have hRl : (plansR ws ws.length []).length ≤ 100000 := by
        have h1 := plansR_length ws ws.length []
        have h2 : 4 ^ ws.length ≤ 4 ^ 4 := Nat.pow_le_pow_right (by omega) (by omega)
        omega
      obtain ⟨R, hR⟩ : ∃ R, plansR ws ws.length [] = R := ⟨_, rfl⟩
      rw [hR] at PF Hmem hRl hR3
      have HR := hid hR3
      have KL := hid (K.out.later hb11)
      have hfm := HR.out.own.form
      rw [HR.out.len] at hfm
      obtain ⟨ga, gc, rfl⟩ := hfm
      clear hR hR3 hb11 b0 b1 K
      go_wp2_with fail
      go_loopw [14, 15] (fun fo i wr => ∃ k : Nat, k ≤ R.length ∧ fo = .bool (seen route ws ra M G R k) ∧ i = .int .i64 k ∧ Below w11.heap.size w11 wr)
        (fun _ i _ => R.length - (intOf i).toNat)
      case atStart => exact ⟨0, by omega, by rw [seen_zero], rfl, Below.refl _ _⟩
      case round =>
        as_aux_lemma =>
        obtain ⟨k, hk, rfl, rfl, hbw⟩ := hrel
        have Hbw := hid hbw
        have K := hid (KL.out.later hbw)
        clear hbw
        obtain ⟨wo, rfl⟩ : ∃ wo : World, wo = wr := ⟨_, rfl⟩
        by_cases hlt : k < R.length
        · obtain ⟨g, cg, ra', rc', eg, hg2, hcell, hrow⟩ := HR.out.at hlt
          cases eg
          have Hround := hid (PF.out.round k hlt)
          have Hseen := hid (seen_succ route ws ra M G R hlt)
          obtain ⟨hcs, hrl⟩ := Hmem.out _ (List.getElem_mem hlt)
          obtain ⟨r, hr⟩ : ∃ r, R[k] = r := ⟨_, rfl⟩
          rw [hr] at hcell hrow hcs hrl Hround Hseen
          have Hrow := hid hrow
          have hrl2 : r.length ≤ 1000000 := by omega
          have hks := keeps_sure (route := route) (ws := ws) (a := ra) (b := M) (p := r)
          have hrz : rulesErr ra M rc = 0 := rules_wide (by omega) (by omega) (by omega) (by omega) (by omega)
          have HLa := hid (fun vw' vs' W' g1 g2 => pLasts_any ws r route ra M rc vw' vs' W' g1 g2 (by omega) (made_size hm h8) hrl2)
          have HWi := hid (fun vw' vs' W' g1 g2 => Widest_any ws r route vw' vs' W' g1 g2 (by omega) (made_size hm h8) hrl2)
          have hbe : bothErr route ws r ra M rc = 0 := by unfold bothErr; rw [if_pos hcs]; exact hrz
          have hla : lastsRes route ws r ra M rc = (verdictOf ra M (longOf route ws r (Hi ws)) (longOf route ws r (Lo ws)), longOf route ws r (Hi ws), longOf route ws r (Lo ws)) := by unfold lastsRes; rw [if_pos hbe]
          have hwi : widestRes route ws r = ((mostN route ws r (ws.length - 1)).1, (mostN route ws r (ws.length - 1)).2.1, (mostN route ws r (ws.length - 1)).2.2, 0) := by unfold widestRes; rw [if_pos hcs]
          have hgp : gapP route ws r = (mostN route ws r (ws.length - 1)).2.2 := rfl
          rw [hbe, hla] at HLa
          rw [hwi] at HWi
          rw [hgp] at Hround Hseen
          obtain ⟨LH, hLH⟩ : ∃ x, longOf route ws r (Hi ws) = x := ⟨_, rfl⟩
          obtain ⟨LL, hLL⟩ : ∃ x, longOf route ws r (Lo ws) = x := ⟨_, rfl⟩
          obtain ⟨V, hV⟩ : ∃ V, verdictOf ra M (longOf route ws r (Hi ws)) (longOf route ws r (Lo ws)) = V := ⟨_, rfl⟩
          rw [hV, hLH, hLL] at HLa
          rw [hV] at hks
          obtain ⟨M1, M2, M3, hMM⟩ : ∃ M1 M2 M3, mostN route ws r (ws.length - 1) = (M1, M2, M3) := ⟨_, _, _, rfl⟩
          rw [hMM] at HWi Hround Hseen
          dsimp only at HLa HWi Hround Hseen
          have i6 : (k : Int) < (R.length : Int) := by omega
          have z1 : IntKind.i64.wrap ((k : Int) + 1) = (k : Int) + 1 := IntWalk.i64_in _ (by omega)
          obtain ⟨fo, hfo⟩ : ∃ fo, seen route ws ra M G R k = fo := ⟨_, rfl⟩
          rw [hfo] at Hround Hseen ⊢
          have Hrl := hid hrl
          clear hr hrow hcs hrl hrz hbe hla hwi hgp hLH hLL hV hMM hfo
          go_upto_region 15 with fail
          have KA := hid (K.out.box2 (.int .i64 0) (.int .i64 0) 27).drew
          have HbA := hid (Hbw.out.trans ((below_alloc wo (.cells #[.int .i64 0, .int .i64 0] 27)).drew.mono Hbw.out.size))
          have hneA : ∀ b' o' v', (b', o', v') ∈ ([(Z, 0, .int .i64 q1), (Z, 1, .int .i64 (M + q2)), (Z, 2, .int .i64 rc), (Y, 0, .int .i64 ra), (Y, 1, .int .i64 M), (Y, 2, .int .i64 rc), (B, 0, .int .i64 route), (B, 1, .slice (some ⟨bw, ow, none⟩) ws.length cap)] : Cells) → b' ≠ wo.heap.size := fun b' o' v' h => Nat.ne_of_lt (K.out.clt h)
          have HneA := hid hneA
          have hoS : w11.heap.size ≤ wo.heap.size := Hbw.out.size
          clear hneA
          go_cut [16, 18] from 91 to 110 (fun s16 s18 wx => s16 = .int .i64 V ∧ s18 = .int .i64 0 ∧ LK D [(Z, 0, .int .i64 q1), (Z, 1, .int .i64 (M + q2)), (Z, 2, .int .i64 rc), (Y, 0, .int .i64 ra), (Y, 1, .int .i64 M), (Y, 2, .int .i64 rc), (B, 0, .int .i64 route), (B, 1, .slice (some ⟨bw, ow, none⟩) ws.length cap)] [(.slice ab best.length cb, best)] [(.slice (some ⟨bw, ow, none⟩) ws.length cap, ws)] w wx ∧ Below w11.heap.size w11 wx)
          case first =>
            have K := hid K.out.drew
            have Hbw := hid Hbw.out.drew
            go_region_held3 (fun w' => w'.cell? ⟨B, 0, none⟩ = some (.int .i64 route) ∧ w'.cell? ⟨B, 1, none⟩ = some (.slice (some ⟨bw, ow, none⟩) ws.length cap) ∧ w'.cell? ⟨Y, 0, none⟩ = some (.int .i64 ra) ∧ w'.cell? ⟨Y, 1, none⟩ = some (.int .i64 M) ∧ w'.cell? ⟨Y, 2, none⟩ = some (.int .i64 rc) ∧ w'.cell? ⟨g, k, none⟩ = some (.slice ra' r.length rc'))
              (first | with_reducible exact ⟨K.out.c (by simp), K.out.c (by simp), K.out.c (by simp), K.out.c (by simp), K.out.c (by simp), cell_back Hbw.out hg2 hcell⟩ | with_reducible exact ⟨KA.out.c (by simp), KA.out.c (by simp), KA.out.c (by simp), KA.out.c (by simp), KA.out.c (by simp), cell_back HbA.out hg2 hcell⟩ | with_reducible exact ⟨KF.out.c (by simp), KF.out.c (by simp), KF.out.c (by simp), KF.out.c (by simp), KF.out.c (by simp), cell_back HbF.out hg2 hcell⟩ | with_reducible exact ⟨K1.out.c (by simp), K1.out.c (by simp), K1.out.c (by simp), K1.out.c (by simp), K1.out.c (by simp), cell_back Hb1.out hg2 hcell⟩ | exact ⟨(K1.out.alloc _).c (by simp), (K1.out.alloc _).c (by simp), (K1.out.alloc _).c (by simp), (K1.out.alloc _).c (by simp), (K1.out.alloc _).c (by simp), cell_up (cell_back Hb1.out hg2 hcell)⟩) (first
              | (go_at_call 37; with_reducible refine (HLa.out _ _ _ (K.out.g (by simp)).any (OwnInts.at (OwnInts.later Hrow.out Hbw.out) (by simp))).mono ?_; rintro e w12 ⟨rfl, hb⟩; have K1 := hid (K.out.later hb); have Hb1 := hid (Hbw.out.trans (hb.mono Hbw.out.size)); have KF := hid (K1.out.alloc (.cells #[.int .i64 LH, .int .i64 LL] 27)); have HbF := hid (Hb1.out.trans ((below_alloc w12 (.cells #[.int .i64 LH, .int .i64 LL] 27)).mono Hb1.out.size)); clear hb)
              | (go_at_call 37; with_reducible refine (HLa.out _ _ _ (KA.out.g (by simp)).any (OwnInts.at (OwnInts.later Hrow.out HbA.out) (by simp))).mono ?_; rintro e w12 ⟨rfl, hb⟩; have K1 := hid (KA.out.later hb); have Hb1 := hid (HbA.out.trans (hb.mono HbA.out.size)); have c0 := K1.out.c (b := wo.heap.size) (o := 0) (v := .int .i64 0) (by simp); have c1 := K1.out.c (b := wo.heap.size) (o := 1) (v := .int .i64 0) (by simp); have f0 := K1.out.f (b := wo.heap.size) (o := 0) (v := .int .i64 0) (by simp); have f1 := K1.out.f (b := wo.heap.size) (o := 1) (v := .int .i64 0) (by simp); have KF := hid ((K1.out.put2 HneA.out (x' := .int .i64 LH) (y' := .int .i64 LL)).sub (fun x hx => List.mem_cons_of_mem _ (List.mem_cons_of_mem _ hx))); have HbF := hid ((Hb1.out.setCell (p := ⟨wo.heap.size, 0, none⟩) hoS (.int .i64 LH)).setCell (p := ⟨wo.heap.size, 1, none⟩) hoS (.int .i64 LL)); clear hb))
            all_goals (
              go_wp2_with fail
              go_meet
              exact ⟨rfl, rfl, KF.out, HbF.out⟩)
          case rest =>
            as_aux_lemma =>
            obtain ⟨rfl, rfl, KK, HH⟩ := hcut
            have K := hid KK
            have Hbw := hid HH
            clear KK HH KA HbA HneA hoS HLa
            obtain ⟨wo, rfl⟩ : ∃ wo : World, wo = wc := ⟨_, rfl⟩
            go_wp2_with fail
            have K := hid K.out.drew
            have Hbw := hid Hbw.out.drew
            go_region_held3 (fun w' => w'.cell? ⟨B, 0, none⟩ = some (.int .i64 route) ∧ w'.cell? ⟨B, 1, none⟩ = some (.slice (some ⟨bw, ow, none⟩) ws.length cap) ∧ w'.cell? ⟨g, k, none⟩ = some (.slice ra' r.length rc'))
              (first | with_reducible exact ⟨K.out.c (by simp), K.out.c (by simp), cell_back Hbw.out hg2 hcell⟩) (first
              | (go_at_call 56; refine (HWi.out _ _ _ (K.out.g (by simp)).any (OwnInts.at (OwnInts.later Hrow.out Hbw.out) (by simp))).mono ?_; rintro e w13 ⟨rfl, hb⟩; have K := hid (K.out.later hb); have Hbw := hid (Hbw.out.trans (hb.mono Hbw.out.size)); clear hb))
            have rcell := cell_back Hbw.out hg2 hcell
            by_cases hkp : keeps route ws ra M r = true
            · obtain ⟨v1, v2⟩ := eq_bool (hks.1 hkp)
              obtain ⟨hE0, hG, hbest⟩ := Hround.out hkp
              have hsn : ∀ bb : Bool, decide (M3 = G) = bb → seen route ws ra M G R (k + 1) = (fo || bb) := fun bb hb => by rw [Hseen.out, hkp, hb]; simp
              have Hsn := hid hsn
              have Hbest := hid hbest
              subst hE0
              clear hks hkp Hround Hseen hsn hbest
              by_cases hM3 : M3 = G
              · have Hs := hid (Hsn.out true (decide_eq_true hM3))
                have Hb2 := hid (Hbest.out hM3)
                obtain ⟨e1, e2⟩ := eq_bool hM3
                have e3 : ¬ M3 < G := by omega
                clear hM3 Hsn Hbest hG
                cases fo with
                | true =>
                  go_wp2
                  go_roundw
                  case rel => exact ⟨k + 1, by omega, by rw [Hs.out]; rfl, by go_num, Hbw.out⟩
                  case measure => simp [intOf] <;> omega
                | false =>
                  have hbr : best = r := Hb2.out rfl
                  subst hbr
                  go_wp2_with (go_at_call 31; refine (eqInts_same best _ _ none none _ (OwnInts.at (OwnInts.later Hrow.out Hbw.out) (by simp)) (K.out.i (v := .slice ab best.length cb) (xs := best) (by simp)).any hbl).mono ?_; rintro e w15 ⟨rfl, hb⟩; have Hbw := hid (Hbw.out.trans (hb.mono Hbw.out.size)); clear hb)
                  go_roundw
                  case rel => exact ⟨k + 1, by omega, by rw [Hs.out]; rfl, by go_num, Hbw.out⟩
                  case measure => simp [intOf] <;> omega
              · have Hs := hid (Hsn.out false (decide_eq_false hM3))
                obtain ⟨e1, e2⟩ := ne_bool hM3
                have e3 : ¬ M3 < G := by omega
                clear hM3 Hsn Hbest hG
                cases fo with
                | true =>
                  go_wp2
                  go_roundw
                  case rel => exact ⟨k + 1, by omega, by rw [Hs.out]; rfl, by go_num, Hbw.out⟩
                  case measure => simp [intOf] <;> omega
                | false =>
                  go_wp2
                  go_roundw
                  case rel => exact ⟨k + 1, by omega, by rw [Hs.out]; rfl, by go_num, Hbw.out⟩
                  case measure => simp [intOf] <;> omega
            · obtain ⟨v1, v2⟩ := ne_bool (fun h => hkp (hks.2 h))
              have Hs := hid (show seen route ws ra M G R (k + 1) = fo from by rw [Hseen.out]; simp [hkp])
              clear hks hkp Hround Hseen
              go_wp2
              go_roundw
              case rel => exact ⟨k + 1, by omega, by rw [Hs.out], by go_num, Hbw.out⟩
              case measure => simp [intOf] <;> omega
        · obtain rfl : k = R.length := by omega
          have hl := PF.out.last
          have Hl := hid hl
          obtain ⟨fo, hfo⟩ : ∃ fo, seen route ws ra M G R R.length = fo := ⟨_, rfl⟩
          rw [hfo] at Hl ⊢
          clear hl hfo
          rcases hE07 with hE | hE
          · subst hE
            obtain rfl : fo = true := by rw [Hl.out]; rfl
            go_wp2_with (go_at_call 18; refine (awake_any _).mono ?_; rintro e w16 ⟨rfl, hb16⟩)
            go_ret
            exact ⟨rfl, HD.out ▸ (K.out.later hb16).below⟩
          · subst hE
            obtain rfl : fo = false := by rw [Hl.out]; rfl
            go_wp2_with (go_at_call 18; refine (awake_any _).mono ?_; rintro e w16 ⟨rfl, hb16⟩)
            go_ret
            exact ⟨rfl, HD.out ▸ (K.out.later hb16).below⟩
end Go.Proofs.YtgfipifgijohhaaDoor
