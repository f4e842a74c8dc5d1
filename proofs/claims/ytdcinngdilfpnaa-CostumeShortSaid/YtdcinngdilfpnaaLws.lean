/-
  WALK: CostumeShort: whatever the numbers are, it returns true.
-/
import Derived.Test.YtdcinngdilfpnaaLwk
import Derived.Test.YtdcinngdilfpnaaCon2
import Derived.StillTailTactics
import Derived.Deep.CutRange
namespace Go.Proofs.Ytdcinngdilfpnaa
open Go.RowKit

set_option maxHeartbeats 16000000 in
set_option maxRecDepth 100000 in
theorem cshort_any (xs : List Int) (v : Value) (w : World) (hX : IntsAt none w v xs) (hn : xs.length ≤ 9223372036854775807) :
    Calls Try.prog 12 #[v] w fun e w' => e = .returned (.bool true) ∧ Below w.heap.size w w' := by
  have HX := hid hX
  obtain ⟨a, c, rfl, _⟩ := hX
  go_enter Try.func12, Try.ntmps12
  go_upto_region 3 with (first
    | (go_at_call 13; refine (drumOf_any xs _ _ HX.out hn).mono ?_; rintro e w1 ⟨rfl, hbt, hbl⟩; have HBt := hid hbt; have HBl := hid hbl; clear hbt hbl)
    | (go_at_call 14; refine (plotOf_any w.heap.size 3 4 _ HBt.out (by omega) (by omega) (by omega) (by omega)).mono ?_; rintro e w2 ⟨vp, vw, vd, vq, p, rfl, hv, hpl, hql, hP, hsd, hbt, hg⟩; obtain ⟨ap, cp, rfl⟩ := hP.persons.form; obtain ⟨aw, cw, rfl⟩ := hP.walk.form; obtain ⟨ad, cd, ed, _⟩ := hP.dress; subst ed; obtain ⟨aq, cq, rfl⟩ := hP.parts.form; have HV := hid hv; have HSd := hid hsd; have LF0 := hid (LF.start hbt hP (HBl.out.grown hg HBl.out.size (fun g e => by cases e; exact Nat.le_refl _)) (Nat.le_refl _) 29); clear hv hP hbt hg hsd))
  obtain ⟨w3, hw3, L3⟩ := LF0.out.name
  rw [hw3]
  obtain ⟨X, hXs⟩ : ∃ X, w2.heap.size = X := ⟨_, rfl⟩
  rw [hXs] at L3 ⊢
  have L := hid L3
  have AW := hid (fun W' => awake_any W')
  have Vd := hid (plotErr_zero.1 HV.out)
  clear hw3 L3 LF0 HBt HBl HX hXs hn
  have y0 := L.out.c0
  have y1 := L.out.c1
  have y2 := L.out.c2
  have y3 := L.out.c3
  go_upto_region 4 with (go_at_call 15; refine (itemsOf_any w.heap.size 4 p _ _ _ _ _ L.out.beat L.out.plot HV.out (by omega) (by omega)).mono ?_; rintro e w4 ⟨vi, items, rfl, hie, hil, hI, hsi, hbt, hg⟩; obtain ⟨ai, ci, rfl⟩ := ItemsAt.form hI; have L := hid (L.out.go hbt hg); have HI := hid hI; have HIe := hid hie; clear hie hI hsi hbt hg y0 y1 y2 y3)
  have hsm : smallErr p items = 0 := by unfold smallErr; rw [if_pos HIe.out, if_neg (by omega)]
  have HSm := hid hsm
  have HCh := hid (fun l (hl : Inc p.parts.length 0 l) vp vw vd vq vi W' (h1 : PlotAt none W' vp vw vd vq { p with parts := someL p l }) (h2 : ItemsAt none W' vi items) => (cheapest_any { p with parts := someL p l } items vp vw vd vq vi W' h1 h2).mono fun e w' h => (by
    unfold CheapestPost at h
    obtain ⟨v', e1, e2, e3⟩ := h
    rw [show cheapErr { p with parts := someL p l } items = if worn p items l = true then 0 else 7 from by unfold cheapErr; rw [if_pos (small_some hsm hl)]; show (if (bestP { p with parts := someL p l } items (someL p l)).isSome = true then (0 : Int) else 7) = _; rw [best_some]] at e1
    exact ⟨v', _, e1, e3⟩ : ∃ v' c, e = .returned (.tuple #[v', .int .i64 c, .int .i64 (if worn p items l = true then 0 else 7)]) ∧ Below W'.heap.size W' w'))
  have HCw := hid (fun vp vw vd vq vi W' (h1 : PlotAt none W' vp vw vd vq p) (h2 : ItemsAt none W' vi items) => (cheapest_any p items vp vw vd vq vi W' h1 h2).mono fun e w' h => (by
    unfold CheapestPost at h
    obtain ⟨v', e1, e2, e3⟩ := h
    rw [show cheapErr p items = if (bestP p items p.parts).isSome = true then 0 else 7 from by unfold cheapErr; rw [if_pos hsm]] at e1
    exact ⟨v', _, e1, e3⟩ : ∃ v' c, e = .returned (.tuple #[v', .int .i64 c, .int .i64 (if (bestP p items p.parts).isSome = true then 0 else 7)]) ∧ Below W'.heap.size W' w'))
  have HSh := hid (fun vp vw vd vq vi W' (h1 : PlotAt none W' vp vw vd vq p) (h2 : ItemsAt none W' vi items) => (shortc_any p items vp vw vd vq vi W' h1 h2).mono fun e w' h => (by
    unfold ShortPost at h
    rw [hsm] at h
    exact h : ∃ v', e = .returned (.tuple #[v', .int .i64 0]) ∧ OwnInts W'.heap.size w' v' (shortL p items) ∧ Below W'.heap.size W' w'))
  have hF : First p items p.parts.length (shortL p items) := by
    unfold shortL; rw [if_pos hsm]; exact shortS_first p items p.parts.length
  have HOn := hid (fun l (hl : Inc p.parts.length 0 l) vp vw vd vq vl W' (h : PlotAt none W' vp vw vd vq p) (hs : Sound0 vq) (hL : IntsAt none W' vl l) => only_any p l hl Vd.out vp vw vd vq vl W' h hs hL)
  obtain ⟨S, hS⟩ : ∃ S, shortL p items = S := ⟨_, rfl⟩
  rw [hS] at HSh hF
  have HF := hid hF
  have hsn : S.length ≤ p.parts.length := inc_length hF.inc
  clear hsm hS hF
  have y0 := L.out.c0
  have y1 := L.out.c1
  have y2 := L.out.c2
  have y3 := L.out.c3
  go_upto_region 5 with (go_at_call 50; refine (HSh.out _ _ _ _ _ _ L.out.any (RecAt.any HI.out)).mono ?_; rintro e w5 ⟨v5, rfl, ho, hb5⟩; obtain ⟨a5, c5, e5⟩ := (own_int.2 ho).form; subst e5; have HSl := hid (OwnInts.at (d := none) ho (by simp)); have L := hid (L.out.later hb5); have HI := hid (HI.out.below hb5); clear ho hb5 y0 y1 y2 y3)
  have y0 := L.out.c0
  have y1 := L.out.c1
  have y2 := L.out.c2
  have y3 := L.out.c3
  by_cases hSn : S = []
  · have hw : (bestP p items p.parts).isSome = true := by
      cases e : (bestP p items p.parts).isSome with
      | true => rfl
      | false => exact absurd hSn (HF.out.some_iff.2 e)
    have HCw := hid (fun vp vw vd vq vi W' h1 h2 => (HCw.out vp vw vd vq vi W' h1 h2).mono fun e w' h => (by obtain ⟨v', c, e1, e2⟩ := h; rw [if_pos hw] at e1; exact ⟨v', c, e1, e2⟩ : ∃ v' c, e = .returned (.tuple #[v', .int .i64 c, .int .i64 0]) ∧ Below W'.heap.size W' w'))
    have hl0 : S.length = 0 := by rw [hSn]; rfl
    rw [hl0]
    clear hSn hw hl0 hsn
    go_wp2_with (go_at_call 18; refine (HCw.out _ _ _ _ _ _ L.out.any (RecAt.any HI.out)).mono ?_; rintro e w6 ⟨v6, c6, rfl, hb6⟩; have L := hid (L.out.later hb6); clear hb6 y0 y1 y2 y3)
    go_loopw [11] (fun i wr => i = .int .i64 0 ∧ Below w6.heap.size w6 wr) (fun _ _ => 0)
    case atStart => exact ⟨rfl, Below.refl _ _⟩
    case round =>
      obtain ⟨rfl, hb⟩ := hrel
      have L := hid (L.out.later hb)
      clear hb
      go_wp2_with (go_at_call 19; refine (AW.out _).mono ?_; rintro e wz ⟨rfl, hbz⟩; have L := hid (L.out.later hbz); clear hbz)
      go_ret
      exact ⟨rfl, L.out.below⟩
  · have hw : ¬ (bestP p items p.parts).isSome = true := by rw [HF.out.some_iff.1 hSn]; simp
    have HCw := hid (fun vp vw vd vq vi W' h1 h2 => (HCw.out vp vw vd vq vi W' h1 h2).mono fun e w' h => (by obtain ⟨v', c, e1, e2⟩ := h; rw [if_neg hw] at e1; exact ⟨v', c, e1, e2⟩ : ∃ v' c, e = .returned (.tuple #[v', .int .i64 c, .int .i64 7]) ∧ Below W'.heap.size W' w'))
    have hpos : (S.length : Int) > 0 := by have := List.length_pos_iff.2 hSn; omega
    have hne : ¬ (S.length : Int) = 0 := by omega
    obtain ⟨g1, g2⟩ := ne_bool hne
    have HBad := hid (HF.out.bad hSn)
    have HLow := hid (HF.out.low hSn)
    clear hSn hw hne
    go_wp2_with (go_at_call 18; refine (HCw.out _ _ _ _ _ _ L.out.any (RecAt.any HI.out)).mono ?_; rintro e w6 ⟨v6, c6, rfl, hb6⟩; have L := hid (L.out.later hb6); have HI := hid (HI.out.below hb6); have HSl := hid (HSl.out.below hb6); clear hb6 y0 y1 y2 y3)
    go_loopw [11] (fun i wr => ∃ k : Nat, k ≤ S.length ∧ i = .int .i64 k ∧ Below w6.heap.size w6 wr) (fun i _ => S.length - (intOf i).toNat)
    case atStart => exact ⟨0, by omega, rfl, Below.refl _ _⟩
    case round =>
      obtain ⟨k, hk, rfl, hb⟩ := hrel
      obtain ⟨wo, rfl⟩ : ∃ wo : World, wo = wr := ⟨_, rfl⟩
      have HB := hid hb
      have L := hid (L.out.later hb)
      have HI := hid (HI.out.below hb)
      have HSl := hid (HSl.out.below hb)
      clear hb
      by_cases hlt : k < S.length
      · have y3 := L.out.c3
        have hin := HF.out.inc.at hlt
        have hinc := fun (h0 : 0 < k) => HF.out.inc.lt hlt (show k - 1 < k by omega)
        obtain ⟨b5, o5, c5', e, _, _⟩ := HSl.out.slice (by omega)
        cases e
        have d0 := HSl.out.cell hlt
        have i1 : (k : Int) < (S.length : Int) := by omega
        have z1 : IntKind.i64.wrap ((k : Int) + 1) = (k : Int) + 1 := IntWalk.i64_in _ (by omega)
        obtain ⟨x, hx⟩ : ∃ x, nm S k = x := ⟨_, rfl⟩
        rw [hx] at hin hinc d0
        have n0 : ¬ x < 0 := by omega
        have n1 : ¬ x ≥ (p.parts.length : Int) := by omega
        by_cases hk0 : k = 0
        · have n3 : ¬ (k : Int) > 0 := by omega
          have n4 : ¬ 0 < k := by omega
          have n5 : decide (0 < k) = false := decide_eq_false n4
          clear hx hin hinc hk0
          go_upto_region 11 with fail
          go_quiet (fail)
          have HB2 := hid (HB.out.trans ((below_drewN (Below.refl wo.heap.size wo) nq).mono HB.out.size))
          go_wp2_with fail
          go_roundw
          case rel => exact ⟨k + 1, by omega, by go_num, HB2.out⟩
          case measure => simp [intOf] <;> omega
        · have hinc := hinc (by omega)
          obtain ⟨j, rfl⟩ : ∃ j, k = j + 1 := ⟨k - 1, by omega⟩
          rw [Nat.add_sub_cancel] at hinc
          have d1 := HSl.out.cell (i := j) (by omega)
          obtain ⟨u, hu⟩ : ∃ u, nm S j = u := ⟨_, rfl⟩
          rw [hu] at hinc d1
          have n2 : ¬ x ≤ u := by omega
          have z2 : IntKind.i64.wrap (((j + 1 : Nat) : Int) - 1) = (j : Int) := by rw [IntWalk.i64_in _ (by omega)]; omega
          have i2 : (j : Int) < (S.length : Int) := by omega
          have i3 : ((j + 1 : Nat) : Int) > 0 := by omega
          clear hx hu hin hinc
          obtain ⟨J, hJ⟩ : ∃ J : Nat, j + 1 = J := ⟨_, rfl⟩
          have HJ := hid hJ
          rw [hJ] at d0 i1 z1 z2 i3 hk ⊢
          have i4 : 0 < J := by omega
          clear hJ hlt hk0
          go_upto_region 11 with fail
          go_quiet (fail)
          have HB2 := hid (HB.out.trans ((below_drewN (Below.refl wo.heap.size wo) nq).mono HB.out.size))
          go_wp2_with fail
          go_roundw
          case rel => exact ⟨J + 1, by omega, by go_num, HB2.out⟩
          case measure => simp [intOf] <;> omega
      · obtain rfl : k = S.length := by omega
        have HChS := hid (fun vp vw vd vq vi W' h1 h2 => (HCh.out S HF.out.inc vp vw vd vq vi W' h1 h2).mono fun e w' h => (by obtain ⟨v', c, e1, e2⟩ := h; rw [if_neg (by rw [HBad.out]; simp)] at e1; exact ⟨v', c, e1, e2⟩ : ∃ v' c, e = .returned (.tuple #[v', .int .i64 c, .int .i64 7]) ∧ Below W'.heap.size W' w'))
        have HOS := hid (fun vp vw vd vq vl W' h hs hL => HOn.out S HF.out.inc vp vw vd vq vl W' h hs hL)
        have y0 := L.out.c0
        have y1 := L.out.c1
        have y2 := L.out.c2
        have y3 := L.out.c3
        clear hlt hk
        go_upto_region 18 with (first
          | (go_at_call 52; refine (HOS.out _ _ _ _ _ _ L.out.any HSd.out HSl.out).mono ?_; rintro e w7 ⟨vp', vw', vd', vq', rfl, hP, hb7⟩; have HP := hid hP; have L := hid (L.out.later hb7); have HI := hid (HI.out.below hb7); have HSl := hid (HSl.out.below hb7); clear hP hb7 y0 y1 y2 y3)
          | (go_at_call 18; refine (HChS.out _ _ _ _ _ _ HP.out (RecAt.any HI.out)).mono ?_; rintro e w8 ⟨v8, c8, rfl, hb8⟩; have L := hid (L.out.later hb8); have HI := hid (HI.out.below hb8); have HSl := hid (HSl.out.below hb8); clear hb8))
        clear g1 g2 hpos HChS HOS HB
        have hN16 : 2 ^ p.parts.length ≤ 64 := Nat.le_trans (Nat.pow_le_pow_right (by omega) (show p.parts.length ≤ 6 by omega)) (by decide)
        have hN1 : 1 ≤ 2 ^ p.parts.length := Nat.pow_pos (by omega)
        obtain ⟨N, hN⟩ : ∃ N, 2 ^ p.parts.length = N := ⟨_, rfl⟩
        have HQ1 := hid (show Op.shift .shl .i64 1 .i64 (p.parts.length : Int) = pure (.int .i64 (N : Int)) from by
          rw [shift_shl .i64 .i64 1 (p.parts.length : Int) (by omega) (by show (p.parts.length : Int) ≤ 64; omega)]
          rw [hN] at hN16
          rw [show (1 : Int) * 2 ^ ((p.parts.length : Int)).toNat = (N : Int) by rw [← hN]; simp, IntWalk.i64_in _ (by omega)])
        have HQ2 := hid (show IntKind.i64.wrap (2 ^ p.parts.length) = (N : Int) from by
          rw [hN] at hN16
          rw [show (2 : Int) ^ p.parts.length = (N : Int) by rw [← hN]; simp, IntWalk.i64_in _ (by omega)])
        have HNp := hid hN
        rw [hN] at hN16 hN1
        clear hN
        go_wp2_with fail
        go_loopw [15] (fun a wr => ∃ s : Nat, 1 ≤ s ∧ s ≤ N ∧ a = .int .i64 s ∧ Below w8.heap.size w8 wr) (fun a _ => N - (intOf a).toNat)
        case atStart => exact ⟨1, Nat.le_refl _, hN1, rfl, Below.refl _ _⟩
        case round =>
          obtain ⟨s, hs1, hs, rfl, hb⟩ := hrel
          obtain ⟨wo2, rfl⟩ : ∃ wo : World, wo = wr := ⟨_, rfl⟩
          have HB8 := hid hb
          have L := hid (L.out.later hb)
          have HI := hid (HI.out.below hb)
          have HSl := hid (HSl.out.below hb)
          clear hb
          have y3 := L.out.c3
          have q1 := HQ1.out
          have q2 := HQ2.out
          by_cases hlt : s < N
          rotate_left
          · obtain rfl : s = N := by omega
            go_wp2_with (go_at_call 19; refine (AW.out _).mono ?_; rintro e wz ⟨rfl, hbz⟩; have L := hid (L.out.later hbz); clear hbz y3)
            go_ret
            exact ⟨rfl, L.out.below⟩
          have i1 : (s : Int) < (N : Int) := by omega
          have z1 : IntKind.i64.wrap ((s : Int) + 1) = (s : Int) + 1 := IntWalk.i64_in _ (by omega)
          have hsn2 : s < 2 ^ p.parts.length := by rw [HNp.out]; exact hlt
          go_upto_region 22 with fail
          clear q1 q2
          go_wp2_with fail
          go_loopw [16, 17] (fun a i wr => ∃ k : Nat, k ≤ p.parts.length ∧ i = .int .i64 k ∧ OwnR encInt 1 3 wo2.heap.size wr a (memL s k) ∧ Below wo2.heap.size wo2 wr) (fun _ i _ => p.parts.length - (intOf i).toNat)
          case atStart => exact ⟨0, by omega, rfl, OwnR.nil _ _ _ _ _, Below.refl _ _⟩
          case round =>
            obtain ⟨k, hk, rfl, ho, hb⟩ := hrel
            obtain ⟨wi, rfl⟩ : ∃ wo : World, wo = wr := ⟨_, rfl⟩
            have HO := hid ho
            have HBi := hid hb
            have L := hid (L.out.later hb)
            have HI := hid (HI.out.below hb)
            have HSl := hid (HSl.out.below hb)
            have hsz : wo2.heap.size ≤ wi.heap.size := hb.size
            obtain ⟨sa, sc, e⟩ := ho.form
            have hll : (memL s k).length ≤ k := inc_length (memL_inc s k)
            subst e
            clear ho hb y3
            have y3 := L.out.c3
            by_cases hkn : k < p.parts.length
            · obtain ⟨D, hD⟩ : ∃ D, s / 2 ^ k = D := ⟨_, rfl⟩
              have q1 : Op.shift .shr .i64 (s : Int) .i64 (k : Int) = pure (.int .i64 (D : Int)) := by
                rw [shift_shr .i64 .i64 (s : Int) (k : Int) (by omega) (by show (k : Int) ≤ 64; omega), ← hD]
                simp
              have q2 : (s : Int) / 2 ^ k = (D : Int) := by rw [← hD]; simp
              have z2 : IntKind.i64.wrap ((k : Int) + 1) = (k : Int) + 1 := IntWalk.i64_in _ (by omega)
              have i2 : (k : Int) < (p.parts.length : Int) := by omega
              by_cases h1 : D % 2 = 1
              · have q3 : bits .and .i64 (D : Int) 1 = 1 := by rw [i64_and1]; omega
                have HE := hid (show memL s (k + 1) = memL s k ++ [(k : Int)] from by simp only [memL]; rw [hD, if_pos h1])
                clear hD h1
                go_wp2_with (at_builtin; refine wpList_app encInt Try.underlying22 infoInt' (by decide) (by decide) (fun _ => rfl) rfl _ _ rfl wo2.heap.size (memL s k) [(k : Int)] (fun y _ => encInt_one y) _ _ rfl rfl (HO.out.later (below_alloc _ _)) (Src.lit encInt wi (k : Int) _ 1 rfl) (by simp; omega) (by simp; omega) ?_; intro v' w2 hown' hg _ _; obtain ⟨a2, c2, e2⟩ := hown'.form; rw [List.length_append, List.length_singleton] at e2; subst e2; rw [← HE.out] at hown'; have HO2 := hid hown'; have HB2 := hid ((HBi.out.trans ((below_alloc wi _).mono hsz)).trans (OwnR.below (HO.out.later (below_alloc wi _)) hg (by simp; omega))); clear hown' hg)
                go_roundw
                case rel => exact ⟨k + 1, by omega, by go_num, HO2.out, HB2.out⟩
                case measure => simp [intOf] <;> omega
              · have q3 : bits .and .i64 (D : Int) 1 = 0 := by rw [i64_and1]; omega
                have HE := hid (show memL s (k + 1) = memL s k from by simp only [memL]; rw [hD, if_neg h1])
                clear hD h1
                go_wp2_with fail
                go_roundw
                case rel => exact ⟨k + 1, by omega, by go_num, by rw [HE.out]; exact HO.out, HBi.out⟩
                case measure => simp [intOf] <;> omega
            · obtain rfl : k = p.parts.length := by omega
              have HInc := hid (memL_inc s p.parts.length)
              obtain ⟨Q, hQ⟩ : ∃ Q, memL s p.parts.length = Q := ⟨_, rfl⟩
              rw [hQ] at HO HInc hll ⊢
              clear hQ
              have HOi := hid (OwnInts.at (d := none) (own_int.1 HO.out) (by simp))
              have HBf := hid (fun va vb W' (h1 : IntsAt none W' va Q) (h2 : IntsAt none W' vb S) (hl : Q.length = S.length) => lbefore_any Q S va vb W' h1 h2 (by omega) hl)
              have HChQ := hid (fun (hbf : befB Q S = true) vp vw vd vq vi W' h1 h2 => (HCh.out Q HInc.out vp vw vd vq vi W' h1 h2).mono fun e w' h => (by
                have hw : worn p items Q = true := by
                  cases e : worn p items Q with
                  | true => rfl
                  | false => have := HLow.out Q HInc.out e; rw [hbf] at this; cases this
                obtain ⟨v', c, e1, e2⟩ := h; rw [if_pos hw] at e1; exact ⟨v', c, e1, e2⟩ : ∃ v' c, e = .returned (.tuple #[v', .int .i64 c, .int .i64 0]) ∧ Below W'.heap.size W' w'))
              have HOQ := hid (fun vp vw vd vq vl W' h hs hL => HOn.out Q HInc.out vp vw vd vq vl W' h hs hL)
              have y0 := L.out.c0
              have y1 := L.out.c1
              have y2 := L.out.c2
              by_cases hgt : (Q.length : Int) > (S.length : Int)
              · go_wp2_with fail
                go_roundw
                case rel => exact ⟨s + 1, by omega, by omega, by go_num, HB8.out.trans (HBi.out.mono HB8.out.size)⟩
                case measure => simp [intOf] <;> omega
              · by_cases heq : Q.length = S.length
                · obtain ⟨f1, f2⟩ := eq_bool (a := (Q.length : Int)) (b := (S.length : Int)) (by omega)
                  have HBf := hid (fun va vb W' h1 h2 => HBf.out va vb W' h1 h2 heq)
                  cases hlx : lexB Q S with
                  | false =>
                    rw [hlx] at HBf
                    clear heq hlx
                    go_wp2_with (go_at_call 53; refine (HBf.out _ _ _ HOi.out HSl.out).mono ?_; rintro e w9 ⟨rfl, hb9⟩; have HBi := hid (HBi.out.trans (hb9.mono HBi.out.size)); clear hb9 y0 y1 y2 y3)
                    go_roundw
                    case rel => exact ⟨s + 1, by omega, by omega, by go_num, HB8.out.trans (HBi.out.mono HB8.out.size)⟩
                    case measure => simp [intOf] <;> omega
                  | true =>
                    have HChQ := hid (HChQ.out (by unfold befB; rw [if_pos heq]; exact hlx))
                    rw [hlx] at HBf
                    clear heq hlx
                    go_wp2_with (first
                      | (go_at_call 53; refine (HBf.out _ _ _ HOi.out HSl.out).mono ?_; rintro e w9 ⟨rfl, hb9⟩; have HBi := hid (HBi.out.trans (hb9.mono HBi.out.size)); have L := hid (L.out.later hb9); have HI := hid (HI.out.below hb9); have HOi := hid (HOi.out.below hb9); clear hb9 y0 y1 y2 y3; have y0 := L.out.c0; have y1 := L.out.c1; have y2 := L.out.c2; have y3 := L.out.c3)
                      | (go_at_call 52; refine (HOQ.out _ _ _ _ _ _ L.out.any HSd.out HOi.out).mono ?_; rintro e w10 ⟨vp2, vw2, vd2, vq2, rfl, hP, hb10⟩; have HP2 := hid hP; have HBi := hid (HBi.out.trans (hb10.mono HBi.out.size)); have HI := hid (HI.out.below hb10); clear hP hb10 y0 y1 y2 y3)
                      | (go_at_call 18; refine (HChQ.out _ _ _ _ _ _ HP2.out (RecAt.any HI.out)).mono ?_; rintro e w11 ⟨v11, c11, rfl, hb11⟩; have HBi := hid (HBi.out.trans (hb11.mono HBi.out.size)); clear hb11))
                    go_roundw
                    case rel => exact ⟨s + 1, by omega, by omega, by go_num, HB8.out.trans (HBi.out.mono HB8.out.size)⟩
                    case measure => simp [intOf] <;> omega
                · obtain ⟨f1, f2⟩ := ne_bool (a := (Q.length : Int)) (b := (S.length : Int)) (by omega)
                  have HChQ := hid (HChQ.out (by unfold befB; rw [if_neg heq]; exact decide_eq_true (by omega)))
                  clear heq
                  go_wp2_with (first
                    | (go_at_call 52; refine (HOQ.out _ _ _ _ _ _ L.out.any HSd.out HOi.out).mono ?_; rintro e w10 ⟨vp2, vw2, vd2, vq2, rfl, hP, hb10⟩; have HP2 := hid hP; have HBi := hid (HBi.out.trans (hb10.mono HBi.out.size)); have HI := hid (HI.out.below hb10); clear hP hb10 y0 y1 y2 y3)
                    | (go_at_call 18; refine (HChQ.out _ _ _ _ _ _ HP2.out (RecAt.any HI.out)).mono ?_; rintro e w11 ⟨v11, c11, rfl, hb11⟩; have HBi := hid (HBi.out.trans (hb11.mono HBi.out.size)); clear hb11))
                  go_roundw
                  case rel => exact ⟨s + 1, by omega, by omega, by go_num, HB8.out.trans (HBi.out.mono HB8.out.size)⟩
                  case measure => simp [intOf] <;> omega
end Go.Proofs.Ytdcinngdilfpnaa
