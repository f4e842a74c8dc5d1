/-
  WALK: CostumeEnough: whatever the numbers are, it returns true.
-/
import Derived.Test.YtdcinngdilfpnaaLwk
import Derived.Test.YtdcinngdilfpnaaCen
namespace Go.Proofs.Ytdcinngdilfpnaa
open Go.RowKit

set_option maxHeartbeats 8000000 in
set_option maxRecDepth 100000 in
theorem cenough_any (xs : List Int) (v : Value) (w : World) (hX : IntsAt none w v xs) (hn : xs.length ≤ 9223372036854775807) :
    Calls Try.prog 3 #[v] w fun e w' => e = .returned (.bool true) ∧ Below w.heap.size w w' := by
  have HX := hid hX
  obtain ⟨a, c, rfl, _⟩ := hX
  go_enter Try.func3, Try.ntmps3
  go_upto_region 3 with (first
    | (go_at_call 13; refine (drumOf_any xs _ _ HX.out hn).mono ?_; rintro e w1 ⟨rfl, hbt, hbl⟩; have HBt := hid hbt; have HBl := hid hbl; clear hbt hbl)
    | (go_at_call 14; refine (plotOf_any w.heap.size 4 6 _ HBt.out (by omega) (by omega) (by omega) (by omega)).mono ?_; rintro e w2 ⟨vp, vw, vd, vq, p, rfl, hv, hpl, hql, hP, _, hbt, hg⟩; obtain ⟨ap, cp, rfl⟩ := hP.persons.form; obtain ⟨aw, cw, rfl⟩ := hP.walk.form; obtain ⟨ad, cd, ed, _⟩ := hP.dress; subst ed; obtain ⟨aq, cq, rfl⟩ := hP.parts.form; have HV := hid hv; have LF0 := hid (LF.start hbt hP (HBl.out.grown hg HBl.out.size (fun g e => by cases e; exact Nat.le_refl _)) (Nat.le_refl _) 29); clear hv hP hbt hg))
  obtain ⟨w3, hw3, L3⟩ := LF0.out.name
  rw [hw3]
  obtain ⟨X, hXs⟩ : ∃ X, w2.heap.size = X := ⟨_, rfl⟩
  rw [hXs] at L3 ⊢
  have L := hid L3
  have AW := hid (fun W' => awake_any W')
  have Vd := hid (plotErr_zero.1 HV.out)
  have hdl := Vd.out.dress.2
  clear hw3 L3 LF0 HBt HBl HX hXs hn
  have y0 := L.out.c0
  have y1 := L.out.c1
  have y2 := L.out.c2
  have y3 := L.out.c3
  go_upto_region 5 with (first
    | (go_at_call 15; refine (itemsOf_any w.heap.size 6 p _ _ _ _ _ L.out.beat L.out.plot HV.out (by omega) (by omega)).mono ?_; rintro e w4 ⟨vi, items, rfl, hie, hil, hI, _, hbt, hg⟩; obtain ⟨ai, ci, rfl⟩ := ItemsAt.form hI; have L := hid (L.out.go hbt hg); have HI := hid hI; have HIe := hid hie; clear hie hI hbt hg y0 y1 y2 y3; have y2 := L.out.c2)
    | (go_at_call 16; (with_reducible refine (roll_any w.heap.size (p.dress.length : Int) _ L.out.beat (by omega)).mono ?_); rintro e w5 ⟨r1, rfl, r10, r11, hbt, hg⟩; have HI := hid (RecAt.kept HI.out hg); have L := hid (L.out.go hbt hg); clear hbt hg y2))
  have hdp := Vd.out.dress.1
  have hin : inB r1 0 ((p.dress.length : Int) - 1) = true := inB_true.2 ⟨by omega, by omega⟩
  have hme : mostErr p r1 = 0 := by unfold mostErr; rw [if_pos HV.out, hin]; rfl
  have hmr : mostRes p r1 = mostN p r1 1441 := by unfold mostRes; rw [if_pos hme]
  have HMo := hid (fun vp vw vd vq W' (h : PlotAt none W' vp vw vd vq p) => by have := most_any p r1 vp vw vd vq W' h; rw [hme, hmr] at this; exact this)
  have hMm := mostN_max p r1 1441
  have hMa := mostN_at p r1 1441
  obtain ⟨⟨M, A⟩, hMA⟩ : ∃ s, mostN p r1 1441 = s := ⟨_, rfl⟩
  rw [hMA] at HMo hMm hMa
  dsimp only at HMo hMm hMa
  have HMm := hid hMm
  have HMa := hid hMa
  clear hin hme hmr hMA hMm hMa r10 r11 hdp
  have y0 := L.out.c0
  have y1 := L.out.c1
  have y2 := L.out.c2
  have y3 := L.out.c3
  go_wp2_with (go_at_call 17; refine (HMo.out _ _ _ _ _ L.out.any).mono ?_; rintro e w6 ⟨rfl, hb6⟩; have HI := hid (HI.out.below hb6); have L := hid (L.out.later hb6); clear hb6 y0 y1 y2 y3)
  have y3 := L.out.c3
  go_loopw [10] (fun t wr => ∃ k : Nat, k ≤ 160 ∧ t = .int .i64 k ∧ wr = w6) (fun t _ => 160 - (intOf t).toNat)
  case atStart => exact ⟨0, by omega, rfl, rfl⟩
  case round =>
    obtain ⟨k, hk, rfl, rfl⟩ := hrel
    obtain ⟨wo, rfl⟩ : ∃ wo : World, wo = wr := ⟨_, rfl⟩
    by_cases hlt : k < 160
    rotate_left
    · obtain rfl : k = 160 := by omega
      go_wp2_with fail
      go_loopw [13, 14] (fun h i wr => ∃ q : Nat, q ≤ items.length ∧ h = .int .i64 (cnt (ofKind items r1) q) ∧ i = .int .i64 q ∧ wr = wo) (fun _ i _ => items.length - (intOf i).toNat)
      case atStart => exact ⟨0, by omega, rfl, rfl, rfl⟩
      case round =>
        obtain ⟨q, hq, rfl, rfl, rfl⟩ := hrel
        obtain ⟨wi, rfl⟩ : ∃ wi : World, wi = wr := ⟨_, rfl⟩
        have hbd := cnt_nonneg (ofKind items r1) q
        by_cases hltq : q < items.length
        · have hci := ItemsAt.cells HI.out hltq
          obtain ⟨bi, oi, e, hbi, g0, g1, g2, g3, g4⟩ := hci
          cases e
          have i1 : (q : Int) < (items.length : Int) := by omega
          have z1 : IntKind.i64.wrap ((q : Int) + 1) = (q : Int) + 1 := IntWalk.i64_in _ (by omega)
          have z2 : IntKind.i64.wrap (cnt (ofKind items r1) q + 1) = cnt (ofKind items r1) q + 1 := IntWalk.i64_in _ (by omega)
          have hstep := hid (show cnt (ofKind items r1) (q + 1) = if ofKind items r1 q = true then cnt (ofKind items r1) q + 1 else cnt (ofKind items r1) q from rfl)
          by_cases h1 : (it items q).kind = r1
          · obtain ⟨e1, e2⟩ := eq_bool h1
            have HS := hid (hstep.out.trans (if_pos (decide_eq_true h1)))
            obtain ⟨x, hx⟩ : ∃ x, it items q = x := ⟨_, rfl⟩
            rw [hx] at g0 g1 g2 g3 g4 e1 e2
            clear hstep h1 hx
            go_wp2_with fail
            go_roundw
            case rel => exact ⟨q + 1, by omega, by rw [HS.out], by go_num, (by trivial)⟩
            case measure => simp [intOf] <;> omega
          · obtain ⟨e1, e2⟩ := ne_bool h1
            have HS := hid (hstep.out.trans (if_neg (fun h => h1 (of_decide_eq_true h))))
            obtain ⟨x, hx⟩ : ∃ x, it items q = x := ⟨_, rfl⟩
            rw [hx] at g0 g1 g2 g3 g4 e1 e2
            clear hstep h1 hx
            go_wp2_with fail
            go_roundw
            case rel => exact ⟨q + 1, by omega, by rw [HS.out], by go_num, (by trivial)⟩
            case measure => simp [intOf] <;> omega
        · obtain rfl : q = items.length := by omega
          obtain ⟨Hc, hHc⟩ : ∃ Hc, cnt (ofKind items r1) items.length = Hc := ⟨_, rfl⟩
          have hsm : smallErr p items = 0 := by unfold smallErr; rw [if_pos HIe.out, if_neg (by omega)]
          have hce : cheapErr p items = if (bestP p items p.parts).isSome = true then 0 else 7 := by unfold cheapErr; rw [if_pos hsm]
          have hcb : cheapB p items = bestP p items p.parts := by unfold cheapB; rw [if_pos hsm]
          have hen : (bestP p items p.parts).isSome = true → M ≤ Hc := fun hs => by
            by_cases hge : M ≤ Hc
            · exact hge
            · rw [hHc] at hbd
              obtain ⟨j, _, _, e2⟩ := HMa.out (by omega)
              have := enough_none (p := p) (items := items) (kind := r1) (m := (j : Int)) Vd.out (fun i hi => (items_clean HIe.out i hi).1) (by rw [hHc, e2]; omega)
              rw [this] at hs
              cases hs
          have HCh := hid (fun vp vw vd vq vi W' (h1 : PlotAt none W' vp vw vd vq p) (h2 : ItemsAt none W' vi items) => by have := cheapest_any p items vp vw vd vq vi W' h1 h2; unfold CheapestPost at this; rw [hce, hcb] at this; exact this)
          obtain ⟨s, hs⟩ : ∃ s, bestP p items p.parts = s := ⟨_, rfl⟩
          rw [hHc] at hbd ⊢
          rw [hs] at HCh hen
          clear hHc hsm hce hcb hs
          have y0 := L.out.c0
          have y1 := L.out.c1
          have y2 := L.out.c2
          cases s with
          | none =>
            clear hen
            by_cases hge : M ≤ Hc
            all_goals (
              go_wp2_with (first
                | (go_at_call 18; refine (HCh.out _ _ _ _ _ _ L.out.any (RecAt.any HI.out)).mono ?_; rintro e w7 ⟨v7, rfl, ho, hb7⟩; obtain ⟨a7, c7, rfl⟩ := (own_int.2 ho).form; have L := hid (L.out.later hb7); clear ho hb7)
                | (go_at_call 19; refine (AW.out _).mono ?_; rintro e w8 ⟨rfl, hb8⟩; have L := hid (L.out.later hb8); clear hb8))
              go_ret
              exact ⟨rfl, L.out.below⟩)
          | some x =>
            obtain ⟨l, c⟩ := x
            have hge := hen rfl
            clear hen
            go_wp2_with (first
              | (go_at_call 18; refine (HCh.out _ _ _ _ _ _ L.out.any (RecAt.any HI.out)).mono ?_; rintro e w7 ⟨v7, rfl, ho, hb7⟩; obtain ⟨a7, c7, rfl⟩ := (own_int.2 ho).form; have L := hid (L.out.later hb7); clear ho hb7)
              | (go_at_call 19; refine (AW.out _).mono ?_; rintro e w8 ⟨rfl, hb8⟩; have L := hid (L.out.later hb8); clear hb8))
            go_ret
            exact ⟨rfl, L.out.below⟩
    have i0 : (k : Int) < 160 := by omega
    have z0 : IntKind.i64.wrap ((k : Int) + 1) = (k : Int) + 1 := IntWalk.i64_in _ (by omega)
    go_wp2_with fail
    go_loopw [11, 12] (fun n i wr => ∃ q : Nat, q ≤ p.parts.length ∧ n = .int .i64 (onN p r1 k q) ∧ i = .int .i64 q ∧ wr = wo) (fun _ i _ => p.parts.length - (intOf i).toNat)
    case atStart => exact ⟨0, by omega, rfl, rfl, rfl⟩
    case round =>
      obtain ⟨q, hq, rfl, rfl, rfl⟩ := hrel
      obtain ⟨wi, rfl⟩ : ∃ wi : World, wi = wr := ⟨_, rfl⟩
      have hbd := onN_bd p r1 k q
      by_cases hltq : q < p.parts.length
      rotate_left
      · obtain rfl : q = p.parts.length := by omega
        have h1 := HMm.out k (by omega)
        have h2 := HMa.out
        obtain ⟨N, hN⟩ : ∃ N, onAll p r1 (k : Int) = N := ⟨_, rfl⟩
        have hoN : onN p r1 (k : Int) p.parts.length = N := hN
        rw [hN] at h1
        rw [hoN] at hbd ⊢
        have hA : (k : Int) = A → N = M := fun e => by
          by_cases hM : 0 < M
          · obtain ⟨j, _, e1, e2⟩ := h2 hM
            have e3 : (j : Int) = (k : Int) := by omega
            rw [e3, hN] at e2
            exact e2
          · omega
        have h3 := h1.1
        have h4 := h1.2
        clear h1 h2 hoN hN
        by_cases hNM : N = M
        · by_cases hM : 0 < M
          · have h5 := h4 hNM hM
            have n1 : ¬ N > M := by omega
            have n2 : ¬ (k : Int) < A := by omega
            obtain ⟨e1, e2⟩ := eq_bool hNM
            by_cases hka : (k : Int) = A
            · obtain ⟨e3, e4⟩ := eq_bool hka
              clear h4 hA h5 hka hNM
              go_wp2_with fail
              go_roundw
              case rel => exact ⟨k + 1, by omega, by go_num, (by trivial)⟩
              case measure => simp [intOf] <;> omega
            · obtain ⟨e3, e4⟩ := ne_bool hka
              clear h4 hA h5 hka hNM
              go_wp2_with fail
              go_roundw
              case rel => exact ⟨k + 1, by omega, by go_num, (by trivial)⟩
              case measure => simp [intOf] <;> omega
          · have n1 : ¬ N > M := by omega
            obtain ⟨e1, e2⟩ := eq_bool hNM
            by_cases hka : (k : Int) = A
            · obtain ⟨e3, e4⟩ := eq_bool hka
              clear h4 hA hka hNM
              go_wp2_with fail
              go_roundw
              case rel => exact ⟨k + 1, by omega, by go_num, (by trivial)⟩
              case measure => simp [intOf] <;> omega
            · obtain ⟨e3, e4⟩ := ne_bool hka
              clear h4 hA hka hNM
              go_wp2_with fail
              go_roundw
              case rel => exact ⟨k + 1, by omega, by go_num, (by trivial)⟩
              case measure => simp [intOf] <;> omega
        · have n1 : ¬ N > M := by omega
          obtain ⟨e1, e2⟩ := ne_bool hNM
          obtain ⟨e3, e4⟩ := ne_bool (a := (k : Int)) (b := A) (fun e => hNM (hA e))
          clear h4 hA hNM
          go_wp2_with fail
          go_roundw
          case rel => exact ⟨k + 1, by omega, by go_num, (by trivial)⟩
          case measure => simp [intOf] <;> omega
      have hcc := PartsAt.cells L.out.any.parts hltq
      obtain ⟨bq, oq, e, hbq, d0, d1, d2, d3, d4⟩ := hcc
      cases e
      have i1 : (q : Int) < (p.parts.length : Int) := by omega
      have z1 : IntKind.i64.wrap ((q : Int) + 1) = (q : Int) + 1 := IntWalk.i64_in _ (by omega)
      have z2 : IntKind.i64.wrap (onN p r1 k q + 1) = onN p r1 k q + 1 := IntWalk.i64_in _ (by omega)
      have hstep := hid (show onN p r1 k (q + 1) = if (pt p.parts q).kind = r1 ∧ onB (pt p.parts q) k = true then onN p r1 k q + 1 else onN p r1 k q from rfl)
      obtain ⟨x, hx⟩ : ∃ x, pt p.parts q = x := ⟨_, rfl⟩
      rw [hx] at d0 d1 d2 d3 d4 hstep
      clear hx
      by_cases h1 : x.kind = r1
      · obtain ⟨e1, e2⟩ := eq_bool h1
        by_cases h2 : x.start ≤ (k : Int)
        · by_cases h3 : (k : Int) < x.stop
          · have HS := hid (hstep.out.trans (if_pos ⟨h1, inB_true.2 ⟨h2, by omega⟩⟩))
            clear hstep h1
            go_wp2_with fail
            go_roundw
            case rel => exact ⟨q + 1, by omega, by rw [HS.out], by go_num, (by trivial)⟩
            case measure => simp [intOf] <;> omega
          · have HS := hid (hstep.out.trans (if_neg (fun h => by have := inB_true.1 h.2; omega)))
            clear hstep h1
            go_wp2_with fail
            go_roundw
            case rel => exact ⟨q + 1, by omega, by rw [HS.out], by go_num, (by trivial)⟩
            case measure => simp [intOf] <;> omega
        · have HS := hid (hstep.out.trans (if_neg (fun h => by have := inB_true.1 h.2; omega)))
          clear hstep h1
          go_wp2_with fail
          go_roundw
          case rel => exact ⟨q + 1, by omega, by rw [HS.out], by go_num, (by trivial)⟩
          case measure => simp [intOf] <;> omega
      · obtain ⟨e1, e2⟩ := ne_bool h1
        have HS := hid (hstep.out.trans (if_neg (fun h => h1 h.1)))
        clear hstep h1
        go_wp2_with fail
        go_roundw
        case rel => exact ⟨q + 1, by omega, by rw [HS.out], by go_num, (by trivial)⟩
        case measure => simp [intOf] <;> omega
end Go.Proofs.Ytdcinngdilfpnaa
