/-
  WALKS: the reference's Read.
-/
import Derived.Test.YtefdopifebhgiaaGreatDoorQnw
import Derived.Test.YtefdopifebhgiaaGreatDoorPre
import Derived.Deep.CutRange
namespace Go.Proofs.YtefdopifebhgiaaGreatDoor
open Go.RowKit

set_option maxHeartbeats 400000 in
theorem rcheck_full2 (ws : List Wing) (route : Int) (a : Option Addr) (cap : Nat) (w : World) (hr : inB route 1 100000 = true) (hn : 8 < ws.length) (hn2 : ws.length ≤ 1000000) :
    Calls Tryz.prog 32 #[.agg #[.int .i64 route, .slice a ws.length cap]] w fun e w' => e = .returned (.int .i64 (check route ws)) ∧ Below w.heap.size w w' := by
  have hc : check route ws = 5 := by unfold check; rw [if_neg (by simp [hr]), if_neg (by omega), if_pos hn]
  rw [hc]
  clear hc
  have e0 : ((ws.length : Int) == 0) = false := beq_eq_false_iff_ne.2 (by omega)
  go_enter Tryz.func32, Tryz.ntmps32
  go_wp2_with (go_at_call 52; refine (within_any _ _ _ _).mono ?_; rintro e w' ⟨rfl, rfl⟩)
  go_ret
  exact ⟨rfl, (Below.refl _ _).alloc (Nat.le_refl _) _⟩
theorem rcheck_wide (ws : List Wing) (route : Int) (vw : Value) (d : Option Nat) (w : World) (hW : WgAt d w vw ws) (hn : ws.length ≤ 1000000) (hnm : ∀ i, i < ws.length → (wg ws i).name.size ≤ 1000000) :
    Calls Tryz.prog 32 #[.agg #[.int .i64 route, vw]] w fun e w' => e = .returned (.int .i64 (check route ws)) ∧ Below w.heap.size w w' := by
  cases hr : inB route 1 100000 with
  | false => exact rcheck_route ws route vw w hr
  | true =>
    by_cases h0 : ws.length = 0
    · obtain ⟨a, cap, rfl, _⟩ := hW
      exact rcheck_short ws route a cap w hr h0
    · by_cases h8 : 8 < ws.length
      · obtain ⟨a, cap, rfl, _⟩ := hW
        exact rcheck_full2 ws route a cap w hr h8 hn
      · exact rcheck_loop ws route vw d w hW (by omega) (by omega) hr hnm

/-- what stays while the reference reads: the program's frame, the result's cell -/
structure RdQ (R T S : Nat) (cs : Array Value) (w0 : World) (route : Int) (ws : List Wing) (vw : Value) (w : World) : Prop where
  p : RdP T S cs w0 route ws vw w
  ret : w.heap[R]? = some (.cells #[.int .i64 0, .slice none 0 0] 24 (0, 0))
  ne : R ≠ T
  lowR : w0.heap.size ≤ R
section
variable {R T S : Nat} {cs : Array Value} {w0 w w' w2 : World} {route : Int} {ws : List Wing} {vw v' u : Value}
theorem RdQ.later (k : RdQ R T S cs w0 route ws vw w) (hb : Below w.heap.size w w') : RdQ R T S cs w0 route ws vw w' :=
  ⟨k.p.later hb, (hb.block _ (blkP_lt k.ret)).trans k.ret, k.ne, k.lowR⟩
theorem RdQ.r (k : RdQ R T S cs w0 route ws vw w) : w.cell? ⟨R, 0, none⟩ = some (.int .i64 0) ∧ w.cell? ⟨R, 1, none⟩ = some (.slice none 0 0) :=
  ⟨by rw [Lib.cell_of_heap k.ret]; rfl, by rw [Lib.cell_of_heap k.ret]; rfl⟩
theorem RdQ.fr (k : RdQ R T S cs w0 route ws vw w) (o : Nat) : w.frozen? ⟨R, o, none⟩ = false := Lib.frozen_of_heap k.ret _
theorem RdQ.setRoute (k : RdQ R T S cs w0 route ws vw w) (n : Int) : RdQ R T S cs w0 n ws vw (w.setCell ⟨T, 0, none⟩ (.int .i64 n)) :=
  ⟨k.p.setRoute n, blkP_far k.ret k.ne, k.ne, k.lowR⟩
theorem RdQ.wings (k : RdQ R T S cs w0 route ws vw w) {xs : List Wing} (hown : OwnWg (T + 1) w2 v' xs) (hg : w.grownBy w2 vw.ownBlock) :
    w2.heap[T]? = some (.cells #[.int .i64 route, vw] 24 (0, 0)) ∧ RdQ R T S cs w0 route xs v' (w2.setCell ⟨T, 1, none⟩ v') := by
  have h := k.p.wings hown hg
  exact ⟨h.1, h.2, blkP_far (blkP_kept k.p.own k.ret (by decide) hg) k.ne, k.ne, k.lowR⟩
end
/-- the slice that split answers, as a block -/
theorem own_block {base : Nat} {w : World} {v : Value} {xs : List (List UInt8)} (h : OwnR encV 1 9 base w v (xs.map strV)) (h0 : 0 < xs.length) : ∃ g c cs, v = .slice (some ⟨g, 0, none⟩) xs.length c ∧ w.heap[g]? = some (.cells cs 9 (0, 0)) ∧ ∀ k, k < xs.length → cs[k]? = some (.string ⟨(rowOf xs k).toArray⟩) := by
  obtain ⟨hl, h2⟩ := h
  rcases h2 with ⟨rfl, h3⟩ | ⟨g, cap, cur, rfl, hb, hh, h4, hm, hs, ht⟩
  · rw [List.length_map] at h3; omega
  · refine ⟨g, cap, cur, by rw [List.length_map], hh, fun k hk => ?_⟩
    rw [List.length_map, flat_encV] at ht
    have e1 : cur.toList[k]? = (xs.map strV)[k]? := by
      rw [← ht, List.getElem?_take, if_pos (by omega)]
    rw [← Array.getElem?_toList, e1, List.getElem?_map, List.getElem?_eq_getElem hk]
    simp [rowOf, List.getD_eq_getElem?_getD, List.getElem?_eq_getElem hk, strV]

set_option maxHeartbeats 16000000 in
set_option maxRecDepth 100000 in
theorem rpread_any (text : List UInt8) (w : World) : Calls Tryz.prog 13 #[.string ⟨text.toArray⟩] w (ReadAPost text w) := by
  have hsz : (⟨text.toArray⟩ : ByteArray).size = text.length := by simp [ByteArray.size]
  have hbx := heap_alloc_new w (.cells #[.int .i64 0, .slice none 0 0] 24)
  have HB0 := hid (below_alloc w (.cells #[.int .i64 0, .slice none 0 0] 24))
  obtain ⟨wT, hwT⟩ : ∃ wT, w.alloc (.cells #[.int .i64 0, .slice none 0 0] 24) = wT := ⟨_, rfl⟩
  obtain ⟨R, hT⟩ : ∃ R, w.heap.size = R := ⟨_, rfl⟩
  rw [hwT] at hbx HB0
  rw [hT] at hbx
  have HBx := hid hbx
  clear hbx
  by_cases h2 : 1000 < text.length
  · have d0 : decide (1000 < (text.length : Int)) = true := decide_eq_true (by omega)
    have HP := hid (show readA text = ((0, []), 0, 6) from by unfold readA; rw [if_pos h2])
    clear h2
    go_enter Tryz.func13, Tryz.ntmps13
    go_upto_region 2 with fail
    have k0 : wT.cell? ⟨R, 0, none⟩ = some (.int .i64 0) := by rw [Lib.cell_of_heap HBx.out]; rfl
    have k1 : wT.cell? ⟨R, 1, none⟩ = some (.slice none 0 0) := by rw [Lib.cell_of_heap HBx.out]; rfl
    have f0 : wT.frozen? ⟨R, 0, none⟩ = false := Lib.frozen_of_heap HBx.out _
    have f1 : wT.frozen? ⟨R, 1, none⟩ = false := Lib.frozen_of_heap HBx.out _
    go_wp2_with fail
    refine bodyPost_ret (v := .tuple #[.agg #[.int .i64 0, .slice none 0 0], .int .i64 0, .int .i64 6]) (by simp [results, Tryz.results13, go_sem, k0, k1]) rfl ?_
    refine ⟨_, by rw [HP.out], by rw [HP.out]; exact World.ownsRow_nil _ _ _ _, ?_⟩
    rw [hT] at HB0 ⊢
    exact (HB0.out.setCell (p := ⟨R, 0, none⟩) (Nat.le_refl _) _).setCell (p := ⟨R, 1, none⟩) (Nat.le_refl _) _
  have d0 : decide (1000 < (text.length : Int)) = false := decide_eq_false (by omega)
  obtain ⟨q0, qs, hcut⟩ := cutL_ne 10 text
  have hbd := cutL_bound 10 text
  rw [hcut] at hbd
  have HQl := hid (show qs.length ≤ 1000 ∧ ∀ k, (rowOf (q0 :: qs) k).length ≤ 1000 from ⟨by have := hbd.1; simp at this; omega, fun k => by
    unfold rowOf
    rw [List.getD_eq_getElem?_getD]
    rcases Nat.lt_or_ge k (q0 :: qs).length with hk | hk
    · rw [List.getElem?_eq_getElem hk]; have := hbd.2 (q0 :: qs)[k] (by simp); simp at this ⊢; omega
    · rw [List.getElem?_eq_none hk]; simp⟩)
  have HP := hid (show readA text = (match stopS stepP noPSt (q0 :: qs) qs.length with
    | some k => ((0, []), (k : Int) + 1, 1)
    | none => match runS stepP noPSt (q0 :: qs) qs.length with
      | none => ((0, []), 0, 0)
      | some s => if s.stop = 0 ∨ rowOf (q0 :: qs) qs.length ≠ [] then ((0, []), (qs.length : Int) + 1, 1)
        else if s.many ≠ (s.wings.length : Int) then ((0, []), s.stop, 1)
        else if check s.route s.wings = 0 then ((s.route, s.wings), 0, 0) else ((0, []), 0, check s.route s.wings)) from by unfold readA; rw [if_neg h2, hcut]; rfl)
  have hsp := rsplit_any text 10 wT (by omega)
  rw [hcut] at hsp
  have HS := hid hsp
  clear h2 hcut hbd hsp
  go_enter Tryz.func13, Tryz.ntmps13
  go_upto_region 3 with fail
  go_upto_region 4 with (go_at_call 37; refine HS.out.mono ?_; rintro e w2 ⟨v, rfl, ho, hb⟩; obtain ⟨S, sc, cs, rfl, hS, hcs⟩ := own_block ho (by simp); have HSh := hid hS; have HCs0 := hid hcs; have HB2 := hid hb; clear ho hb hS hcs)
  have hbn := below_alloc w2 (.cells #[.int .i64 0, .slice none 0 0] 24)
  have hnx := heap_alloc_new w2 (.cells #[.int .i64 0, .slice none 0 0] 24)
  obtain ⟨wS, hwS⟩ : ∃ wS, w2.alloc (.cells #[.int .i64 0, .slice none 0 0] 24) = wS := ⟨_, rfl⟩
  obtain ⟨T, hTT⟩ : ∃ T, w2.heap.size = T := ⟨_, rfl⟩
  rw [hwS] at hbn hnx
  have hRT : R < T := by have := blkP_lt HBx.out; have := HB2.out.size; omega
  have K := hid (show RdQ R T S cs w 0 [] (.slice none 0 0) wS from
    ⟨⟨hTT ▸ hnx, (hbn.block _ (blkP_lt HSh.out)).trans HSh.out, World.ownsRow_nil _ _ _ _, below_trans (below_trans HB0.out HB2.out) hbn, by omega⟩,
     (hbn.block _ (Nat.lt_of_lt_of_le (blkP_lt HBx.out) HB2.out.size)).trans ((HB2.out.block _ (blkP_lt HBx.out)).trans HBx.out), by omega, by omega⟩)
  have HCs := hid (show ∀ k, k ≤ qs.length → cs[k]? = some (.string ⟨(rowOf (q0 :: qs) k).toArray⟩) from fun k hk => HCs0.out k (by simp; omega))
  clear hbn hnx HBx HB0 HB2 HSh HCs0 HS hRT
  go_wp2_with fail
  clear hsz d0 hwT hwS
  go_loopw [7, 8, 9] (fun d e i wr => ∃ (k : Nat) (st : PSt) (vw : Value), k ≤ qs.length ∧ i = .int .i64 k ∧ runS stepP noPSt (q0 :: qs) k = some st ∧ d = .int .i64 st.stop ∧ e = .int .i64 st.many ∧ RdQ R T S cs w st.route st.wings vw wr) (fun _ _ i _ => qs.length - (intOf i).toNat)
  case atStart => exact ⟨0, noPSt, _, by omega, rfl, rfl, rfl, rfl, K.out⟩
  case round =>
    obtain ⟨k, st, vw, hk, rfl, hrun, rfl, rfl, hKK⟩ := hrel
    obtain ⟨wo, rfl⟩ : ∃ wo : World, wo = wr := ⟨_, rfl⟩
    clear K
    have K := hid hKK
    have HRun := hid hrun
    have HPos := hid (run_pos (by simp; omega) hrun)
    have HFew := hid (runP_few HQl.out.2 (by simp; omega) hrun)
    obtain ⟨aw, cw, rfl⟩ := hKK.p.own.form
    have z0 : wrap64 (qs.length : Int) = (qs.length : Int) := IntWalk.wrap64_in _ (by have := HQl.out.1; omega)
    clear hKK hrun
    by_cases hlt : k < qs.length
    · have i1 : (k : Int) < (qs.length : Int) := by omega
      have z2 : IntKind.i64.wrap ((k : Int) + 1) = (k : Int) + 1 := IntWalk.i64_in _ (by have := HQl.out.1; omega)
      have n0 := (K.out.p.row k).trans (HCs.out k hk)
      have HSx := hid (show runS stepP noPSt (q0 :: qs) (k + 1) = stepP k (rowOf (q0 :: qs) k) st from by rw [runS_succ stepP noPSt (by simp; omega), HRun.out]; rfl)
      have HFail := hid (fun (hs : stepP k (rowOf (q0 :: qs) k) st = none) => (show readA text = ((0, []), (k : Int) + 1, 1) from by rw [HP.out, stopS_some stepP noPSt HRun.out (HSx.out.trans hs) hlt (by simp)]))
      obtain ⟨row, hrow⟩ : ∃ row, rowOf (q0 :: qs) k = row := ⟨_, rfl⟩
      have hQr : row.length ≤ 1000 := by rw [← hrow]; exact HQl.out.2 k
      rw [hrow, stepQ_eq] at HSx HFail
      rw [hrow] at n0
      obtain ⟨p0, ps, hcut⟩ := cutL_ne 32 row
      have hbd := cutL_bound 32 row
      have hsp := rsplit_any row 32 wo (by omega)
      obtain ⟨ws, hws⟩ : ∃ ws, cutL 32 row = ws := ⟨_, rfl⟩
      rw [hws] at hbd hsp HSx HFail
      have hw0 : 0 < ws.length := by rw [← hws, hcut]; simp
      have HWl := hid (show 0 < ws.length ∧ ws.length ≤ 2000 ∧ ∀ k, (wordAt ws k).length ≤ 2000 from ⟨hw0, by have := hbd.1; omega, fun k => by
        unfold wordAt
        rw [List.getD_eq_getElem?_getD]
        rcases Nat.lt_or_ge k ws.length with hk | hk
        · rw [List.getElem?_eq_getElem hk]; have := hbd.2 ws[k] (by simp); simp; omega
        · rw [List.getElem?_eq_none hk]; simp⟩)
      have HS := hid hsp
      unfold stepQ at HSx HFail
      clear hcut hbd hsp hrow hws hQr hw0
      go_upto_region 10 with (go_at_call 37; refine HS.out.mono ?_; rintro e w1 ⟨v, rfl, ho, hb⟩; obtain ⟨sa, sc2, es⟩ := ho.form; rw [List.length_map] at es; subst es; have HSA := hid (strs_own ho); have K := hid (K.out.later hb); clear ho hb n0)
      obtain ⟨wb, wof, hsa, c0⟩ := HSA.out.cell_in (Below.refl _ _) HWl.out.1
      subst hsa
      rw [Nat.add_zero] at c0
      obtain ⟨p0, hp0⟩ : ∃ p0, wordAt ws 0 = p0 := ⟨_, rfl⟩
      rw [hp0] at c0 HSx HFail
      have HP0 := hid hp0
      obtain ⟨r0, r1⟩ := K.out.r
      have f0 := K.out.fr 0
      have f1 := K.out.fr 1
      clear hp0 HS
      by_cases hst : st.stop = 0
      rotate_left
      · rw [if_pos hst] at HFail
        have HPf := hid (HFail.out rfl)
        have d1 : decide (0 < st.stop) = true := decide_eq_true (by have := HPos.out; omega)
        clear hst HSx HFail
        go_wp2_with fail
        refine bodyPost_ret (v := .tuple #[.agg #[.int .i64 0, .slice none 0 0], .int .i64 ((k : Int) + 1), .int .i64 1]) (by simp [results, Tryz.results13, go_sem, r0, r1]) rfl ?_
        refine ⟨_, by rw [HPf.out], by rw [HPf.out]; exact World.ownsRow_nil _ _ _ _, ?_⟩
        exact (K.out.p.below.setCell (p := ⟨R, 0, none⟩) K.out.lowR _).setCell (p := ⟨R, 1, none⟩) K.out.lowR _
      rw [if_neg (fun h => h hst)] at HSx HFail
      have d1 : decide (0 < st.stop) = false := decide_eq_false (by omega)
      clear hst
      have HWg := hid (rwing_any ws _ w1 HSA.out HWl.out.2.1 HWl.out.2.2)
      have i0w : 0 < ws.length := HWl.out.1
      by_cases hk0 : k = 0
      · have e2 : ((k : Int) == 0) = true := beq_iff_eq.2 (by omega)
        rw [if_pos hk0] at HSx HFail
        clear hk0
        by_cases h2 : ws.length = 2
        rotate_left
        · rw [if_neg (fun e => h2 e.1)] at HFail
          have HPf := hid (HFail.out rfl)
          have e3 : ((ws.length : Int) == 2) = false := beq_eq_false_iff_ne.2 (by omega)
          clear HSx HFail h2
          go_wp2_with fail
          refine bodyPost_ret (v := .tuple #[.agg #[.int .i64 0, .slice none 0 0], .int .i64 ((k : Int) + 1), .int .i64 1]) (by simp [results, Tryz.results13, go_sem, r0, r1]) rfl ?_
          refine ⟨_, by rw [HPf.out], by rw [HPf.out]; exact World.ownsRow_nil _ _ _ _, ?_⟩
          exact (K.out.p.below.setCell (p := ⟨R, 0, none⟩) K.out.lowR _).setCell (p := ⟨R, 1, none⟩) K.out.lowR _
        have e3 : ((ws.length : Int) == 2) = true := beq_iff_eq.2 (by omega)
        by_cases ha : p0 = avenueW
        rotate_left
        · rw [if_neg (fun e => ha e.2)] at HFail
          have HPf := hid (HFail.out rfl)
          have e4 : (p0 == [97, 118, 101, 110, 117, 101]) = false := beq_eq_false_iff_ne.2 ha
          clear HSx HFail ha h2
          go_wp2_with fail
          refine bodyPost_ret (v := .tuple #[.agg #[.int .i64 0, .slice none 0 0], .int .i64 ((k : Int) + 1), .int .i64 1]) (by simp [results, Tryz.results13, go_sem, r0, r1]) rfl ?_
          refine ⟨_, by rw [HPf.out], by rw [HPf.out]; exact World.ownsRow_nil _ _ _ _, ?_⟩
          exact (K.out.p.below.setCell (p := ⟨R, 0, none⟩) K.out.lowR _).setCell (p := ⟨R, 1, none⟩) K.out.lowR _
        have e4 : (p0 == [97, 118, 101, 110, 117, 101]) = true := by rw [ha]; decide
        rw [if_pos ⟨h2, ha⟩] at HSx HFail
        obtain ⟨wb2, wof2, hsa, c1⟩ := HSA.out.cell_in (Below.refl _ _) (show 1 < ws.length by omega)
        cases hsa
        obtain ⟨p1, hp1⟩ : ∃ p1, wordAt ws 1 = p1 := ⟨_, rfl⟩
        rw [hp1] at c1 HSx HFail
        have hnu := rnumber_any p1 w1 (by rw [← hp1]; have := HWl.out.2.2 1; omega)
        unfold NumPost at hnu
        have HNu := hid hnu
        have i1w : 1 < (ws.length : Int) := by omega
        clear hnu hp1
        obtain ⟨x0, x1⟩ := K.out.p.c
        have fx := K.out.p.f 0
        cases hn : numOf p1 with
        | none =>
          rw [hn] at HNu HFail
          have HPf := hid (HFail.out rfl)
          have K := hid (K.out.setRoute 0)
          obtain ⟨s0, s1⟩ := K.out.r
          have g0 := K.out.fr 0
          have g1 := K.out.fr 1
          clear hn HSx HFail ha h2
          go_upto_region 20 with (go_at_call 38; refine HNu.out.mono ?_; rintro e w3 ⟨rfl, rfl⟩)
          have r0 := s0
          have r1 := s1
          go_wp2_with fail
          refine bodyPost_ret (v := .tuple #[.agg #[.int .i64 0, .slice none 0 0], .int .i64 ((k : Int) + 1), .int .i64 1]) (by simp [results, Tryz.results13, go_sem, r0, r1]) rfl ?_
          refine ⟨_, by rw [HPf.out], by rw [HPf.out]; exact World.ownsRow_nil _ _ _ _, ?_⟩
          exact (K.out.p.below.setCell (p := ⟨R, 0, none⟩) K.out.lowR _).setCell (p := ⟨R, 1, none⟩) K.out.lowR _
        | some n =>
          rw [hn] at HNu HSx
          have K := hid (K.out.setRoute n)
          have HS2 := hid (show runS stepP noPSt (q0 :: qs) (k + 1) = some { st with route := n } from HSx.out)
          clear hn HSx HFail ha h2
          go_upto_region 20 with (go_at_call 38; refine HNu.out.mono ?_; rintro e w3 ⟨rfl, rfl⟩)
          go_wp2_with fail
          go_roundw
          case rel => exact ⟨k + 1, _, _, by omega, by go_num, HS2.out, rfl, rfl, K.out⟩
          case measure => simp [intOf] <;> omega
      have e2 : ((k : Int) == 0) = false := beq_eq_false_iff_ne.2 (by omega)
      rw [if_neg hk0] at HSx HFail
      clear hk0
      by_cases he : p0 = endP
      · have e5 : (p0 == [101, 110, 100]) = true := by rw [he]; decide
        by_cases h2 : ws.length = 2
        · have e3 : ((ws.length : Int) == 2) = true := beq_iff_eq.2 (by omega)
          rw [if_pos ⟨he, h2⟩] at HSx HFail
          obtain ⟨wb2, wof2, hsa, c1⟩ := HSA.out.cell_in (Below.refl _ _) (show 1 < ws.length by omega)
          cases hsa
          obtain ⟨p1, hp1⟩ : ∃ p1, wordAt ws 1 = p1 := ⟨_, rfl⟩
          rw [hp1] at c1 HSx HFail
          have hnu := rnumber_any p1 w1 (by rw [← hp1]; have := HWl.out.2.2 1; omega)
          unfold NumPost at hnu
          have HNu := hid hnu
          have i1w : 1 < (ws.length : Int) := by omega
          clear hnu hp1
          cases hn : numOf p1 with
          | none =>
            rw [hn] at HNu HFail
            have HPf := hid (HFail.out rfl)
            clear hn HSx HFail he h2
            go_upto_region 20 with (go_at_call 38; refine HNu.out.mono ?_; rintro e w3 ⟨rfl, rfl⟩)
            go_wp2_with fail
            refine bodyPost_ret (v := .tuple #[.agg #[.int .i64 0, .slice none 0 0], .int .i64 ((k : Int) + 1), .int .i64 1]) (by simp [results, Tryz.results13, go_sem, r0, r1]) rfl ?_
            refine ⟨_, by rw [HPf.out], by rw [HPf.out]; exact World.ownsRow_nil _ _ _ _, ?_⟩
            exact (K.out.p.below.setCell (p := ⟨R, 0, none⟩) K.out.lowR _).setCell (p := ⟨R, 1, none⟩) K.out.lowR _
          | some n =>
            rw [hn] at HNu HSx
            have HS2 := hid (show runS stepP noPSt (q0 :: qs) (k + 1) = some { st with stop := (k : Int) + 1, many := n } from HSx.out)
            clear hn HSx HFail he h2
            go_upto_region 20 with (go_at_call 38; refine HNu.out.mono ?_; rintro e w3 ⟨rfl, rfl⟩)
            go_wp2_with fail
            go_roundw
            case rel => exact ⟨k + 1, _, _, by omega, by go_num, HS2.out, rfl, rfl, K.out⟩
            case measure => simp [intOf] <;> omega
        · have e3 : ((ws.length : Int) == 2) = false := beq_eq_false_iff_ne.2 (by omega)
          rw [if_neg (fun e => h2 e.2)] at HSx HFail
          clear he h2
          go_upto_region 12 with (go_at_call 39; refine HWg.out.mono ?_; rintro e w3 ⟨x, b, rfl, hb0, hb1, hb⟩; have K := hid (K.out.later hb); have HW0 := hid hb0; have HW1 := hid hb1; clear hb0 hb1 hb c0 r0 r1 f0 f1)
          have hbn := below_alloc w3 (.cells #[.string x.name, .int .i64 x.len, .int .i64 x.lo, .int .i64 x.hi] 45)
          have hnx := heap_alloc_new w3 (.cells #[.string x.name, .int .i64 x.len, .int .i64 x.lo, .int .i64 x.hi] 45)
          obtain ⟨w4, hw4⟩ : ∃ w4, w3.alloc (.cells #[.string x.name, .int .i64 x.len, .int .i64 x.lo, .int .i64 x.hi] 45) = w4 := ⟨_, rfl⟩
          obtain ⟨Z, hZ⟩ : ∃ Z, w3.heap.size = Z := ⟨_, rfl⟩
          rw [hw4] at hbn hnx ⊢
          rw [hZ] at hnx ⊢
          have K := hid (K.out.later hbn)
          have y0 : w4.cell? ⟨Z, 0, none⟩ = some (.string x.name) := by rw [Lib.cell_of_heap hnx]; rfl
          have y1 : w4.cell? ⟨Z, 1, none⟩ = some (.int .i64 x.len) := by rw [Lib.cell_of_heap hnx]; rfl
          have y2 : w4.cell? ⟨Z, 2, none⟩ = some (.int .i64 x.lo) := by rw [Lib.cell_of_heap hnx]; rfl
          have y3 : w4.cell? ⟨Z, 3, none⟩ = some (.int .i64 x.hi) := by rw [Lib.cell_of_heap hnx]; rfl
          obtain ⟨x0, x1⟩ := K.out.p.c
          have HSr := hid (Src.ofRec noWing wingCell (by decide) (fun _ => rfl) wingCells_atP (wing_lit w4 x) (RecAt.sound (wing_lit w4 x) (by simp)) : Src wingCells _ _ [x])
          have K5 := hid (K.out.later (below_alloc w4 (.cells #[.string x.name, .int .i64 x.len, .int .i64 x.lo, .int .i64 x.hi] 45)))
          have HQ1 := hid (show st.wings.length + [x].length ≤ 1000000 from by have := HFew.out.1; have := HQl.out.1; simp; omega)
          have HQ2 := hid (show T + 1 ≤ (w4.alloc (.cells #[.string x.name, .int .i64 x.len, .int .i64 x.lo, .int .i64 x.hi] 45)).heap.size from blkP_lt K5.out.p.box)
          have HLk := hid (show (st.wings ++ [x]).length = st.wings.length + 1 from by rw [List.length_append]; rfl)
          clear hbn hnx hw4 hZ
          go_upto_region 20 with (at_builtin; refine wpList_app wingCells Tryz.underlying22 infoWingP (by decide) (by decide) (fun _ => rfl) rfl _ _ rfl (T + 1) st.wings [x] (fun q _ => wingCells_one q) _ _ rfl rfl K5.out.p.own HSr.out HQ1.out HQ2.out ?_; intro v' w5 hown' hg _ _; have hbl := K5.out.wings hown' hg; obtain ⟨a5, c5, e5'⟩ := OwnR.form hown'; rw [HLk.out] at e5'; subst e5'; have KN := hid hbl.2; have g1 : w5.cell? ⟨T, 1, none⟩ = some (.slice aw st.wings.length cw) := (by rw [Lib.cell_of_heap hbl.1]; rfl); have g2 : w5.frozen? ⟨T, 1, none⟩ = false := Lib.frozen_of_heap hbl.1 _; clear hown' hg hbl x0 x1 y0 y1 y2 y3)
          clear K K5
          have K := hid KN.out
          cases b with
          | false =>
            have HPf := hid (HFail.out (by rw [HW0.out rfl]; rfl))
            obtain ⟨r0, r1⟩ := K.out.r
            have f0 := K.out.fr 0
            have f1 := K.out.fr 1
            clear g1 g2
            go_wp2_with fail
            refine bodyPost_ret (v := .tuple #[.agg #[.int .i64 0, .slice none 0 0], .int .i64 ((k : Int) + 1), .int .i64 1]) (by simp [results, Tryz.results13, go_sem, r0, r1]) rfl ?_
            refine ⟨_, by rw [HPf.out], by rw [HPf.out]; exact World.ownsRow_nil _ _ _ _, ?_⟩
            exact (K.out.p.below.setCell (p := ⟨R, 0, none⟩) K.out.lowR _).setCell (p := ⟨R, 1, none⟩) K.out.lowR _
          | true =>
            have HS2 := hid (show runS stepP noPSt (q0 :: qs) (k + 1) = some { st with wings := st.wings ++ [x] } from by rw [HSx.out, HW1.out rfl]; rfl)
            go_wp2_with fail
            go_roundw
            case rel => exact ⟨k + 1, _, _, by omega, by go_num, HS2.out, rfl, rfl, K.out⟩
            case measure => simp [intOf] <;> omega
      · have e5 : (p0 == [101, 110, 100]) = false := beq_eq_false_iff_ne.2 he
        rw [if_neg (fun e => he e.1)] at HSx HFail
        clear he
        go_upto_region 12 with (go_at_call 39; refine HWg.out.mono ?_; rintro e w3 ⟨x, b, rfl, hb0, hb1, hb⟩; have K := hid (K.out.later hb); have HW0 := hid hb0; have HW1 := hid hb1; clear hb0 hb1 hb c0 r0 r1 f0 f1)
        have hbn := below_alloc w3 (.cells #[.string x.name, .int .i64 x.len, .int .i64 x.lo, .int .i64 x.hi] 45)
        have hnx := heap_alloc_new w3 (.cells #[.string x.name, .int .i64 x.len, .int .i64 x.lo, .int .i64 x.hi] 45)
        obtain ⟨w4, hw4⟩ : ∃ w4, w3.alloc (.cells #[.string x.name, .int .i64 x.len, .int .i64 x.lo, .int .i64 x.hi] 45) = w4 := ⟨_, rfl⟩
        obtain ⟨Z, hZ⟩ : ∃ Z, w3.heap.size = Z := ⟨_, rfl⟩
        rw [hw4] at hbn hnx ⊢
        rw [hZ] at hnx ⊢
        have K := hid (K.out.later hbn)
        have y0 : w4.cell? ⟨Z, 0, none⟩ = some (.string x.name) := by rw [Lib.cell_of_heap hnx]; rfl
        have y1 : w4.cell? ⟨Z, 1, none⟩ = some (.int .i64 x.len) := by rw [Lib.cell_of_heap hnx]; rfl
        have y2 : w4.cell? ⟨Z, 2, none⟩ = some (.int .i64 x.lo) := by rw [Lib.cell_of_heap hnx]; rfl
        have y3 : w4.cell? ⟨Z, 3, none⟩ = some (.int .i64 x.hi) := by rw [Lib.cell_of_heap hnx]; rfl
        obtain ⟨x0, x1⟩ := K.out.p.c
        have HSr := hid (Src.ofRec noWing wingCell (by decide) (fun _ => rfl) wingCells_atP (wing_lit w4 x) (RecAt.sound (wing_lit w4 x) (by simp)) : Src wingCells _ _ [x])
        have K5 := hid (K.out.later (below_alloc w4 (.cells #[.string x.name, .int .i64 x.len, .int .i64 x.lo, .int .i64 x.hi] 45)))
        have HQ1 := hid (show st.wings.length + [x].length ≤ 1000000 from by have := HFew.out.1; have := HQl.out.1; simp; omega)
        have HQ2 := hid (show T + 1 ≤ (w4.alloc (.cells #[.string x.name, .int .i64 x.len, .int .i64 x.lo, .int .i64 x.hi] 45)).heap.size from blkP_lt K5.out.p.box)
        have HLk := hid (show (st.wings ++ [x]).length = st.wings.length + 1 from by rw [List.length_append]; rfl)
        clear hbn hnx hw4 hZ
        go_upto_region 20 with (at_builtin; refine wpList_app wingCells Tryz.underlying22 infoWingP (by decide) (by decide) (fun _ => rfl) rfl _ _ rfl (T + 1) st.wings [x] (fun q _ => wingCells_one q) _ _ rfl rfl K5.out.p.own HSr.out HQ1.out HQ2.out ?_; intro v' w5 hown' hg _ _; have hbl := K5.out.wings hown' hg; obtain ⟨a5, c5, e5'⟩ := OwnR.form hown'; rw [HLk.out] at e5'; subst e5'; have KN := hid hbl.2; have g1 : w5.cell? ⟨T, 1, none⟩ = some (.slice aw st.wings.length cw) := (by rw [Lib.cell_of_heap hbl.1]; rfl); have g2 : w5.frozen? ⟨T, 1, none⟩ = false := Lib.frozen_of_heap hbl.1 _; clear hown' hg hbl x0 x1 y0 y1 y2 y3)
        clear K K5
        have K := hid KN.out
        cases b with
        | false =>
          have HPf := hid (HFail.out (by rw [HW0.out rfl]; rfl))
          obtain ⟨r0, r1⟩ := K.out.r
          have f0 := K.out.fr 0
          have f1 := K.out.fr 1
          clear g1 g2
          go_wp2_with fail
          refine bodyPost_ret (v := .tuple #[.agg #[.int .i64 0, .slice none 0 0], .int .i64 ((k : Int) + 1), .int .i64 1]) (by simp [results, Tryz.results13, go_sem, r0, r1]) rfl ?_
          refine ⟨_, by rw [HPf.out], by rw [HPf.out]; exact World.ownsRow_nil _ _ _ _, ?_⟩
          exact (K.out.p.below.setCell (p := ⟨R, 0, none⟩) K.out.lowR _).setCell (p := ⟨R, 1, none⟩) K.out.lowR _
        | true =>
          have HS2 := hid (show runS stepP noPSt (q0 :: qs) (k + 1) = some { st with wings := st.wings ++ [x] } from by rw [HSx.out, HW1.out rfl]; rfl)
          go_wp2_with fail
          go_roundw
          case rel => exact ⟨k + 1, _, _, by omega, by go_num, HS2.out, rfl, rfl, K.out⟩
          case measure => simp [intOf] <;> omega
    · obtain rfl : k = qs.length := by omega
      have n0 := (K.out.p.row qs.length).trans (HCs.out _ (Nat.le_refl _))
      have HPe := hid (show readA text = (if st.stop = 0 ∨ rowOf (q0 :: qs) qs.length ≠ [] then ((0, []), (qs.length : Int) + 1, 1)
        else if st.many ≠ (st.wings.length : Int) then ((0, []), st.stop, 1)
        else if check st.route st.wings = 0 then ((st.route, st.wings), 0, 0) else ((0, []), 0, check st.route st.wings)) from by
        rw [HP.out, stopS_none stepP noPSt (by simp) HRun.out]
        simp only [HRun.out])
      obtain ⟨rl, hrl⟩ : ∃ rl, rowOf (q0 :: qs) qs.length = rl := ⟨_, rfl⟩
      rw [hrl] at n0 HPe
      obtain ⟨x0, x1⟩ := K.out.p.c
      obtain ⟨r0, r1⟩ := K.out.r
      have f0 := K.out.fr 0
      have f1 := K.out.fr 1
      have i2 : (qs.length : Int) < (qs.length : Int) + 1 := by omega
      clear hrl hk hlt
      by_cases hs : st.stop = 0
      · have e1 : (st.stop == 0) = true := beq_iff_eq.2 hs
        rw [if_pos (.inl hs)] at HPe
        clear hs
        go_wp2_with fail
        refine bodyPost_ret (v := .tuple #[.agg #[.int .i64 0, .slice none 0 0], .int .i64 ((qs.length : Int) + 1), .int .i64 1]) (by simp [results, Tryz.results13, go_sem, r0, r1]) rfl ?_
        refine ⟨_, by rw [HPe.out], by rw [HPe.out]; exact World.ownsRow_nil _ _ _ _, ?_⟩
        exact (K.out.p.below.setCell (p := ⟨R, 0, none⟩) K.out.lowR _).setCell (p := ⟨R, 1, none⟩) K.out.lowR _
      have e1 : (st.stop == 0) = false := beq_eq_false_iff_ne.2 hs
      by_cases hr : rl = []
      rotate_left
      · have e2 : (rl == ([] : List UInt8)) = false := beq_eq_false_iff_ne.2 hr
        rw [if_pos (.inr hr)] at HPe
        clear hs hr
        go_wp2_with fail
        refine bodyPost_ret (v := .tuple #[.agg #[.int .i64 0, .slice none 0 0], .int .i64 ((qs.length : Int) + 1), .int .i64 1]) (by simp [results, Tryz.results13, go_sem, r0, r1]) rfl ?_
        refine ⟨_, by rw [HPe.out], by rw [HPe.out]; exact World.ownsRow_nil _ _ _ _, ?_⟩
        exact (K.out.p.below.setCell (p := ⟨R, 0, none⟩) K.out.lowR _).setCell (p := ⟨R, 1, none⟩) K.out.lowR _
      have e2 : (rl == ([] : List UInt8)) = true := by rw [hr]; rfl
      rw [if_neg (fun h => h.elim hs (fun h => h hr))] at HPe
      clear hs hr
      obtain ⟨sl, hsl⟩ : ∃ sl, st.wings.length = sl := ⟨_, rfl⟩
      by_cases hm : st.many = (sl : Int)
      rotate_left
      · have e3 : (st.many == (sl : Int)) = false := beq_eq_false_iff_ne.2 hm
        rw [hsl, if_pos hm] at HPe
        rw [hsl] at x1
        clear hm hsl
        go_wp2_with fail
        refine bodyPost_ret (v := .tuple #[.agg #[.int .i64 0, .slice none 0 0], .int .i64 (st.stop), .int .i64 1]) (by simp [results, Tryz.results13, go_sem, r0, r1]) rfl ?_
        refine ⟨_, by rw [HPe.out], by rw [HPe.out]; exact World.ownsRow_nil _ _ _ _, ?_⟩
        exact (K.out.p.below.setCell (p := ⟨R, 0, none⟩) K.out.lowR _).setCell (p := ⟨R, 1, none⟩) K.out.lowR _
      have e3 : (st.many == (sl : Int)) = true := beq_iff_eq.2 hm
      rw [hsl, if_neg (fun h => h hm)] at HPe
      have HCk := hid (fun W' hb => rcheck_wide st.wings st.route _ none W' ((K.out.p.own.at (d := none) (fun k e => by cases e)).below hb) (by have := HFew.out.1; have := HQl.out.1; omega) (fun i hi => by have := HFew.out.2 (wg st.wings i) (by unfold wg; rw [List.getD_eq_getElem?_getD, List.getElem?_eq_getElem hi]; simp); omega))
      rw [hsl] at x1 HCk
      clear hm
      have HSl := hid hsl
      clear hsl
      by_cases hc : check st.route st.wings = 0
      · rw [if_pos hc] at HPe
        rw [hc] at HCk
        clear hc
        go_wp2_with (go_at_call 32; refine (HCk.out _ (Below.refl _ _)).mono ?_; rintro e w6 ⟨rfl, hb⟩; have K := hid (K.out.later hb); clear hb x0 x1 r0 r1 f0 f1; obtain ⟨x0, x1⟩ := K.out.p.c; rw [HSl.out] at x1; obtain ⟨r0, r1⟩ := K.out.r; have f0 := K.out.fr 0; have f1 := K.out.fr 1)
        refine bodyPost_ret (v := .tuple #[.agg #[.int .i64 st.route, .slice aw sl cw], .int .i64 0, .int .i64 0]) (by simp [results, Tryz.results13, go_sem, r0, r1]) rfl ?_
        refine ⟨_, by rw [HPe.out], ?_, ?_⟩
        · rw [HPe.out, ← HSl.out]
          have h1 := K.out.p.own.kept (gbP_put w6 R 0 (.int .i64 st.route)) (K.out.p.own.offP K.out.ret (by decide))
          have h2 := h1.kept (gbP_put _ R 1 (.slice aw st.wings.length cw)) (h1.offP (blkP_set K.out.ret) (by decide))
          exact OwnR.base' h2 (by have := K.out.p.low; omega)
        · exact (K.out.p.below.setCell (p := ⟨R, 0, none⟩) K.out.lowR _).setCell (p := ⟨R, 1, none⟩) K.out.lowR _
      · rw [if_neg hc] at HPe
        obtain ⟨y1, y2⟩ := ne_bool hc
        obtain ⟨ce, hce⟩ : ∃ ce, check st.route st.wings = ce := ⟨_, rfl⟩
        rw [hce] at HPe HCk y1 y2
        clear hc hce
        go_wp2_with (go_at_call 32; refine (HCk.out _ (Below.refl _ _)).mono ?_; rintro e w6 ⟨rfl, hb⟩; have K := hid (K.out.later hb); clear hb x0 x1 r0 r1 f0 f1; obtain ⟨x0, x1⟩ := K.out.p.c; rw [HSl.out] at x1; obtain ⟨r0, r1⟩ := K.out.r; have f0 := K.out.fr 0; have f1 := K.out.fr 1)
        refine bodyPost_ret (v := .tuple #[.agg #[.int .i64 0, .slice none 0 0], .int .i64 (0), .int .i64 ce]) (by simp [results, Tryz.results13, go_sem, r0, r1]) rfl ?_
        refine ⟨_, by rw [HPe.out], by rw [HPe.out]; exact World.ownsRow_nil _ _ _ _, ?_⟩
        exact (K.out.p.below.setCell (p := ⟨R, 0, none⟩) K.out.lowR _).setCell (p := ⟨R, 1, none⟩) K.out.lowR _
end Go.Proofs.YtefdopifebhgiaaGreatDoor
