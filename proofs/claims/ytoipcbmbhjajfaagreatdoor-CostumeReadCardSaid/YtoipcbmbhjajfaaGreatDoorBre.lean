/-
  WALKS: costume.Read.
-/
import Derived.Test.YtoipcbmbhjajfaaGreatDoorBrf
import Derived.Test.YtoipcbmbhjajfaaGreatDoorFlo2
namespace Go.Proofs.YtoipcbmbhjajfaaGreatDoor
open Go.RowKit

set_option maxHeartbeats 16000000 in
set_option maxRecDepth 100000 in
theorem read_any (text : List UInt8) (w : World) (h : Env w) : Calls Tryz.prog 12 #[.string ⟨text.toArray⟩] w (ReadPost text w) := by
  have HE := hid h
  have hsz : (⟨text.toArray⟩ : ByteArray).size = text.length := by simp [ByteArray.size]
  have hbx := heap_alloc_new w (.cells #[.slice none 0 0, .slice none 0 0, .slice none 0 0, .slice none 0 0] 27)
  have HB0 := hid (below_alloc w (.cells #[.slice none 0 0, .slice none 0 0, .slice none 0 0, .slice none 0 0] 27))
  obtain ⟨wT, hwT⟩ : ∃ wT, w.alloc (.cells #[.slice none 0 0, .slice none 0 0, .slice none 0 0, .slice none 0 0] 27) = wT := ⟨_, rfl⟩
  obtain ⟨T, hT⟩ : ∃ T, w.heap.size = T := ⟨_, rfl⟩
  rw [hwT] at hbx HB0
  rw [hT] at hbx
  have HBx := hid hbx
  clear h hbx
  by_cases h2 : 2000 < text.length
  · have d0 : decide (2000 < (text.length : Int)) = true := decide_eq_true (by omega)
    have HP := hid (show readP text = (noPlot, 0, 6) from by unfold readP; rw [if_pos h2])
    clear h2
    go_enter Tryz.func12, Tryz.ntmps12
    go_upto_region 2 with fail
    have k0 : wT.cell? ⟨T, 0, none⟩ = some (.slice none 0 0) := by rw [Lib.cell_of_heap HBx.out]; rfl
    have k1 : wT.cell? ⟨T, 1, none⟩ = some (.slice none 0 0) := by rw [Lib.cell_of_heap HBx.out]; rfl
    have k2 : wT.cell? ⟨T, 2, none⟩ = some (.slice none 0 0) := by rw [Lib.cell_of_heap HBx.out]; rfl
    have k3 : wT.cell? ⟨T, 3, none⟩ = some (.slice none 0 0) := by rw [Lib.cell_of_heap HBx.out]; rfl
    have f0 : wT.frozen? ⟨T, 0, none⟩ = false := Lib.frozen_of_heap HBx.out _
    have f1 : wT.frozen? ⟨T, 1, none⟩ = false := Lib.frozen_of_heap HBx.out _
    have f2 : wT.frozen? ⟨T, 2, none⟩ = false := Lib.frozen_of_heap HBx.out _
    have f3 : wT.frozen? ⟨T, 3, none⟩ = false := Lib.frozen_of_heap HBx.out _
    go_wp2_with fail
    refine bodyPost_ret (v := .tuple #[plotV (.slice none 0 0) (.slice none 0 0) (.slice none 0 0) (.slice none 0 0), .int .i64 0, .int .i64 6]) (by simp [results, Tryz.results12, go_sem, k0, k1, k2, k3, plotV]) rfl ?_
    refine ⟨_, _, _, _, by rw [HP.out], by rw [HP.out]; exact OwnP.none _ _, ?_⟩
    rw [hT] at HB0 ⊢
    exact (((HB0.out.setCell (p := ⟨T, 0, none⟩) (Nat.le_refl _) _).setCell (p := ⟨T, 1, none⟩) (Nat.le_refl _) _).setCell (p := ⟨T, 2, none⟩) (Nat.le_refl _) _).setCell (p := ⟨T, 3, none⟩) (Nat.le_refl _) _
  have d0 : decide (2000 < (text.length : Int)) = false := decide_eq_false (by omega)
  obtain ⟨q0, qs, hcut⟩ := cutL_ne 10 text
  have hbd := cutL_bound 10 text
  rw [hcut] at hbd
  have HQl := hid (show qs.length ≤ 2000 ∧ ∀ k, (rowAt (q0 :: qs) k).length ≤ 2000 from ⟨by have := hbd.1; simp at this; omega, fun k => by
    unfold rowAt
    rw [List.getD_eq_getElem?_getD]
    rcases Nat.lt_or_ge k (q0 :: qs).length with hk | hk
    · rw [List.getElem?_eq_getElem hk]; have := hbd.2 (q0 :: qs)[k] (by simp); simp at this ⊢; omega
    · rw [List.getElem?_eq_none hk]; simp⟩)
  have HP := hid (show readP text = (match stopAt (q0 :: qs) qs.length with
    | some k => (noPlot, (k : Int) + 1, 1)
    | none => match runR (q0 :: qs) qs.length with
      | none => (noPlot, 0, 0)
      | some s => if s.ended = true ∧ rowAt (q0 :: qs) qs.length = [] then (if plotErr s.p = 0 then (s.p, 0, 0) else (noPlot, 0, plotErr s.p)) else (noPlot, (qs.length : Int) + 1, 1)) from by unfold readP; rw [if_neg h2, hcut]; rfl)
  have HEw := hid (HE.out.go HB0.out)
  have hsp := split_any ⟨text.toArray⟩ 10 wT HEw.out (by simp [ByteArray.size]; omega)
  have e0 : (⟨text.toArray⟩ : ByteArray).data.toList = text := by simp
  rw [e0, hcut] at hsp
  have HS := hid hsp
  obtain ⟨cs, hcs⟩ : ∃ cs, ((q0 :: qs).map strV).toArray = cs := ⟨_, rfl⟩
  have HCs := hid (show ∀ k, k ≤ qs.length → cs[k]? = some (.string ⟨(rowAt (q0 :: qs) k).toArray⟩) from fun k hk => by
    rw [← hcs]
    have hk2 : k < (q0 :: qs).length := by simp; omega
    simp only [List.getElem?_toArray, List.getElem?_map]
    simp only [rowAt, List.getD_eq_getElem?_getD, List.getElem?_eq_getElem hk2, Option.map_some, Option.getD_some]
    rfl)
  rw [hcs] at HS
  have hrows := heap_alloc_new wT (.cells cs 9)
  have hbxS := (below_alloc wT (.cells cs 9)).block T (blkG_lt HBx.out)
  obtain ⟨wS, hwS⟩ : ∃ wS, wT.alloc (.cells cs 9) = wS := ⟨_, rfl⟩
  obtain ⟨S, hS⟩ : ∃ S, wT.heap.size = S := ⟨_, rfl⟩
  have hB1 := below_alloc wT (.cells cs 9)
  rw [hwS] at hrows hbxS hB1 HS
  rw [hS] at hrows HS
  have K := hid (show RdI T S cs w noPlot (.slice none 0 0) (.slice none 0 0) (.slice none 0 0) (.slice none 0 0) wS from
    ⟨hbxS.trans HBx.out, hrows, OwnP.none _ _, below_trans HB0.out hB1, by omega⟩)
  have z0 : wrap64 (qs.length : Int) = (qs.length : Int) := IntWalk.wrap64_in _ (by have := HQl.out.1; omega)
  have i0 : (qs.length : Int) ≤ (qs.length : Int) + 1 := by omega
  clear h2 hcut hbd hsp e0 hcs hrows hbxS hwS hS hB1 HBx HEw HB0
  go_enter Tryz.func12, Tryz.ntmps12
  go_upto_region 3 with fail
  go_wp2_with (go_at_call 33; refine HS.out.mono ?_; rintro e w2 ⟨rfl, rfl⟩)
  rw [z0]
  clear HS hsz d0 hwT z0 i0
  go_loopw [7, 8, 29] (fun d e i wr => ∃ (k : Nat) (st : RSt) (vp vw vd vq : Value), k ≤ qs.length ∧ i = .int .i64 k ∧ runR (q0 :: qs) k = some st ∧ d = .bool st.dressed ∧ e = .bool st.ended ∧ RdI T S cs w st.p vp vw vd vq wr) (fun _ _ i _ => qs.length - (intOf i).toNat)
  case atStart => exact ⟨0, noRSt, _, _, _, _, by omega, rfl, rfl, rfl, rfl, K.out⟩
  case round =>
    obtain ⟨k, st, vp, vw, vd, vq, hk, rfl, hrun, rfl, rfl, hKK⟩ := hrel
    obtain ⟨wo, rfl⟩ : ∃ wo : World, wo = wr := ⟨_, rfl⟩
    clear K
    have K := hid hKK
    have HRun := hid hrun
    have HEo := hid (HE.out.go hKK.below)
    obtain ⟨pa, pc, rfl⟩ := hKK.own.persons.form
    obtain ⟨wa, wc, rfl⟩ := hKK.own.wform
    obtain ⟨da, dc, rfl⟩ := hKK.own.dress.form
    obtain ⟨qa, qc, rfl⟩ := hKK.own.parts.form
    clear hKK hrun
    by_cases hlt : k < qs.length
    · have i1 : (k : Int) < (qs.length : Int) := by omega
      have z2 : IntKind.i64.wrap ((k : Int) + 1) = (k : Int) + 1 := IntWalk.i64_in _ (by have := HQl.out.1; omega)
      have n0 := (K.out.row k).trans (HCs.out k hk)
      have HPa := hid (fun W' hE => parse_any (rowAt (q0 :: qs) k) W' (HQl.out.2 k) hE)
      have HSx := hid (show runR (q0 :: qs) (k + 1) = stepR k (rowAt (q0 :: qs) k) st from by rw [runR_succ (by simp; omega), HRun.out]; rfl)
      have HFail := hid (fun (hs : stepR k (rowAt (q0 :: qs) k) st = none) => (show readP text = (noPlot, (k : Int) + 1, 1) from by rw [HP.out, stop_some HRun.out (HSx.out.trans hs) hlt (by simp)]))
      unfold ParsePost at HPa
      unfold stepR at HSx HFail
      obtain ⟨row, hrow⟩ : ∃ row, rowAt (q0 :: qs) k = row := ⟨_, rfl⟩
      rw [hrow] at HPa n0 HSx HFail
      have HQr := hid (show row.length ≤ 2000 from by have := HQl.out.2 k; rw [hrow] at this; exact this)
      clear hrow
      cases hp : parseL row with
      | none =>
        rw [hp] at HPa HFail
        have HPf := hid (HFail.out rfl)
        clear hp HSx HFail
        go_wp2_with (go_at_call 34; refine (HPa.out _ HEo.out).mono ?_; rintro e w3 ⟨rfl, hb⟩; have K := hid (K.out.later hb); clear hb n0; obtain ⟨c0, c1, c2, c3⟩ := K.out.c; have f0 := K.out.f 0; have f1 := K.out.f 1; have f2 := K.out.f 2; have f3 := K.out.f 3)
        refine bodyPost_ret (v := .tuple #[plotV (.slice none 0 0) (.slice none 0 0) (.slice none 0 0) (.slice none 0 0), .int .i64 ((k : Int) + 1), .int .i64 1]) (by simp [results, Tryz.results12, go_sem, c0, c1, c2, c3, plotV]) rfl ?_
        refine ⟨_, _, _, _, by rw [HPf.out], by rw [HPf.out]; exact OwnP.none _ _, ?_⟩
        exact (((K.out.below.setCell (p := ⟨T, 0, none⟩) K.out.low _).setCell (p := ⟨T, 1, none⟩) K.out.low _).setCell (p := ⟨T, 2, none⟩) K.out.low _).setCell (p := ⟨T, 3, none⟩) K.out.low _
      | some wl =>
        obtain ⟨wd, l⟩ := wl
        rw [hp] at HPa HSx HFail
        dsimp only at HPa HSx HFail
        have HLl := hid (show l.length ≤ 2000 from Nat.le_trans (parse_len hp) HQr.out)
        clear hp
        unfold stepW at HSx HFail
        by_cases he : st.ended = true
        · rw [if_pos he] at HFail
          have HPf := hid (HFail.out rfl)
          clear HSx HFail
          go_wp2_with (go_at_call 34; refine (HPa.out _ HEo.out).mono ?_; rintro e w3 ⟨lv, rfl, ho, hb⟩; obtain ⟨la, lc, elv⟩ := (own_int.2 ho).form; subst elv; have HLo := hid (OwnInts.base' ho (show T + 1 ≤ wo.heap.size from blkG_lt K.out.box)); have K := hid (K.out.later hb); clear hb n0 ho; obtain ⟨c0, c1, c2, c3⟩ := K.out.c; have f0 := K.out.f 0; have f1 := K.out.f 1; have f2 := K.out.f 2; have f3 := K.out.f 3)
          refine bodyPost_ret (v := .tuple #[plotV (.slice none 0 0) (.slice none 0 0) (.slice none 0 0) (.slice none 0 0), .int .i64 ((k : Int) + 1), .int .i64 1]) (by simp [results, Tryz.results12, go_sem, c0, c1, c2, c3, plotV]) rfl ?_
          refine ⟨_, _, _, _, by rw [HPf.out], by rw [HPf.out]; exact OwnP.none _ _, ?_⟩
          exact (((K.out.below.setCell (p := ⟨T, 0, none⟩) K.out.low _).setCell (p := ⟨T, 1, none⟩) K.out.low _).setCell (p := ⟨T, 2, none⟩) K.out.low _).setCell (p := ⟨T, 3, none⟩) K.out.low _
        rw [if_neg he] at HSx HFail
        have he' : st.ended = false := by simpa using he
        clear he
        by_cases h0 : k = 0
        · rw [if_pos h0] at HSx HFail
          have d1 : ((k : Int) == 0) = true := beq_iff_eq.2 (by omega)
          have hst := hid (show st = noRSt from by have := HRun.out; rw [h0] at this; cases this; rfl)
          clear h0
          by_cases hw : wd = personsW
          · have e1 : (wd == [112, 101, 114, 115, 111, 110, 115]) = true := by rw [hw]; decide
            by_cases hev : l.length % 2 = 0
            · have hrem : (((l.length : Int) % 2) == 0) = true := beq_iff_eq.2 (by omega)
              rw [if_pos ⟨hw, hev⟩] at HSx
              have hst2 := hst.out
              subst hst2
              have HEv := hid hev
              clear HFail hw hev
              go_wp2_with (go_at_call 34; refine (HPa.out _ HEo.out).mono ?_; rintro e w3 ⟨lv, rfl, ho, hb⟩; obtain ⟨la, lc, elv⟩ := (own_int.2 ho).form; subst elv; have HLo := hid (OwnInts.base' ho (show T + 1 ≤ wo.heap.size from blkG_lt K.out.box)); have K := hid (K.out.later hb); clear hb n0 ho; obtain ⟨c0, c1, c2, c3⟩ := K.out.c; have f0 := K.out.f 0; have f1 := K.out.f 1; have f2 := K.out.f 2; have f3 := K.out.f 3)
              go_loopw [14] (fun i wr => ∃ (m j : Nat) (pv : Value), m = 2 * j ∧ m ≤ l.length ∧ i = .int .i64 (m : Int) ∧ OwnInts (T + 1) wr (.slice la l.length lc) l ∧ RdI T S cs w { noRSt.p with persons := pairsN l j } pv (.slice wa noRSt.p.walk.length wc) (.slice da noRSt.p.dress.length dc) (.slice qa noRSt.p.parts.length qc) wr) (fun i _ => l.length - (intOf i).toNat)
              case atStart => exact ⟨0, 0, _, rfl, by omega, rfl, HLo.out, K.out⟩
              case round =>
                obtain ⟨m, j, pv, hm, hml, rfl, hLo, hK⟩ := hrel
                obtain ⟨wi, rfl⟩ : ∃ wi : World, wi = wr := ⟨_, rfl⟩
                clear c0 c1 c2 c3 f0 f1 f2 f3 K HLo
                have K := hid hK
                have HLo := hid hLo
                obtain ⟨xa, xc, rfl⟩ := hK.own.persons.form
                rw [pairsN_len] at K
                clear hK hLo
                by_cases hlt2 : m < l.length
                · have hev := HEv.out
                  have i2 : (m : Int) < (l.length : Int) := by omega
                  have i3 : (m : Int) + 1 < (l.length : Int) := by omega
                  have z3 : IntKind.i64.wrap ((m : Int) + 1) = (m : Int) + 1 := IntWalk.i64_in _ (by have := HLl.out; omega)
                  have z4 : IntKind.i64.wrap ((m : Int) + 2) = (m : Int) + 2 := IntWalk.i64_in _ (by have := HLl.out; omega)
                  have hi := OwnInts.at (d := none) HLo.out (by simp)
                  obtain ⟨lb, lo, lc', el, _, _⟩ := hi.slice (by omega)
                  cases el
                  have u0 := hi.cell (i := m) hlt2
                  have u1 := hi.cell (i := m + 1) (by omega)
                  have HPN := hid (show pairsN l (j + 1) = pairsN l j ++ [(nm l m, nm l (m + 1))] from by rw [hm]; rfl)
                  obtain ⟨x, hx⟩ : ∃ x, nm l m = x := ⟨_, rfl⟩
                  obtain ⟨y, hy⟩ : ∃ y, nm l (m + 1) = y := ⟨_, rfl⟩
                  rw [hx] at u0 HPN
                  rw [hy] at u1 HPN
                  have HM := hid (show m = 2 * j ∧ m + 2 ≤ l.length from ⟨hm, by omega⟩)
                  have HD := hid (fun W' (hb : Below wi.heap.size wi W') => (⟨cell_back hb (blkG_lt K.out.box) K.out.c.1, cell_back hb (World.block_lt_of_cell? _ _ u0) u0, cell_back hb (World.block_lt_of_cell? _ _ u1) u1⟩ : W'.cell? ⟨T, 0, none⟩ = some (.slice xa j xc) ∧ W'.cell? ⟨lb, lo + m, none⟩ = some (.int .i64 x) ∧ W'.cell? ⟨lb, lo + (m + 1), none⟩ = some (.int .i64 y)))
                  have nat1 : ((m : Int) + 1).toNat = m + 1 := by omega
                  have i3n : ¬ ((m : Int) + 1 < 0) := by omega
                  clear hi u0 u1 hx hy hm hml hlt2 hev
                  go_upto_region 18 with fail
                  refine wp_named ?_
                  intro ac0 hac0
                  have HN := hid (show ac0.tmps.size = 170 from by rw [hac0]; rfl)
                  have r2 : ac0.eval (.tmp 2) = .pointer (some ⟨T, 0, none⟩) := by rw [hac0]; rfl
                  have r12 : ac0.eval (.tmp 12) = .slice (some ⟨lb, lo, none⟩) l.length lc := by rw [hac0]; rfl
                  have r14 : ac0.eval (.tmp 14) = .int .i64 (m : Int) := by rw [hac0]; rfl
                  have HA := hid hac0
                  clear hac0
                  refine wp_region_flow_tail 13 (by kernel_rfl) (by kernel_rfl) [66, 67, 68, 69, 70, 71, 72, 73, 74, 75, 76, 77, 78] 100
                    (fun _ w' => Below wi.heap.size wi w') (fun a b => Below a.heap.size a b) (fun _ _ => False)
                    (fun _ ix v w' => match ix with
                      | 0 => v = .pointer (some ⟨T, 0, none⟩)
                      | 1 => v = .slice xa j xc
                      | 2 => v = .slice (some ⟨lb, lo, none⟩) l.length lc
                      | 3 => v = .int .i64 (m : Int)
                      | 4 => v = .pointer (some ⟨lb, lo + m, none⟩)
                      | 5 => v = .int .i64 x
                      | 6 => v = .slice (some ⟨lb, lo, none⟩) l.length lc
                      | 7 => v = .int .i64 (m : Int)
                      | 8 => v = .int .i64 ((m : Int) + 1)
                      | 9 => v = .pointer (some ⟨lb, lo + (m + 1), none⟩)
                      | 10 => v = .int .i64 y
                      | 11 => v = .agg #[.int .i64 x, .int .i64 y]
                      | 12 => (∃ z : Nat, v = .slice (some ⟨z, 0, none⟩) 1 1) ∧ SpansAt none w' v [(x, y)]
                      | _ => True)
                    [0, 1, 2, 3, 4, 5, 6, 7, 8, 9, 10, 11, 12] (by kernel_rfl) (by kernel_rfl) rfl ?_ ?_ ?_ ?_ ?_
                  · intro bt ix v w2 w3' hW hg hy
                    match ix with
                    | 0 => exact hy
                    | 1 => exact hy
                    | 2 => exact hy
                    | 3 => exact hy
                    | 4 => exact hy
                    | 5 => exact hy
                    | 6 => exact hy
                    | 7 => exact hy
                    | 8 => exact hy
                    | 9 => exact hy
                    | 10 => exact hy
                    | 11 => exact hy
                    | 12 => exact ⟨hy.1.elim fun z hz => ⟨z, hz⟩, RecAt.below hy.2 hg⟩
                    | n + 13 => exact trivial
                  · intro ix v w2 w3' _ h; exact h.elim
                  · exact (Below.refl _ _).drew
                  · skip
                    refine StepF.val (i := 0) (o := _) rfl (by decide) ?_ ?_
                    · intro bb vs wx _ hW hY
                      refine ⟨fl_want rfl, fun ρ hρ => ⟨.pointer (some ⟨T, 0, none⟩), wx, ?_, hW, Below.refl _ _, rfl⟩⟩
                      have r_2 : ρ (.tmp 2) = .pointer (some ⟨T, 0, none⟩) := by rw [hρ, fl_out rfl, r2]
                      have rc : ∀ cv : Value, ρ (.const cv) = cv := fun cv => by rw [hρ]; rfl
                      clear hρ
                      simp [execOp, rc, go_sem, r_2]
                    refine StepF.val (i := 1) (o := _) rfl (by decide) ?_ ?_
                    · intro bb vs wx _ hW hY
                      have y66 : vs 66 = .pointer (some ⟨T, 0, none⟩) := hY 0 66 (by kernel_rfl) (by kernel_rfl)
                      refine ⟨fl_want rfl, fun ρ hρ => ⟨.slice xa j xc, wx, ?_, hW, Below.refl _ _, rfl⟩⟩
                      have r_66 : ρ (.tmp 66) = .pointer (some ⟨T, 0, none⟩) := by rw [hρ, fl_in 170 HN.out rfl, y66]
                      have q0 := (HD.out _ hW).1
                      have rc : ∀ cv : Value, ρ (.const cv) = cv := fun cv => by rw [hρ]; rfl
                      clear hρ
                      simp [execOp, rc, go_sem, r_66, q0]
                    refine StepF.val (i := 2) (o := _) rfl (by decide) ?_ ?_
                    · intro bb vs wx _ hW hY
                      refine ⟨fl_want rfl, fun ρ hρ => ⟨.slice (some ⟨lb, lo, none⟩) l.length lc, wx, ?_, hW, Below.refl _ _, rfl⟩⟩
                      have r_12 : ρ (.tmp 12) = .slice (some ⟨lb, lo, none⟩) l.length lc := by rw [hρ, fl_out rfl, r12]
                      have rc : ∀ cv : Value, ρ (.const cv) = cv := fun cv => by rw [hρ]; rfl
                      clear hρ
                      simp [execOp, rc, go_sem, r_12]
                    refine StepF.val (i := 3) (o := _) rfl (by decide) ?_ ?_
                    · intro bb vs wx _ hW hY
                      refine ⟨fl_want rfl, fun ρ hρ => ⟨.int .i64 (m : Int), wx, ?_, hW, Below.refl _ _, rfl⟩⟩
                      have r_14 : ρ (.tmp 14) = .int .i64 (m : Int) := by rw [hρ, fl_out rfl, r14]
                      have rc : ∀ cv : Value, ρ (.const cv) = cv := fun cv => by rw [hρ]; rfl
                      clear hρ
                      simp [execOp, rc, go_sem, r_14]
                    refine StepF.val (i := 4) (o := _) rfl (by decide) ?_ ?_
                    · intro bb vs wx _ hW hY
                      have y68 : vs 68 = .slice (some ⟨lb, lo, none⟩) l.length lc := hY 2 68 (by kernel_rfl) (by kernel_rfl)
                      have y69 : vs 69 = .int .i64 (m : Int) := hY 3 69 (by kernel_rfl) (by kernel_rfl)
                      refine ⟨fl_want rfl, fun ρ hρ => ⟨.pointer (some ⟨lb, lo + m, none⟩), wx, ?_, hW, Below.refl _ _, rfl⟩⟩
                      have r_68 : ρ (.tmp 68) = .slice (some ⟨lb, lo, none⟩) l.length lc := by rw [hρ, fl_in 170 HN.out rfl, y68]
                      have r_69 : ρ (.tmp 69) = .int .i64 (m : Int) := by rw [hρ, fl_in 170 HN.out rfl, y69]
                      have rc : ∀ cv : Value, ρ (.const cv) = cv := fun cv => by rw [hρ]; rfl
                      clear hρ
                      simp [execOp, rc, go_sem, r_68, r_69, i2]
                    refine StepF.val (i := 5) (o := _) rfl (by decide) ?_ ?_
                    · intro bb vs wx _ hW hY
                      have y70 : vs 70 = .pointer (some ⟨lb, lo + m, none⟩) := hY 4 70 (by kernel_rfl) (by kernel_rfl)
                      refine ⟨fl_want rfl, fun ρ hρ => ⟨.int .i64 x, wx, ?_, hW, Below.refl _ _, rfl⟩⟩
                      have r_70 : ρ (.tmp 70) = .pointer (some ⟨lb, lo + m, none⟩) := by rw [hρ, fl_in 170 HN.out rfl, y70]
                      have q0 := (HD.out _ hW).2.1
                      have rc : ∀ cv : Value, ρ (.const cv) = cv := fun cv => by rw [hρ]; rfl
                      clear hρ
                      simp [execOp, rc, go_sem, r_70, q0]
                    refine StepF.val (i := 6) (o := _) rfl (by decide) ?_ ?_
                    · intro bb vs wx _ hW hY
                      refine ⟨fl_want rfl, fun ρ hρ => ⟨.slice (some ⟨lb, lo, none⟩) l.length lc, wx, ?_, hW, Below.refl _ _, rfl⟩⟩
                      have r_12 : ρ (.tmp 12) = .slice (some ⟨lb, lo, none⟩) l.length lc := by rw [hρ, fl_out rfl, r12]
                      have rc : ∀ cv : Value, ρ (.const cv) = cv := fun cv => by rw [hρ]; rfl
                      clear hρ
                      simp [execOp, rc, go_sem, r_12]
                    refine StepF.val (i := 7) (o := _) rfl (by decide) ?_ ?_
                    · intro bb vs wx _ hW hY
                      refine ⟨fl_want rfl, fun ρ hρ => ⟨.int .i64 (m : Int), wx, ?_, hW, Below.refl _ _, rfl⟩⟩
                      have r_14 : ρ (.tmp 14) = .int .i64 (m : Int) := by rw [hρ, fl_out rfl, r14]
                      have rc : ∀ cv : Value, ρ (.const cv) = cv := fun cv => by rw [hρ]; rfl
                      clear hρ
                      simp [execOp, rc, go_sem, r_14]
                    refine StepF.val (i := 8) (o := _) rfl (by decide) ?_ ?_
                    · intro bb vs wx _ hW hY
                      have y73 : vs 73 = .int .i64 (m : Int) := hY 7 73 (by kernel_rfl) (by kernel_rfl)
                      refine ⟨fl_want rfl, fun ρ hρ => ⟨.int .i64 ((m : Int) + 1), wx, ?_, hW, Below.refl _ _, rfl⟩⟩
                      have r_73 : ρ (.tmp 73) = .int .i64 (m : Int) := by rw [hρ, fl_in 170 HN.out rfl, y73]
                      have rc : ∀ cv : Value, ρ (.const cv) = cv := fun cv => by rw [hρ]; rfl
                      clear hρ
                      simp [execOp, rc, go_sem, r_73, z3]
                    refine StepF.val (i := 9) (o := _) rfl (by decide) ?_ ?_
                    · intro bb vs wx _ hW hY
                      have y72 : vs 72 = .slice (some ⟨lb, lo, none⟩) l.length lc := hY 6 72 (by kernel_rfl) (by kernel_rfl)
                      have y74 : vs 74 = .int .i64 ((m : Int) + 1) := hY 8 74 (by kernel_rfl) (by kernel_rfl)
                      refine ⟨fl_want rfl, fun ρ hρ => ⟨.pointer (some ⟨lb, lo + (m + 1), none⟩), wx, ?_, hW, Below.refl _ _, rfl⟩⟩
                      have r_72 : ρ (.tmp 72) = .slice (some ⟨lb, lo, none⟩) l.length lc := by rw [hρ, fl_in 170 HN.out rfl, y72]
                      have r_74 : ρ (.tmp 74) = .int .i64 ((m : Int) + 1) := by rw [hρ, fl_in 170 HN.out rfl, y74]
                      have rc : ∀ cv : Value, ρ (.const cv) = cv := fun cv => by rw [hρ]; rfl
                      clear hρ
                      simp [execOp, rc, go_sem, r_72, r_74, i3, nat1, i3n]
                    refine StepF.val (i := 10) (o := _) rfl (by decide) ?_ ?_
                    · intro bb vs wx _ hW hY
                      have y75 : vs 75 = .pointer (some ⟨lb, lo + (m + 1), none⟩) := hY 9 75 (by kernel_rfl) (by kernel_rfl)
                      refine ⟨fl_want rfl, fun ρ hρ => ⟨.int .i64 y, wx, ?_, hW, Below.refl _ _, rfl⟩⟩
                      have r_75 : ρ (.tmp 75) = .pointer (some ⟨lb, lo + (m + 1), none⟩) := by rw [hρ, fl_in 170 HN.out rfl, y75]
                      have q0 := (HD.out _ hW).2.2
                      have rc : ∀ cv : Value, ρ (.const cv) = cv := fun cv => by rw [hρ]; rfl
                      clear hρ
                      simp [execOp, rc, go_sem, r_75, q0]
                    refine StepF.val (i := 11) (o := _) rfl (by decide) ?_ ?_
                    · intro bb vs wx _ hW hY
                      have y71 : vs 71 = .int .i64 x := hY 5 71 (by kernel_rfl) (by kernel_rfl)
                      have y76 : vs 76 = .int .i64 y := hY 10 76 (by kernel_rfl) (by kernel_rfl)
                      refine ⟨fl_want rfl, fun ρ hρ => ⟨.agg #[.int .i64 x, .int .i64 y], wx, ?_, hW, Below.refl _ _, rfl⟩⟩
                      have r_71 : ρ (.tmp 71) = .int .i64 x := by rw [hρ, fl_in 170 HN.out rfl, y71]
                      have r_76 : ρ (.tmp 76) = .int .i64 y := by rw [hρ, fl_in 170 HN.out rfl, y76]
                      have rc : ∀ cv : Value, ρ (.const cv) = cv := fun cv => by rw [hρ]; rfl
                      clear hρ
                      simp [execOp, rc, go_sem, r_71, r_76]
                    refine StepF.val (i := 12) (o := _) rfl (by decide) ?_ ?_
                    · intro bb vs wx _ hW hY
                      have y77 : vs 77 = .agg #[.int .i64 x, .int .i64 y] := hY 11 77 (by kernel_rfl) (by kernel_rfl)
                      refine ⟨fl_want rfl, fun ρ hρ => ⟨.slice (some ⟨wx.heap.size, 0, none⟩) 1 1, wx.alloc (.cells #[.int .i64 x, .int .i64 y] 58), ?_, hW.trans ((below_alloc _ _).mono hW.size), below_alloc _ _, ⟨⟨_, rfl⟩, spans_lit wx x y⟩⟩⟩
                      have r_77 : ρ (.tmp 77) = .agg #[.int .i64 x, .int .i64 y] := by rw [hρ, fl_in 170 HN.out rfl, y77]
                      have rc : ∀ cv : Value, ρ (.const cv) = cv := fun cv => by rw [hρ]; rfl
                      clear hρ
                      simp [execOp, rc, go_sem, r_77]
                    exact StepF.nil
                  · intro vs wx hW hY
                    have y78 : (∃ z : Nat, vs 78 = .slice (some ⟨z, 0, none⟩) 1 1) ∧ SpansAt none wx (vs 78) [(x, y)] := hY 12 78 (by kernel_rfl)
                    have y67 : vs 67 = .slice xa j xc := hY 1 67 (by kernel_rfl)
                    obtain ⟨⟨z, ez⟩, hsp⟩ := y78
                    rw [ez] at hsp
                    have HSr := hid (Src.spans hsp (RecAt.sound hsp (by simp)))
                    have K := hid (K.out.later hW)
                    have HLo := hid (HLo.out.later hW)
                    clear hY hW hsp HD r2 r12 r14 HN i2 i3 i3n nat1 z3
                    rw [HA.out]
                    simp only [putAll, Act.put, List.setIfInBounds_toArray, List.set_cons_zero, List.set_cons_succ, List.drop_succ_cons, List.drop_zero]
                    rw [ez, y67]
                    clear ez y67 HA
                    have HQ1 := hid (show (pairsN l j).length + [(x, y)].length ≤ 1000000 from by rw [pairsN_len]; have := HLl.out; have := HM.out; simp; omega)
                    have HQ2 := hid (show T + 1 ≤ wx.heap.size from blkG_lt K.out.box)
                    have HLk := hid (show (pairsN l j ++ [(x, y)]).length = j + 1 from by rw [List.length_append, pairsN_len]; rfl)
                    go_wp2_with (at_builtin; refine wpList_app encSpan Tryz.underlying22 infoSpan (by decide) (by decide) (fun _ => rfl) rfl _ _ rfl (T + 1) (pairsN l j) [(x, y)] (fun q _ => encSpan_one q) _ _ rfl rfl K.out.own.persons HSr.out HQ1.out HQ2.out ?_; intro v' w5 hown' hg _ _; have hbl := K.out.personsG hown' hg; have HLn := hid (fun i x => keepL (own_int.2 HLo.out) K.out.own.persons (by decide) hg hbl.1 i x); obtain ⟨a5, c5, e5⟩ := hown'.form; rw [HLk.out] at e5; subst e5; have KN := hid hbl.2; have g1 : w5.cell? ⟨T, 0, none⟩ = some (.slice xa j xc) := (by rw [Lib.cell_of_heap hbl.1]; rfl); have g2 : w5.frozen? ⟨T, 0, none⟩ = false := Lib.frozen_of_heap hbl.1 _; clear hown' hg hbl)
                    go_roundw
                    case rel => exact ⟨m + 2, j + 1, _, by have := HM.out; omega, by have := HM.out; omega, by go_num, HLn.out 0 _, by rw [HPN.out]; exact KN.out⟩
                    case measure => have := HM.out; simp [intOf] <;> omega
                have hj : j = l.length / 2 := by have := HEv.out; omega
                subst hj
                have HML := hid (show m = l.length from by omega)
                have i4 : ¬ ((m : Int) < (l.length : Int)) := by omega
                clear hm hml hlt2
                go_wp2_with fail
                go_roundw
                case rel => exact ⟨k + 1, _, _, _, _, _, by omega, by go_num, HSx.out, by first | rfl | simp_all, by first | rfl | simp_all, K.out⟩
                case measure => simp [intOf] <;> omega
            · rw [if_neg (fun e => hev e.2)] at HFail
              have HPf := hid (HFail.out rfl)
              have hod : l.length % 2 = 1 := by omega
              have hrem : (((l.length : Int) % 2) == 0) = false := beq_eq_false_iff_ne.2 (by omega)
              clear HSx HFail hst hw hev hod
              go_wp2_with (go_at_call 34; refine (HPa.out _ HEo.out).mono ?_; rintro e w3 ⟨lv, rfl, ho, hb⟩; obtain ⟨la, lc, elv⟩ := (own_int.2 ho).form; subst elv; have HLo := hid (OwnInts.base' ho (show T + 1 ≤ wo.heap.size from blkG_lt K.out.box)); have K := hid (K.out.later hb); clear hb n0 ho; obtain ⟨c0, c1, c2, c3⟩ := K.out.c; have f0 := K.out.f 0; have f1 := K.out.f 1; have f2 := K.out.f 2; have f3 := K.out.f 3)
              go_loopw [14] (fun i wr => i = .int .i64 0 ∧ wr = w3) (fun _ _ => 0)
              case atStart => exact ⟨rfl, rfl⟩
              case round =>
                obtain ⟨rfl, rfl⟩ := hrel
                go_wp2_with fail
                refine bodyPost_ret (v := .tuple #[plotV (.slice none 0 0) (.slice none 0 0) (.slice none 0 0) (.slice none 0 0), .int .i64 ((k : Int) + 1), .int .i64 1]) (by simp [results, Tryz.results12, go_sem, c0, c1, c2, c3, plotV]) rfl ?_
                refine ⟨_, _, _, _, by rw [HPf.out], by rw [HPf.out]; exact OwnP.none _ _, ?_⟩
                exact (((K.out.below.setCell (p := ⟨T, 0, none⟩) K.out.low _).setCell (p := ⟨T, 1, none⟩) K.out.low _).setCell (p := ⟨T, 2, none⟩) K.out.low _).setCell (p := ⟨T, 3, none⟩) K.out.low _
          · rw [if_neg (fun e => hw e.1)] at HFail
            have HPf := hid (HFail.out rfl)
            have e1 : (wd == [112, 101, 114, 115, 111, 110, 115]) = false := beq_eq_false_iff_ne.2 hw
            clear HSx HFail hst hw
            go_wp2_with (go_at_call 34; refine (HPa.out _ HEo.out).mono ?_; rintro e w3 ⟨lv, rfl, ho, hb⟩; obtain ⟨la, lc, elv⟩ := (own_int.2 ho).form; subst elv; have HLo := hid (OwnInts.base' ho (show T + 1 ≤ wo.heap.size from blkG_lt K.out.box)); have K := hid (K.out.later hb); clear hb n0 ho; obtain ⟨c0, c1, c2, c3⟩ := K.out.c; have f0 := K.out.f 0; have f1 := K.out.f 1; have f2 := K.out.f 2; have f3 := K.out.f 3)
            go_loopw [14] (fun i wr => i = .int .i64 0 ∧ wr = w3) (fun _ _ => 0)
            case atStart => exact ⟨rfl, rfl⟩
            case round =>
              obtain ⟨rfl, rfl⟩ := hrel
              go_wp2_with fail
              refine bodyPost_ret (v := .tuple #[plotV (.slice none 0 0) (.slice none 0 0) (.slice none 0 0) (.slice none 0 0), .int .i64 ((k : Int) + 1), .int .i64 1]) (by simp [results, Tryz.results12, go_sem, c0, c1, c2, c3, plotV]) rfl ?_
              refine ⟨_, _, _, _, by rw [HPf.out], by rw [HPf.out]; exact OwnP.none _ _, ?_⟩
              exact (((K.out.below.setCell (p := ⟨T, 0, none⟩) K.out.low _).setCell (p := ⟨T, 1, none⟩) K.out.low _).setCell (p := ⟨T, 2, none⟩) K.out.low _).setCell (p := ⟨T, 3, none⟩) K.out.low _
        rw [if_neg h0] at HSx HFail
        have d1 : ((k : Int) == 0) = false := beq_eq_false_iff_ne.2 (by omega)
        clear h0
        by_cases hd : st.dressed = false
        · by_cases hw : wd = walkW
          · rw [if_pos ⟨hw, hd⟩] at HSx
            have e1 : (wd == [119, 97, 108, 107]) = true := by rw [hw]; decide
            clear HFail hw
            go_upto_region 20 with (go_at_call 34; refine (HPa.out _ HEo.out).mono ?_; rintro e w3 ⟨lv, rfl, ho, hb⟩; obtain ⟨la, lc, elv⟩ := (own_int.2 ho).form; subst elv; have HLo := hid (OwnInts.base' ho (show T + 1 ≤ wo.heap.size from blkG_lt K.out.box)); have K := hid (K.out.later hb); clear hb n0 ho; obtain ⟨c0, c1, c2, c3⟩ := K.out.c; have f0 := K.out.f 0; have f1 := K.out.f 1; have f2 := K.out.f 2; have f3 := K.out.f 3)
            obtain ⟨vs, hvs⟩ := K.out.own.walk
            have HV := hid hvs
            have hlenw := (runR_len HRun.out).1
            have HQ1 := hid (show vs.length + [Value.slice la l.length lc].length ≤ 1000000 from by rw [hvs.len]; have := HQl.out.1; simp; omega)
            have HQ2 := hid (show T + 1 ≤ (w3.alloc (.cells (encV (.slice la l.length lc)).toArray 24)).heap.size from by have := blkG_lt K.out.box; simp; omega)
            clear hvs hlenw
            go_wp2_with (at_builtin; refine wpList_app encV Tryz.underlying23 infoSl' (by decide) (by decide) (fun _ => rfl) rfl _ _ rfl (T + 1) vs [.slice la l.length lc] (fun y hy u hu => by rw [List.mem_singleton.1 hy] at hu; rw [List.mem_singleton.1 hu]; rfl) _ _ rfl rfl (HV.out.own.later (below_alloc _ _)) (Src.lit encV w3 (.slice la l.length lc) _ 1 rfl) HQ1.out HQ2.out ?_; intro v' w4 hown' hg _ _; have hbl := K.out.walk HV.out (own_int.2 HLo.out) hown' hg; obtain ⟨a4, c4, e4⟩ := hown'.form; rw [List.length_append, List.length_singleton, HV.out.len] at e4; subst e4; have KN := hid hbl.2; have g1 : w4.cell? ⟨T, 1, none⟩ = some (.slice wa st.p.walk.length wc) := (by rw [Lib.cell_of_heap hbl.1]; rfl); have g2 : w4.frozen? ⟨T, 1, none⟩ = false := Lib.frozen_of_heap hbl.1 _; clear hown' hg hbl)
            go_roundw
            case rel => exact ⟨k + 1, _, _, _, _, _, by omega, by go_num, HSx.out, by first | rfl | simp_all, by first | rfl | simp_all, KN.out⟩
            case measure => simp [intOf] <;> omega
          · rw [if_neg (fun e => hw e.1), if_pos hd] at HSx HFail
            have e1 : (wd == [119, 97, 108, 107]) = false := beq_eq_false_iff_ne.2 hw
            clear hw
            by_cases hw : wd = dressW
            · rw [if_pos hw] at HSx
              have e2 : (wd == [100, 114, 101, 115, 115]) = true := by rw [hw]; decide
              clear HFail hw
              go_wp2_with (go_at_call 34; refine (HPa.out _ HEo.out).mono ?_; rintro e w3 ⟨lv, rfl, ho, hb⟩; obtain ⟨la, lc, elv⟩ := (own_int.2 ho).form; subst elv; have HLo := hid (OwnInts.base' ho (show T + 1 ≤ wo.heap.size from blkG_lt K.out.box)); have K := hid (K.out.later hb); clear hb n0 ho; obtain ⟨c0, c1, c2, c3⟩ := K.out.c; have f0 := K.out.f 0; have f1 := K.out.f 1; have f2 := K.out.f 2; have f3 := K.out.f 3)
              have KN := hid (K.out.dress (own_int.2 HLo.out))
              go_roundw
              case rel => exact ⟨k + 1, _, _, _, _, _, by omega, by go_num, HSx.out, by first | rfl | simp_all, by first | rfl | simp_all, KN.out⟩
              case measure => simp [intOf] <;> omega
            · rw [if_neg hw] at HFail
              have HPf := hid (HFail.out rfl)
              have e2 : (wd == [100, 114, 101, 115, 115]) = false := beq_eq_false_iff_ne.2 hw
              clear HSx HFail hw
              go_wp2_with (go_at_call 34; refine (HPa.out _ HEo.out).mono ?_; rintro e w3 ⟨lv, rfl, ho, hb⟩; obtain ⟨la, lc, elv⟩ := (own_int.2 ho).form; subst elv; have HLo := hid (OwnInts.base' ho (show T + 1 ≤ wo.heap.size from blkG_lt K.out.box)); have K := hid (K.out.later hb); clear hb n0 ho; obtain ⟨c0, c1, c2, c3⟩ := K.out.c; have f0 := K.out.f 0; have f1 := K.out.f 1; have f2 := K.out.f 2; have f3 := K.out.f 3)
              refine bodyPost_ret (v := .tuple #[plotV (.slice none 0 0) (.slice none 0 0) (.slice none 0 0) (.slice none 0 0), .int .i64 ((k : Int) + 1), .int .i64 1]) (by simp [results, Tryz.results12, go_sem, c0, c1, c2, c3, plotV]) rfl ?_
              refine ⟨_, _, _, _, by rw [HPf.out], by rw [HPf.out]; exact OwnP.none _ _, ?_⟩
              exact ((((K.out.below.setCell (p := ⟨T, 2, none⟩) K.out.low _).setCell (p := ⟨T, 0, none⟩) K.out.low _).setCell (p := ⟨T, 1, none⟩) K.out.low _).setCell (p := ⟨T, 2, none⟩) K.out.low _).setCell (p := ⟨T, 3, none⟩) K.out.low _
        · have hd' : st.dressed = true := by simpa using hd
          rw [if_neg (fun e => hd e.2), if_neg hd] at HSx HFail
          clear hd
          have hl5 : (((l.length : Int)) == 5) = decide (l.length = 5) := by by_cases h5 : l.length = 5 <;> simp [h5] <;> omega
          have hl1 : (((l.length : Int)) == 1) = decide (l.length = 1) := by by_cases h5 : l.length = 1 <;> simp [h5] <;> omega
          by_cases hwp : wd = partW
          · have e2 : (wd == [112, 97, 114, 116]) = true := by rw [hwp]; decide
            have e3 : (wd == [101, 110, 100]) = false := by rw [hwp]; decide
            have e1 : (wd == [119, 97, 108, 107]) = false := by rw [hwp]; decide
            by_cases h5 : l.length = 5
            · rw [if_pos ⟨hwp, h5⟩] at HSx
              rw [decide_eq_true h5] at hl5
              have HL5 := hid h5
              clear HFail hwp h5 hl1
              go_upto_region 25 with (go_at_call 34; refine (HPa.out _ HEo.out).mono ?_; rintro e w3 ⟨lv, rfl, ho, hb⟩; obtain ⟨la, lc, elv⟩ := (own_int.2 ho).form; subst elv; have HLo := hid (OwnInts.base' ho (show T + 1 ≤ wo.heap.size from blkG_lt K.out.box)); have K := hid (K.out.later hb); clear hb n0 ho; obtain ⟨c0, c1, c2, c3⟩ := K.out.c; have f0 := K.out.f 0; have f1 := K.out.f 1; have f2 := K.out.f 2; have f3 := K.out.f 3)
              obtain ⟨wi, rfl⟩ : ∃ wi : World, wi = w3 := ⟨_, rfl⟩
              have j0 : (0 : Int) < (l.length : Int) := by have := HL5.out; omega
              have jn : ¬ (l = []) := fun e => by have := HL5.out; rw [e] at this; cases this
              have j1 : (1 : Int) < (l.length : Int) := by have := HL5.out; omega
              have j2 : (2 : Int) < (l.length : Int) := by have := HL5.out; omega
              have j3 : (3 : Int) < (l.length : Int) := by have := HL5.out; omega
              have j4 : (4 : Int) < (l.length : Int) := by have := HL5.out; omega
              have hi := OwnInts.at (d := none) HLo.out (by simp)
              obtain ⟨lb, lo, lc', el, _, _⟩ := hi.slice (by have := HL5.out; omega)
              cases el
              have u0 := hi.cell (i := 0) (by have := HL5.out; omega)
              have u1 := hi.cell (i := 1) (by have := HL5.out; omega)
              have u2 := hi.cell (i := 2) (by have := HL5.out; omega)
              have u3 := hi.cell (i := 3) (by have := HL5.out; omega)
              have u4 := hi.cell (i := 4) (by have := HL5.out; omega)
              rw [Nat.add_zero] at u0
              have HD := hid (fun W' (hb : Below wi.heap.size wi W') => (⟨cell_back hb (blkG_lt K.out.box) K.out.c.2.2.2, cell_back hb (World.block_lt_of_cell? _ _ u0) u0, cell_back hb (World.block_lt_of_cell? _ _ u1) u1, cell_back hb (World.block_lt_of_cell? _ _ u2) u2, cell_back hb (World.block_lt_of_cell? _ _ u3) u3, cell_back hb (World.block_lt_of_cell? _ _ u4) u4⟩ : W'.cell? ⟨T, 3, none⟩ = some (.slice qa st.p.parts.length qc) ∧ W'.cell? ⟨lb, lo, none⟩ = some (.int .i64 (nm l 0)) ∧ W'.cell? ⟨lb, lo + 1, none⟩ = some (.int .i64 (nm l 1)) ∧ W'.cell? ⟨lb, lo + 2, none⟩ = some (.int .i64 (nm l 2)) ∧ W'.cell? ⟨lb, lo + 3, none⟩ = some (.int .i64 (nm l 3)) ∧ W'.cell? ⟨lb, lo + 4, none⟩ = some (.int .i64 (nm l 4))))
              clear hi u0 u1 u2 u3 u4 c0 c1 c2 c3 f0 f1 f2 f3
              refine wp_named ?_
              intro ac0 hac0
              have HN := hid (show ac0.tmps.size = 170 from by rw [hac0]; rfl)
              have r2 : ac0.eval (.tmp 2) = .pointer (some ⟨T, 0, none⟩) := by rw [hac0]; rfl
              have r12 : ac0.eval (.tmp 12) = .slice (some ⟨lb, lo, none⟩) l.length lc := by rw [hac0]; rfl
              have HA := hid hac0
              clear hac0
              refine wp_region_flow_tail 19 (by kernel_rfl) (by kernel_rfl) [109, 110, 111, 112, 113, 114, 115, 116, 117, 118, 119, 120, 121, 122, 123, 124, 125, 126, 127] 100
                (fun _ w' => Below wi.heap.size wi w') (fun a b => Below a.heap.size a b) (fun _ _ => False)
                (fun _ ix v w' => match ix with
                  | 0 => v = .pointer (some ⟨T, 3, none⟩)
                  | 1 => v = .slice qa st.p.parts.length qc
                  | 2 => v = .slice (some ⟨lb, lo, none⟩) l.length lc
                  | 3 => v = .pointer (some ⟨lb, lo, none⟩)
                  | 4 => v = .int .i64 (nm l 0)
                  | 5 => v = .slice (some ⟨lb, lo, none⟩) l.length lc
                  | 6 => v = .pointer (some ⟨lb, lo + 1, none⟩)
                  | 7 => v = .int .i64 (nm l 1)
                  | 8 => v = .slice (some ⟨lb, lo, none⟩) l.length lc
                  | 9 => v = .pointer (some ⟨lb, lo + 2, none⟩)
                  | 10 => v = .int .i64 (nm l 2)
                  | 11 => v = .slice (some ⟨lb, lo, none⟩) l.length lc
                  | 12 => v = .pointer (some ⟨lb, lo + 3, none⟩)
                  | 13 => v = .int .i64 (nm l 3)
                  | 14 => v = .slice (some ⟨lb, lo, none⟩) l.length lc
                  | 15 => v = .pointer (some ⟨lb, lo + 4, none⟩)
                  | 16 => v = .int .i64 (nm l 4)
                  | 17 => v = .agg #[.int .i64 (nm l 0), .int .i64 (nm l 1), .int .i64 (nm l 2), .int .i64 (nm l 3), .int .i64 (nm l 4)]
                  | 18 => (∃ z : Nat, v = .slice (some ⟨z, 0, none⟩) 1 1) ∧ PartsAt none w' v [partOf l]
                  | _ => True)
                [0, 1, 2, 3, 4, 5, 6, 7, 8, 9, 10, 11, 12, 13, 14, 15, 16, 17, 18] (by kernel_rfl) (by kernel_rfl) rfl ?_ ?_ ?_ ?_ ?_
              · intro bt ix v w2 w3' hW hg hy
                match ix with
                | 0 => exact hy
                | 1 => exact hy
                | 2 => exact hy
                | 3 => exact hy
                | 4 => exact hy
                | 5 => exact hy
                | 6 => exact hy
                | 7 => exact hy
                | 8 => exact hy
                | 9 => exact hy
                | 10 => exact hy
                | 11 => exact hy
                | 12 => exact hy
                | 13 => exact hy
                | 14 => exact hy
                | 15 => exact hy
                | 16 => exact hy
                | 17 => exact hy
                | 18 => exact ⟨hy.1.elim fun z hz => ⟨z, hz⟩, RecAt.below hy.2 hg⟩
                | n + 19 => exact trivial
              · intro ix v w2 w3' _ h; exact h.elim
              · exact (Below.refl _ _).drew
              · skip
                refine StepF.val (i := 0) (o := _) rfl (by decide) ?_ ?_
                · intro bb vs wx _ hW hY
                  refine ⟨fl_want rfl, fun ρ hρ => ⟨.pointer (some ⟨T, 3, none⟩), wx, ?_, hW, Below.refl _ _, rfl⟩⟩
                  have r_2 : ρ (.tmp 2) = .pointer (some ⟨T, 0, none⟩) := by rw [hρ, fl_out rfl, r2]
                  have rc : ∀ cv : Value, ρ (.const cv) = cv := fun cv => by rw [hρ]; rfl
                  clear hρ
                  simp [execOp, rc, go_sem, r_2]
                refine StepF.val (i := 1) (o := _) rfl (by decide) ?_ ?_
                · intro bb vs wx _ hW hY
                  have y109 : vs 109 = .pointer (some ⟨T, 3, none⟩) := hY 0 109 (by kernel_rfl) (by kernel_rfl)
                  refine ⟨fl_want rfl, fun ρ hρ => ⟨.slice qa st.p.parts.length qc, wx, ?_, hW, Below.refl _ _, rfl⟩⟩
                  have r_109 : ρ (.tmp 109) = .pointer (some ⟨T, 3, none⟩) := by rw [hρ, fl_in 170 HN.out rfl, y109]
                  have q0 := (HD.out _ hW).1
                  have rc : ∀ cv : Value, ρ (.const cv) = cv := fun cv => by rw [hρ]; rfl
                  clear hρ
                  simp [execOp, rc, go_sem, r_109, q0]
                refine StepF.val (i := 2) (o := _) rfl (by decide) ?_ ?_
                · intro bb vs wx _ hW hY
                  refine ⟨fl_want rfl, fun ρ hρ => ⟨.slice (some ⟨lb, lo, none⟩) l.length lc, wx, ?_, hW, Below.refl _ _, rfl⟩⟩
                  have r_12 : ρ (.tmp 12) = .slice (some ⟨lb, lo, none⟩) l.length lc := by rw [hρ, fl_out rfl, r12]
                  have rc : ∀ cv : Value, ρ (.const cv) = cv := fun cv => by rw [hρ]; rfl
                  clear hρ
                  simp [execOp, rc, go_sem, r_12]
                refine StepF.val (i := 3) (o := _) rfl (by decide) ?_ ?_
                · intro bb vs wx _ hW hY
                  have y111 : vs 111 = .slice (some ⟨lb, lo, none⟩) l.length lc := hY 2 111 (by kernel_rfl) (by kernel_rfl)
                  refine ⟨fl_want rfl, fun ρ hρ => ⟨.pointer (some ⟨lb, lo, none⟩), wx, ?_, hW, Below.refl _ _, rfl⟩⟩
                  have r_111 : ρ (.tmp 111) = .slice (some ⟨lb, lo, none⟩) l.length lc := by rw [hρ, fl_in 170 HN.out rfl, y111]
                  have rc : ∀ cv : Value, ρ (.const cv) = cv := fun cv => by rw [hρ]; rfl
                  clear hρ
                  simp [execOp, rc, go_sem, r_111, j0, jn]
                refine StepF.val (i := 4) (o := _) rfl (by decide) ?_ ?_
                · intro bb vs wx _ hW hY
                  have y112 : vs 112 = .pointer (some ⟨lb, lo, none⟩) := hY 3 112 (by kernel_rfl) (by kernel_rfl)
                  refine ⟨fl_want rfl, fun ρ hρ => ⟨.int .i64 (nm l 0), wx, ?_, hW, Below.refl _ _, rfl⟩⟩
                  have r_112 : ρ (.tmp 112) = .pointer (some ⟨lb, lo, none⟩) := by rw [hρ, fl_in 170 HN.out rfl, y112]
                  have q0 := (HD.out _ hW).2.1
                  have rc : ∀ cv : Value, ρ (.const cv) = cv := fun cv => by rw [hρ]; rfl
                  clear hρ
                  simp [execOp, rc, go_sem, r_112, q0]
                refine StepF.val (i := 5) (o := _) rfl (by decide) ?_ ?_
                · intro bb vs wx _ hW hY
                  refine ⟨fl_want rfl, fun ρ hρ => ⟨.slice (some ⟨lb, lo, none⟩) l.length lc, wx, ?_, hW, Below.refl _ _, rfl⟩⟩
                  have r_12 : ρ (.tmp 12) = .slice (some ⟨lb, lo, none⟩) l.length lc := by rw [hρ, fl_out rfl, r12]
                  have rc : ∀ cv : Value, ρ (.const cv) = cv := fun cv => by rw [hρ]; rfl
                  clear hρ
                  simp [execOp, rc, go_sem, r_12]
                refine StepF.val (i := 6) (o := _) rfl (by decide) ?_ ?_
                · intro bb vs wx _ hW hY
                  have y114 : vs 114 = .slice (some ⟨lb, lo, none⟩) l.length lc := hY 5 114 (by kernel_rfl) (by kernel_rfl)
                  refine ⟨fl_want rfl, fun ρ hρ => ⟨.pointer (some ⟨lb, lo + 1, none⟩), wx, ?_, hW, Below.refl _ _, rfl⟩⟩
                  have r_114 : ρ (.tmp 114) = .slice (some ⟨lb, lo, none⟩) l.length lc := by rw [hρ, fl_in 170 HN.out rfl, y114]
                  have rc : ∀ cv : Value, ρ (.const cv) = cv := fun cv => by rw [hρ]; rfl
                  clear hρ
                  simp [execOp, rc, go_sem, r_114, j1]
                refine StepF.val (i := 7) (o := _) rfl (by decide) ?_ ?_
                · intro bb vs wx _ hW hY
                  have y115 : vs 115 = .pointer (some ⟨lb, lo + 1, none⟩) := hY 6 115 (by kernel_rfl) (by kernel_rfl)
                  refine ⟨fl_want rfl, fun ρ hρ => ⟨.int .i64 (nm l 1), wx, ?_, hW, Below.refl _ _, rfl⟩⟩
                  have r_115 : ρ (.tmp 115) = .pointer (some ⟨lb, lo + 1, none⟩) := by rw [hρ, fl_in 170 HN.out rfl, y115]
                  have q0 := (HD.out _ hW).2.2.1
                  have rc : ∀ cv : Value, ρ (.const cv) = cv := fun cv => by rw [hρ]; rfl
                  clear hρ
                  simp [execOp, rc, go_sem, r_115, q0]
                refine StepF.val (i := 8) (o := _) rfl (by decide) ?_ ?_
                · intro bb vs wx _ hW hY
                  refine ⟨fl_want rfl, fun ρ hρ => ⟨.slice (some ⟨lb, lo, none⟩) l.length lc, wx, ?_, hW, Below.refl _ _, rfl⟩⟩
                  have r_12 : ρ (.tmp 12) = .slice (some ⟨lb, lo, none⟩) l.length lc := by rw [hρ, fl_out rfl, r12]
                  have rc : ∀ cv : Value, ρ (.const cv) = cv := fun cv => by rw [hρ]; rfl
                  clear hρ
                  simp [execOp, rc, go_sem, r_12]
                refine StepF.val (i := 9) (o := _) rfl (by decide) ?_ ?_
                · intro bb vs wx _ hW hY
                  have y117 : vs 117 = .slice (some ⟨lb, lo, none⟩) l.length lc := hY 8 117 (by kernel_rfl) (by kernel_rfl)
                  refine ⟨fl_want rfl, fun ρ hρ => ⟨.pointer (some ⟨lb, lo + 2, none⟩), wx, ?_, hW, Below.refl _ _, rfl⟩⟩
                  have r_117 : ρ (.tmp 117) = .slice (some ⟨lb, lo, none⟩) l.length lc := by rw [hρ, fl_in 170 HN.out rfl, y117]
                  have rc : ∀ cv : Value, ρ (.const cv) = cv := fun cv => by rw [hρ]; rfl
                  clear hρ
                  simp [execOp, rc, go_sem, r_117, j2]
                refine StepF.val (i := 10) (o := _) rfl (by decide) ?_ ?_
                · intro bb vs wx _ hW hY
                  have y118 : vs 118 = .pointer (some ⟨lb, lo + 2, none⟩) := hY 9 118 (by kernel_rfl) (by kernel_rfl)
                  refine ⟨fl_want rfl, fun ρ hρ => ⟨.int .i64 (nm l 2), wx, ?_, hW, Below.refl _ _, rfl⟩⟩
                  have r_118 : ρ (.tmp 118) = .pointer (some ⟨lb, lo + 2, none⟩) := by rw [hρ, fl_in 170 HN.out rfl, y118]
                  have q0 := (HD.out _ hW).2.2.2.1
                  have rc : ∀ cv : Value, ρ (.const cv) = cv := fun cv => by rw [hρ]; rfl
                  clear hρ
                  simp [execOp, rc, go_sem, r_118, q0]
                refine StepF.val (i := 11) (o := _) rfl (by decide) ?_ ?_
                · intro bb vs wx _ hW hY
                  refine ⟨fl_want rfl, fun ρ hρ => ⟨.slice (some ⟨lb, lo, none⟩) l.length lc, wx, ?_, hW, Below.refl _ _, rfl⟩⟩
                  have r_12 : ρ (.tmp 12) = .slice (some ⟨lb, lo, none⟩) l.length lc := by rw [hρ, fl_out rfl, r12]
                  have rc : ∀ cv : Value, ρ (.const cv) = cv := fun cv => by rw [hρ]; rfl
                  clear hρ
                  simp [execOp, rc, go_sem, r_12]
                refine StepF.val (i := 12) (o := _) rfl (by decide) ?_ ?_
                · intro bb vs wx _ hW hY
                  have y120 : vs 120 = .slice (some ⟨lb, lo, none⟩) l.length lc := hY 11 120 (by kernel_rfl) (by kernel_rfl)
                  refine ⟨fl_want rfl, fun ρ hρ => ⟨.pointer (some ⟨lb, lo + 3, none⟩), wx, ?_, hW, Below.refl _ _, rfl⟩⟩
                  have r_120 : ρ (.tmp 120) = .slice (some ⟨lb, lo, none⟩) l.length lc := by rw [hρ, fl_in 170 HN.out rfl, y120]
                  have rc : ∀ cv : Value, ρ (.const cv) = cv := fun cv => by rw [hρ]; rfl
                  clear hρ
                  simp [execOp, rc, go_sem, r_120, j3]
                refine StepF.val (i := 13) (o := _) rfl (by decide) ?_ ?_
                · intro bb vs wx _ hW hY
                  have y121 : vs 121 = .pointer (some ⟨lb, lo + 3, none⟩) := hY 12 121 (by kernel_rfl) (by kernel_rfl)
                  refine ⟨fl_want rfl, fun ρ hρ => ⟨.int .i64 (nm l 3), wx, ?_, hW, Below.refl _ _, rfl⟩⟩
                  have r_121 : ρ (.tmp 121) = .pointer (some ⟨lb, lo + 3, none⟩) := by rw [hρ, fl_in 170 HN.out rfl, y121]
                  have q0 := (HD.out _ hW).2.2.2.2.1
                  have rc : ∀ cv : Value, ρ (.const cv) = cv := fun cv => by rw [hρ]; rfl
                  clear hρ
                  simp [execOp, rc, go_sem, r_121, q0]
                refine StepF.val (i := 14) (o := _) rfl (by decide) ?_ ?_
                · intro bb vs wx _ hW hY
                  refine ⟨fl_want rfl, fun ρ hρ => ⟨.slice (some ⟨lb, lo, none⟩) l.length lc, wx, ?_, hW, Below.refl _ _, rfl⟩⟩
                  have r_12 : ρ (.tmp 12) = .slice (some ⟨lb, lo, none⟩) l.length lc := by rw [hρ, fl_out rfl, r12]
                  have rc : ∀ cv : Value, ρ (.const cv) = cv := fun cv => by rw [hρ]; rfl
                  clear hρ
                  simp [execOp, rc, go_sem, r_12]
                refine StepF.val (i := 15) (o := _) rfl (by decide) ?_ ?_
                · intro bb vs wx _ hW hY
                  have y123 : vs 123 = .slice (some ⟨lb, lo, none⟩) l.length lc := hY 14 123 (by kernel_rfl) (by kernel_rfl)
                  refine ⟨fl_want rfl, fun ρ hρ => ⟨.pointer (some ⟨lb, lo + 4, none⟩), wx, ?_, hW, Below.refl _ _, rfl⟩⟩
                  have r_123 : ρ (.tmp 123) = .slice (some ⟨lb, lo, none⟩) l.length lc := by rw [hρ, fl_in 170 HN.out rfl, y123]
                  have rc : ∀ cv : Value, ρ (.const cv) = cv := fun cv => by rw [hρ]; rfl
                  clear hρ
                  simp [execOp, rc, go_sem, r_123, j4]
                refine StepF.val (i := 16) (o := _) rfl (by decide) ?_ ?_
                · intro bb vs wx _ hW hY
                  have y124 : vs 124 = .pointer (some ⟨lb, lo + 4, none⟩) := hY 15 124 (by kernel_rfl) (by kernel_rfl)
                  refine ⟨fl_want rfl, fun ρ hρ => ⟨.int .i64 (nm l 4), wx, ?_, hW, Below.refl _ _, rfl⟩⟩
                  have r_124 : ρ (.tmp 124) = .pointer (some ⟨lb, lo + 4, none⟩) := by rw [hρ, fl_in 170 HN.out rfl, y124]
                  have q0 := (HD.out _ hW).2.2.2.2.2
                  have rc : ∀ cv : Value, ρ (.const cv) = cv := fun cv => by rw [hρ]; rfl
                  clear hρ
                  simp [execOp, rc, go_sem, r_124, q0]
                refine StepF.val (i := 17) (o := _) rfl (by decide) ?_ ?_
                · intro bb vs wx _ hW hY
                  have y113 : vs 113 = .int .i64 (nm l 0) := hY 4 113 (by kernel_rfl) (by kernel_rfl)
                  have y116 : vs 116 = .int .i64 (nm l 1) := hY 7 116 (by kernel_rfl) (by kernel_rfl)
                  have y119 : vs 119 = .int .i64 (nm l 2) := hY 10 119 (by kernel_rfl) (by kernel_rfl)
                  have y122 : vs 122 = .int .i64 (nm l 3) := hY 13 122 (by kernel_rfl) (by kernel_rfl)
                  have y125 : vs 125 = .int .i64 (nm l 4) := hY 16 125 (by kernel_rfl) (by kernel_rfl)
                  refine ⟨fl_want rfl, fun ρ hρ => ⟨.agg #[.int .i64 (nm l 0), .int .i64 (nm l 1), .int .i64 (nm l 2), .int .i64 (nm l 3), .int .i64 (nm l 4)], wx, ?_, hW, Below.refl _ _, rfl⟩⟩
                  have r_113 : ρ (.tmp 113) = .int .i64 (nm l 0) := by rw [hρ, fl_in 170 HN.out rfl, y113]
                  have r_116 : ρ (.tmp 116) = .int .i64 (nm l 1) := by rw [hρ, fl_in 170 HN.out rfl, y116]
                  have r_119 : ρ (.tmp 119) = .int .i64 (nm l 2) := by rw [hρ, fl_in 170 HN.out rfl, y119]
                  have r_122 : ρ (.tmp 122) = .int .i64 (nm l 3) := by rw [hρ, fl_in 170 HN.out rfl, y122]
                  have r_125 : ρ (.tmp 125) = .int .i64 (nm l 4) := by rw [hρ, fl_in 170 HN.out rfl, y125]
                  have rc : ∀ cv : Value, ρ (.const cv) = cv := fun cv => by rw [hρ]; rfl
                  clear hρ
                  simp [execOp, rc, go_sem, r_113, r_116, r_119, r_122, r_125]
                refine StepF.val (i := 18) (o := _) rfl (by decide) ?_ ?_
                · intro bb vs wx _ hW hY
                  have y126 : vs 126 = .agg #[.int .i64 (nm l 0), .int .i64 (nm l 1), .int .i64 (nm l 2), .int .i64 (nm l 3), .int .i64 (nm l 4)] := hY 17 126 (by kernel_rfl) (by kernel_rfl)
                  refine ⟨fl_want rfl, fun ρ hρ => ⟨.slice (some ⟨wx.heap.size, 0, none⟩) 1 1, wx.alloc (.cells #[.int .i64 (nm l 0), .int .i64 (nm l 1), .int .i64 (nm l 2), .int .i64 (nm l 3), .int .i64 (nm l 4)] 60), ?_, hW.trans ((below_alloc _ _).mono hW.size), below_alloc _ _, ⟨⟨_, rfl⟩, part_lit wx (partOf l)⟩⟩⟩
                  have r_126 : ρ (.tmp 126) = .agg #[.int .i64 (nm l 0), .int .i64 (nm l 1), .int .i64 (nm l 2), .int .i64 (nm l 3), .int .i64 (nm l 4)] := by rw [hρ, fl_in 170 HN.out rfl, y126]
                  have rc : ∀ cv : Value, ρ (.const cv) = cv := fun cv => by rw [hρ]; rfl
                  clear hρ
                  simp [execOp, rc, go_sem, r_126]
                exact StepF.nil
              · intro vs wx hW hY
                have y127 : (∃ z : Nat, vs 127 = .slice (some ⟨z, 0, none⟩) 1 1) ∧ PartsAt none wx (vs 127) [partOf l] := hY 18 127 (by kernel_rfl)
                have y110 : vs 110 = .slice qa st.p.parts.length qc := hY 1 110 (by kernel_rfl)
                obtain ⟨⟨z, ez⟩, hsp⟩ := y127
                rw [ez] at hsp
                have HSr := hid (Src.parts hsp (RecAt.sound hsp (by simp)))
                have K := hid (K.out.later hW)
                clear hY hW hsp HD r2 r12 HN j0 jn j1 j2 j3 j4
                rw [HA.out]
                simp only [putAll, Act.put, List.setIfInBounds_toArray, List.set_cons_zero, List.set_cons_succ, List.drop_succ_cons, List.drop_zero]
                rw [ez, y110]
                clear ez y110 HA
                have hlenw := (runR_len HRun.out).2
                have HQ1 := hid (show st.p.parts.length + [partOf l].length ≤ 1000000 from by have := HQl.out.1; simp; omega)
                have HQ2 := hid (show T + 1 ≤ wx.heap.size from blkG_lt K.out.box)
                have HLk := hid (show (st.p.parts ++ [partOf l]).length = st.p.parts.length + 1 from by rw [List.length_append]; rfl)
                clear hlenw
                go_wp2_with (at_builtin; refine wpList_app encPart Tryz.underlying25 infoPart' (by decide) (by decide) (fun _ => rfl) rfl _ _ rfl (T + 1) st.p.parts [partOf l] (fun q _ => encPart_one q) _ _ rfl rfl K.out.own.parts HSr.out HQ1.out HQ2.out ?_; intro v' w5 hown' hg _ _; have hbl := K.out.partsG hown' hg; obtain ⟨a5, c5, e5⟩ := hown'.form; rw [HLk.out] at e5; subst e5; have KN := hid hbl.2; have g1 : w5.cell? ⟨T, 3, none⟩ = some (.slice qa st.p.parts.length qc) := (by rw [Lib.cell_of_heap hbl.1]; rfl); have g2 : w5.frozen? ⟨T, 3, none⟩ = false := Lib.frozen_of_heap hbl.1 _; clear hown' hg hbl)
                go_roundw
                case rel => exact ⟨k + 1, _, _, _, _, _, by omega, by go_num, HSx.out, by first | rfl | simp_all, by first | rfl | simp_all, KN.out⟩
                case measure => simp [intOf] <;> omega
            · rw [if_neg (fun e => h5 e.2), if_neg (fun e => absurd (hwp.symm.trans e.1) (by decide))] at HFail
              have HPf := hid (HFail.out rfl)
              rw [decide_eq_false h5] at hl5
              clear HSx HFail hwp h5 hl1
              go_wp2_with (go_at_call 34; refine (HPa.out _ HEo.out).mono ?_; rintro e w3 ⟨lv, rfl, ho, hb⟩; obtain ⟨la, lc, elv⟩ := (own_int.2 ho).form; subst elv; have HLo := hid (OwnInts.base' ho (show T + 1 ≤ wo.heap.size from blkG_lt K.out.box)); have K := hid (K.out.later hb); clear hb n0 ho; obtain ⟨c0, c1, c2, c3⟩ := K.out.c; have f0 := K.out.f 0; have f1 := K.out.f 1; have f2 := K.out.f 2; have f3 := K.out.f 3)
              refine bodyPost_ret (v := .tuple #[plotV (.slice none 0 0) (.slice none 0 0) (.slice none 0 0) (.slice none 0 0), .int .i64 ((k : Int) + 1), .int .i64 1]) (by simp [results, Tryz.results12, go_sem, c0, c1, c2, c3, plotV]) rfl ?_
              refine ⟨_, _, _, _, by rw [HPf.out], by rw [HPf.out]; exact OwnP.none _ _, ?_⟩
              exact (((K.out.below.setCell (p := ⟨T, 0, none⟩) K.out.low _).setCell (p := ⟨T, 1, none⟩) K.out.low _).setCell (p := ⟨T, 2, none⟩) K.out.low _).setCell (p := ⟨T, 3, none⟩) K.out.low _
          · have e2 : (wd == [112, 97, 114, 116]) = false := beq_eq_false_iff_ne.2 hwp
            rw [if_neg (fun e => hwp e.1)] at HSx HFail
            clear hwp
            by_cases hwe : wd = endW
            · have e3 : (wd == [101, 110, 100]) = true := by rw [hwe]; decide
              have e1 : (wd == [119, 97, 108, 107]) = false := by rw [hwe]; decide
              by_cases h1 : l.length = 1
              · rw [if_pos ⟨hwe, h1⟩] at HSx HFail
                rw [decide_eq_true h1] at hl1
                have HL1 := hid h1
                clear hwe h1 hl5
                by_cases hn : nm l 0 = (st.p.parts.length : Int)
                · rw [if_pos hn] at HSx
                  have hb0 : ((nm l 0) == (st.p.parts.length : Int)) = true := beq_iff_eq.2 hn
                  clear HFail hn
                  go_upto_region 27 with (go_at_call 34; refine (HPa.out _ HEo.out).mono ?_; rintro e w3 ⟨lv, rfl, ho, hb⟩; obtain ⟨la, lc, elv⟩ := (own_int.2 ho).form; subst elv; have HLo := hid (OwnInts.base' ho (show T + 1 ≤ wo.heap.size from blkG_lt K.out.box)); have K := hid (K.out.later hb); clear hb n0 ho; obtain ⟨c0, c1, c2, c3⟩ := K.out.c; have f0 := K.out.f 0; have f1 := K.out.f 1; have f2 := K.out.f 2; have f3 := K.out.f 3)
                  have hi := OwnInts.at (d := none) HLo.out (by simp)
                  obtain ⟨lb, lo, lc', el, _, _⟩ := hi.slice (by have := HL1.out; omega)
                  cases el
                  have q0' := hi.cell (i := 0) (by have := HL1.out; omega)
                  rw [Nat.add_zero] at q0'
                  clear hi
                  have i5 : 0 < (l.length : Int) := by have := HL1.out; omega
                  go_quiet (fail)
                  have K := hid (K.out.later (below_drewN (Below.refl _ w3) nq))
                  go_wp2_with fail
                  go_roundw
                  case rel => exact ⟨k + 1, _, _, _, _, _, by omega, by go_num, HSx.out, by first | rfl | simp_all, by first | rfl | simp_all, K.out⟩
                  case measure => simp [intOf] <;> omega
                · rw [if_neg hn] at HFail
                  have HPf := hid (HFail.out rfl)
                  have hb0 : ((nm l 0) == (st.p.parts.length : Int)) = false := beq_eq_false_iff_ne.2 hn
                  clear HSx HFail hn
                  go_upto_region 27 with (go_at_call 34; refine (HPa.out _ HEo.out).mono ?_; rintro e w3 ⟨lv, rfl, ho, hb⟩; obtain ⟨la, lc, elv⟩ := (own_int.2 ho).form; subst elv; have HLo := hid (OwnInts.base' ho (show T + 1 ≤ wo.heap.size from blkG_lt K.out.box)); have K := hid (K.out.later hb); clear hb n0 ho; obtain ⟨c0, c1, c2, c3⟩ := K.out.c; have f0 := K.out.f 0; have f1 := K.out.f 1; have f2 := K.out.f 2; have f3 := K.out.f 3)
                  have hi := OwnInts.at (d := none) HLo.out (by simp)
                  obtain ⟨lb, lo, lc', el, _, _⟩ := hi.slice (by have := HL1.out; omega)
                  cases el
                  have q0' := hi.cell (i := 0) (by have := HL1.out; omega)
                  rw [Nat.add_zero] at q0'
                  clear hi
                  have i5 : 0 < (l.length : Int) := by have := HL1.out; omega
                  go_quiet (fail)
                  have K := hid (K.out.later (below_drewN (Below.refl _ w3) nq))
                  go_wp2_with fail
                  refine bodyPost_ret (v := .tuple #[plotV (.slice none 0 0) (.slice none 0 0) (.slice none 0 0) (.slice none 0 0), .int .i64 ((k : Int) + 1), .int .i64 1]) (by simp [results, Tryz.results12, go_sem, c0, c1, c2, c3, plotV]) rfl ?_
                  refine ⟨_, _, _, _, by rw [HPf.out], by rw [HPf.out]; exact OwnP.none _ _, ?_⟩
                  exact (((K.out.below.setCell (p := ⟨T, 0, none⟩) K.out.low _).setCell (p := ⟨T, 1, none⟩) K.out.low _).setCell (p := ⟨T, 2, none⟩) K.out.low _).setCell (p := ⟨T, 3, none⟩) K.out.low _
              · rw [if_neg (fun e => h1 e.2)] at HFail
                have HPf := hid (HFail.out rfl)
                rw [decide_eq_false h1] at hl1
                clear HSx HFail hwe h1 hl5
                go_wp2_with (go_at_call 34; refine (HPa.out _ HEo.out).mono ?_; rintro e w3 ⟨lv, rfl, ho, hb⟩; obtain ⟨la, lc, elv⟩ := (own_int.2 ho).form; subst elv; have HLo := hid (OwnInts.base' ho (show T + 1 ≤ wo.heap.size from blkG_lt K.out.box)); have K := hid (K.out.later hb); clear hb n0 ho; obtain ⟨c0, c1, c2, c3⟩ := K.out.c; have f0 := K.out.f 0; have f1 := K.out.f 1; have f2 := K.out.f 2; have f3 := K.out.f 3)
                refine bodyPost_ret (v := .tuple #[plotV (.slice none 0 0) (.slice none 0 0) (.slice none 0 0) (.slice none 0 0), .int .i64 ((k : Int) + 1), .int .i64 1]) (by simp [results, Tryz.results12, go_sem, c0, c1, c2, c3, plotV]) rfl ?_
                refine ⟨_, _, _, _, by rw [HPf.out], by rw [HPf.out]; exact OwnP.none _ _, ?_⟩
                exact (((K.out.below.setCell (p := ⟨T, 0, none⟩) K.out.low _).setCell (p := ⟨T, 1, none⟩) K.out.low _).setCell (p := ⟨T, 2, none⟩) K.out.low _).setCell (p := ⟨T, 3, none⟩) K.out.low _
            · rw [if_neg (fun e => hwe e.1)] at HFail
              have HPf := hid (HFail.out rfl)
              have e3 : (wd == [101, 110, 100]) = false := beq_eq_false_iff_ne.2 hwe
              clear HSx HFail hwe hl5 hl1
              by_cases hww : wd = walkW
              · have e1 : (wd == [119, 97, 108, 107]) = true := by rw [hww]; decide
                clear hww
                go_wp2_with (go_at_call 34; refine (HPa.out _ HEo.out).mono ?_; rintro e w3 ⟨lv, rfl, ho, hb⟩; obtain ⟨la, lc, elv⟩ := (own_int.2 ho).form; subst elv; have HLo := hid (OwnInts.base' ho (show T + 1 ≤ wo.heap.size from blkG_lt K.out.box)); have K := hid (K.out.later hb); clear hb n0 ho; obtain ⟨c0, c1, c2, c3⟩ := K.out.c; have f0 := K.out.f 0; have f1 := K.out.f 1; have f2 := K.out.f 2; have f3 := K.out.f 3)
                refine bodyPost_ret (v := .tuple #[plotV (.slice none 0 0) (.slice none 0 0) (.slice none 0 0) (.slice none 0 0), .int .i64 ((k : Int) + 1), .int .i64 1]) (by simp [results, Tryz.results12, go_sem, c0, c1, c2, c3, plotV]) rfl ?_
                refine ⟨_, _, _, _, by rw [HPf.out], by rw [HPf.out]; exact OwnP.none _ _, ?_⟩
                exact (((K.out.below.setCell (p := ⟨T, 0, none⟩) K.out.low _).setCell (p := ⟨T, 1, none⟩) K.out.low _).setCell (p := ⟨T, 2, none⟩) K.out.low _).setCell (p := ⟨T, 3, none⟩) K.out.low _
              · have e1 : (wd == [119, 97, 108, 107]) = false := beq_eq_false_iff_ne.2 hww
                clear hww
                go_wp2_with (go_at_call 34; refine (HPa.out _ HEo.out).mono ?_; rintro e w3 ⟨lv, rfl, ho, hb⟩; obtain ⟨la, lc, elv⟩ := (own_int.2 ho).form; subst elv; have HLo := hid (OwnInts.base' ho (show T + 1 ≤ wo.heap.size from blkG_lt K.out.box)); have K := hid (K.out.later hb); clear hb n0 ho; obtain ⟨c0, c1, c2, c3⟩ := K.out.c; have f0 := K.out.f 0; have f1 := K.out.f 1; have f2 := K.out.f 2; have f3 := K.out.f 3)
                refine bodyPost_ret (v := .tuple #[plotV (.slice none 0 0) (.slice none 0 0) (.slice none 0 0) (.slice none 0 0), .int .i64 ((k : Int) + 1), .int .i64 1]) (by simp [results, Tryz.results12, go_sem, c0, c1, c2, c3, plotV]) rfl ?_
                refine ⟨_, _, _, _, by rw [HPf.out], by rw [HPf.out]; exact OwnP.none _ _, ?_⟩
                exact (((K.out.below.setCell (p := ⟨T, 0, none⟩) K.out.low _).setCell (p := ⟨T, 1, none⟩) K.out.low _).setCell (p := ⟨T, 2, none⟩) K.out.low _).setCell (p := ⟨T, 3, none⟩) K.out.low _
    · obtain rfl : k = qs.length := by omega
      have n0 := (K.out.row qs.length).trans (HCs.out _ (Nat.le_refl _))
      have HPe := hid (show readP text = (if st.ended = true ∧ rowAt (q0 :: qs) qs.length = [] then (if plotErr st.p = 0 then (st.p, 0, 0) else (noPlot, 0, plotErr st.p)) else (noPlot, (qs.length : Int) + 1, 1)) from by
        rw [HP.out, stop_none (by simp) HRun.out]
        simp only [HRun.out])
      obtain ⟨rl, hrl⟩ : ∃ rl, rowAt (q0 :: qs) qs.length = rl := ⟨_, rfl⟩
      rw [hrl] at n0 HPe
      have z1 : IntKind.i64.wrap ((qs.length : Int) + 1) = (qs.length : Int) + 1 := IntWalk.i64_in _ (by have := HQl.out.1; omega)
      obtain ⟨c0, c1, c2, c3⟩ := K.out.c
      have f0 := K.out.f 0
      have f1 := K.out.f 1
      have f2 := K.out.f 2
      have f3 := K.out.f 3
      have i2 : (qs.length : Int) < (qs.length : Int) + 1 := by omega
      clear hrl hk hlt
      by_cases he : st.ended = true
      · by_cases hr : rl = []
        · have e1 : (rl == ([] : List UInt8)) = true := by rw [hr]; rfl
          rw [if_pos ⟨he, hr⟩] at HPe
          clear hr
          have HCk := hid (fun W' hb => ccheck_any st.p _ _ _ _ W' ((K.out.own.at (d := none) (by simp)).below hb))
          by_cases hc : plotErr st.p = 0
          · rw [if_pos hc] at HPe
            rw [hc] at HCk
            clear hc
            go_wp2_with (go_at_call 26; refine (HCk.out _ (Below.refl _ _)).mono ?_; rintro e w6 ⟨rfl, hb⟩; have K := hid (K.out.later hb); clear hb c0 c1 c2 c3 f0 f1 f2 f3; obtain ⟨c0, c1, c2, c3⟩ := K.out.c; have f0 := K.out.f 0; have f1 := K.out.f 1; have f2 := K.out.f 2; have f3 := K.out.f 3)
            refine bodyPost_ret (v := .tuple #[plotV (.slice pa st.p.persons.length pc) (.slice wa st.p.walk.length wc) (.slice da st.p.dress.length dc) (.slice qa st.p.parts.length qc), .int .i64 0, .int .i64 0]) (by simp [results, Tryz.results12, go_sem, c0, c1, c2, c3, plotV]) rfl ?_
            refine ⟨_, _, _, _, by rw [HPe.out], ?_, ?_⟩
            · rw [HPe.out]
              exact (K.out.own.off K.out.box (gb_trans (gb_trans (gb_trans (gb_put _ T 0 _) (gb_put _ T 1 _)) (gb_put _ T 2 _)) (gb_put _ T 3 _))).base (by omega)
            · exact (((K.out.below.setCell (p := ⟨T, 0, none⟩) K.out.low _).setCell (p := ⟨T, 1, none⟩) K.out.low _).setCell (p := ⟨T, 2, none⟩) K.out.low _).setCell (p := ⟨T, 3, none⟩) K.out.low _
          · rw [if_neg hc] at HPe
            obtain ⟨x1, x2⟩ := ne_bool hc
            obtain ⟨ce, hce⟩ : ∃ ce, plotErr st.p = ce := ⟨_, rfl⟩
            rw [hce] at HPe HCk x1 x2
            clear hc hce
            go_wp2_with (go_at_call 26; refine (HCk.out _ (Below.refl _ _)).mono ?_; rintro e w6 ⟨rfl, hb⟩; have K := hid (K.out.later hb); clear hb c0 c1 c2 c3 f0 f1 f2 f3; obtain ⟨c0, c1, c2, c3⟩ := K.out.c; have f0 := K.out.f 0; have f1 := K.out.f 1; have f2 := K.out.f 2; have f3 := K.out.f 3)
            refine bodyPost_ret (v := .tuple #[plotV (.slice none 0 0) (.slice none 0 0) (.slice none 0 0) (.slice none 0 0), .int .i64 (0), .int .i64 ce]) (by simp [results, Tryz.results12, go_sem, c0, c1, c2, c3, plotV]) rfl ?_
            refine ⟨_, _, _, _, by rw [HPe.out], by rw [HPe.out]; exact OwnP.none _ _, ?_⟩
            exact (((K.out.below.setCell (p := ⟨T, 0, none⟩) K.out.low _).setCell (p := ⟨T, 1, none⟩) K.out.low _).setCell (p := ⟨T, 2, none⟩) K.out.low _).setCell (p := ⟨T, 3, none⟩) K.out.low _
        · have e1 : (rl == ([] : List UInt8)) = false := beq_eq_false_iff_ne.2 hr
          rw [if_neg (fun e => hr e.2)] at HPe
          clear hr
          go_wp2_with fail
          refine bodyPost_ret (v := .tuple #[plotV (.slice none 0 0) (.slice none 0 0) (.slice none 0 0) (.slice none 0 0), .int .i64 ((qs.length : Int) + 1), .int .i64 1]) (by simp [results, Tryz.results12, go_sem, c0, c1, c2, c3, plotV]) rfl ?_
          refine ⟨_, _, _, _, by rw [HPe.out], by rw [HPe.out]; exact OwnP.none _ _, ?_⟩
          exact (((K.out.below.setCell (p := ⟨T, 0, none⟩) K.out.low _).setCell (p := ⟨T, 1, none⟩) K.out.low _).setCell (p := ⟨T, 2, none⟩) K.out.low _).setCell (p := ⟨T, 3, none⟩) K.out.low _
      · rw [if_neg (fun e => he e.1)] at HPe
        have he' : st.ended = false := by simpa using he
        clear he
        go_wp2_with fail
        refine bodyPost_ret (v := .tuple #[plotV (.slice none 0 0) (.slice none 0 0) (.slice none 0 0) (.slice none 0 0), .int .i64 ((qs.length : Int) + 1), .int .i64 1]) (by simp [results, Tryz.results12, go_sem, c0, c1, c2, c3, plotV]) rfl ?_
        refine ⟨_, _, _, _, by rw [HPe.out], by rw [HPe.out]; exact OwnP.none _ _, ?_⟩
        exact (((K.out.below.setCell (p := ⟨T, 0, none⟩) K.out.low _).setCell (p := ⟨T, 1, none⟩) K.out.low _).setCell (p := ⟨T, 2, none⟩) K.out.low _).setCell (p := ⟨T, 3, none⟩) K.out.low _
end Go.Proofs.YtoipcbmbhjajfaaGreatDoor
