/-
  WALKS: parade.Read.
-/
import Derived.Test.YtefdopifebhgiaaGreatDoorPrf
import Derived.Test.YtefdopifebhgiaaGreatDoorFlo2
import Derived.Deep.CutRange
namespace Go.Proofs.YtefdopifebhgiaaGreatDoor
open Go.RowKit

set_option maxHeartbeats 16000000 in
set_option maxRecDepth 100000 in
theorem pread_any (text : List UInt8) (w : World) (h : Env w) : Calls Tryz.prog 12 #[.string ⟨text.toArray⟩] w (ReadAPost text w) := by
  have HE := hid h
  have hsz : (⟨text.toArray⟩ : ByteArray).size = text.length := by simp [ByteArray.size]
  have hbx := heap_alloc_new w (.cells #[.int .i64 0, .slice none 0 0] 24)
  have HB0 := hid (below_alloc w (.cells #[.int .i64 0, .slice none 0 0] 24))
  obtain ⟨wT, hwT⟩ : ∃ wT, w.alloc (.cells #[.int .i64 0, .slice none 0 0] 24) = wT := ⟨_, rfl⟩
  obtain ⟨T, hT⟩ : ∃ T, w.heap.size = T := ⟨_, rfl⟩
  rw [hwT] at hbx HB0
  rw [hT] at hbx
  have HBx := hid hbx
  clear h hbx
  by_cases h2 : 1000 < text.length
  · have d0 : decide (1000 < (text.length : Int)) = true := decide_eq_true (by omega)
    have HP := hid (show readA text = ((0, []), 0, 6) from by unfold readA; rw [if_pos h2])
    clear h2
    go_enter Tryz.func12, Tryz.ntmps12
    go_upto_region 2 with fail
    have k0 : wT.cell? ⟨T, 0, none⟩ = some (.int .i64 0) := by rw [Lib.cell_of_heap HBx.out]; rfl
    have k1 : wT.cell? ⟨T, 1, none⟩ = some (.slice none 0 0) := by rw [Lib.cell_of_heap HBx.out]; rfl
    have f0 : wT.frozen? ⟨T, 0, none⟩ = false := Lib.frozen_of_heap HBx.out _
    have f1 : wT.frozen? ⟨T, 1, none⟩ = false := Lib.frozen_of_heap HBx.out _
    go_wp2_with fail
    refine bodyPost_ret (v := .tuple #[.agg #[.int .i64 0, .slice none 0 0], .int .i64 0, .int .i64 6]) (by simp [results, Tryz.results12, go_sem, k0, k1]) rfl ?_
    refine ⟨_, by rw [HP.out], by rw [HP.out]; exact World.ownsRow_nil _ _ _ _, ?_⟩
    rw [hT] at HB0 ⊢
    exact (HB0.out.setCell (p := ⟨T, 0, none⟩) (Nat.le_refl _) _).setCell (p := ⟨T, 1, none⟩) (Nat.le_refl _) _
  have d0 : decide (1000 < (text.length : Int)) = false := decide_eq_false (by omega)
  obtain ⟨q0, qs, hcut⟩ := cutL_ne 10 text
  have hbd := cutL_bound 10 text
  rw [hcut] at hbd
  have HQl := hid (show qs.length ≤ 1000 ∧ ∀ k, (rowOf (q0 :: qs) k).length ≤ 1000 from ⟨by have := hbd.1; simp at this; omega, fun k => by
    unfold rowOf
    rw [List.getD_eq_getElem?_getD]
    rcases Nat.lt_or_ge k (q0 :: qs).length with hk | hk
    · rw [List.getElem?_eq_getElem hk]; have := hbd.2 (q0 :: qs)[k] (by simp); simp at this ⊢; omega
    · rw [List.getElem?_eq_none hk]; simp⟩)
  have HP := hid (show readA text = (match stopS stepP noPSt (q0 :: qs) qs.length with
    | some k => ((0, []), (k : Int) + 1, 1)
    | none => match runS stepP noPSt (q0 :: qs) qs.length with
      | none => ((0, []), 0, 0)
      | some s => if s.stop = 0 ∨ rowOf (q0 :: qs) qs.length ≠ [] then ((0, []), (qs.length : Int) + 1, 1)
        else if s.many ≠ (s.wings.length : Int) then ((0, []), s.stop, 1)
        else if check s.route s.wings = 0 then ((s.route, s.wings), 0, 0) else ((0, []), 0, check s.route s.wings)) from by unfold readA; rw [if_neg h2, hcut]; rfl)
  have HEw := hid (HE.out.go HB0.out)
  have hsp := split_any ⟨text.toArray⟩ 10 wT HEw.out (by simp [ByteArray.size]; omega)
  have e0 : (⟨text.toArray⟩ : ByteArray).data.toList = text := by simp
  rw [e0, hcut] at hsp
  have HS := hid hsp
  obtain ⟨cs, hcs⟩ : ∃ cs, ((q0 :: qs).map strV).toArray = cs := ⟨_, rfl⟩
  have HCs := hid (show ∀ k, k ≤ qs.length → cs[k]? = some (.string ⟨(rowOf (q0 :: qs) k).toArray⟩) from fun k hk => by
    rw [← hcs]
    have hk2 : k < (q0 :: qs).length := by simp; omega
    simp only [List.getElem?_toArray, List.getElem?_map]
    simp only [rowOf, List.getD_eq_getElem?_getD, List.getElem?_eq_getElem hk2, Option.map_some, Option.getD_some]
    rfl)
  rw [hcs] at HS
  have hrows := heap_alloc_new wT (.cells cs 9)
  have hbxS := (below_alloc wT (.cells cs 9)).block T (blkP_lt HBx.out)
  obtain ⟨wS, hwS⟩ : ∃ wS, wT.alloc (.cells cs 9) = wS := ⟨_, rfl⟩
  obtain ⟨S, hS⟩ : ∃ S, wT.heap.size = S := ⟨_, rfl⟩
  have hB1 := below_alloc wT (.cells cs 9)
  rw [hwS] at hrows hbxS hB1 HS
  rw [hS] at hrows HS
  have K := hid (show RdP T S cs w 0 [] (.slice none 0 0) wS from
    ⟨hbxS.trans HBx.out, hrows, World.ownsRow_nil _ _ _ _, below_trans HB0.out hB1, by omega⟩)
  have z0 : wrap64 (qs.length : Int) = (qs.length : Int) := IntWalk.wrap64_in _ (by have := HQl.out.1; omega)
  have i0 : (qs.length : Int) ≤ (qs.length : Int) + 1 := by omega
  clear h2 hcut hbd hsp e0 hcs hrows hbxS hwS hS hB1 HBx HEw HB0
  go_enter Tryz.func12, Tryz.ntmps12
  go_upto_region 3 with fail
  go_wp2_with (go_at_call 35; refine HS.out.mono ?_; rintro e w2 ⟨rfl, rfl⟩)
  try rw [z0]
  clear HS hsz d0 hwT z0 i0
  go_loopw [7, 8, 29] (fun d e i wr => ∃ (k : Nat) (st : PSt) (vw : Value), k ≤ qs.length ∧ i = .int .i64 k ∧ runS stepP noPSt (q0 :: qs) k = some st ∧ d = .int .i64 st.stop ∧ e = .int .i64 st.many ∧ RdP T S cs w st.route st.wings vw wr) (fun _ _ i _ => qs.length - (intOf i).toNat)
  case atStart => exact ⟨0, noPSt, _, by omega, rfl, rfl, rfl, rfl, K.out⟩
  case round =>
    obtain ⟨k, st, vw, hk, rfl, hrun, rfl, rfl, hKK⟩ := hrel
    obtain ⟨wo, rfl⟩ : ∃ wo : World, wo = wr := ⟨_, rfl⟩
    clear K
    have K := hid hKK
    have HRun := hid hrun
    have HEo := hid (HE.out.go hKK.below)
    have HFew := hid (runP_few HQl.out.2 (by simp; omega) hrun)
    obtain ⟨aw, cw, rfl⟩ := hKK.own.form
    clear hKK hrun
    by_cases hlt : k < qs.length
    · have i1 : (k : Int) < (qs.length : Int) := by omega
      have z2 : IntKind.i64.wrap ((k : Int) + 1) = (k : Int) + 1 := IntWalk.i64_in _ (by have := HQl.out.1; omega)
      have n0 := (K.out.row k).trans (HCs.out k hk)
      have HSx := hid (show runS stepP noPSt (q0 :: qs) (k + 1) = stepP k (rowOf (q0 :: qs) k) st from by rw [runS_succ stepP noPSt (by simp; omega), HRun.out]; rfl)
      have HFail := hid (fun (hs : stepP k (rowOf (q0 :: qs) k) st = none) => (show readA text = ((0, []), (k : Int) + 1, 1) from by rw [HP.out, stopS_some stepP noPSt HRun.out (HSx.out.trans hs) hlt (by simp)]))
      obtain ⟨row, hrow⟩ : ∃ row, rowOf (q0 :: qs) k = row := ⟨_, rfl⟩
      have HQr := hid (show row.length ≤ 1000 from by rw [← hrow]; exact HQl.out.2 k)
      rw [hrow] at n0 HSx HFail
      have hsp := split_any ⟨row.toArray⟩ 32 wo HEo.out (by have := HQr.out; simp [ByteArray.size]; omega)
      have e0 : (⟨row.toArray⟩ : ByteArray).data.toList = row := by simp
      obtain ⟨p0, ws, hcut⟩ := cutL_ne 32 row
      have hbd := cutL_bound 32 row
      rw [hcut] at hbd
      rw [e0, hcut] at hsp
      unfold stepP at HSx HFail
      rw [hcut] at HSx HFail
      dsimp only at HSx HFail
      have HS := hid hsp
      have HWl := hid (show ws.length ≤ 1000 ∧ p0.length ≤ 1000 ∧ ∀ k, (wordAt ws k).length ≤ 1000 from ⟨by have := hbd.1; have := HQr.out; simp at *; omega, by have := hbd.2 p0 (by simp); have := HQr.out; omega, fun k => by
        unfold wordAt
        rw [List.getD_eq_getElem?_getD]
        rcases Nat.lt_or_ge k ws.length with hk | hk
        · rw [List.getElem?_eq_getElem hk]; have := hbd.2 ws[k] (by simp); have := HQr.out; simp; omega
        · rw [List.getElem?_eq_none hk]; simp⟩)
      obtain ⟨w1, hw1⟩ : ∃ w1, wo.alloc (.cells ((p0 :: ws).map strV).toArray 9) = w1 := ⟨_, rfl⟩
      obtain ⟨W, hW⟩ : ∃ W, wo.heap.size = W := ⟨_, rfl⟩
      have HB1 := hid (show Below wo.heap.size wo w1 from hw1 ▸ below_alloc _ _)
      have HWh := hid (show w1.heap[W]? = some (.cells ((p0 :: ws).map strV).toArray 9 (0, 0)) from by rw [← hw1, ← hW]; exact heap_alloc_new _ _)
      rw [hw1, hW] at HS
      clear hcut hbd hsp e0 hrow hw1 hW
      go_upto_region 11 with (go_at_call 35; refine HS.out.mono ?_; rintro e w2 ⟨rfl, rfl⟩)
      have K := hid (K.out.later HB1.out)
      have HEw := hid (HEo.out.go HB1.out)
      have HSA := hid (strs_heap HWh.out (show ws.length + 1 = (p0 :: ws).length from rfl))
      have HSA0 := hid (fun hn : ¬ (p0 = wingW ∧ ws ≠ []) => (show restOf p0 ws = ws ∧ nameOf p0 ws = [] from ⟨if_neg hn, if_neg hn⟩))
      have HSA1 := hid (fun hn : p0 = wingW ∧ ws ≠ [] => (show restOf p0 ws = ws.tail ∧ nameOf p0 ws = wordAt ws 0 from ⟨if_pos hn, by unfold nameOf; rw [if_pos hn]; cases ws <;> rfl⟩))
      have c0 : w1.cell? ⟨W, 0, none⟩ = some (.string ⟨p0.toArray⟩) := by rw [Lib.cell_of_heap HWh.out]; rfl
      obtain ⟨tb, htb⟩ : ∃ tb, decide (p0 = wingW ∧ ws ≠ []) = tb := ⟨_, rfl⟩
      have HTb := hid htb
      clear htb HEo HB1
      go_cut [29, 44] from 29 to 137 (fun i t wx => i = .int .i64 (k : Int) ∧ t = .bool tb ∧ w1 = wx)
      case first =>
        by_cases hp : p0 = wingW
        · have e1 : (p0 == [119, 105, 110, 103]) = true := by rw [hp]; decide
          by_cases hn : ws = []
          · have ht : tb = false := by rw [← HTb.out]; exact decide_eq_false (fun h => h.2 hn)
            have d1 : decide (1 < (ws.length : Int) + 1) = false := decide_eq_false (by rw [hn]; simp)
            subst ht
            clear hp hn
            go_wp2_with fail
            go_meet
            exact ⟨rfl, rfl, rfl⟩
          · have ht : tb = true := by rw [← HTb.out]; exact decide_eq_true ⟨hp, hn⟩
            have d1 : decide (1 < (ws.length : Int) + 1) = true := decide_eq_true (by have := List.length_pos_iff.2 hn; omega)
            subst ht
            clear hp hn
            go_wp2_with fail
            go_meet
            exact ⟨rfl, rfl, rfl⟩
        · have ht : tb = false := by rw [← HTb.out]; exact decide_eq_false (fun h => hp h.1)
          have e1 : (p0 == [119, 105, 110, 103]) = false := beq_eq_false_iff_ne.2 hp
          subst ht
          clear hp
          go_wp2_with fail
          go_meet
          exact ⟨rfl, rfl, rfl⟩
      case rest =>
        obtain ⟨rfl, rfl, rfl⟩ := hcut
        go_upto_if 44 with fail
        go_cut [11, 12, 29] from 29 to 137 (fun v n i wx => i = .int .i64 (k : Int) ∧ n = .string ⟨(nameOf p0 ws).toArray⟩ ∧ StrsAt wx v (p0 :: restOf p0 ws) ∧ Below w1.heap.size w1 wx)
        case first =>
          cases tb with
          | false =>
            go_wp2_with fail
            go_meet
            obtain ⟨er, en⟩ := HSA0.out (of_decide_eq_false HTb.out)
            exact ⟨rfl, by rw [en], by rw [er]; exact HSA.out, Below.refl _ _⟩
          | true =>
            have HCn := hid (of_decide_eq_true HTb.out)
            have HWn := hid (List.length_pos_iff.2 HCn.out.2)
            have c1 : w1.cell? ⟨W, 1, none⟩ = some (.string ⟨(wordAt ws 0).toArray⟩) := by
              rw [Lib.cell_of_heap HWh.out]
              have := HWn.out
              cases ws with
              | nil => simp at this
              | cons x r => rfl
            have i1w : 1 < (ws.length : Int) + 1 := by have := HWn.out; omega
            have HD := hid (fun W' (hb : Below w1.heap.size w1 W') => (cell_back hb (blkP_lt HWh.out) c0 : W'.cell? ⟨W, 0, none⟩ = some (.string ⟨p0.toArray⟩)))
            go_upto_region 13 with fail
            refine wp_named ?_
            intro ac0 hac0
            have HN := hid (show ac0.tmps.size = 164 from by rw [hac0]; rfl)
            have r11 : ac0.eval (.tmp 11) = .slice (some ⟨W, 0, none⟩) (ws.length + 1) (ws.length + 1) := by rw [hac0]; rfl
            have HA := hid hac0
            clear hac0
            refine wp_region_flow_tail 6 (by kernel_rfl) (by kernel_rfl) [48, 49, 50, 51, 52, 53] 100
              (fun _ w' => Below w1.heap.size w1 w') (fun a b => Below a.heap.size a b) (fun _ _ => False)
              (fun _ ix v w' => match ix with
                | 0 => v = .slice (some ⟨W, 0, none⟩) (ws.length + 1) (ws.length + 1)
                | 1 => v = .pointer (some ⟨W, 0, none⟩)
                | 2 => v = .string ⟨p0.toArray⟩
                | 3 => (∃ z : Nat, v = .slice (some ⟨z, 0, none⟩) 1 1) ∧ OwnR encV 1 9 w1.heap.size w' v [strV p0]
                | 4 => v = .slice (some ⟨W, 0, none⟩) (ws.length + 1) (ws.length + 1)
                | 5 => v = .slice (some (if ws.length + 1 = 2 then ⟨W, 0, none⟩ else ⟨W, 0 + 2, none⟩)) (ws.length + 1 - 2) (ws.length + 1 - 2)
                | _ => True)
              [0, 1, 2, 3, 4, 5] (by kernel_rfl) (by kernel_rfl) rfl ?_ ?_ ?_ ?_ ?_
            · intro bt ix v w2 w3' hW hg hy
              match ix with
              | 0 => exact hy
              | 1 => exact hy
              | 2 => exact hy
              | 3 => exact ⟨hy.1.elim fun z hz => ⟨z, hz⟩, hy.2.later hg⟩
              | 4 => exact hy
              | 5 => exact hy
              | n + 6 => exact trivial
            · intro ix v w2 w3' _ h; exact h.elim
            · exact (Below.refl _ _).drew
            · skip
              refine StepF.val (i := 0) (o := _) rfl (by decide) ?_ ?_
              · intro bb vs wx _ hW hY
                refine ⟨fl_want rfl, fun ρ hρ => ⟨.slice (some ⟨W, 0, none⟩) (ws.length + 1) (ws.length + 1), wx, ?_, hW, Below.refl _ _, rfl⟩⟩
                have r_11 : ρ (.tmp 11) = .slice (some ⟨W, 0, none⟩) (ws.length + 1) (ws.length + 1) := by rw [hρ, fl_out rfl, r11]
                have rc : ∀ cv : Value, ρ (.const cv) = cv := fun cv => by rw [hρ]; rfl
                clear hρ
                simp [execOp, rc, go_sem, r_11]
              refine StepF.val (i := 1) (o := _) rfl (by decide) ?_ ?_
              · intro bb vs wx _ hW hY
                have y48 : vs 48 = .slice (some ⟨W, 0, none⟩) (ws.length + 1) (ws.length + 1) := hY 0 48 (by kernel_rfl) (by kernel_rfl)
                refine ⟨fl_want rfl, fun ρ hρ => ⟨.pointer (some ⟨W, 0, none⟩), wx, ?_, hW, Below.refl _ _, rfl⟩⟩
                have r_48 : ρ (.tmp 48) = .slice (some ⟨W, 0, none⟩) (ws.length + 1) (ws.length + 1) := by rw [hρ, fl_in 164 HN.out rfl, y48]
                have rc : ∀ cv : Value, ρ (.const cv) = cv := fun cv => by rw [hρ]; rfl
                clear hρ
                simp [execOp, rc, go_sem, r_48]
              refine StepF.val (i := 2) (o := _) rfl (by decide) ?_ ?_
              · intro bb vs wx _ hW hY
                have y49 : vs 49 = .pointer (some ⟨W, 0, none⟩) := hY 1 49 (by kernel_rfl) (by kernel_rfl)
                refine ⟨fl_want rfl, fun ρ hρ => ⟨.string ⟨p0.toArray⟩, wx, ?_, hW, Below.refl _ _, rfl⟩⟩
                have r_49 : ρ (.tmp 49) = .pointer (some ⟨W, 0, none⟩) := by rw [hρ, fl_in 164 HN.out rfl, y49]
                have q0 := (HD.out _ hW)
                have rc : ∀ cv : Value, ρ (.const cv) = cv := fun cv => by rw [hρ]; rfl
                clear hρ
                simp [execOp, rc, go_sem, r_49, q0]
              refine StepF.val (i := 3) (o := _) rfl (by decide) ?_ ?_
              · intro bb vs wx _ hW hY
                have y50 : vs 50 = .string ⟨p0.toArray⟩ := hY 2 50 (by kernel_rfl) (by kernel_rfl)
                refine ⟨fl_want rfl, fun ρ hρ => ⟨.slice (some ⟨wx.heap.size, 0, none⟩) 1 1, wx.alloc (.cells #[.string ⟨p0.toArray⟩] 9), ?_, hW.trans ((below_alloc _ _).mono hW.size), below_alloc _ _, ⟨⟨_, rfl⟩, str_one hW.size p0⟩⟩⟩
                have r_50 : ρ (.tmp 50) = .string ⟨p0.toArray⟩ := by rw [hρ, fl_in 164 HN.out rfl, y50]
                have rc : ∀ cv : Value, ρ (.const cv) = cv := fun cv => by rw [hρ]; rfl
                clear hρ
                simp [execOp, rc, go_sem, r_50]
              refine StepF.val (i := 4) (o := _) rfl (by decide) ?_ ?_
              · intro bb vs wx _ hW hY
                refine ⟨fl_want rfl, fun ρ hρ => ⟨.slice (some ⟨W, 0, none⟩) (ws.length + 1) (ws.length + 1), wx, ?_, hW, Below.refl _ _, rfl⟩⟩
                have r_11 : ρ (.tmp 11) = .slice (some ⟨W, 0, none⟩) (ws.length + 1) (ws.length + 1) := by rw [hρ, fl_out rfl, r11]
                have rc : ∀ cv : Value, ρ (.const cv) = cv := fun cv => by rw [hρ]; rfl
                clear hρ
                simp [execOp, rc, go_sem, r_11]
              refine StepF.val (i := 5) (o := _) rfl (by decide) ?_ ?_
              · intro bb vs wx _ hW hY
                have y52 : vs 52 = .slice (some ⟨W, 0, none⟩) (ws.length + 1) (ws.length + 1) := hY 4 52 (by kernel_rfl) (by kernel_rfl)
                refine ⟨fl_want rfl, fun ρ hρ => ⟨.slice (some (if ws.length + 1 = 2 then ⟨W, 0, none⟩ else ⟨W, 0 + 2, none⟩)) (ws.length + 1 - 2) (ws.length + 1 - 2), wx, ?_, hW, Below.refl _ _, rfl⟩⟩
                have r_52 : ρ (.tmp 52) = .slice (some ⟨W, 0, none⟩) (ws.length + 1) (ws.length + 1) := by rw [hρ, fl_in 164 HN.out rfl, y52]
                have rc : ∀ cv : Value, ρ (.const cv) = cv := fun cv => by rw [hρ]; rfl
                clear hρ
                exact ex_words (l := 2) rfl r_52 (rc _) (by have := HWn.out; omega)
              exact StepF.nil
            · intro vs wx hW hY
              have y51 : (∃ z : Nat, vs 51 = .slice (some ⟨z, 0, none⟩) 1 1) ∧ OwnR encV 1 9 w1.heap.size wx (vs 51) [strV p0] := hY 3 51 (by kernel_rfl)
              have y53 : vs 53 = .slice (some (if ws.length + 1 = 2 then ⟨W, 0, none⟩ else ⟨W, 0 + 2, none⟩)) (ws.length + 1 - 2) (ws.length + 1 - 2) := hY 5 53 (by kernel_rfl)
              obtain ⟨⟨z, ez⟩, hsp⟩ := y51
              rw [ez] at hsp
              have HOW := hid hsp
              have HSr := hid (strs_src ((hW.block W (blkP_lt HWh.out)).trans HWh.out) HCn.out.2)
              have HQ1 := hid (show [strV p0].length + (ws.tail.map strV).length ≤ 1000000 from by have := HWl.out.1; simp; omega)
              have HBW := hid hW
              clear hY hW hsp HD r11 HN i1w c0 c1
              rw [HA.out]
              simp only [putAll, Act.put, List.setIfInBounds_toArray, List.set_cons_zero, List.set_cons_succ, List.drop_succ_cons, List.drop_zero]
              rw [ez, y53]
              clear ez y53 HA
              go_wp2_with (at_builtin; refine wpList_app encV Tryz.underlying32 infoStrP (by decide) (by decide) (fun _ => rfl) rfl _ _ rfl w1.heap.size [strV p0] (ws.tail.map strV) strs_one _ _ rfl rfl HOW.out HSr.out HQ1.out HBW.out.size ?_; intro v' w5 hown' hg _ _; have HB2 := hid (HBW.out.grown hg HBW.out.size (fun j hj => (HOW.out.lt hj).1)); have HO2 := hid hown'; clear hown' hg)
              all_goals
                go_meet
                obtain ⟨er, en⟩ := HSA1.out HCn.out
                exact ⟨rfl, by rw [en], by rw [er]; exact strs_own (ws := p0 :: ws.tail) HO2.out, HB2.out⟩
        case rest =>
          obtain ⟨rfl, rfl, hSt, hB2⟩ := hcut
          obtain ⟨w2, rfl⟩ : ∃ w2 : World, w2 = wc := ⟨_, rfl⟩
          have K := hid (K.out.later hB2)
          have HEo := hid (HEw.out.go hB2)
          obtain ⟨wb, wof, cc, rfl, hc0, hrest⟩ := hSt.form
          clear HSA HSA0 HSA1 c0 HTb HEw hB2 hSt tb
          obtain ⟨nme, hnme⟩ : ∃ nme, nameOf p0 ws = nme := ⟨_, rfl⟩
          obtain ⟨rst, hrst⟩ : ∃ rst, restOf p0 ws = rst := ⟨_, rfl⟩
          have hrl : rst.length ≤ 2000 ∧ ∀ k, (wordAt rst k).length ≤ 2000 := by
            rw [← hrst]
            unfold restOf
            have := HWl.out
            split
            · refine ⟨by rw [List.length_tail]; omega, fun k => ?_⟩
              have h2 := this.2.2 (k + 1)
              cases ws with
              | nil => simp [wordAt]
              | cons x r => simpa [wordAt, List.getD_eq_getElem?_getD] using Nat.le_trans h2 (by omega)
            · exact ⟨by omega, fun k => Nat.le_trans (this.2.2 k) (by omega)⟩
          have HNw := hid (fun hn : nme ≠ [] => (show p0 = wingW from by
            rw [← hnme] at hn
            unfold nameOf at hn
            split at hn
            · rename_i h; exact h.1
            · exact absurd rfl hn))
          rw [hnme, hrst] at HSx HFail
          rw [hrst] at hrest ⊢
          rw [hnme]
          have HPn := hid (pnumbers_any rst _ w2 hrest hrl.1 hrl.2 HEo.out)
          have i1s : 1 ≤ rst.length + 1 := by omega
          have HRl := hid hrl.1
          obtain ⟨vz, hvz⟩ : ∃ vz, (Value.slice (some (if cc = 1 then ⟨wb, wof, none⟩ else ⟨wb, wof + 1, none⟩)) (rst.length + 1 - 1) (cc - 1)) = vz := ⟨_, rfl⟩
          rw [hvz] at HPn
          have HVz := hid hvz
          unfold NumbersPost at HPn
          clear hnme hrst hrl hrest hvz HWh HWl
          cases hn : numsOf rst with
          | none =>
            rw [hn] at HPn HFail
            have HPf := hid (HFail.out rfl)
            clear hn HSx HFail
            go_upto_region 15 with (first
              | (refine wpList_words (l := 1) rfl _ _ rfl rfl rfl i1s ?_; rw [HVz.out])
              | (go_at_call 36; refine HPn.out.mono ?_; rintro e w3 ⟨rfl, hb⟩; have K := hid (K.out.later hb); clear hb hc0))
            obtain ⟨x0, x1⟩ := K.out.c
            have f0 := K.out.f 0
            have f1 := K.out.f 1
            go_wp2_with fail
            refine bodyPost_ret (v := .tuple #[.agg #[.int .i64 0, .slice none 0 0], .int .i64 ((k : Int) + 1), .int .i64 1]) (by simp [results, Tryz.results12, go_sem, x0, x1]) rfl ?_
            refine ⟨_, by rw [HPf.out], by rw [HPf.out]; exact World.ownsRow_nil _ _ _ _, ?_⟩
            exact (K.out.below.setCell (p := ⟨T, 0, none⟩) K.out.low _).setCell (p := ⟨T, 1, none⟩) K.out.low _
          | some l =>
            rw [hn] at HPn HSx HFail
            dsimp only at HPn HSx HFail
            unfold stepA at HSx HFail
            have HLl := hid (show l.length ≤ 2000 from Nat.le_trans (Nat.le_of_eq (numsOf_len hn)) HRl.out)
            clear hn
            go_upto_region 15 with (first
              | (refine wpList_words (l := 1) rfl _ _ rfl rfl rfl i1s ?_; rw [HVz.out])
              | (go_at_call 36; refine HPn.out.mono ?_; rintro e w3 ⟨lv, rfl, ho, hb⟩; obtain ⟨la, lc, elv⟩ := (own_int.2 ho).form; subst elv; have HLo := hid (OwnInts.base' ho (show T + 1 ≤ w2.heap.size from blkP_lt K.out.box)); have K := hid (K.out.later hb); have hc0 := cell_back hb (World.block_lt_of_cell? _ _ hc0) hc0; clear hb ho))
            obtain ⟨x0, x1⟩ := K.out.c
            have f0 := K.out.f 0
            have f1 := K.out.f 1
            clear HVz HPn HEo
            by_cases hst : st.stop = 0
            rotate_left
            · rw [if_pos hst] at HFail
              have HPf := hid (HFail.out rfl)
              have e1 : (st.stop == 0) = false := beq_eq_false_iff_ne.2 hst
              clear hst HSx HFail
              go_wp2_with fail
              refine bodyPost_ret (v := .tuple #[.agg #[.int .i64 0, .slice none 0 0], .int .i64 ((k : Int) + 1), .int .i64 1]) (by simp [results, Tryz.results12, go_sem, x0, x1]) rfl ?_
              refine ⟨_, by rw [HPf.out], by rw [HPf.out]; exact World.ownsRow_nil _ _ _ _, ?_⟩
              exact (K.out.below.setCell (p := ⟨T, 0, none⟩) K.out.low _).setCell (p := ⟨T, 1, none⟩) K.out.low _
            rw [if_neg (fun h => h hst)] at HSx HFail
            have e1 : (st.stop == 0) = true := beq_iff_eq.2 hst
            clear hst
            by_cases hav : p0 = avenueW
            · have e2 : (p0 == [97, 118, 101, 110, 117, 101]) = true := by rw [hav]; decide
              by_cases hk0 : k = 0
              · have e3 : ((k : Int) == 0) = true := beq_iff_eq.2 (by omega)
                rw [if_neg (by rw [decide_eq_true hav, decide_eq_true hk0]; simp)] at HSx HFail
                by_cases hl1 : l.length = 1
                · have e4 : ((l.length : Int) == 1) = true := beq_iff_eq.2 (by omega)
                  rw [if_pos ⟨hav, hl1⟩] at HSx
                  have hi := OwnInts.at (d := none) HLo.out (by simp)
                  obtain ⟨lb, lo, lc', el, _, _⟩ := hi.slice (by omega)
                  cases el
                  have u0 := hi.cell (i := 0) (by omega)
                  rw [Nat.add_zero] at u0
                  have i4 : 0 < (l.length : Int) := by omega
                  have i5 : 0 < l.length := by omega
                  obtain ⟨n0v, hn0v⟩ : ∃ n0v, nm l 0 = n0v := ⟨_, rfl⟩
                  rw [hn0v] at u0 HSx
                  have HK0 := hid hk0
                  clear hi hav hk0 hl1 HFail hn0v
                  go_wp2_with fail
                  have K := hid (K.out.setRoute n0v)
                  go_roundw
                  case rel => exact ⟨k + 1, _, _, by omega, by go_num, HSx.out, rfl, rfl, K.out⟩
                  case measure => simp [intOf] <;> omega
                · have e4 : ((l.length : Int) == 1) = false := beq_eq_false_iff_ne.2 (by omega)
                  have hnw : nme = [] := Classical.byContradiction fun h => absurd (hav.symm.trans (HNw.out h)) (by decide)
                  have hne : ¬ p0 = endP := fun h => absurd (hav.symm.trans h) (by decide)
                  rw [if_neg (fun h => hl1 h.2), if_neg (fun h => h.1 hnw), if_neg (fun h => hne h.1)] at HFail
                  have HPf := hid (HFail.out rfl)
                  have e5 : (p0 == [101, 110, 100]) = false := beq_eq_false_iff_ne.2 hne
                  subst hnw
                  clear hav hk0 hl1 hne HSx HFail HNw
                  go_wp2_with fail
                  refine bodyPost_ret (v := .tuple #[.agg #[.int .i64 0, .slice none 0 0], .int .i64 ((k : Int) + 1), .int .i64 1]) (by simp [results, Tryz.results12, go_sem, x0, x1]) rfl ?_
                  refine ⟨_, by rw [HPf.out], by rw [HPf.out]; exact World.ownsRow_nil _ _ _ _, ?_⟩
                  exact (K.out.below.setCell (p := ⟨T, 0, none⟩) K.out.low _).setCell (p := ⟨T, 1, none⟩) K.out.low _
              · have e3 : ((k : Int) == 0) = false := beq_eq_false_iff_ne.2 (by omega)
                rw [if_pos (by rw [decide_eq_true hav, decide_eq_false hk0]; simp)] at HFail
                have HPf := hid (HFail.out rfl)
                clear hav hk0 HSx HFail HNw
                go_wp2_with fail
                refine bodyPost_ret (v := .tuple #[.agg #[.int .i64 0, .slice none 0 0], .int .i64 ((k : Int) + 1), .int .i64 1]) (by simp [results, Tryz.results12, go_sem, x0, x1]) rfl ?_
                refine ⟨_, by rw [HPf.out], by rw [HPf.out]; exact World.ownsRow_nil _ _ _ _, ?_⟩
                exact (K.out.below.setCell (p := ⟨T, 0, none⟩) K.out.low _).setCell (p := ⟨T, 1, none⟩) K.out.low _
            have e2 : (p0 == [97, 118, 101, 110, 117, 101]) = false := beq_eq_false_iff_ne.2 hav
            by_cases hk0 : k = 0
            · have e3 : ((k : Int) == 0) = true := beq_iff_eq.2 (by omega)
              rw [if_pos (by rw [decide_eq_false hav, decide_eq_true hk0]; simp)] at HFail
              have HPf := hid (HFail.out rfl)
              clear hav hk0 HSx HFail HNw
              go_wp2_with fail
              refine bodyPost_ret (v := .tuple #[.agg #[.int .i64 0, .slice none 0 0], .int .i64 ((k : Int) + 1), .int .i64 1]) (by simp [results, Tryz.results12, go_sem, x0, x1]) rfl ?_
              refine ⟨_, by rw [HPf.out], by rw [HPf.out]; exact World.ownsRow_nil _ _ _ _, ?_⟩
              exact (K.out.below.setCell (p := ⟨T, 0, none⟩) K.out.low _).setCell (p := ⟨T, 1, none⟩) K.out.low _
            have e3 : ((k : Int) == 0) = false := beq_eq_false_iff_ne.2 (by omega)
            rw [if_neg (by rw [decide_eq_false hav, decide_eq_false hk0]; simp), if_neg (fun h => hav h.1)] at HSx HFail
            clear hav hk0
            by_cases hnn : nme = []
            · rw [if_neg (fun h => h.1 hnn)] at HSx HFail
              subst hnn
              clear HNw
              by_cases hpe : p0 = endP
              · have e5 : (p0 == [101, 110, 100]) = true := by rw [hpe]; decide
                by_cases hl1 : l.length = 1
                · have e4 : ((l.length : Int) == 1) = true := beq_iff_eq.2 (by omega)
                  rw [if_pos ⟨hpe, hl1⟩] at HSx
                  have hi := OwnInts.at (d := none) HLo.out (by simp)
                  obtain ⟨lb, lo, lc', el, _, _⟩ := hi.slice (by omega)
                  cases el
                  have u0 := hi.cell (i := 0) (by omega)
                  rw [Nat.add_zero] at u0
                  have i4 : 0 < (l.length : Int) := by omega
                  have i5 : 0 < l.length := by omega
                  obtain ⟨n0v, hn0v⟩ : ∃ n0v, nm l 0 = n0v := ⟨_, rfl⟩
                  rw [hn0v] at u0 HSx
                  clear hi hpe hl1 HFail hn0v
                  go_upto_region 23 with fail
                  go_quiet (fail)
                  have K := hid (K.out.later (below_drewN (Below.refl _ w3) nq))
                  go_wp2_with fail
                  go_roundw
                  case rel => exact ⟨k + 1, _, _, by omega, by go_num, HSx.out, rfl, rfl, K.out⟩
                  case measure => simp [intOf] <;> omega
                · have e4 : ((l.length : Int) == 1) = false := beq_eq_false_iff_ne.2 (by omega)
                  rw [if_neg (fun h => hl1 h.2)] at HFail
                  have HPf := hid (HFail.out rfl)
                  clear hpe hl1 HSx HFail
                  go_wp2_with fail
                  refine bodyPost_ret (v := .tuple #[.agg #[.int .i64 0, .slice none 0 0], .int .i64 ((k : Int) + 1), .int .i64 1]) (by simp [results, Tryz.results12, go_sem, x0, x1]) rfl ?_
                  refine ⟨_, by rw [HPf.out], by rw [HPf.out]; exact World.ownsRow_nil _ _ _ _, ?_⟩
                  exact (K.out.below.setCell (p := ⟨T, 0, none⟩) K.out.low _).setCell (p := ⟨T, 1, none⟩) K.out.low _
              · have e5 : (p0 == [101, 110, 100]) = false := beq_eq_false_iff_ne.2 hpe
                rw [if_neg (fun h => hpe h.1)] at HFail
                have HPf := hid (HFail.out rfl)
                clear hpe HSx HFail
                go_wp2_with fail
                refine bodyPost_ret (v := .tuple #[.agg #[.int .i64 0, .slice none 0 0], .int .i64 ((k : Int) + 1), .int .i64 1]) (by simp [results, Tryz.results12, go_sem, x0, x1]) rfl ?_
                refine ⟨_, by rw [HPf.out], by rw [HPf.out]; exact World.ownsRow_nil _ _ _ _, ?_⟩
                exact (K.out.below.setCell (p := ⟨T, 0, none⟩) K.out.low _).setCell (p := ⟨T, 1, none⟩) K.out.low _
            have e6 : (nme == []) = false := beq_eq_false_iff_ne.2 hnn
            by_cases hl3 : l.length = 3
            · have e4 : ((l.length : Int) == 3) = true := beq_iff_eq.2 (by omega)
              rw [if_pos ⟨hnn, hl3⟩] at HSx
              have hi := OwnInts.at (d := none) HLo.out (by simp)
              obtain ⟨lb, lo, lc', el, _, _⟩ := hi.slice (by omega)
              cases el
              have u0 := hi.cell (i := 0) (by omega)
              have u1 := hi.cell (i := 1) (by omega)
              have u2 := hi.cell (i := 2) (by omega)
              rw [Nat.add_zero] at u0
              have hnl : ¬ l = [] := by rintro rfl; simp at hl3
              have HX := hid (show wingOf nme l = ⟨⟨nme.toArray⟩, nm l 0, nm l 1, nm l 2⟩ from rfl)
              obtain ⟨a0, ha0⟩ : ∃ a0, nm l 0 = a0 := ⟨_, rfl⟩
              obtain ⟨a1, ha1⟩ : ∃ a1, nm l 1 = a1 := ⟨_, rfl⟩
              obtain ⟨a2, ha2⟩ : ∃ a2, nm l 2 = a2 := ⟨_, rfl⟩
              rw [ha0] at u0 HX
              rw [ha1] at u1 HX
              rw [ha2] at u2 HX
              rw [HX.out] at HSx
              have HD := hid (fun W' (hb : Below w3.heap.size w3 W') => (⟨cell_back hb (blkP_lt K.out.box) K.out.c.2, cell_back hb (World.block_lt_of_cell? _ _ u0) u0, cell_back hb (World.block_lt_of_cell? _ _ u1) u1, cell_back hb (World.block_lt_of_cell? _ _ u2) u2⟩ : W'.cell? ⟨T, 1, none⟩ = some (.slice aw st.wings.length cw) ∧ W'.cell? ⟨lb, lo, none⟩ = some (.int .i64 a0) ∧ W'.cell? ⟨lb, lo + 1, none⟩ = some (.int .i64 a1) ∧ W'.cell? ⟨lb, lo + 2, none⟩ = some (.int .i64 a2)))
              have i4 : 0 < (l.length : Int) := by omega
              have i5 : 1 < (l.length : Int) := by omega
              have i6 : 2 < (l.length : Int) := by omega
              clear hi u0 u1 u2 hnn hl3 HFail HX ha0 ha1 ha2
              go_upto_region 21 with fail
              refine wp_named ?_
              intro ac0 hac0
              have HN := hid (show ac0.tmps.size = 164 from by rw [hac0]; rfl)
              have r2 : ac0.eval (.tmp 2) = .pointer (some ⟨T, 0, none⟩) := by rw [hac0]; rfl
              have r12 : ac0.eval (.tmp 12) = .string ⟨nme.toArray⟩ := by rw [hac0]; rfl
              have r13 : ac0.eval (.tmp 13) = .slice (some ⟨lb, lo, none⟩) l.length lc := by rw [hac0]; rfl
              have HA := hid hac0
              clear hac0
              refine wp_region_flow_tail 15 (by kernel_rfl) (by kernel_rfl) [100, 101, 102, 103, 104, 105, 106, 107, 108, 109, 110, 111, 112, 113, 114] 100
                (fun _ w' => Below w3.heap.size w3 w') (fun a b => Below a.heap.size a b) (fun _ _ => False)
                (fun _ ix v w' => match ix with
                  | 0 => v = .pointer (some ⟨T, 1, none⟩)
                  | 1 => v = .slice aw st.wings.length cw
                  | 2 => v = .string ⟨nme.toArray⟩
                  | 3 => v = .slice (some ⟨lb, lo, none⟩) l.length lc
                  | 4 => v = .pointer (some ⟨lb, lo, none⟩)
                  | 5 => v = .int .i64 a0
                  | 6 => v = .slice (some ⟨lb, lo, none⟩) l.length lc
                  | 7 => v = .pointer (some ⟨lb, lo + 1, none⟩)
                  | 8 => v = .int .i64 a1
                  | 9 => v = .slice (some ⟨lb, lo, none⟩) l.length lc
                  | 10 => v = .pointer (some ⟨lb, lo + 2, none⟩)
                  | 11 => v = .int .i64 a2
                  | 12 => v = .agg #[.int .i64 a1, .int .i64 a2]
                  | 13 => v = .agg #[.string ⟨nme.toArray⟩, .int .i64 a0, .int .i64 a1, .int .i64 a2]
                  | 14 => (∃ z : Nat, v = .slice (some ⟨z, 0, none⟩) 1 1) ∧ RecAt none w' v 1 4 (fun i j => wingCell ([(⟨⟨nme.toArray⟩, a0, a1, a2⟩ : Wing)].getD i noWing) j)
                  | _ => True)
                [0, 1, 2, 3, 4, 5, 6, 7, 8, 9, 10, 11, 12, 13, 14] (by kernel_rfl) (by kernel_rfl) rfl ?_ ?_ ?_ ?_ ?_
              · intro bt ix v w2 w3' hW hg hy
                match ix with
                | 0 => exact hy
                | 1 => exact hy
                | 2 => exact hy
                | 3 => exact hy
                | 4 => exact hy
                | 5 => exact hy
                | 6 => exact hy
                | 7 => exact hy
                | 8 => exact hy
                | 9 => exact hy
                | 10 => exact hy
                | 11 => exact hy
                | 12 => exact hy
                | 13 => exact hy
                | 14 => exact ⟨hy.1.elim fun z hz => ⟨z, hz⟩, RecAt.below hy.2 hg⟩
                | n + 15 => exact trivial
              · intro ix v w2 w3' _ h; exact h.elim
              · exact (Below.refl _ _).drew
              · skip
                refine StepF.val (i := 0) (o := _) rfl (by decide) ?_ ?_
                · intro bb vs wx _ hW hY
                  refine ⟨fl_want rfl, fun ρ hρ => ⟨.pointer (some ⟨T, 1, none⟩), wx, ?_, hW, Below.refl _ _, rfl⟩⟩
                  have r_2 : ρ (.tmp 2) = .pointer (some ⟨T, 0, none⟩) := by rw [hρ, fl_out rfl, r2]
                  have rc : ∀ cv : Value, ρ (.const cv) = cv := fun cv => by rw [hρ]; rfl
                  clear hρ
                  simp [execOp, rc, go_sem, r_2]
                refine StepF.val (i := 1) (o := _) rfl (by decide) ?_ ?_
                · intro bb vs wx _ hW hY
                  have y100 : vs 100 = .pointer (some ⟨T, 1, none⟩) := hY 0 100 (by kernel_rfl) (by kernel_rfl)
                  refine ⟨fl_want rfl, fun ρ hρ => ⟨.slice aw st.wings.length cw, wx, ?_, hW, Below.refl _ _, rfl⟩⟩
                  have r_100 : ρ (.tmp 100) = .pointer (some ⟨T, 1, none⟩) := by rw [hρ, fl_in 164 HN.out rfl, y100]
                  have q0 := (HD.out _ hW).1
                  have rc : ∀ cv : Value, ρ (.const cv) = cv := fun cv => by rw [hρ]; rfl
                  clear hρ
                  simp [execOp, rc, go_sem, r_100, q0]
                refine StepF.val (i := 2) (o := _) rfl (by decide) ?_ ?_
                · intro bb vs wx _ hW hY
                  refine ⟨fl_want rfl, fun ρ hρ => ⟨.string ⟨nme.toArray⟩, wx, ?_, hW, Below.refl _ _, rfl⟩⟩
                  have r_12 : ρ (.tmp 12) = .string ⟨nme.toArray⟩ := by rw [hρ, fl_out rfl, r12]
                  have rc : ∀ cv : Value, ρ (.const cv) = cv := fun cv => by rw [hρ]; rfl
                  clear hρ
                  simp [execOp, rc, go_sem, r_12]
                refine StepF.val (i := 3) (o := _) rfl (by decide) ?_ ?_
                · intro bb vs wx _ hW hY
                  refine ⟨fl_want rfl, fun ρ hρ => ⟨.slice (some ⟨lb, lo, none⟩) l.length lc, wx, ?_, hW, Below.refl _ _, rfl⟩⟩
                  have r_13 : ρ (.tmp 13) = .slice (some ⟨lb, lo, none⟩) l.length lc := by rw [hρ, fl_out rfl, r13]
                  have rc : ∀ cv : Value, ρ (.const cv) = cv := fun cv => by rw [hρ]; rfl
                  clear hρ
                  simp [execOp, rc, go_sem, r_13]
                refine StepF.val (i := 4) (o := _) rfl (by decide) ?_ ?_
                · intro bb vs wx _ hW hY
                  have y103 : vs 103 = .slice (some ⟨lb, lo, none⟩) l.length lc := hY 3 103 (by kernel_rfl) (by kernel_rfl)
                  refine ⟨fl_want rfl, fun ρ hρ => ⟨.pointer (some ⟨lb, lo, none⟩), wx, ?_, hW, Below.refl _ _, rfl⟩⟩
                  have r_103 : ρ (.tmp 103) = .slice (some ⟨lb, lo, none⟩) l.length lc := by rw [hρ, fl_in 164 HN.out rfl, y103]
                  have rc : ∀ cv : Value, ρ (.const cv) = cv := fun cv => by rw [hρ]; rfl
                  clear hρ
                  simp [execOp, rc, go_sem, r_103, i4, hnl]
                refine StepF.val (i := 5) (o := _) rfl (by decide) ?_ ?_
                · intro bb vs wx _ hW hY
                  have y104 : vs 104 = .pointer (some ⟨lb, lo, none⟩) := hY 4 104 (by kernel_rfl) (by kernel_rfl)
                  refine ⟨fl_want rfl, fun ρ hρ => ⟨.int .i64 a0, wx, ?_, hW, Below.refl _ _, rfl⟩⟩
                  have r_104 : ρ (.tmp 104) = .pointer (some ⟨lb, lo, none⟩) := by rw [hρ, fl_in 164 HN.out rfl, y104]
                  have q0 := (HD.out _ hW).2.1
                  have rc : ∀ cv : Value, ρ (.const cv) = cv := fun cv => by rw [hρ]; rfl
                  clear hρ
                  simp [execOp, rc, go_sem, r_104, q0]
                refine StepF.val (i := 6) (o := _) rfl (by decide) ?_ ?_
                · intro bb vs wx _ hW hY
                  refine ⟨fl_want rfl, fun ρ hρ => ⟨.slice (some ⟨lb, lo, none⟩) l.length lc, wx, ?_, hW, Below.refl _ _, rfl⟩⟩
                  have r_13 : ρ (.tmp 13) = .slice (some ⟨lb, lo, none⟩) l.length lc := by rw [hρ, fl_out rfl, r13]
                  have rc : ∀ cv : Value, ρ (.const cv) = cv := fun cv => by rw [hρ]; rfl
                  clear hρ
                  simp [execOp, rc, go_sem, r_13]
                refine StepF.val (i := 7) (o := _) rfl (by decide) ?_ ?_
                · intro bb vs wx _ hW hY
                  have y106 : vs 106 = .slice (some ⟨lb, lo, none⟩) l.length lc := hY 6 106 (by kernel_rfl) (by kernel_rfl)
                  refine ⟨fl_want rfl, fun ρ hρ => ⟨.pointer (some ⟨lb, lo + 1, none⟩), wx, ?_, hW, Below.refl _ _, rfl⟩⟩
                  have r_106 : ρ (.tmp 106) = .slice (some ⟨lb, lo, none⟩) l.length lc := by rw [hρ, fl_in 164 HN.out rfl, y106]
                  have rc : ∀ cv : Value, ρ (.const cv) = cv := fun cv => by rw [hρ]; rfl
                  clear hρ
                  simp [execOp, rc, go_sem, r_106, i5]
                refine StepF.val (i := 8) (o := _) rfl (by decide) ?_ ?_
                · intro bb vs wx _ hW hY
                  have y107 : vs 107 = .pointer (some ⟨lb, lo + 1, none⟩) := hY 7 107 (by kernel_rfl) (by kernel_rfl)
                  refine ⟨fl_want rfl, fun ρ hρ => ⟨.int .i64 a1, wx, ?_, hW, Below.refl _ _, rfl⟩⟩
                  have r_107 : ρ (.tmp 107) = .pointer (some ⟨lb, lo + 1, none⟩) := by rw [hρ, fl_in 164 HN.out rfl, y107]
                  have q0 := (HD.out _ hW).2.2.1
                  have rc : ∀ cv : Value, ρ (.const cv) = cv := fun cv => by rw [hρ]; rfl
                  clear hρ
                  simp [execOp, rc, go_sem, r_107, q0]
                refine StepF.val (i := 9) (o := _) rfl (by decide) ?_ ?_
                · intro bb vs wx _ hW hY
                  refine ⟨fl_want rfl, fun ρ hρ => ⟨.slice (some ⟨lb, lo, none⟩) l.length lc, wx, ?_, hW, Below.refl _ _, rfl⟩⟩
                  have r_13 : ρ (.tmp 13) = .slice (some ⟨lb, lo, none⟩) l.length lc := by rw [hρ, fl_out rfl, r13]
                  have rc : ∀ cv : Value, ρ (.const cv) = cv := fun cv => by rw [hρ]; rfl
                  clear hρ
                  simp [execOp, rc, go_sem, r_13]
                refine StepF.val (i := 10) (o := _) rfl (by decide) ?_ ?_
                · intro bb vs wx _ hW hY
                  have y109 : vs 109 = .slice (some ⟨lb, lo, none⟩) l.length lc := hY 9 109 (by kernel_rfl) (by kernel_rfl)
                  refine ⟨fl_want rfl, fun ρ hρ => ⟨.pointer (some ⟨lb, lo + 2, none⟩), wx, ?_, hW, Below.refl _ _, rfl⟩⟩
                  have r_109 : ρ (.tmp 109) = .slice (some ⟨lb, lo, none⟩) l.length lc := by rw [hρ, fl_in 164 HN.out rfl, y109]
                  have rc : ∀ cv : Value, ρ (.const cv) = cv := fun cv => by rw [hρ]; rfl
                  clear hρ
                  simp [execOp, rc, go_sem, r_109, i6]
                refine StepF.val (i := 11) (o := _) rfl (by decide) ?_ ?_
                · intro bb vs wx _ hW hY
                  have y110 : vs 110 = .pointer (some ⟨lb, lo + 2, none⟩) := hY 10 110 (by kernel_rfl) (by kernel_rfl)
                  refine ⟨fl_want rfl, fun ρ hρ => ⟨.int .i64 a2, wx, ?_, hW, Below.refl _ _, rfl⟩⟩
                  have r_110 : ρ (.tmp 110) = .pointer (some ⟨lb, lo + 2, none⟩) := by rw [hρ, fl_in 164 HN.out rfl, y110]
                  have q0 := (HD.out _ hW).2.2.2
                  have rc : ∀ cv : Value, ρ (.const cv) = cv := fun cv => by rw [hρ]; rfl
                  clear hρ
                  simp [execOp, rc, go_sem, r_110, q0]
                refine StepF.val (i := 12) (o := _) rfl (by decide) ?_ ?_
                · intro bb vs wx _ hW hY
                  have y108 : vs 108 = .int .i64 a1 := hY 8 108 (by kernel_rfl) (by kernel_rfl)
                  have y111 : vs 111 = .int .i64 a2 := hY 11 111 (by kernel_rfl) (by kernel_rfl)
                  refine ⟨fl_want rfl, fun ρ hρ => ⟨.agg #[.int .i64 a1, .int .i64 a2], wx, ?_, hW, Below.refl _ _, rfl⟩⟩
                  have r_108 : ρ (.tmp 108) = .int .i64 a1 := by rw [hρ, fl_in 164 HN.out rfl, y108]
                  have r_111 : ρ (.tmp 111) = .int .i64 a2 := by rw [hρ, fl_in 164 HN.out rfl, y111]
                  have rc : ∀ cv : Value, ρ (.const cv) = cv := fun cv => by rw [hρ]; rfl
                  clear hρ
                  simp [execOp, rc, go_sem, r_108, r_111]
                refine StepF.val (i := 13) (o := _) rfl (by decide) ?_ ?_
                · intro bb vs wx _ hW hY
                  have y102 : vs 102 = .string ⟨nme.toArray⟩ := hY 2 102 (by kernel_rfl) (by kernel_rfl)
                  have y105 : vs 105 = .int .i64 a0 := hY 5 105 (by kernel_rfl) (by kernel_rfl)
                  have y112 : vs 112 = .agg #[.int .i64 a1, .int .i64 a2] := hY 12 112 (by kernel_rfl) (by kernel_rfl)
                  refine ⟨fl_want rfl, fun ρ hρ => ⟨.agg #[.string ⟨nme.toArray⟩, .int .i64 a0, .int .i64 a1, .int .i64 a2], wx, ?_, hW, Below.refl _ _, rfl⟩⟩
                  have r_102 : ρ (.tmp 102) = .string ⟨nme.toArray⟩ := by rw [hρ, fl_in 164 HN.out rfl, y102]
                  have r_105 : ρ (.tmp 105) = .int .i64 a0 := by rw [hρ, fl_in 164 HN.out rfl, y105]
                  have r_112 : ρ (.tmp 112) = .agg #[.int .i64 a1, .int .i64 a2] := by rw [hρ, fl_in 164 HN.out rfl, y112]
                  have rc : ∀ cv : Value, ρ (.const cv) = cv := fun cv => by rw [hρ]; rfl
                  clear hρ
                  simp [execOp, rc, go_sem, r_102, r_105, r_112]
                refine StepF.val (i := 14) (o := _) rfl (by decide) ?_ ?_
                · intro bb vs wx _ hW hY
                  have y113 : vs 113 = .agg #[.string ⟨nme.toArray⟩, .int .i64 a0, .int .i64 a1, .int .i64 a2] := hY 13 113 (by kernel_rfl) (by kernel_rfl)
                  refine ⟨fl_want rfl, fun ρ hρ => ⟨.slice (some ⟨wx.heap.size, 0, none⟩) 1 1, wx.alloc (.cells #[.string ⟨nme.toArray⟩, .int .i64 a0, .int .i64 a1, .int .i64 a2] 45), ?_, hW.trans ((below_alloc _ _).mono hW.size), below_alloc _ _, ⟨⟨_, rfl⟩, wing_lit wx ⟨⟨nme.toArray⟩, a0, a1, a2⟩⟩⟩⟩
                  have r_113 : ρ (.tmp 113) = .agg #[.string ⟨nme.toArray⟩, .int .i64 a0, .int .i64 a1, .int .i64 a2] := by rw [hρ, fl_in 164 HN.out rfl, y113]
                  have rc : ∀ cv : Value, ρ (.const cv) = cv := fun cv => by rw [hρ]; rfl
                  clear hρ
                  simp [execOp, rc, go_sem, r_113]
                exact StepF.nil
              · intro vs wx hW hY
                have y114 : (∃ z : Nat, vs 114 = .slice (some ⟨z, 0, none⟩) 1 1) ∧ RecAt none wx (vs 114) 1 4 (fun i j => wingCell ([(⟨⟨nme.toArray⟩, a0, a1, a2⟩ : Wing)].getD i noWing) j) := hY 14 114 (by kernel_rfl)
                have y101 : vs 101 = .slice aw st.wings.length cw := hY 1 101 (by kernel_rfl)
                obtain ⟨⟨z, ez⟩, hsp⟩ := y114
                rw [ez] at hsp
                have HSr := hid (show Src wingCells wx (.slice (some ⟨z, 0, none⟩) 1 1) [(⟨⟨nme.toArray⟩, a0, a1, a2⟩ : Wing)] from Src.ofRec noWing wingCell (by decide) (fun _ => rfl) wingCells_atP hsp (RecAt.sound hsp (by simp)))
                have K := hid (K.out.later hW)
                clear hY hW hsp HD r2 r12 r13 HN i4 i5 i6 hnl x0 x1 f0 f1 hc0
                rw [HA.out]
                simp only [putAll, Act.put, List.setIfInBounds_toArray, List.set_cons_zero, List.set_cons_succ, List.drop_succ_cons, List.drop_zero]
                rw [ez, y101]
                clear ez y101 HA
                have HQ1 := hid (show st.wings.length + [(⟨⟨nme.toArray⟩, a0, a1, a2⟩ : Wing)].length ≤ 1000000 from by have := HFew.out.1; have := HQl.out.1; simp; omega)
                have HQ2 := hid (show T + 1 ≤ wx.heap.size from blkP_lt K.out.box)
                have HLk := hid (show (st.wings ++ [(⟨⟨nme.toArray⟩, a0, a1, a2⟩ : Wing)]).length = st.wings.length + 1 from by rw [List.length_append]; rfl)
                go_wp2_with (at_builtin; refine wpList_app wingCells Tryz.underlying22 infoWingP (by decide) (by decide) (fun _ => rfl) rfl _ _ rfl (T + 1) st.wings [(⟨⟨nme.toArray⟩, a0, a1, a2⟩ : Wing)] (fun q _ => wingCells_one q) _ _ rfl rfl K.out.own HSr.out HQ1.out HQ2.out ?_; intro v' w5 hown' hg _ _; have hbl := K.out.wings hown' hg; obtain ⟨a5, c5, e5⟩ := OwnR.form hown'; rw [HLk.out] at e5; subst e5; have KN := hid hbl.2; have g1 : w5.cell? ⟨T, 1, none⟩ = some (.slice aw st.wings.length cw) := (by rw [Lib.cell_of_heap hbl.1]; rfl); have g2 : w5.frozen? ⟨T, 1, none⟩ = false := Lib.frozen_of_heap hbl.1 _; clear hown' hg hbl)
                go_roundw
                case rel => exact ⟨k + 1, _, _, by omega, by go_num, HSx.out, rfl, rfl, KN.out⟩
                case measure => simp [intOf] <;> omega
            · have e4 : ((l.length : Int) == 3) = false := beq_eq_false_iff_ne.2 (by omega)
              have hne : ¬ p0 = endP := fun h => absurd ((HNw.out hnn).symm.trans h) (by decide)
              rw [if_neg (fun h => hl3 h.2), if_neg (fun h => hne h.1)] at HFail
              have HPf := hid (HFail.out rfl)
              have e5 : (p0 == [101, 110, 100]) = false := beq_eq_false_iff_ne.2 hne
              clear hnn hl3 hne HSx HFail HNw
              go_wp2_with fail
              refine bodyPost_ret (v := .tuple #[.agg #[.int .i64 0, .slice none 0 0], .int .i64 ((k : Int) + 1), .int .i64 1]) (by simp [results, Tryz.results12, go_sem, x0, x1]) rfl ?_
              refine ⟨_, by rw [HPf.out], by rw [HPf.out]; exact World.ownsRow_nil _ _ _ _, ?_⟩
              exact (K.out.below.setCell (p := ⟨T, 0, none⟩) K.out.low _).setCell (p := ⟨T, 1, none⟩) K.out.low _
    · obtain rfl : k = qs.length := by omega
      have n0 := (K.out.row qs.length).trans (HCs.out _ (Nat.le_refl _))
      have HPe := hid (show readA text = (if st.stop = 0 ∨ rowOf (q0 :: qs) qs.length ≠ [] then ((0, []), (qs.length : Int) + 1, 1)
        else if st.many ≠ (st.wings.length : Int) then ((0, []), st.stop, 1)
        else if check st.route st.wings = 0 then ((st.route, st.wings), 0, 0) else ((0, []), 0, check st.route st.wings)) from by
        rw [HP.out, stopS_none stepP noPSt (by simp) HRun.out]
        simp only [HRun.out])
      obtain ⟨rl, hrl⟩ : ∃ rl, rowOf (q0 :: qs) qs.length = rl := ⟨_, rfl⟩
      rw [hrl] at n0 HPe
      have z1 : IntKind.i64.wrap ((qs.length : Int) + 1) = (qs.length : Int) + 1 := IntWalk.i64_in _ (by have := HQl.out.1; omega)
      obtain ⟨x0, x1⟩ := K.out.c
      have f0 := K.out.f 0
      have f1 := K.out.f 1
      have i2 : (qs.length : Int) < (qs.length : Int) + 1 := by omega
      clear hrl hk hlt
      by_cases hs : st.stop = 0
      · have e1 : (st.stop == 0) = true := beq_iff_eq.2 hs
        rw [if_pos (.inl hs)] at HPe
        clear hs
        go_wp2_with fail
        refine bodyPost_ret (v := .tuple #[.agg #[.int .i64 0, .slice none 0 0], .int .i64 ((qs.length : Int) + 1), .int .i64 1]) (by simp [results, Tryz.results12, go_sem, x0, x1]) rfl ?_
        refine ⟨_, by rw [HPe.out], by rw [HPe.out]; exact World.ownsRow_nil _ _ _ _, ?_⟩
        exact (K.out.below.setCell (p := ⟨T, 0, none⟩) K.out.low _).setCell (p := ⟨T, 1, none⟩) K.out.low _
      have e1 : (st.stop == 0) = false := beq_eq_false_iff_ne.2 hs
      by_cases hr : rl = []
      rotate_left
      · have e2 : (rl == ([] : List UInt8)) = false := beq_eq_false_iff_ne.2 hr
        rw [if_pos (.inr hr)] at HPe
        clear hs hr
        go_wp2_with fail
        refine bodyPost_ret (v := .tuple #[.agg #[.int .i64 0, .slice none 0 0], .int .i64 ((qs.length : Int) + 1), .int .i64 1]) (by simp [results, Tryz.results12, go_sem, x0, x1]) rfl ?_
        refine ⟨_, by rw [HPe.out], by rw [HPe.out]; exact World.ownsRow_nil _ _ _ _, ?_⟩
        exact (K.out.below.setCell (p := ⟨T, 0, none⟩) K.out.low _).setCell (p := ⟨T, 1, none⟩) K.out.low _
      have e2 : (rl == ([] : List UInt8)) = true := by rw [hr]; rfl
      rw [if_neg (fun h => h.elim hs (fun h => h hr))] at HPe
      clear hs hr
      obtain ⟨sl, hsl⟩ : ∃ sl, st.wings.length = sl := ⟨_, rfl⟩
      by_cases hm : st.many = (sl : Int)
      rotate_left
      · have e3 : (st.many == (sl : Int)) = false := beq_eq_false_iff_ne.2 hm
        rw [hsl, if_pos hm] at HPe
        rw [hsl] at x1
        clear hm hsl
        go_wp2_with fail
        refine bodyPost_ret (v := .tuple #[.agg #[.int .i64 0, .slice none 0 0], .int .i64 (st.stop), .int .i64 1]) (by simp [results, Tryz.results12, go_sem, x0, x1]) rfl ?_
        refine ⟨_, by rw [HPe.out], by rw [HPe.out]; exact World.ownsRow_nil _ _ _ _, ?_⟩
        exact (K.out.below.setCell (p := ⟨T, 0, none⟩) K.out.low _).setCell (p := ⟨T, 1, none⟩) K.out.low _
      have e3 : (st.many == (sl : Int)) = true := beq_iff_eq.2 hm
      rw [hsl, if_neg (fun h => h hm)] at HPe
      have HCk := hid (fun W' hb => pcheck_wide st.wings st.route _ none W' ((K.out.own.at (d := none) (fun k e => by cases e)).below hb) (by have := HFew.out.1; have := HQl.out.1; omega) (fun i hi => by have := HFew.out.2 (wg st.wings i) (by unfold wg; rw [List.getD_eq_getElem?_getD, List.getElem?_eq_getElem hi]; simp); omega))
      rw [hsl] at x1 HCk
      clear hm
      have HSl := hid hsl
      clear hsl
      by_cases hc : check st.route st.wings = 0
      · rw [if_pos hc] at HPe
        rw [hc] at HCk
        clear hc
        go_wp2_with (go_at_call 27; refine (HCk.out _ (Below.refl _ _)).mono ?_; rintro e w6 ⟨rfl, hb⟩; have K := hid (K.out.later hb); clear hb x0 x1 f0 f1; obtain ⟨x0, x1⟩ := K.out.c; rw [HSl.out] at x1; have f0 := K.out.f 0; have f1 := K.out.f 1)
        refine bodyPost_ret (v := .tuple #[.agg #[.int .i64 st.route, .slice aw sl cw], .int .i64 0, .int .i64 0]) (by simp [results, Tryz.results12, go_sem, x0, x1]) rfl ?_
        refine ⟨_, by rw [HPe.out], ?_, ?_⟩
        · rw [HPe.out, ← HSl.out]
          have h1 := K.out.own.kept (gbP_put w6 T 0 (.int .i64 st.route)) (K.out.own.offP K.out.box (by decide))
          have h2 := h1.kept (gbP_put _ T 1 (.slice aw st.wings.length cw)) (h1.offP (blkP_set K.out.box) (by decide))
          exact OwnR.base' h2 (by have := K.out.low; omega)
        · exact (K.out.below.setCell (p := ⟨T, 0, none⟩) K.out.low _).setCell (p := ⟨T, 1, none⟩) K.out.low _
      · rw [if_neg hc] at HPe
        obtain ⟨y1, y2⟩ := ne_bool hc
        obtain ⟨ce, hce⟩ : ∃ ce, check st.route st.wings = ce := ⟨_, rfl⟩
        rw [hce] at HPe HCk y1 y2
        clear hc hce
        go_wp2_with (go_at_call 27; refine (HCk.out _ (Below.refl _ _)).mono ?_; rintro e w6 ⟨rfl, hb⟩; have K := hid (K.out.later hb); clear hb x0 x1 f0 f1; obtain ⟨x0, x1⟩ := K.out.c; rw [HSl.out] at x1; have f0 := K.out.f 0; have f1 := K.out.f 1)
        refine bodyPost_ret (v := .tuple #[.agg #[.int .i64 0, .slice none 0 0], .int .i64 (0), .int .i64 ce]) (by simp [results, Tryz.results12, go_sem, x0, x1]) rfl ?_
        refine ⟨_, by rw [HPe.out], by rw [HPe.out]; exact World.ownsRow_nil _ _ _ _, ?_⟩
        exact (K.out.below.setCell (p := ⟨T, 0, none⟩) K.out.low _).setCell (p := ⟨T, 1, none⟩) K.out.low _
end Go.Proofs.YtefdopifebhgiaaGreatDoor
