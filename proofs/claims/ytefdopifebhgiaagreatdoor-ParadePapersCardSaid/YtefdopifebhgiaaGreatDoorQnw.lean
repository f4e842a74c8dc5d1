/-
  WALKS: the reference's numbers and wing; PLAIN: what it reads of a row is what the program reads.
-/
import Derived.Test.YtefdopifebhgiaaGreatDoorQpr
import Derived.Test.YtefdopifebhgiaaGreatDoorFlo2
namespace Go.Proofs.YtefdopifebhgiaaGreatDoor
open Go.RowKit

set_option maxHeartbeats 8000000 in
set_option maxRecDepth 100000 in
theorem rnumbers_any (ws : List (List UInt8)) (vv : Value) (w : World) (hv : StrsAt w vv ws) (hw1 : ws.length ≤ 2000) (hw2 : ∀ k, (wordAt ws k).length ≤ 2000) : Calls Tryz.prog 56 #[vv] w (NumbersPost ws w) := by
  have HWl := hid (show ws.length ≤ 2000 ∧ ∀ k, (wordAt ws k).length ≤ 2000 from ⟨hw1, hw2⟩)
  have hform : ∃ a c, vv = .slice a ws.length c := by obtain ⟨a, c, e, _⟩ := hv; exact ⟨a, c, e⟩
  obtain ⟨va, vc, rfl⟩ := hform
  have HV := hid hv
  clear hw1 hw2 hv
  go_enter Tryz.func56, Tryz.ntmps56
  go_wp2_with fail
  go_loopw [4, 5] (fun s i wr => ∃ (k : Nat) (l : List Int), k ≤ ws.length ∧ i = .int .i64 k ∧ numsOf (ws.take k) = some l ∧ OwnInts w.heap.size wr s l ∧ Below w.heap.size w wr) (fun _ i _ => ws.length - (intOf i).toNat)
  case atStart => exact ⟨0, [], by omega, rfl, rfl, own_nil _ _, Below.refl _ _⟩
  case round =>
    obtain ⟨k, l, hk, rfl, hl, ho, hb⟩ := hrel
    obtain ⟨wo, rfl⟩ : ∃ wo : World, wo = wr := ⟨_, rfl⟩
    have KB := hid hb
    have HO := hid ho
    have HLl := hid hl
    obtain ⟨sa, sc, es⟩ := (own_int.2 ho).form
    have hll : l.length = k := by rw [numsOf_len hl, List.length_take]; omega
    rw [hll] at es
    subst es
    have HLn := hid hll
    clear hl ho hb hll
    by_cases hlt : k < ws.length
    · obtain ⟨bs, os, rfl, n0⟩ := HV.out.cell_in KB.out hlt
      have HSt := hid (fun h => numsOf_stop hlt h)
      have HGo := hid (fun n h => numsOf_go (n := n) hlt HLl.out h)
      have HWs := hid (HWl.out.2 k)
      obtain ⟨s, hs⟩ : ∃ s, wordAt ws k = s := ⟨_, rfl⟩
      rw [hs] at n0 HSt HGo HWs
      have i1 : (k : Int) < (ws.length : Int) := by omega
      have z2 : IntKind.i64.wrap ((k : Int) + 1) = (k : Int) + 1 := IntWalk.i64_in _ (by have := HWl.out.1; omega)
      have hat := rnumber_any s wo (by have := HWs.out; omega)
      unfold NumPost at hat
      clear hs
      cases hr : numOf s with
      | some v =>
        rw [hr] at hat
        have HA := hid hat
        have HG := hid (HGo.out v hr)
        have HLk := hid (show (l ++ [v]).length = k + 1 from by rw [List.length_append, HLn.out]; rfl)
        have HQ1 := hid (show l.length + [v].length ≤ 1000000 from by rw [HLn.out]; have := HWl.out.1; simp; omega)
        clear hat hr
        go_wp2_with (first
          | (go_at_call 38; refine HA.out.mono ?_; rintro e w3 ⟨rfl, rfl⟩)
          | (at_builtin; have ha := app_one v HO.out KB.out KB.out.size; refine wpList_app encInt Tryz.underlying25 infoInt' (by decide) (by decide) (fun _ => rfl) rfl _ _ rfl w.heap.size l [v] (fun y _ => encInt_one y) _ _ rfl rfl ha.1 ha.2.1 HQ1.out ha.2.2.1 ?_; intro v' w5 hown' hg _ _; have hbl := ha.2.2.2 v' w5 hown' hg; obtain ⟨a2, c2, e2⟩ := hown'.form; rw [HLk.out] at e2; subst e2; have KB := hid hbl.2; have HO := hid hbl.1; clear hown' hg hbl ha))
        go_roundw
        case rel => exact ⟨k + 1, l ++ [v], by omega, by go_num, HG.out, HO.out, KB.out⟩
        case measure => simp [intOf] <;> omega
      | none =>
        rw [hr] at hat
        have HA := hid hat
        have HP0 := hid (HSt.out hr)
        clear hat hr
        go_wp2_with (go_at_call 38; refine HA.out.mono ?_; rintro e w3 ⟨rfl, rfl⟩)
        refine bodyPost_ret (v := .tuple #[.slice none 0 0, .bool false]) (by simp [results, Tryz.results56, go_sem]) rfl ?_
        unfold NumbersPost
        rw [HP0.out]
        exact ⟨rfl, KB.out⟩
    · obtain rfl : k = ws.length := by omega
      have HP1 := hid (show numsOf ws = some l from by have := HLl.out; rw [List.take_length] at this; exact this)
      go_wp2_with fail
      refine bodyPost_ret (v := .tuple #[.slice sa ws.length sc, .bool true]) (by simp [results, Tryz.results56, go_sem]) rfl ?_
      unfold NumbersPost
      rw [HP1.out]
      exact ⟨_, rfl, HO.out, KB.out⟩

/-! ### a row, as the reference reads it -/
def wingR (ws : List (List UInt8)) : Option Wing := if ws.length = 5 ∧ wordAt ws 0 = wingW ∧ wordAt ws 1 ≠ [] then (numsOf (ws.drop 2)).map (wingOf (wordAt ws 1)) else none
def stepQ (i : Nat) (ws : List (List UInt8)) (s : PSt) : Option PSt :=
  if s.stop ≠ 0 then none
  else if i = 0 then (if ws.length = 2 ∧ wordAt ws 0 = avenueW then (numOf (wordAt ws 1)).map fun n => { s with route := n } else none)
  else if wordAt ws 0 = endP ∧ ws.length = 2 then (numOf (wordAt ws 1)).map fun n => { s with stop := (i : Int) + 1, many := n }
  else (wingR ws).map fun x => { s with wings := s.wings ++ [x] }
theorem nums_one {x : List UInt8} : numsOf [x] = (numOf x).map fun n => [n] := by
  unfold numsOf numsOf
  cases numOf x <;> rfl
theorem len_one {ws : List (List UInt8)} {l : List Int} (h : numsOf ws = some l) (h1 : l.length = 1) : ∃ x, ws = [x] ∧ numOf x = some (nm l 0) := by
  have := numsOf_len h
  match ws, this with
  | [x], _ =>
    refine ⟨x, rfl, ?_⟩
    rw [nums_one] at h
    cases hx : numOf x with
    | none => rw [hx] at h; cases h
    | some n => rw [hx] at h; cases h; rfl
  | [], h2 => simp [h1] at h2
  | _ :: _ :: _, h2 => simp [h1] at h2
theorem stepQ_none {w0 : List UInt8} {ws : List (List UInt8)} (f : Int → PSt) (hn : numsOf ws = none) : (none : Option PSt) = if ws.length + 1 = 2 then (numOf (wordAt (w0 :: ws) 1)).map f else none := by
  split
  · rename_i h
    match ws, h with
    | [x], _ =>
      rw [nums_one] at hn
      cases hx : numOf x with
      | none => show none = (numOf x).map f; rw [hx]; rfl
      | some n => rw [hx] at hn; cases hn
  · rfl
theorem stepQ_some {w0 : List UInt8} {ws : List (List UInt8)} {l : List Int} (f : Int → PSt) (hn : numsOf ws = some l) : (if l.length = 1 then some (f (nm l 0)) else none) = if ws.length + 1 = 2 then (numOf (wordAt (w0 :: ws) 1)).map f else none := by
  have hl := numsOf_len hn
  by_cases h1 : l.length = 1
  · rw [if_pos h1, if_pos (by omega)]
    obtain ⟨x, rfl, hx⟩ := len_one hn h1
    show _ = (numOf x).map f
    rw [hx]; rfl
  · rw [if_neg h1, if_neg (by omega)]
/-- WHAT THE REFERENCE READS OF A ROW is what the program reads -/
theorem stepQ_eq (i : Nat) (row : List UInt8) (s : PSt) : stepP i row s = stepQ i (cutL 32 row) s := by
  obtain ⟨w0, ws, hc⟩ := cutL_ne 32 row
  unfold stepP
  rw [hc]
  dsimp only
  unfold stepQ
  have e0 : wordAt (w0 :: ws) 0 = w0 := rfl
  rw [e0, List.length_cons]
  by_cases hst : s.stop ≠ 0
  · rw [if_pos hst]
    have : ∀ l, stepA i w0 (nameOf w0 ws) l s = none := fun l => by unfold stepA; rw [if_pos hst]
    simp only [this]
    cases numsOf (restOf w0 ws) <;> rfl
  rw [if_neg hst]
  have hS : ∀ l, stepA i w0 (nameOf w0 ws) l s = if decide (w0 = avenueW) ≠ decide (i = 0) then none
    else if w0 = avenueW ∧ l.length = 1 then some { s with route := nm l 0 }
    else if nameOf w0 ws ≠ [] ∧ l.length = 3 then some { s with wings := s.wings ++ [wingOf (nameOf w0 ws) l] }
    else if w0 = endP ∧ l.length = 1 then some { s with stop := (i : Int) + 1, many := nm l 0 } else none := fun l => by unfold stepA; rw [if_neg hst]
  simp only [hS]
  by_cases hi : i = 0
  · rw [if_pos hi]
    by_cases ha : w0 = avenueW
    · have hnw : ¬ (w0 = wingW ∧ ws ≠ []) := fun e => absurd (ha.symm.trans e.1) (by decide)
      have hne : ¬ w0 = endP := fun e => absurd (ha.symm.trans e) (by decide)
      have hr : restOf w0 ws = ws := if_neg hnw
      have hm : nameOf w0 ws = [] := if_neg hnw
      rw [hr]
      have hne2 : ¬ avenueW = endP := by decide
      simp only [hm, ha, hi, hne2, decide_true, ne_eq, not_true_eq_false, if_false, true_and, false_and, and_true]
      cases hn : numsOf ws with
      | none => exact stepQ_none (fun n => { s with route := n }) hn
      | some l => exact stepQ_some (fun n => { s with route := n }) hn
    · rw [if_neg (fun e => ha e.2)]
      have hd : decide (w0 = avenueW) ≠ decide (i = 0) := by rw [decide_eq_false ha, decide_eq_true hi]; simp
      simp only [if_pos hd]
      cases numsOf (restOf w0 ws) <;> rfl
  rw [if_neg hi]
  by_cases ha : w0 = avenueW
  · have hd : decide (w0 = avenueW) ≠ decide (i = 0) := by rw [decide_eq_true ha, decide_eq_false hi]; simp
    have hne : ¬ w0 = endP := fun e => absurd (ha.symm.trans e) (by decide)
    have hnw : ¬ w0 = wingW := fun e => absurd (ha.symm.trans e) (by decide)
    simp only [if_pos hd]
    rw [if_neg (fun e => hne e.1)]
    unfold wingR
    rw [e0, if_neg (fun e => hnw e.2.1)]
    cases numsOf (restOf w0 ws) <;> rfl
  have hd : ¬ (decide (w0 = avenueW) ≠ decide (i = 0)) := by rw [decide_eq_false ha, decide_eq_false hi]; simp
  have ha1 : ∀ l : List Int, ¬ (w0 = avenueW ∧ l.length = 1) := fun l e => ha e.1
  simp only [if_neg hd, if_neg (ha1 _)]
  by_cases he : w0 = endP
  · have hnw : ¬ w0 = wingW := fun e => absurd (he.symm.trans e) (by decide)
    have hr : restOf w0 ws = ws := if_neg (fun e => hnw e.1)
    have hm : nameOf w0 ws = [] := if_neg (fun e => hnw e.1)
    rw [hr]
    simp only [hm, ne_eq, not_true_eq_false, false_and, if_false]
    have hw : wingR (w0 :: ws) = none := by unfold wingR; rw [e0, if_neg (fun e => hnw e.2.1)]
    simp only [hw, Option.map_none]
    simp only [he, true_and]
    cases hn : numsOf ws with
    | none => exact stepQ_none (fun n => { s with stop := (i : Int) + 1, many := n }) hn
    | some l => exact stepQ_some (fun n => { s with stop := (i : Int) + 1, many := n }) hn
  rw [if_neg (fun e => he e.1)]
  have he1 : ∀ l : List Int, ¬ (w0 = endP ∧ l.length = 1) := fun l e => he e.1
  simp only [if_neg (he1 _)]
  by_cases hw : w0 = wingW ∧ ws ≠ []
  · have hr : restOf w0 ws = ws.tail := if_pos hw
    have hm : nameOf w0 ws = ws.headD [] := if_pos hw
    rw [hr, hm]
    cases ws with
    | nil => exact absurd rfl hw.2
    | cons x r =>
      have e1 : wordAt (w0 :: x :: r) 1 = x := rfl
      unfold wingR
      rw [e0, e1, List.length_cons, List.length_cons, List.tail_cons]
      show _ = Option.map _ (if _ then (numsOf r).map _ else none)
      by_cases h5 : r.length = 3 ∧ x ≠ []
      · rw [if_pos ⟨by omega, hw.1, h5.2⟩]
        cases hn : numsOf r with
        | none => rfl
        | some l =>
          have hl := numsOf_len hn
          show (if x ≠ [] ∧ l.length = 3 then _ else none) = _
          rw [if_pos ⟨h5.2, by omega⟩]
          rfl
      · rw [if_neg (fun e => h5 ⟨by omega, e.2.2⟩)]
        cases hn : numsOf r with
        | none => rfl
        | some l =>
          have hl := numsOf_len hn
          show (if x ≠ [] ∧ l.length = 3 then _ else none) = _
          rw [if_neg (fun e => h5 ⟨by omega, e.1⟩)]
          rfl
  · have hr : restOf w0 ws = ws := if_neg hw
    have hm : nameOf w0 ws = [] := if_neg hw
    have hwr : wingR (w0 :: ws) = none := by
      unfold wingR
      rw [e0]
      by_cases h1 : w0 = wingW
      · have h2 : ws = [] := Classical.byContradiction fun h => hw ⟨h1, h⟩
        rw [h2, if_neg (fun e => by have := e.1; simp at this)]
      · rw [if_neg (fun e => h1 e.2.1)]
    rw [hr, hm, hwr]
    simp only [ne_eq, not_true_eq_false, false_and, if_false]
    cases numsOf ws <;> rfl
theorem stop_pos {i : Nat} {row : List UInt8} {s t : PSt} (h : stepP i row s = some t) (h0 : 0 ≤ s.stop) : 0 ≤ t.stop := by
  rw [stepQ_eq] at h
  unfold stepQ at h
  split at h
  · cases h
  · split at h
    · split at h
      · obtain ⟨n, _, rfl⟩ := Option.map_eq_some_iff.1 h; exact h0
      · cases h
    · split at h
      · obtain ⟨n, _, rfl⟩ := Option.map_eq_some_iff.1 h; show 0 ≤ (i : Int) + 1; omega
      · obtain ⟨n, _, rfl⟩ := Option.map_eq_some_iff.1 h; exact h0
theorem run_pos {rows : List (List UInt8)} : ∀ {k : Nat} {s : PSt}, k ≤ rows.length → runS stepP noPSt rows k = some s → 0 ≤ s.stop
  | 0, s, _, h => by cases h; exact Int.le_refl _
  | k + 1, s, hk, h => by
    rw [runS_succ stepP noPSt (by omega)] at h
    cases ht : runS stepP noPSt rows k with
    | none => rw [ht] at h; cases h
    | some t =>
      rw [ht, Option.bind_some] at h
      exact stop_pos h (run_pos (by omega) ht)

theorem StrsAt.five {w : World} {v : Value} {ws : List (List UInt8)} (h : StrsAt w v ws) (h5 : ws.length = 5) : ∃ b off c, v = .slice (some ⟨b, off, none⟩) 5 c ∧ (∀ i, i < 5 → w.cell? ⟨b, off + i, none⟩ = some (.string ⟨(wordAt ws i).toArray⟩)) ∧ StrsAt w (.slice (some (if c = 2 then ⟨b, off, none⟩ else ⟨b, off + 2, none⟩)) (5 - 2) (c - 2)) (ws.drop 2) := by
  obtain ⟨a, c, rfl, hh⟩ := h
  obtain ⟨b, off, rfl, hn, hb, hc⟩ := hh (by omega)
  rw [h5] at hn hc
  refine ⟨b, off, c, by rw [h5], hc, _, _, by rw [List.length_drop, h5], fun h0 => ⟨b, off + 2, by rw [if_neg (by omega)], by rw [List.length_drop]; omega, hb, fun i hi => ?_⟩⟩
  rw [List.length_drop, h5] at hi
  have := hc (i + 2) (by omega)
  rw [show off + 2 + i = off + (i + 2) by omega, this]
  simp [wordAt, List.getD_eq_getElem?_getD, Nat.add_comm]

/-- what wing answers -/
def WingPost (ws : List (List UInt8)) (w : World) (e : Ending) (w' : World) : Prop :=
  ∃ (x : Wing) (b : Bool), e = .returned (.tuple #[.agg #[.string x.name, .int .i64 x.len, .int .i64 x.lo, .int .i64 x.hi], .bool b]) ∧ (b = false → wingR ws = none) ∧ (b = true → wingR ws = some x) ∧ Below w.heap.size w w'

set_option maxHeartbeats 8000000 in
set_option maxRecDepth 100000 in
theorem rwing_any (ws : List (List UInt8)) (vv : Value) (w : World) (hv : StrsAt w vv ws) (hw1 : ws.length ≤ 2000) (hw2 : ∀ k, (wordAt ws k).length ≤ 2000) : Calls Tryz.prog 39 #[vv] w (WingPost ws w) := by
  have hbx := heap_alloc_new w (.cells #[.string ⟨#[]⟩, .int .i64 0, .int .i64 0, .int .i64 0] 45)
  have HB3 := hid (below_alloc w (.cells #[.string ⟨#[]⟩, .int .i64 0, .int .i64 0, .int .i64 0] 45))
  obtain ⟨wT, hwT⟩ : ∃ wT, w.alloc (.cells #[.string ⟨#[]⟩, .int .i64 0, .int .i64 0, .int .i64 0] 45) = wT := ⟨_, rfl⟩
  obtain ⟨T, hT⟩ : ∃ T, w.heap.size = T := ⟨_, rfl⟩
  have HTT := hid (Nat.le_of_eq hT)
  rw [hwT] at hbx HB3
  rw [hT] at hbx
  have HBx := hid hbx
  by_cases h5 : ws.length = 5
  rotate_left
  · have hform : ∃ a c, vv = .slice a ws.length c := by obtain ⟨a, c, e, _⟩ := hv; exact ⟨a, c, e⟩
    obtain ⟨va, vc, rfl⟩ := hform
    have HR := hid (show wingR ws = none from if_neg (fun e => h5 e.1))
    have d1 : ((ws.length : Int) == 5) = false := beq_eq_false_iff_ne.2 (by omega)
    clear hv hw1 hw2 hbx
    have b0 : wT.cell? ⟨T, 0, none⟩ = some (.string ⟨#[]⟩) := by rw [Lib.cell_of_heap HBx.out]; rfl
    have b1 : wT.cell? ⟨T, 1, none⟩ = some (.int .i64 0) := by rw [Lib.cell_of_heap HBx.out]; rfl
    have b2 : wT.cell? ⟨T, 2, none⟩ = some (.int .i64 0) := by rw [Lib.cell_of_heap HBx.out]; rfl
    have b3 : wT.cell? ⟨T, 3, none⟩ = some (.int .i64 0) := by rw [Lib.cell_of_heap HBx.out]; rfl
    have f0 := (Lib.frozen_of_heap HBx.out 0 : wT.frozen? ⟨T, 0, none⟩ = false)
    have f1 := (Lib.frozen_of_heap HBx.out 1 : wT.frozen? ⟨T, 1, none⟩ = false)
    have f2 := (Lib.frozen_of_heap HBx.out 2 : wT.frozen? ⟨T, 2, none⟩ = false)
    have f3 := (Lib.frozen_of_heap HBx.out 3 : wT.frozen? ⟨T, 3, none⟩ = false)
    go_enter Tryz.func39, Tryz.ntmps39
    go_wp2_with fail
    refine bodyPost_ret (v := .tuple #[.agg #[.string ⟨#[]⟩, .int .i64 0, .int .i64 0, .int .i64 0], .bool false]) (by simp [results, Tryz.results39, go_sem, b0, b1, b2, b3]) rfl ?_
    refine ⟨noWing, false, rfl, fun _ => HR.out, (fun h => by cases h), ?_⟩
    exact (((HB3.out.setCell (p := ⟨T, 0, none⟩) HTT.out _).setCell (p := ⟨T, 1, none⟩) HTT.out _).setCell (p := ⟨T, 2, none⟩) HTT.out _).setCell (p := ⟨T, 3, none⟩) HTT.out _
  obtain ⟨wb, wof, cc, rfl, hcell, hrest⟩ := hv.five h5
  have hcell := fun i hi => cell_back (hwT ▸ below_alloc w _ : Below w.heap.size w wT) (World.block_lt_of_cell? _ _ (hcell i hi)) (hcell i hi)
  have c0 := hcell 0 (by omega)
  have c1 := hcell 1 (by omega)
  rw [Nat.add_zero] at c0
  obtain ⟨p0, hp0⟩ : ∃ p0, wordAt ws 0 = p0 := ⟨_, rfl⟩
  obtain ⟨nme, hnme⟩ : ∃ nme, wordAt ws 1 = nme := ⟨_, rfl⟩
  have HRd := hid (show wingR ws = if p0 = wingW ∧ nme ≠ [] then (numsOf (ws.drop 2)).map (wingOf nme) else none from by
    unfold wingR
    rw [hp0, hnme]
    by_cases h : p0 = wingW ∧ nme ≠ []
    · rw [if_pos ⟨h5, h⟩, if_pos h]
    · rw [if_neg (fun e => h e.2), if_neg h])
  rw [hp0] at c0
  rw [hnme] at c1
  have hlen : (ws.drop 2).length ≤ 2000 ∧ ∀ k, (wordAt (ws.drop 2) k).length ≤ 2000 := ⟨by rw [List.length_drop]; omega, fun k => by
    have := hw2 (2 + k)
    simpa [wordAt, List.getD_eq_getElem?_getD] using this⟩
  have hdl : (ws.drop 2).length = 3 := by rw [List.length_drop, h5]
  have hrest := (show StrsAt wT _ (ws.drop 2) from by
    obtain ⟨a, c, e, hh⟩ := hrest
    refine ⟨a, c, e, fun h0 => ?_⟩
    obtain ⟨b, off, ea, h1, h2, h3⟩ := hh h0
    have hbo : Below w.heap.size w wT := hwT ▸ below_alloc w _
    exact ⟨b, off, ea, h1, Nat.lt_of_lt_of_le h2 hbo.size, fun i hi => cell_back hbo h2 (h3 i hi)⟩)
  obtain ⟨rst, hrst⟩ : ∃ rst, ws.drop 2 = rst := ⟨_, rfl⟩
  rw [hrst] at hrest HRd hlen hdl
  have HNu := hid (rnumbers_any rst _ wT hrest hlen.1 hlen.2)
  obtain ⟨vz, hvz⟩ : ∃ vz, (Value.slice (some (if cc = 2 then ⟨wb, wof, none⟩ else ⟨wb, wof + 2, none⟩)) (5 - 2) (cc - 2)) = vz := ⟨_, rfl⟩
  rw [hvz] at HNu
  have HVz := hid hvz
  unfold NumbersPost at HNu
  have HDl := hid hdl
  have i1s : 2 ≤ 5 := by omega
  clear hvz hrest hlen hdl hrst hcell hp0 hnme hw1 hw2 hv h5 hbx
  by_cases hp : p0 = wingW
  rotate_left
  · have HR := hid (show wingR ws = none from by rw [HRd.out, if_neg (fun e => hp e.1)])
    have e1 : (p0 == [119, 105, 110, 103]) = false := beq_eq_false_iff_ne.2 hp
    clear hp HRd
    have b0 : wT.cell? ⟨T, 0, none⟩ = some (.string ⟨#[]⟩) := by rw [Lib.cell_of_heap HBx.out]; rfl
    have b1 : wT.cell? ⟨T, 1, none⟩ = some (.int .i64 0) := by rw [Lib.cell_of_heap HBx.out]; rfl
    have b2 : wT.cell? ⟨T, 2, none⟩ = some (.int .i64 0) := by rw [Lib.cell_of_heap HBx.out]; rfl
    have b3 : wT.cell? ⟨T, 3, none⟩ = some (.int .i64 0) := by rw [Lib.cell_of_heap HBx.out]; rfl
    have f0 := (Lib.frozen_of_heap HBx.out 0 : wT.frozen? ⟨T, 0, none⟩ = false)
    have f1 := (Lib.frozen_of_heap HBx.out 1 : wT.frozen? ⟨T, 1, none⟩ = false)
    have f2 := (Lib.frozen_of_heap HBx.out 2 : wT.frozen? ⟨T, 2, none⟩ = false)
    have f3 := (Lib.frozen_of_heap HBx.out 3 : wT.frozen? ⟨T, 3, none⟩ = false)
    go_enter Tryz.func39, Tryz.ntmps39
    go_wp2_with fail
    refine bodyPost_ret (v := .tuple #[.agg #[.string ⟨#[]⟩, .int .i64 0, .int .i64 0, .int .i64 0], .bool false]) (by simp [results, Tryz.results39, go_sem, b0, b1, b2, b3]) rfl ?_
    refine ⟨noWing, false, rfl, fun _ => HR.out, (fun h => by cases h), ?_⟩
    exact (((HB3.out.setCell (p := ⟨T, 0, none⟩) HTT.out _).setCell (p := ⟨T, 1, none⟩) HTT.out _).setCell (p := ⟨T, 2, none⟩) HTT.out _).setCell (p := ⟨T, 3, none⟩) HTT.out _
  have e1 : (p0 == [119, 105, 110, 103]) = true := by rw [hp]; decide
  by_cases hn : nme = []
  · have HR := hid (show wingR ws = none from by rw [HRd.out, if_neg (fun e => e.2 hn)])
    subst hn
    clear hp HRd
    have b0 : wT.cell? ⟨T, 0, none⟩ = some (.string ⟨#[]⟩) := by rw [Lib.cell_of_heap HBx.out]; rfl
    have b1 : wT.cell? ⟨T, 1, none⟩ = some (.int .i64 0) := by rw [Lib.cell_of_heap HBx.out]; rfl
    have b2 : wT.cell? ⟨T, 2, none⟩ = some (.int .i64 0) := by rw [Lib.cell_of_heap HBx.out]; rfl
    have b3 : wT.cell? ⟨T, 3, none⟩ = some (.int .i64 0) := by rw [Lib.cell_of_heap HBx.out]; rfl
    have f0 := (Lib.frozen_of_heap HBx.out 0 : wT.frozen? ⟨T, 0, none⟩ = false)
    have f1 := (Lib.frozen_of_heap HBx.out 1 : wT.frozen? ⟨T, 1, none⟩ = false)
    have f2 := (Lib.frozen_of_heap HBx.out 2 : wT.frozen? ⟨T, 2, none⟩ = false)
    have f3 := (Lib.frozen_of_heap HBx.out 3 : wT.frozen? ⟨T, 3, none⟩ = false)
    go_enter Tryz.func39, Tryz.ntmps39
    go_wp2_with fail
    refine bodyPost_ret (v := .tuple #[.agg #[.string ⟨#[]⟩, .int .i64 0, .int .i64 0, .int .i64 0], .bool false]) (by simp [results, Tryz.results39, go_sem, b0, b1, b2, b3]) rfl ?_
    refine ⟨noWing, false, rfl, fun _ => HR.out, (fun h => by cases h), ?_⟩
    exact (((HB3.out.setCell (p := ⟨T, 0, none⟩) HTT.out _).setCell (p := ⟨T, 1, none⟩) HTT.out _).setCell (p := ⟨T, 2, none⟩) HTT.out _).setCell (p := ⟨T, 3, none⟩) HTT.out _
  have e2 : (nme == []) = false := beq_eq_false_iff_ne.2 hn
  have HRd := hid (show wingR ws = (numsOf rst).map (wingOf nme) from by rw [HRd.out, if_pos ⟨hp, hn⟩])
  clear hp hn
  go_enter Tryz.func39, Tryz.ntmps39
  cases hns : numsOf rst with
  | none =>
    rw [hns] at HNu HRd
    have HR := hid (show wingR ws = none from HRd.out)
    clear hns
    go_upto_region 4 with (first
      | (refine wpList_words (l := 2) rfl _ _ rfl rfl rfl i1s ?_; rw [HVz.out])
      | (go_at_call 56; refine HNu.out.mono ?_; rintro e w3 ⟨rfl, hb⟩; have HBx := hid ((hb.block _ (blkP_lt HBx.out)).trans HBx.out); have HB3 := hid (below_trans HB3.out hb); clear hb c0 c1))
    have b0 : w3.cell? ⟨T, 0, none⟩ = some (.string ⟨#[]⟩) := by rw [Lib.cell_of_heap HBx.out]; rfl
    have b1 : w3.cell? ⟨T, 1, none⟩ = some (.int .i64 0) := by rw [Lib.cell_of_heap HBx.out]; rfl
    have b2 : w3.cell? ⟨T, 2, none⟩ = some (.int .i64 0) := by rw [Lib.cell_of_heap HBx.out]; rfl
    have b3 : w3.cell? ⟨T, 3, none⟩ = some (.int .i64 0) := by rw [Lib.cell_of_heap HBx.out]; rfl
    have f0 := (Lib.frozen_of_heap HBx.out 0 : w3.frozen? ⟨T, 0, none⟩ = false)
    have f1 := (Lib.frozen_of_heap HBx.out 1 : w3.frozen? ⟨T, 1, none⟩ = false)
    have f2 := (Lib.frozen_of_heap HBx.out 2 : w3.frozen? ⟨T, 2, none⟩ = false)
    have f3 := (Lib.frozen_of_heap HBx.out 3 : w3.frozen? ⟨T, 3, none⟩ = false)
    go_wp2_with fail
    refine bodyPost_ret (v := .tuple #[.agg #[.string ⟨#[]⟩, .int .i64 0, .int .i64 0, .int .i64 0], .bool false]) (by simp [results, Tryz.results39, go_sem, b0, b1, b2, b3]) rfl ?_
    refine ⟨noWing, false, rfl, fun _ => HR.out, (fun h => by cases h), ?_⟩
    exact (((HB3.out.setCell (p := ⟨T, 0, none⟩) HTT.out _).setCell (p := ⟨T, 1, none⟩) HTT.out _).setCell (p := ⟨T, 2, none⟩) HTT.out _).setCell (p := ⟨T, 3, none⟩) HTT.out _
  | some l =>
    rw [hns] at HNu HRd
    dsimp only at HNu
    have hl3 : l.length = 3 := by rw [numsOf_len hns, HDl.out]
    clear hns
    go_upto_region 6 with (first
      | (refine wpList_words (l := 2) rfl _ _ rfl rfl rfl i1s ?_; rw [HVz.out])
      | (go_at_call 56; refine HNu.out.mono ?_; rintro e w3 ⟨lv, rfl, ho, hb⟩; obtain ⟨la, lc, elv⟩ := (own_int.2 ho).form; subst elv; have HLo := hid ho; have HBx := hid ((hb.block _ (blkP_lt HBx.out)).trans HBx.out); have HB3 := hid (below_trans HB3.out hb); have c1 := cell_back hb (World.block_lt_of_cell? _ _ c1) c1; clear hb ho c0))
    have hi := OwnInts.at (d := none) HLo.out (by simp)
    obtain ⟨lb, lo, lc', el, _, _⟩ := hi.slice (by omega)
    cases el
    have u0 := hi.cell (i := 0) (by omega)
    have u1 := hi.cell (i := 1) (by omega)
    have u2 := hi.cell (i := 2) (by omega)
    rw [Nat.add_zero] at u0
    have hnl : ¬ l = [] := by rintro rfl; simp at hl3
    have HR := hid (show wingR ws = some ⟨⟨nme.toArray⟩, nm l 0, nm l 1, nm l 2⟩ from HRd.out)
    obtain ⟨a0, ha0⟩ : ∃ a0, nm l 0 = a0 := ⟨_, rfl⟩
    obtain ⟨a1, ha1⟩ : ∃ a1, nm l 1 = a1 := ⟨_, rfl⟩
    obtain ⟨a2, ha2⟩ : ∃ a2, nm l 2 = a2 := ⟨_, rfl⟩
    rw [ha0] at u0 HR
    rw [ha1] at u1 HR
    rw [ha2] at u2 HR
    have HD := hid (fun W' (hb : Below w3.heap.size w3 W') => (⟨cell_back hb (World.block_lt_of_cell? _ _ c1) c1, cell_back hb (World.block_lt_of_cell? _ _ u0) u0, cell_back hb (World.block_lt_of_cell? _ _ u1) u1, cell_back hb (World.block_lt_of_cell? _ _ u2) u2⟩ : W'.cell? ⟨wb, wof + 1, none⟩ = some (.string ⟨nme.toArray⟩) ∧ W'.cell? ⟨lb, lo, none⟩ = some (.int .i64 a0) ∧ W'.cell? ⟨lb, lo + 1, none⟩ = some (.int .i64 a1) ∧ W'.cell? ⟨lb, lo + 2, none⟩ = some (.int .i64 a2)))
    have i4 : 0 < (l.length : Int) := by omega
    have i5 : 1 < (l.length : Int) := by omega
    have i6 : 2 < (l.length : Int) := by omega
    clear hi u0 u1 u2 hl3 HRd ha0 ha1 ha2 HNu HVz
    have c0 := c1
    go_upto_region 6 with fail
    refine wp_named ?_
    intro ac0 hac0
    have HN := hid (show ac0.tmps.size = 45 from by rw [hac0]; rfl)
    have r0 : ac0.eval (.tmp 0) = .slice (some ⟨wb, wof, none⟩) 5 cc := by rw [hac0]; rfl
    have r4 : ac0.eval (.tmp 4) = .slice (some ⟨lb, lo, none⟩) 3 lc := by rw [hac0]; rfl
    have HA := hid hac0
    clear hac0
    refine wp_region_flow_tail 14 (by kernel_rfl) (by kernel_rfl) [31, 32, 33, 34, 35, 36, 37, 38, 39, 40, 41, 42, 43, 44] 100
      (fun _ w' => Below w3.heap.size w3 w') (fun a b => Below a.heap.size a b) (fun _ _ => False)
      (fun _ ix v w' => match ix with
        | 0 => v = .slice (some ⟨wb, wof, none⟩) 5 cc
        | 1 => v = .pointer (some ⟨wb, wof + 1, none⟩)
        | 2 => v = .string ⟨nme.toArray⟩
        | 3 => v = .slice (some ⟨lb, lo, none⟩) 3 lc
        | 4 => v = .pointer (some ⟨lb, lo, none⟩)
        | 5 => v = .int .i64 a0
        | 6 => v = .slice (some ⟨lb, lo, none⟩) 3 lc
        | 7 => v = .pointer (some ⟨lb, lo + 1, none⟩)
        | 8 => v = .int .i64 a1
        | 9 => v = .slice (some ⟨lb, lo, none⟩) 3 lc
        | 10 => v = .pointer (some ⟨lb, lo + 2, none⟩)
        | 11 => v = .int .i64 a2
        | 12 => v = .agg #[.int .i64 a1, .int .i64 a2]
        | 13 => v = .agg #[.string ⟨nme.toArray⟩, .int .i64 a0, .int .i64 a1, .int .i64 a2]
        | _ => True)
      [0, 1, 2, 3, 4, 5, 6, 7, 8, 9, 10, 11, 12, 13] (by kernel_rfl) (by kernel_rfl) rfl ?_ ?_ ?_ ?_ ?_
    · intro bt ix v w2 w3' hW hg hy
      match ix with
      | 0 => exact hy
      | 1 => exact hy
      | 2 => exact hy
      | 3 => exact hy
      | 4 => exact hy
      | 5 => exact hy
      | 6 => exact hy
      | 7 => exact hy
      | 8 => exact hy
      | 9 => exact hy
      | 10 => exact hy
      | 11 => exact hy
      | 12 => exact hy
      | 13 => exact hy
      | n + 14 => exact trivial
    · intro ix v w2 w3' _ h; exact h.elim
    · exact (Below.refl _ _).drew
    · skip
      refine StepF.val (i := 0) (o := _) rfl (by decide) ?_ ?_
      · intro bb vs wx _ hW hY
        refine ⟨fl_want rfl, fun ρ hρ => ⟨.slice (some ⟨wb, wof, none⟩) 5 cc, wx, ?_, hW, Below.refl _ _, rfl⟩⟩
        have r_0 : ρ (.tmp 0) = .slice (some ⟨wb, wof, none⟩) 5 cc := by rw [hρ, fl_out rfl, r0]
        have rc : ∀ cv : Value, ρ (.const cv) = cv := fun cv => by rw [hρ]; rfl
        clear hρ
        simp [execOp, rc, go_sem, r_0]
      refine StepF.val (i := 1) (o := _) rfl (by decide) ?_ ?_
      · intro bb vs wx _ hW hY
        have y31 : vs 31 = .slice (some ⟨wb, wof, none⟩) 5 cc := hY 0 31 (by kernel_rfl) (by kernel_rfl)
        refine ⟨fl_want rfl, fun ρ hρ => ⟨.pointer (some ⟨wb, wof + 1, none⟩), wx, ?_, hW, Below.refl _ _, rfl⟩⟩
        have r_31 : ρ (.tmp 31) = .slice (some ⟨wb, wof, none⟩) 5 cc := by rw [hρ, fl_in 45 HN.out rfl, y31]
        have rc : ∀ cv : Value, ρ (.const cv) = cv := fun cv => by rw [hρ]; rfl
        clear hρ
        simp [execOp, rc, go_sem, r_31]
      refine StepF.val (i := 2) (o := _) rfl (by decide) ?_ ?_
      · intro bb vs wx _ hW hY
        have y32 : vs 32 = .pointer (some ⟨wb, wof + 1, none⟩) := hY 1 32 (by kernel_rfl) (by kernel_rfl)
        refine ⟨fl_want rfl, fun ρ hρ => ⟨.string ⟨nme.toArray⟩, wx, ?_, hW, Below.refl _ _, rfl⟩⟩
        have r_32 : ρ (.tmp 32) = .pointer (some ⟨wb, wof + 1, none⟩) := by rw [hρ, fl_in 45 HN.out rfl, y32]
        have q0 := (HD.out _ hW).1
        have rc : ∀ cv : Value, ρ (.const cv) = cv := fun cv => by rw [hρ]; rfl
        clear hρ
        simp [execOp, rc, go_sem, r_32, q0]
      refine StepF.val (i := 3) (o := _) rfl (by decide) ?_ ?_
      · intro bb vs wx _ hW hY
        refine ⟨fl_want rfl, fun ρ hρ => ⟨.slice (some ⟨lb, lo, none⟩) 3 lc, wx, ?_, hW, Below.refl _ _, rfl⟩⟩
        have r_4 : ρ (.tmp 4) = .slice (some ⟨lb, lo, none⟩) 3 lc := by rw [hρ, fl_out rfl, r4]
        have rc : ∀ cv : Value, ρ (.const cv) = cv := fun cv => by rw [hρ]; rfl
        clear hρ
        simp [execOp, rc, go_sem, r_4]
      refine StepF.val (i := 4) (o := _) rfl (by decide) ?_ ?_
      · intro bb vs wx _ hW hY
        have y34 : vs 34 = .slice (some ⟨lb, lo, none⟩) 3 lc := hY 3 34 (by kernel_rfl) (by kernel_rfl)
        refine ⟨fl_want rfl, fun ρ hρ => ⟨.pointer (some ⟨lb, lo, none⟩), wx, ?_, hW, Below.refl _ _, rfl⟩⟩
        have r_34 : ρ (.tmp 34) = .slice (some ⟨lb, lo, none⟩) 3 lc := by rw [hρ, fl_in 45 HN.out rfl, y34]
        have rc : ∀ cv : Value, ρ (.const cv) = cv := fun cv => by rw [hρ]; rfl
        clear hρ
        simp [execOp, rc, go_sem, r_34]
      refine StepF.val (i := 5) (o := _) rfl (by decide) ?_ ?_
      · intro bb vs wx _ hW hY
        have y35 : vs 35 = .pointer (some ⟨lb, lo, none⟩) := hY 4 35 (by kernel_rfl) (by kernel_rfl)
        refine ⟨fl_want rfl, fun ρ hρ => ⟨.int .i64 a0, wx, ?_, hW, Below.refl _ _, rfl⟩⟩
        have r_35 : ρ (.tmp 35) = .pointer (some ⟨lb, lo, none⟩) := by rw [hρ, fl_in 45 HN.out rfl, y35]
        have q0 := (HD.out _ hW).2.1
        have rc : ∀ cv : Value, ρ (.const cv) = cv := fun cv => by rw [hρ]; rfl
        clear hρ
        simp [execOp, rc, go_sem, r_35, q0]
      refine StepF.val (i := 6) (o := _) rfl (by decide) ?_ ?_
      · intro bb vs wx _ hW hY
        refine ⟨fl_want rfl, fun ρ hρ => ⟨.slice (some ⟨lb, lo, none⟩) 3 lc, wx, ?_, hW, Below.refl _ _, rfl⟩⟩
        have r_4 : ρ (.tmp 4) = .slice (some ⟨lb, lo, none⟩) 3 lc := by rw [hρ, fl_out rfl, r4]
        have rc : ∀ cv : Value, ρ (.const cv) = cv := fun cv => by rw [hρ]; rfl
        clear hρ
        simp [execOp, rc, go_sem, r_4]
      refine StepF.val (i := 7) (o := _) rfl (by decide) ?_ ?_
      · intro bb vs wx _ hW hY
        have y37 : vs 37 = .slice (some ⟨lb, lo, none⟩) 3 lc := hY 6 37 (by kernel_rfl) (by kernel_rfl)
        refine ⟨fl_want rfl, fun ρ hρ => ⟨.pointer (some ⟨lb, lo + 1, none⟩), wx, ?_, hW, Below.refl _ _, rfl⟩⟩
        have r_37 : ρ (.tmp 37) = .slice (some ⟨lb, lo, none⟩) 3 lc := by rw [hρ, fl_in 45 HN.out rfl, y37]
        have rc : ∀ cv : Value, ρ (.const cv) = cv := fun cv => by rw [hρ]; rfl
        clear hρ
        simp [execOp, rc, go_sem, r_37]
      refine StepF.val (i := 8) (o := _) rfl (by decide) ?_ ?_
      · intro bb vs wx _ hW hY
        have y38 : vs 38 = .pointer (some ⟨lb, lo + 1, none⟩) := hY 7 38 (by kernel_rfl) (by kernel_rfl)
        refine ⟨fl_want rfl, fun ρ hρ => ⟨.int .i64 a1, wx, ?_, hW, Below.refl _ _, rfl⟩⟩
        have r_38 : ρ (.tmp 38) = .pointer (some ⟨lb, lo + 1, none⟩) := by rw [hρ, fl_in 45 HN.out rfl, y38]
        have q0 := (HD.out _ hW).2.2.1
        have rc : ∀ cv : Value, ρ (.const cv) = cv := fun cv => by rw [hρ]; rfl
        clear hρ
        simp [execOp, rc, go_sem, r_38, q0]
      refine StepF.val (i := 9) (o := _) rfl (by decide) ?_ ?_
      · intro bb vs wx _ hW hY
        refine ⟨fl_want rfl, fun ρ hρ => ⟨.slice (some ⟨lb, lo, none⟩) 3 lc, wx, ?_, hW, Below.refl _ _, rfl⟩⟩
        have r_4 : ρ (.tmp 4) = .slice (some ⟨lb, lo, none⟩) 3 lc := by rw [hρ, fl_out rfl, r4]
        have rc : ∀ cv : Value, ρ (.const cv) = cv := fun cv => by rw [hρ]; rfl
        clear hρ
        simp [execOp, rc, go_sem, r_4]
      refine StepF.val (i := 10) (o := _) rfl (by decide) ?_ ?_
      · intro bb vs wx _ hW hY
        have y40 : vs 40 = .slice (some ⟨lb, lo, none⟩) 3 lc := hY 9 40 (by kernel_rfl) (by kernel_rfl)
        refine ⟨fl_want rfl, fun ρ hρ => ⟨.pointer (some ⟨lb, lo + 2, none⟩), wx, ?_, hW, Below.refl _ _, rfl⟩⟩
        have r_40 : ρ (.tmp 40) = .slice (some ⟨lb, lo, none⟩) 3 lc := by rw [hρ, fl_in 45 HN.out rfl, y40]
        have rc : ∀ cv : Value, ρ (.const cv) = cv := fun cv => by rw [hρ]; rfl
        clear hρ
        simp [execOp, rc, go_sem, r_40]
      refine StepF.val (i := 11) (o := _) rfl (by decide) ?_ ?_
      · intro bb vs wx _ hW hY
        have y41 : vs 41 = .pointer (some ⟨lb, lo + 2, none⟩) := hY 10 41 (by kernel_rfl) (by kernel_rfl)
        refine ⟨fl_want rfl, fun ρ hρ => ⟨.int .i64 a2, wx, ?_, hW, Below.refl _ _, rfl⟩⟩
        have r_41 : ρ (.tmp 41) = .pointer (some ⟨lb, lo + 2, none⟩) := by rw [hρ, fl_in 45 HN.out rfl, y41]
        have q0 := (HD.out _ hW).2.2.2
        have rc : ∀ cv : Value, ρ (.const cv) = cv := fun cv => by rw [hρ]; rfl
        clear hρ
        simp [execOp, rc, go_sem, r_41, q0]
      refine StepF.val (i := 12) (o := _) rfl (by decide) ?_ ?_
      · intro bb vs wx _ hW hY
        have y39 : vs 39 = .int .i64 a1 := hY 8 39 (by kernel_rfl) (by kernel_rfl)
        have y42 : vs 42 = .int .i64 a2 := hY 11 42 (by kernel_rfl) (by kernel_rfl)
        refine ⟨fl_want rfl, fun ρ hρ => ⟨.agg #[.int .i64 a1, .int .i64 a2], wx, ?_, hW, Below.refl _ _, rfl⟩⟩
        have r_39 : ρ (.tmp 39) = .int .i64 a1 := by rw [hρ, fl_in 45 HN.out rfl, y39]
        have r_42 : ρ (.tmp 42) = .int .i64 a2 := by rw [hρ, fl_in 45 HN.out rfl, y42]
        have rc : ∀ cv : Value, ρ (.const cv) = cv := fun cv => by rw [hρ]; rfl
        clear hρ
        simp [execOp, rc, go_sem, r_39, r_42]
      refine StepF.val (i := 13) (o := _) rfl (by decide) ?_ ?_
      · intro bb vs wx _ hW hY
        have y33 : vs 33 = .string ⟨nme.toArray⟩ := hY 2 33 (by kernel_rfl) (by kernel_rfl)
        have y36 : vs 36 = .int .i64 a0 := hY 5 36 (by kernel_rfl) (by kernel_rfl)
        have y43 : vs 43 = .agg #[.int .i64 a1, .int .i64 a2] := hY 12 43 (by kernel_rfl) (by kernel_rfl)
        refine ⟨fl_want rfl, fun ρ hρ => ⟨.agg #[.string ⟨nme.toArray⟩, .int .i64 a0, .int .i64 a1, .int .i64 a2], wx, ?_, hW, Below.refl _ _, rfl⟩⟩
        have r_33 : ρ (.tmp 33) = .string ⟨nme.toArray⟩ := by rw [hρ, fl_in 45 HN.out rfl, y33]
        have r_36 : ρ (.tmp 36) = .int .i64 a0 := by rw [hρ, fl_in 45 HN.out rfl, y36]
        have r_43 : ρ (.tmp 43) = .agg #[.int .i64 a1, .int .i64 a2] := by rw [hρ, fl_in 45 HN.out rfl, y43]
        have rc : ∀ cv : Value, ρ (.const cv) = cv := fun cv => by rw [hρ]; rfl
        clear hρ
        simp [execOp, rc, go_sem, r_33, r_36, r_43]
      exact StepF.nil
    · intro vs wx hW hY
      have y44 : vs 44 = .agg #[.string ⟨nme.toArray⟩, .int .i64 a0, .int .i64 a1, .int .i64 a2] := hY 13 44 (by kernel_rfl)
      have HBx := hid ((hW.block _ (blkP_lt HBx.out)).trans HBx.out)
      have HB3 := hid (below_trans HB3.out hW)
      clear hY hW HD r0 r4 HN i4 i5 i6 hnl c0 c1
      rw [HA.out]
      simp only [putAll, Act.put, List.setIfInBounds_toArray, List.set_cons_zero, List.set_cons_succ, List.drop_succ_cons, List.drop_zero]
      rw [y44]
      clear y44 HA
      have b0 : wx.cell? ⟨T, 0, none⟩ = some (.string ⟨#[]⟩) := by rw [Lib.cell_of_heap HBx.out]; rfl
      have b1 : wx.cell? ⟨T, 1, none⟩ = some (.int .i64 0) := by rw [Lib.cell_of_heap HBx.out]; rfl
      have b2 : wx.cell? ⟨T, 2, none⟩ = some (.int .i64 0) := by rw [Lib.cell_of_heap HBx.out]; rfl
      have b3 : wx.cell? ⟨T, 3, none⟩ = some (.int .i64 0) := by rw [Lib.cell_of_heap HBx.out]; rfl
      have f0 := (Lib.frozen_of_heap HBx.out 0 : wx.frozen? ⟨T, 0, none⟩ = false)
      have f1 := (Lib.frozen_of_heap HBx.out 1 : wx.frozen? ⟨T, 1, none⟩ = false)
      have f2 := (Lib.frozen_of_heap HBx.out 2 : wx.frozen? ⟨T, 2, none⟩ = false)
      have f3 := (Lib.frozen_of_heap HBx.out 3 : wx.frozen? ⟨T, 3, none⟩ = false)
      go_wp2_with fail
      refine bodyPost_ret (v := .tuple #[.agg #[.string ⟨nme.toArray⟩, .int .i64 a0, .int .i64 a1, .int .i64 a2], .bool true]) (by simp [results, Tryz.results39, go_sem, b0, b1, b2, b3]) rfl ?_
      refine ⟨⟨⟨nme.toArray⟩, a0, a1, a2⟩, true, rfl, (fun h => by cases h), fun _ => HR.out, ?_⟩
      exact (((HB3.out.setCell (p := ⟨T, 0, none⟩) HTT.out _).setCell (p := ⟨T, 1, none⟩) HTT.out _).setCell (p := ⟨T, 2, none⟩) HTT.out _).setCell (p := ⟨T, 3, none⟩) HTT.out _
end Go.Proofs.YtefdopifebhgiaaGreatDoor
