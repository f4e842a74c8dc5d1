/-
  WALKS: the reference's Write; long; Blot.
-/
import Derived.Test.YtefdopifebhgiaaGreatDoorQpr
import Derived.Laws.IdiomStrings
import Derived.Laws.Strings3
namespace Go.Proofs.YtefdopifebhgiaaGreatDoor
open Go.RowKit

theorem fits_few {route : Int} {ws : List Wing} (hf : Fits route ws) : (∀ i, i < ws.length → (wg ws i).name.data.toList.length ≤ 8 ∧ NumsOk [(wg ws i).len, (wg ws i).lo, (wg ws i).hi]) ∧ NumsOk [route] ∧ NumsOk [(ws.length : Int)] := by
  refine ⟨fun i hi => ?_, ?_, ?_⟩
  · have hm : wg ws i ∈ ws := by unfold wg; rw [List.getD_eq_getElem?_getD, List.getElem?_eq_getElem hi]; simp
    refine ⟨hf.short _ hm, fun j hj => ?_⟩
    have h := hf.nums _ hm
    have h3 : j < 3 := hj
    rcases (by omega : j = 0 ∨ j = 1 ∨ j = 2) with rfl | rfl | rfl <;> simp [nm] <;> omega
  · intro j hj
    obtain rfl : j = 0 := by have : j < 1 := hj; omega
    show 0 ≤ route ∧ route ≤ 1000000
    have := hf.route
    omega
  · intro j hj
    obtain rfl : j = 0 := by have : j < 1 := hj; omega
    show 0 ≤ (ws.length : Int) ∧ (ws.length : Int) ≤ 1000000
    have := hf.few
    omega
def outK (route : Int) (ws : List Wing) (k : Nat) : List UInt8 := joinN ([lineL avenueW [route]] ++ (ws.take k).map wingLine)
theorem outK_zero (route : Int) (ws : List Wing) : outK route ws 0 = rowL avenueW [route] [] := by
  rw [row_line]
  unfold outK
  simp [joinN]
theorem outK_succ (route : Int) (ws : List Wing) {k : Nat} (hk : k < ws.length) : outK route ws (k + 1) = rowL (wingW ++ 32 :: (wg ws k).name.data.toList) [(wg ws k).len, (wg ws k).lo, (wg ws k).hi] (outK route ws k) := by
  have e : ws.take (k + 1) = ws.take k ++ [wg ws k] := by
    rw [List.take_add_one, List.getElem?_eq_getElem hk]
    simp [wg, List.getD_eq_getElem?_getD, List.getElem?_eq_getElem hk]
  rw [row_line]
  unfold outK
  rw [e, List.map_append, List.map_singleton, ← List.append_assoc, joinN_app, joinN_one]
  simp [wingLine]
theorem outK_done (route : Int) (ws : List Wing) : joinN (linesAll route ws) = rowL endP [(ws.length : Int)] (outK route ws ws.length) := by
  rw [row_line]
  unfold outK linesAll linesA
  rw [List.take_length, joinN_app, joinN_one]
  simp
theorem outK_len {route : Int} {ws : List Wing} (hf : Fits route ws) : ∀ {k : Nat}, k ≤ ws.length → (outK route ws k).length ≤ 100 + k * 100 := by
  have h3 := fits_few hf
  intro k
  induction k with
  | zero =>
    intro _
    rw [outK_zero]
    have := rowL_len (word := avenueW) (b := []) h3.2.1
    have e : avenueW.length = 6 := rfl
    simp at this ⊢
    omega
  | succ k ih =>
    intro hk
    rw [outK_succ route ws (by omega)]
    have h1 := ih (by omega)
    have h2 := h3.1 k (by omega)
    have := rowL_len (word := wingW ++ 32 :: (wg ws k).name.data.toList) (b := outK route ws k) h2.2
    have e : wingW.length = 4 := rfl
    simp at this ⊢
    have h4 := h2.1
    simp at h4
    omega
theorem run_three_n (w : World) (x0 x1 x2 : Int) : (Instr.buildSlice 25 3 #[(0, .int .i64 x0), (1, .int .i64 x1), (2, .int .i64 x2)]).run Tryz.prog w =
    .ok (.slice (some ⟨w.heap.size, 0, none⟩) 3 3) (w.alloc (.cells #[.int .i64 x0, .int .i64 x1, .int .i64 x2] 3)) := by
  kernel_rfl
theorem wpList_three_n {w : World} {ops : Array Oper} {rest : List Oper} {a : Act} {Q : Exit → Act → World → Prop} {o : Oper} (hgd : o.guard = none) (s0 s1 s2 : Operand) (x0 x1 x2 : Int)
    (ho : o.op = .buildSlice 25 3 #[(0, s0), (1, s1), (2, s2)])
    (h0 : a.eval s0 = .int .i64 x0) (h1 : a.eval s1 = .int .i64 x1) (h2 : a.eval s2 = .int .i64 x2)
    (h : wpList Tryz.prog ops Q rest (a.put o.dst (.slice (some ⟨w.heap.size, 0, none⟩) 3 3)) (w.alloc (.cells #[.int .i64 x0, .int .i64 x1, .int .i64 x2] 3))) :
    wpList Tryz.prog ops Q (o :: rest) a w := wpList_plain hgd fun _ hK => by
  unfold Oper.wp execOp
  simp only [ho]
  have e : (#[(0, s0), (1, s1), (2, s2)].map fun (p : Nat × Operand) => (p.1, a.eval p.2)) = #[(0, .int .i64 x0), (1, .int .i64 x1), (2, .int .i64 x2)] := by
    simp [h0, h1, h2]
  rw [e]
  simp only [Sem.run_bind, Sem.run_pure, Result.andThen_ok, run_three_n]
  exact hK _ _ h

set_option maxHeartbeats 8000000 in
set_option maxRecDepth 100000 in
theorem rpwrite_any (ws : List Wing) (route : Int) (vw : Value) (w : World) (hW : WgAt none w vw ws) (hn : ws.length ≤ 100) (hnm : ∀ i, i < ws.length → (wg ws i).name.size ≤ 1000000) (ht : Tab w) :
    Calls Tryz.prog 10 #[.agg #[.int .i64 route, vw]] w fun e w' => e = .returned (.tuple #[.string ⟨(writeRes route ws).toArray⟩, .int .i64 (check route ws)]) ∧ Below w.heap.size w w' := by
  have HW := hid hW
  have HT := hid ht
  have HC := hid (fun W' (h : WgAt none W' vw ws) => rcheck_any ws route vw none W' h hn hnm)
  have hform : ∃ a c, vw = .slice a ws.length c := by obtain ⟨a, c, e, _⟩ := hW; exact ⟨a, c, e⟩
  obtain ⟨aw, cw, rfl⟩ := hform
  have K := hid ((HK.start w).box2 (.int .i64 route) (.slice aw ws.length cw) 24)
  clear hW ht hnm
  by_cases hc : check route ws = 0
  rotate_left
  · obtain ⟨e1, e2⟩ := ne_bool hc
    have hr : writeRes route ws = [] := by unfold writeRes; rw [if_neg hc]
    rw [hr]
    obtain ⟨ce, hce⟩ : ∃ ce, check route ws = ce := ⟨_, rfl⟩
    rw [hce] at HC e1 e2 ⊢
    clear hc hr hce
    go_enter Tryz.func10, Tryz.ntmps10
    go_wp2_with (go_at_call 32; refine (HC.out _ (HW.out.below K.out.below)).mono ?_; rintro e w1 ⟨rfl, hb1⟩; have K := hid (K.out.later hb1); clear hb1)
    go_ret2
    exact ⟨rfl, K.out.below⟩
  have HF := hid (fits_check hc)
  have H3 := hid (fits_few HF.out)
  have hr : writeRes route ws = joinN (linesAll route ws) := by unfold writeRes; rw [if_pos hc, write_lines]
  rw [hr, hc]
  rw [hc] at HC
  clear hr hc hn
  go_enter Tryz.func10, Tryz.ntmps10
  go_upto_region 4 with (go_at_call 32; refine (HC.out _ (HW.out.below K.out.below)).mono ?_; rintro e w1 ⟨rfl, hb1⟩; have K := hid (K.out.later hb1); clear hb1)
  have x0 := K.out.c (b := w.heap.size) (o := 0) (v := .int .i64 route) (by simp)
  have x1 := K.out.c (b := w.heap.size) (o := 1) (v := .slice aw ws.length cw) (by simp)
  have hTl := World.block_lt_of_cell? w1 ⟨w.heap.size, 0, none⟩ x0
  have HX1 := hid (fun (W' : World) (hb : Below w1.heap.size w1 W') => cell_back hb hTl x1)
  have HP := hid (fun (W' : World) (hb : Below w1.heap.size w1 W') => (HW.out.below K.out.below).below hb)
  have HTB := hid (fun (W' : World) (hb : Below w1.heap.size w1 W') => HT.out.base (Nat.le_refl _) (below_trans K.out.below hb))
  have HBT := hid (fun (W' : World) (hb : Below w1.heap.size w1 W') => below_trans K.out.below hb)
  obtain ⟨T, hT⟩ : ∃ T, w.heap.size = T := ⟨_, rfl⟩
  rw [hT] at HX1 x0 x1 ⊢
  have HI := hid (own_lit w1 [route] #[.int .i64 route] rfl (by simp) (n := 1) (g := w1.heap.size) rfl rfl)
  have KR := hid (below_alloc w1 (.cells #[.int .i64 route] 3))
  clear hTl hT HC
  go_wp2_with fail
  refine (rrow_any avenueW [route] _ _ (OwnInts.at HI.out (by simp)) H3.out.2.1 (HTB.out _ KR.out) ?_).mono ?_
  · simp [avenueW]
  rintro e w3 ⟨rfl, hb⟩
  have KR := hid (below_trans KR.out hb)
  rw [← outK_zero route ws]
  clear hb x0 x1 HI
  go_wp2_with fail
  go_loopw [5, 6] (fun s i wr => ∃ k : Nat, k ≤ ws.length ∧ i = .int .i64 k ∧ s = .string ⟨(outK route ws k).toArray⟩ ∧ Below w1.heap.size w1 wr) (fun _ i _ => ws.length - (intOf i).toNat)
  case atStart => exact ⟨0, by omega, rfl, rfl, KR.out⟩
  case round =>
    obtain ⟨k, hk, rfl, rfl, hkw⟩ := hrel
    obtain ⟨wo, rfl⟩ : ∃ wo : World, wo = wr := ⟨_, rfl⟩
    have KR := hid hkw
    have HL := hid (outK_len HF.out hk)
    have y1 := HX1.out _ hkw
    clear hkw
    by_cases hlt : k < ws.length
    · have hg := (HP.out _ KR.out).cellsN hlt
      obtain ⟨bw, ow, rfl, q0, q1, q2, q3⟩ := hg
      have i1 : (k : Int) < (ws.length : Int) := by omega
      have z2 : IntKind.i64.wrap ((k : Int) + 1) = (k : Int) + 1 := IntWalk.i64_in _ (by have := HF.out.few; omega)
      have HST := hid (outK_succ route ws hlt)
      have HX := hid (H3.out.1 k hlt)
      have HFw := hid HF.out.few
      obtain ⟨x, hx⟩ : ∃ x, wg ws k = x := ⟨_, rfl⟩
      rw [hx] at q0 q1 q2 q3 HST HX
      have HLt := hid hlt
      have hadd : ∀ W : World, (Op.stringOp .add ⟨#[119, 105, 110, 103, 32]⟩ x.name).run Tryz.prog W = .ok (.string ⟨(wingW ++ 32 :: x.name.data.toList).toArray⟩) W := fun W => by
        have h6 : (⟨#[119, 105, 110, 103, 32]⟩ : ByteArray).size = 5 := rfl
        have h7 : x.name.size = x.name.data.toList.length := Array.length_toList.symm
        rw [run_string_add_sum W _ _ (by have h := HX.out.1; omega)]
        congr 2
      have hadd2 := add_row (wingW ++ 32 :: x.name.data.toList) [x.len, x.lo, x.hi] (outK route ws k) (by have := HL.out; have := HFw.out; omega) (by have h := rowL_len (word := wingW ++ 32 :: x.name.data.toList) (b := []) HX.out.2; have h1 := HX.out.1; have e : wingW.length = 4 := rfl; simp at h h1 ⊢; omega)
      obtain ⟨nb, hnb⟩ : ∃ nb, wingW ++ 32 :: x.name.data.toList = nb := ⟨_, rfl⟩
      have HNb := hid (show nb.length ≤ 13 from by rw [← hnb]; have h1 := HX.out.1; have e : wingW.length = 4 := rfl; simp at h1 ⊢; omega)
      rw [hnb] at hadd hadd2 HST
      have BA := hid (below_trans (below_alloc wo (.cells #[.string x.name, .int .i64 x.len, .int .i64 x.lo, .int .i64 x.hi] 45)) (below_alloc _ (.cells #[.int .i64 x.len, .int .i64 x.lo, .int .i64 x.hi] 3)))
      have HI := hid (own_lit (wo.alloc (.cells #[.string x.name, .int .i64 x.len, .int .i64 x.lo, .int .i64 x.hi] 45)) [x.len, x.lo, x.hi] #[.int .i64 x.len, .int .i64 x.lo, .int .i64 x.hi] rfl (by simp) (n := 3) (g := wo.heap.size + 1) rfl (by simp))
      have KR := hid (below_trans KR.out BA.out)
      clear hx hlt hnb
      go_wp2_with (refine wpList_three_n rfl _ _ _ _ _ _ rfl rfl rfl rfl ?_)
      refine (rrow_any nb [x.len, x.lo, x.hi] _ _ (OwnInts.at HI.out (by simp)) HX.out.2 (HTB.out _ KR.out) ?_).mono ?_
      · have := HNb.out; simp; omega
      rintro e w6 ⟨rfl, hb⟩
      have KR := hid (below_trans KR.out hb)
      clear hb q0 q1 q2 q3
      go_wp2_with fail
      go_roundw
      case rel => exact ⟨k + 1, by have := HLt.out; omega, by go_num, by rw [HST.out], KR.out⟩
      case measure => have := HLt.out; simp [intOf] <;> omega
    obtain rfl : k = ws.length := by omega
    have HI := hid (own_lit wo [(ws.length : Int)] #[.int .i64 ws.length] rfl (by simp) (n := 1) (g := wo.heap.size) rfl rfl)
    have KR := hid (below_trans KR.out (below_alloc wo (.cells #[.int .i64 ws.length] 3)))
    have hadd := add_row endP [(ws.length : Int)] (outK route ws ws.length) (by have := HL.out; have := HF.out.few; omega) (by have h := rowL_len (word := endP) (b := []) H3.out.2.2; have e : endP.length = 3 := rfl; simp at h ⊢; omega)
    have HSH := hid (outK_done route ws)
    clear hk hlt
    go_wp2_with fail
    refine (rrow_any endP [(ws.length : Int)] _ _ (OwnInts.at HI.out (by simp)) H3.out.2.2 (HTB.out _ KR.out) ?_).mono ?_
    · simp [endP]
    rintro e w7 ⟨rfl, hb⟩
    have KR := hid (below_trans KR.out hb)
    clear hb
    go_wp2_with fail
    go_ret2
    exact ⟨by rw [HSH.out]; rfl, HBT.out _ KR.out⟩

set_option maxHeartbeats 2000000 in
set_option maxRecDepth 100000 in
theorem long_any (ws : List Wing) (route : Int) (vw : Value) (w : World) (hW : WgAt none w vw ws) :
    Calls Tryz.prog 5 #[.agg #[.int .i64 route, vw]] w
     fun e w' => ∃ b : Bool, e = .returned (.bool b) ∧ (b = false → ws.length ≤ 15 ∧ ∀ i, i < ws.length → (wg ws i).name.size ≤ 30) ∧ Below w.heap.size w w' := by
  have K := hid ((HK.start w).box2 (.int .i64 route) vw 24)
  obtain ⟨aw, cap, rfl, hh⟩ := hW
  go_enter Tryz.func5, Tryz.ntmps5
  go_wp2
  go_loopw [3] (fun i wr => ∃ k : Nat, k ≤ ws.length ∧ i = .int .i64 k ∧ (∀ j, j < k → (wg ws j).name.size ≤ 30) ∧ HK [(w.heap.size, 0, .int .i64 route), (w.heap.size, 1, .slice aw ws.length cap)] w wr)
    (fun i _ => ws.length - (intOf i).toNat)
  case atStart => exact ⟨0, by omega, rfl, fun j h => by omega, K.out⟩
  case round =>
    obtain ⟨k, hk, rfl, hf, KK⟩ := hrel
    have s1 := KK.c (b := w.heap.size) (o := 1) (v := .slice aw ws.length cap) (by simp)
    have K := hid KK
    clear KK
    by_cases hlt : k < ws.length
    · obtain ⟨b, off, rfl, h1, h2, _, hb, hL⟩ := hh (by omega)
      have c0 := cell_back K.out.below hb (hL k hlt).1
      clear hL hh
      have hcl : cap ≤ 9223372036854775807 := h2
      have Hf := hid hf
      clear hf
      by_cases hs : 30 < (wg ws k).name.size
      · go_wp2
        go_ret
        exact ⟨true, rfl, (fun h => by cases h), K.out.below⟩
      · go_wp2
        go_roundw
        case rel => exact ⟨k + 1, by omega, by go_num, fun j hj => by
          by_cases e : j = k
          · subst e; omega
          · exact Hf.out j (by omega), K.out⟩
        case measure => simp [intOf] <;> omega
    · obtain rfl : k = ws.length := by omega
      have Hf := hid hf
      clear hf
      go_wp2
      go_ret
      exact ⟨decide ((15 : Int) < (ws.length : Int)), rfl, (fun h => ⟨by have := of_decide_eq_false h; omega, Hf.out⟩), K.out.below⟩


/-! ### Blot -/
theorem str_to (s : ByteArray) (a : Int) (h0 : 0 ≤ a) (h1 : a ≤ (s.size : Int)) : ∃ t : ByteArray, t.size ≤ s.size ∧ ∀ W, (Instr.sliceAt 9 (.string s) none (some (.int .i64 a)) none).run Tryz.prog W = .ok (.string t) W := by
  refine ⟨s.extract 0 a.toNat, by rw [ByteArray.size_extract]; omega, fun W => ?_⟩
  rw [run_sliceAt_string (h := Tryz.underlying9), run_slice_string_to_if (h := Tryz.underlying9), if_pos ⟨h0, h1⟩]
theorem str_from (s : ByteArray) (a : Int) (h0 : 0 ≤ a) (h1 : a ≤ (s.size : Int)) : ∃ t : ByteArray, t.size ≤ s.size ∧ ∀ W, (Instr.sliceAt 9 (.string s) (some (.int .i64 a)) none none).run Tryz.prog W = .ok (.string t) W := by
  refine ⟨s.extract a.toNat s.size, by rw [ByteArray.size_extract]; omega, fun W => ?_⟩
  rw [run_sliceAt_string (h := Tryz.underlying9), run_slice_string_from_if (h := Tryz.underlying9), if_pos ⟨h0, h1⟩]
theorem str_add (s t : ByteArray) (h1 : s.size ≤ 1000000) (h2 : t.size ≤ 1000000) : ∃ u : ByteArray, u.size = s.size + t.size ∧ ∀ W, (Op.stringOp .add s t).run Tryz.prog W = .ok (.string u) W :=
  ⟨s ++ t, by simp, fun W => by rw [run_string_add_sum W _ _ (by omega)]⟩
theorem byte_str (w : World) (n : Int) (hn : 0 ≤ n ∧ n ≤ 255) : (convert 68 9 (.slice (some ⟨w.heap.size, 0, none⟩) 1 1)).run Tryz.prog (w.alloc (.cells #[.int .u8 n] 5)) = .ok (.string ⟨[UInt8.ofNat n.toNat].toArray⟩) (w.alloc (.cells #[.int .u8 n] 5)) :=
  run_convert_bytes_back (w.alloc (.cells #[.int .u8 n] 5)) 68 9 5 ⟨w.heap.size, 0, none⟩ 1 [UInt8.ofNat n.toNat] Tryz.underlying68 Tryz.underlying5 Tryz.underlying9 (fun j hj => by
    obtain rfl : j = 0 := by simp at hj; omega
    refine (cell_at rfl (v := .int .u8 n) rfl).trans ?_
    simp
    omega)

set_option maxHeartbeats 4000000 in
set_option maxRecDepth 100000 in
theorem blot_any (s : List UInt8) (x how n : Int) (w : World) (hs : s.length ≤ 500000) (hx : -9223372036854775808 ≤ x ∧ x ≤ 9223372036854775807) (hh : -9223372036854775808 ≤ how ∧ how ≤ 9223372036854775807) (hn : 0 ≤ n ∧ n ≤ 255) :
    Calls Tryz.prog 11 #[.string ⟨s.toArray⟩, .int .i64 x, .int .i64 how, .int .u8 n] w fun e w' => ∃ t : List UInt8, e = .returned (.string ⟨t.toArray⟩) ∧ Below w.heap.size w w' := by
  have hsz : (⟨s.toArray⟩ : ByteArray).size = s.length := by simp [ByteArray.size]
  have HX := hid hx
  have HH := hid hh
  have HN := hid hn
  have HS := hid hs
  clear hx hh hn hs
  by_cases h0 : s = []
  · subst h0
    go_enter Tryz.func11, Tryz.ntmps11
    go_wp2_with fail
    go_ret
    exact ⟨[], rfl, Below.refl _ _⟩
  · have e0 : (s == ([] : List UInt8)) = false := beq_eq_false_iff_ne.2 h0
    have hl := hid (List.length_pos_iff.2 h0)
    have hcv := byte_str w n HN.out
    obtain ⟨ch, hch⟩ : ∃ ch, [UInt8.ofNat n.toNat] = ch := ⟨_, rfl⟩
    rw [hch] at hcv
    have HCH := hid (show ch.length = 1 from by rw [← hch]; rfl)
    clear h0 hch
    go_enter Tryz.func11, Tryz.ntmps11
    go_upto_region 6 with (first | (go_at_call 34; with_reducible refine (fit_any how 3 _ HH.out (by omega)).mono ?_; rintro e w1 ⟨r, rfl, r0, r1, rfl⟩; have HR := hid (show 0 ≤ r ∧ r < 3 from ⟨r0, by omega⟩); clear r0 r1) | (go_at_call 34; with_reducible refine (fit_any x s.length _ HX.out (by have := HS.out; omega)).mono ?_; rintro e w1 ⟨a, rfl, a0, a1, rfl⟩; have HA := hid (show 0 ≤ a ∧ a < (s.length : Int) from ⟨a0, by have := hl.out; omega⟩); clear a0 a1))
    obtain ⟨t1, l1, f1⟩ := str_to ⟨s.toArray⟩ a HA.out.1 (by rw [hsz]; have := HA.out; omega)
    obtain ⟨t2, l2, f2⟩ := str_from ⟨s.toArray⟩ a HA.out.1 (by rw [hsz]; have := HA.out; omega)
    obtain ⟨t3, l3, f3⟩ := str_from ⟨s.toArray⟩ (a + 1) (by have := HA.out; omega) (by rw [hsz]; have := HA.out; omega)
    rw [hsz] at l1 l2 l3
    have hs := HS.out
    have hch : (⟨ch.toArray⟩ : ByteArray).size = 1 := by rw [← HCH.out]; simp [ByteArray.size]
    obtain ⟨t4, l4, f4⟩ := str_add t1 ⟨ch.toArray⟩ (by omega) (by omega)
    obtain ⟨t5, l5, f5⟩ := str_add t4 t3 (by omega) (by omega)
    obtain ⟨t6, l6, f6⟩ := str_add t1 t3 (by omega) (by omega)
    obtain ⟨t7, l7, f7⟩ := str_add t4 t2 (by omega) (by omega)
    have z1 : IntKind.i64.wrap (a + 1) = a + 1 := IntWalk.i64_in _ (by have := HA.out; omega)
    have i1 : a ≤ (s.length : Int) := by have := HA.out; omega
    have i2 : 0 ≤ a := HA.out.1
    have HB := hid (below_alloc w (.cells #[.int .u8 n] 5))
    clear l1 l2 l3 l4 l5 l6 l7 hs hch hcv hl
    by_cases h0 : r = 0
    · subst h0
      go_upto_region 7 with fail
      go_quiet (fail)
      go_wp2_with fail
      go_ret
      exact ⟨t5.data.toList, by simp, below_drewN HB.out _⟩
    · by_cases h1 : r = 1
      · subst h1
        go_upto_region 9 with fail
        go_quiet (fail)
        go_wp2_with fail
        go_ret
        exact ⟨t6.data.toList, by simp, below_drewN HB.out _⟩
      · obtain ⟨e1, e2⟩ := ne_bool h0
        obtain ⟨e3, e4⟩ := ne_bool h1
        clear h0 h1
        go_upto_region 10 with fail
        go_quiet (fail)
        go_wp2_with fail
        go_ret
        exact ⟨t7.data.toList, by simp, below_drewN HB.out _⟩
end Go.Proofs.YtefdopifebhgiaaGreatDoor
