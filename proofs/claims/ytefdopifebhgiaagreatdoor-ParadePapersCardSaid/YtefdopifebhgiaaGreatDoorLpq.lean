/-
  WALKS: ParadePapers.
-/
import Derived.Test.YtefdopifebhgiaaGreatDoorQrd
import Derived.Test.YtefdopifebhgiaaGreatDoorQwt
import Derived.Test.YtefdopifebhgiaaGreatDoorAw
import Derived.Deep.CutRange
namespace Go.Proofs.YtefdopifebhgiaaGreatDoor
open Go.RowKit

theorem few_checked {route : Int} {ws : List Wing} (h : check route ws = 0) : ws.length ≤ 100 := by
  have := (fits_check h).few
  omega
theorem readA_few (t : List UInt8) : (readA t).1.2.length ≤ 100 := by
  by_cases h : (readA t).2.2 = 0
  · exact few_checked (readA_back (text := t) (route := (readA t).1.1) (ws := (readA t).1.2) (r := (readA t).2.1) (by rw [← h])).2.1
  · rw [readA_bad h]; simp
theorem writeRes_len (route : Int) (ws : List Wing) : (writeRes route ws).length ≤ 1000 := by
  unfold writeRes
  split
  · rename_i h
    rw [write_lines]
    exact all_len (fits_check h)
  · simp
theorem WgAt.fresh {w : World} {v : Value} {ws : List Wing} (h : WgAt none w v ws) {D : Nat} (hD : w.heap.size ≤ D) : WgAt (some D) w v ws := by
  obtain ⟨a, c, e, hh⟩ := h
  refine ⟨a, c, e, fun h0 => ?_⟩
  obtain ⟨b, off, ea, h1, h2, _, h4, h5⟩ := hh h0
  exact ⟨b, off, ea, h1, h2, fun e => by have := Option.some.inj e; omega, h4, h5⟩
theorem strs_cells {base : Nat} {w : World} {v : Value} {xs : List (List UInt8)} (h : OwnR encV 1 9 base w v (xs.map strV)) (h0 : 0 < xs.length) : ∃ b off c, v = .slice (some ⟨b, off, none⟩) xs.length c ∧ b < w.heap.size ∧ ∀ i, i < xs.length → w.cell? ⟨b, off + i, none⟩ = some (.string ⟨(wordAt xs i).toArray⟩) := by
  obtain ⟨a, c, e, hh⟩ := h.recs (d := none) undef (fun x _ => x) (fun _ => rfl) (fun x j hj => by obtain rfl : j = 0 := (by omega); rfl) (by simp)
  rw [List.length_map] at e hh
  obtain ⟨b, off, rfl, _, _, _, hb, hc⟩ := hh h0
  refine ⟨b, off, c, e, hb, fun i hi => ?_⟩
  have := hc i hi 0 (by omega)
  rw [Nat.mul_one, Nat.add_zero] at this
  rw [this]
  simp [strV, wordAt, List.getD_eq_getElem?_getD, List.getElem?_eq_getElem hi]

def txs (t s0 s1 : List UInt8) (k : Nat) : List (List UInt8) := t :: [s0, s1].take k
theorem txs_len (t s0 s1 : List UInt8) {k : Nat} (h : k ≤ 2) : (txs t s0 s1 k).length = k + 1 := by
  unfold txs; simp; omega
theorem txs_succ (t s0 s1 : List UInt8) {k : Nat} (h : k < 2) : txs t s0 s1 (k + 1) = txs t s0 s1 k ++ [[s0, s1].getD k []] := by
  match k, h with
  | 0, _ => rfl
  | 1, _ => rfl
theorem own_text (w : World) (t : List UInt8) : OwnR encV 1 9 w.heap.size (w.alloc (.cells #[.string ⟨t.toArray⟩] 9)) (.slice (some ⟨w.heap.size, 0, none⟩) 1 1) ([t].map strV) :=
  ⟨by simp [encV], .inr ⟨_, _, #[.string ⟨t.toArray⟩], rfl, Nat.le_refl _, heap_alloc_new w _, Nat.le_refl _, by unfold maxLen; omega, rfl, rfl⟩⟩

theorem run_two_schools (w : World) (a0 a1 b0 b1 : Value) : (Instr.buildSlice 31 2 #[(0, .agg #[a0, a1]), (1, .agg #[b0, b1])]).run Tryz.prog w =
    .ok (.slice (some ⟨w.heap.size, 0, none⟩) 2 2) (w.alloc (.cells #[a0, a1, b0, b1] 24)) := by
  kernel_rfl
theorem wpList_two_schools {w : World} {ops : Array Oper} {rest : List Oper} {a : Act} {Q : Exit → Act → World → Prop} {o : Oper} (hgd : o.guard = none) (s0 s1 : Operand) (a0 a1 b0 b1 : Value)
    (ho : o.op = .buildSlice 31 2 #[(0, s0), (1, s1)])
    (h0 : a.eval s0 = .agg #[a0, a1]) (h1 : a.eval s1 = .agg #[b0, b1])
    (h : wpList Tryz.prog ops Q rest (a.put o.dst (.slice (some ⟨w.heap.size, 0, none⟩) 2 2)) (w.alloc (.cells #[a0, a1, b0, b1] 24))) :
    wpList Tryz.prog ops Q (o :: rest) a w := wpList_plain hgd fun _ hK => by
  unfold Oper.wp execOp
  simp only [ho]
  have e : (#[(0, s0), (1, s1)].map fun (p : Nat × Operand) => (p.1, a.eval p.2)) = #[(0, .agg #[a0, a1]), (1, .agg #[b0, b1])] := by
    simp [h0, h1]
  rw [e]
  simp only [Sem.run_bind, Sem.run_pure, Result.andThen_ok, run_two_schools]
  exact hK _ _ h

set_option maxHeartbeats 16000000 in
set_option maxRecDepth 100000 in
theorem ppapers_law (route : Int) (ws : List Wing) (vw : Value) (text : List UInt8) (xs : List Int) (v : Value) (at' how c : Int) (w : World) (hW : WgAt none w vw ws) (hX : IntsAt none w v xs) (hn : xs.length ≤ 9223372036854775807)
    (ha : -9223372036854775808 ≤ at' ∧ at' ≤ 9223372036854775807) (hh : -9223372036854775808 ≤ how ∧ how ≤ 9223372036854775807) (hc : 0 ≤ c ∧ c ≤ 255) (hE : Env w) :
    Calls Tryz.prog 3 #[.agg #[.int .i64 route, vw], .string ⟨text.toArray⟩, v, .int .i64 at', .int .i64 how, .int .u8 c] w fun e w' => e = .returned (.bool true) ∧ Below w.heap.size w w' := by
  have H0 := hid hW
  have HX := hid hX
  have HE := hid hE
  have HArg := hid (show _ ∧ _ ∧ _ from ⟨ha, hh, hc⟩)
  obtain ⟨a, c', rfl, _⟩ := hX
  have hsz : (⟨text.toArray⟩ : ByteArray).size = text.length := by simp [ByteArray.size]
  clear hW hE ha hh hc
  go_enter Tryz.func3, Tryz.ntmps3
  go_upto_region 1 with fail
  obtain ⟨B, hB⟩ : ∃ B, w.heap.size = B := ⟨_, rfl⟩
  obtain ⟨w1, hw1⟩ : ∃ w1, (w.alloc (.cells #[.int .i64 route, vw] 24)) = w1 := ⟨_, rfl⟩
  have hb1 : Below w.heap.size w w1 := by rw [← hw1]; exact (below_alloc _ _)
  have hbb : w1.cell? ⟨B, 0, none⟩ = some (.int .i64 route) ∧ w1.cell? ⟨B, 1, none⟩ = some vw := by
    rw [← hw1]; exact ⟨cell_at hB.symm rfl, cell_at hB.symm rfl⟩
  rw [hB] at hb1 ⊢
  rw [hw1]
  have hBl : B < w1.heap.size := World.block_lt_of_cell? w1 ⟨B, 0, none⟩ hbb.1
  have H1 := hid (show WgAt none w1 vw ws from H0.out.below (by rw [hB]; exact hb1))
  have HX1 := hid (show IntsAt none w1 _ xs from HX.out.below (by rw [hB]; exact hb1))
  have HB1 := hid (show Below w.heap.size w w1 from by rw [hB]; exact hb1)
  have HBB := hid hbb
  have HBL := hid hBl
  have HBw := hid hB
  have AW := hid (fun W' => awake_any W')
  clear hw1 hB hb1 H0 HX hbb hBl
  go_cut [39] from 28 to 39 (fun s wx => ∃ b : Bool, s = .bool b ∧ (b = false → ws.length ≤ 15 ∧ ∀ i, i < ws.length → (wg ws i).name.size ≤ 30) ∧ Below w1.heap.size w1 wx)
  case first =>
    obtain ⟨y0, y1⟩ := HBB.out
    have d0 : decide (600 < (text.length : Int)) = decide (600 < text.length) := by by_cases h : 600 < text.length <;> simp [h] <;> omega
    have d1 : decide ((text.length : Int) ≤ 1000) = decide (text.length ≤ 1000) := by by_cases h : text.length ≤ 1000 <;> simp [h] <;> omega
    cases h1 : decide (600 < text.length) <;> cases h2 : decide (text.length ≤ 1000)
    all_goals
      rw [h1] at d0
      rw [h2] at d1
      clear h1 h2
      go_wp2_with (go_at_call 5; refine (long_any ws route vw _ H1.out).mono ?_; rintro e w2 ⟨bl, rfl, hlong, hb2⟩; have HB2 := hid hb2; have HLo := hid hlong; clear hb2 hlong y0 y1; cases bl)
      all_goals
        go_meet
        exact ⟨_, rfl, (fun h => by first | exact HLo.out rfl | exact HLo.out trivial | cases h), HB2.out⟩
  case rest =>
    obtain ⟨b, rfl, hfew, hcut⟩ := hcut
    obtain ⟨w2, rfl⟩ : ∃ w2 : World, w2 = wc := ⟨_, rfl⟩
    have H2 := hid (H1.out.below hcut)
    have HX2 := hid (HX1.out.below hcut)
    have HB2 := hid (show Below w.heap.size w w2 from HB1.out.trans (hcut.mono HB1.out.size))
    have HBB := hid (show w2.cell? _ = _ ∧ w2.cell? _ = _ from ⟨cell_now hcut HBB.out.1, cell_now hcut HBB.out.2⟩)
    have HBL := hid (show B < w2.heap.size from Nat.lt_of_lt_of_le HBL.out hcut.size)
    have HFew := hid hfew
    clear hcut H1 HX1 HB1 hsz hfew
    cases b with
    | true =>
      go_wp2_with (go_at_call 6; refine (AW.out _).mono ?_; rintro e w3 ⟨rfl, hb3⟩; have HB2 := hid (below_trans HB2.out hb3); clear hb3)
      go_ret
      exact ⟨rfl, HB2.out⟩
    | false =>
      have HFw := hid (HFew.out rfl)
      clear HFew
      go_upto_region 4 with (first
        | (go_at_call 8; refine (drumOf_any xs _ _ HX2.out hn).mono ?_; rintro e w4 ⟨rfl, hbt, hbl⟩; have HBt := hid hbt; have HBl := hid hbl; clear hbt hbl)
        | (go_at_call 7; refine (schoolOf_any w2.heap.size 6 _ HBt.out (by omega) (by omega)).mono ?_; rintro e w5 ⟨rt2, vs, q, rfl, _, _, hl0, hl8, hm, hown, hbt, hg⟩; obtain ⟨av, cv, rfl⟩ := OwnR.form hown; have HWm := hid (hown.at (d := none) (by simp)); have HSz := hid (show q.length ≤ 100 ∧ _ from ⟨by omega, made_size hm (by omega)⟩); have HB5 := hid (HB2.out.trans ((HBl.out.grown hg HBl.out.size (fun g e => by cases e; exact Nat.le_refl _)).mono HB2.out.size)); have HG5 := hid (gb_trans (gb_below HBl.out (some w2.heap.size)) hg); clear hl0 hl8 hm hown hbt hg))
      obtain ⟨X, hXs⟩ : ∃ X, w5.heap.size = X := ⟨_, rfl⟩
      obtain ⟨w6, hw6⟩ : ∃ w6, w5.alloc (.cells #[.int .i64 rt2, .slice av q.length cv] 24) = w6 := ⟨_, rfl⟩
      have hb56 : Below w5.heap.size w5 w6 := by rw [← hw6]; exact below_alloc _ _
      have hbx : w6.heap[X]? = some (.cells #[.int .i64 rt2, .slice av q.length cv] 24 (0, 0)) := by rw [← hw6, ← hXs]; exact heap_alloc_new _ _
      have HA := hid (((H2.out.fresh (Nat.le_refl _)).kept HG5.out).below hb56).any
      have HG6 := hid (gb_trans HG5.out (gb_below hb56 _))
      have hBD : B ≠ w2.heap.size := Nat.ne_of_lt HBL.out
      have HBB := hid (show w6.cell? _ = _ ∧ w6.cell? _ = _ from ⟨cell_gb HG6.out hBD HBB.out.1, cell_gb HG6.out hBD HBB.out.2⟩)
      have HWm := hid (HWm.out.below hb56)
      have HB6 := hid (below_trans HB5.out hb56)
      rw [hw6, hXs]
      obtain ⟨y0, y1⟩ := HBB.out
      have x0 : w6.cell? ⟨X, 0, none⟩ = some (.int .i64 rt2) := by rw [Lib.cell_of_heap hbx]; rfl
      have x1 : w6.cell? ⟨X, 1, none⟩ = some (.slice av q.length cv) := by rw [Lib.cell_of_heap hbx]; rfl
      clear hb56 hbx hBD hw6 hXs HG5 HG6 HBt HBl H2 HX2 HB2 HB5 hn
      go_wp2_with (refine wpList_two_schools rfl _ _ _ _ _ _ rfl rfl rfl ?_)
      obtain ⟨wP, hwP⟩ : ∃ wP, w6.alloc (.cells #[.int .i64 route, vw, .int .i64 rt2, .slice av q.length cv] 24) = wP := ⟨_, rfl⟩
      have hbP : Below w6.heap.size w6 wP := by rw [← hwP]; exact below_alloc _ _
      have hPh : wP.heap[w6.heap.size]? = some (.cells #[.int .i64 route, vw, .int .i64 rt2, .slice av q.length cv] 24 (0, 0)) := by rw [← hwP]; exact heap_alloc_new _ _
      have hQ : w6.heap.size + 1 = wP.heap.size := by rw [← hwP]; simp
      obtain ⟨P, hP⟩ : ∃ P, w6.heap.size = P := ⟨_, rfl⟩
      have HEl := hid (show ∀ k, k < 2 → ∃ r u y, wP.cell? ⟨P, k * 2, none⟩ = some (.int .i64 r) ∧ wP.cell? ⟨P, k * 2 + 1, none⟩ = some u ∧ WgAt none wP u y ∧ (y.length ≤ 100 ∧ ∀ i, i < y.length → (wg y i).name.size ≤ 1000000) ∧ writeRes r y = [writeRes route ws, writeRes rt2 q].getD k [] from fun k hk => by
        rw [hP] at hPh
        match k, hk with
        | 0, _ => exact ⟨route, vw, ws, by rw [Lib.cell_of_heap hPh]; rfl, by rw [Lib.cell_of_heap hPh]; rfl, HA.out.below hbP, ⟨by have := HFw.out.1; omega, fun i hi => Nat.le_trans (HFw.out.2 i hi) (by omega)⟩, rfl⟩
        | 1, _ => exact ⟨rt2, _, q, by rw [Lib.cell_of_heap hPh]; rfl, by rw [Lib.cell_of_heap hPh]; rfl, HWm.out.below hbP, HSz.out, rfl⟩)
      have HBP := hid (below_trans HB6.out hbP)
      have hown := own_text wP text
      have hbT := below_alloc wP (.cells #[.string ⟨text.toArray⟩] 9)
      obtain ⟨wT, hwT⟩ : ∃ wT, wP.alloc (.cells #[.string ⟨text.toArray⟩] 9) = wT := ⟨_, rfl⟩
      obtain ⟨Q, hQn⟩ : ∃ Q, wP.heap.size = Q := ⟨_, rfl⟩
      rw [hwT, hQn] at hown hbT
      rw [hwP, hwT, hQ, hQn, hP]
      have HOT := hid hown
      have HBT := hid hbT
      have HQ := hid hQn
      have HSL := hid (show ∀ k, ([writeRes route ws, writeRes rt2 q].getD k []).length ≤ 1000 from fun k => by
        match k with
        | 0 => exact writeRes_len route ws
        | 1 => exact writeRes_len rt2 q
        | k + 2 => simp)
      obtain ⟨s0, hs0⟩ : ∃ s0, writeRes route ws = s0 := ⟨_, rfl⟩
      obtain ⟨s1, hs1⟩ : ∃ s1, writeRes rt2 q = s1 := ⟨_, rfl⟩
      rw [hs0, hs1] at HEl HSL
      clear hwP hbP hPh hQ hP hown hbT hwT hQn y0 y1 x0 x1 HA HWm HSz HFw HBB hs0 hs1 HBL HBw HB6
      go_loopw [15, 16] (fun tx i wr => ∃ k : Nat, k ≤ 2 ∧ i = .int .i64 k ∧ OwnR encV 1 9 Q wr tx ((txs text s0 s1 k).map strV) ∧ Below Q wP wr) (fun _ i _ => 2 - (intOf i).toNat)
      case atStart => exact ⟨0, by omega, rfl, HOT.out, HBT.out⟩
      case round =>
        obtain ⟨k, hk, rfl, ho, hb⟩ := hrel
        obtain ⟨wo, rfl⟩ : ∃ wo : World, wo = wr := ⟨_, rfl⟩
        have KB := hid hb
        have HO := hid ho
        obtain ⟨sa, sc, es⟩ := ho.form
        rw [List.length_map, txs_len _ _ _ hk] at es
        subst es
        have HQs := hid (show ∀ W' : World, Below Q wP W' → Below wP.heap.size wP W' from fun W' h => by rw [HQ.out]; exact h)
        have hbw := HQs.out _ hb
        have HQle := hid (show Q ≤ wo.heap.size from by have h1 := HQ.out; have h2 := hbw.size; omega)
        clear hb ho
        by_cases hlt : k < 2
        · obtain ⟨r, u, y, n0, n1, hq, hqs, hsh⟩ := HEl.out k hlt
          have n0 := cell_now hbw n0
          have n1 := cell_now hbw n1
          have i1 : (k : Int) < 2 := by omega
          have z2 : IntKind.i64.wrap ((k : Int) + 1) = (k : Int) + 1 := IntWalk.i64_in _ (by omega)
          have HST := hid (txs_succ text s0 s1 hlt)
          have HSl := hid (HSL.out k)
          have HLt := hid hlt
          obtain ⟨sh, hshn⟩ : ∃ sh, [s0, s1].getD k [] = sh := ⟨_, rfl⟩
          rw [hshn] at hsh HST HSl
          have HCW := hid (fun (W' : World) (hb : Below wo.heap.size wo W') => pwrite_any y r u W' ((hq.below hbw).below hb) hqs.1 hqs.2 (((HE.out.go HBP.out).go hbw).go hb).tab)
          have HRW := hid (fun (W' : World) (hb : Below wo.heap.size wo W') => rpwrite_any y r u W' ((hq.below hbw).below hb) hqs.1 hqs.2 (((HE.out.go HBP.out).go hbw).go hb).tab)
          rw [hsh] at HCW HRW
          have HN0 := hid (fun (W' : World) (hb : Below wo.heap.size wo W') => (⟨cell_now hb n0, cell_now hb n1⟩ : W'.cell? ⟨P, k * 2, none⟩ = some (.int .i64 r) ∧ W'.cell? ⟨P, k * 2 + 1, none⟩ = some u))
          obtain ⟨pe, hpe⟩ : ∃ pe, check r y = pe := ⟨_, rfl⟩
          rw [hpe] at HCW HRW
          have HLN := hid (show ((txs text s0 s1 k).map strV ++ [Value.string ⟨sh.toArray⟩]).length = k + 2 from by rw [List.length_append, List.length_map, txs_len _ _ _ hk]; rfl)
          have HQ1 := hid (show ((txs text s0 s1 k).map strV).length + [Value.string ⟨sh.toArray⟩].length ≤ 1000000 from by rw [List.length_map, txs_len _ _ _ hk]; simp; omega)
          have HQ2 := hid (fun (W' : World) (hb : Below wo.heap.size wo W') => (show Q ≤ W'.heap.size from Nat.le_trans HQle.out hb.size))
          have HBn := hid (fun (W' W2 : World) (hb : Below wo.heap.size wo W') (hg : W'.grownBy W2 (Value.slice sa (k + 1) sc).ownBlock) => (show Below Q wP W2 from (KB.out.trans (hb.mono HQle.out)).grown hg (HQ2.out _ hb) (fun j hj => (HO.out.lt hj).1)))
          clear hq hqs hsh hshn hpe hbw hk hlt
          go_wp2_with (first
            | (go_at_call 9; refine (HCW.out _ (Below.refl _ _)).mono ?_; rintro e w7 ⟨rfl, hb7⟩; have HB7 := hid hb7; clear hb7 n0 n1; obtain ⟨n0, n1⟩ := HN0.out _ HB7.out)
            | (go_at_call 10; refine (HRW.out _ HB7.out).mono ?_; rintro e w8 ⟨rfl, hb8⟩; have HB8 := hid (below_trans HB7.out hb8); clear hb8 n0 n1)
            | (at_builtin; refine wpList_app encV Tryz.underlying32 infoStr (by decide) (by decide) (fun _ => rfl) rfl _ _ rfl Q ((txs text s0 s1 k).map strV) [.string ⟨sh.toArray⟩] (fun y hy u hu => by rw [List.mem_singleton.1 hy] at hu; rw [List.mem_singleton.1 hu]; rfl) _ _ rfl rfl (HO.out.later (below_trans HB8.out (below_alloc _ _))) (Src.lit encV w8 (.string ⟨sh.toArray⟩) 9 1 rfl) HQ1.out (HQ2.out _ (below_trans HB8.out (below_alloc _ _))) ?_; intro v' w9 hown' hg _ _; have HB9 := hid (HBn.out _ _ (below_trans HB8.out (below_alloc _ _)) hg); have HO9 := hid hown'; obtain ⟨a9, c9, e9⟩ := hown'.form; rw [HLN.out] at e9; subst e9; clear hown' hg))
          go_roundw
          case rel => exact ⟨k + 1, by have := HLt.out; omega, by go_num, by rw [HST.out, List.map_append]; exact HO9.out, HB9.out⟩
          case measure => have := HLt.out; simp [intOf] <;> omega
        obtain rfl : k = 2 := by omega
        obtain ⟨bt, ot, ct, e, hbt, hcell⟩ := strs_cells HO.out (by rw [txs_len _ _ _ (Nat.le_refl 2)]; omega)
        rw [txs_len _ _ _ (Nat.le_refl 2)] at e hcell
        cases e
        have t2 := hcell 2 (by omega)
        have e2 : wordAt (txs text s0 s1 2) 2 = s1 := rfl
        rw [e2] at t2
        have i1 : ¬ ((2 : Nat) : Int) < 2 := by omega
        have HS1 := hid (show s1.length ≤ 1000 from HSL.out 1)
        have HBl := hid (fun (W' : World) => blot_any s1 at' how c W' (by have := HS1.out; omega) HArg.out.1 HArg.out.2.1 HArg.out.2.2)
        have HQ2 := hid (fun (W' : World) (hb : Below wo.heap.size wo W') => (show Q ≤ W'.heap.size from Nat.le_trans HQle.out hb.size))
        have HBn := hid (fun (W' W2 : World) (hb : Below wo.heap.size wo W') (hg : W'.grownBy W2 (Value.slice (some ⟨bt, ot, none⟩) (2 + 1) sc).ownBlock) => (show Below Q wP W2 from (KB.out.trans (hb.mono HQle.out)).grown hg (HQ2.out _ hb) (fun j hj => (HO.out.lt hj).1)))
        clear hcell e2 hbw hlt hk hbt
        go_wp2_with (first
          | (go_at_call 11; refine (HBl.out _).mono ?_; rintro e w7 ⟨tb, rfl, hb7⟩; have HB7 := hid hb7; clear hb7 t2)
          | (at_builtin; refine wpList_app encV Tryz.underlying32 infoStr (by decide) (by decide) (fun _ => rfl) rfl _ _ rfl Q ((txs text s0 s1 2).map strV) [.string ⟨tb.toArray⟩] (fun y hy u hu => by rw [List.mem_singleton.1 hy] at hu; rw [List.mem_singleton.1 hu]; rfl) _ _ rfl rfl (HO.out.later (below_trans HB7.out (below_alloc _ _))) (Src.lit encV w7 (.string ⟨tb.toArray⟩) 9 1 rfl) (by simp [txs]) (HQ2.out _ (below_trans HB7.out (below_alloc _ _))) ?_; intro v' w9 hown' hg _ _; have HB9 := hid (HBn.out _ _ (below_trans HB7.out (below_alloc _ _)) hg); have HO9 := hid (show OwnR encV 1 9 Q w9 v' (([text, s0, s1, tb] : List (List UInt8)).map strV) from hown'); obtain ⟨b9, o9, c9, e9, hb9, hc9⟩ := strs_cells HO9.out (by simp); subst e9; have HC9 := hid (show b9 < w9.heap.size ∧ ∀ k, k < 4 → w9.cell? ⟨b9, o9 + k, none⟩ = some (.string ⟨(wordAt [text, s0, s1, tb] k).toArray⟩) from ⟨hb9, hc9⟩); clear hown' hg hb9 hc9))
        clear HBl HQ2 HBn HO9 HO
        have HBw9 := hid (show Below w.heap.size w w9 from below_trans HBP.out (HQs.out _ HB9.out))
        clear HB7 HB9 KB HQs HQle
        go_loopw [21] (fun i wr => ∃ k : Nat, k ≤ 4 ∧ i = .int .i64 k ∧ Below w9.heap.size w9 wr) (fun i _ => 4 - (intOf i).toNat)
        case atStart => exact ⟨0, by omega, rfl, Below.refl _ _⟩
        case round =>
          obtain ⟨k, hk, rfl, hb⟩ := hrel
          obtain ⟨wo, rfl⟩ : ∃ wo : World, wo = wr := ⟨_, rfl⟩
          have KB := hid hb
          clear hb
          by_cases hlt : k < 4
          · have i1 : (k : Int) < 4 := by omega
            have z2 : IntKind.i64.wrap ((k : Int) + 1) = (k : Int) + 1 := IntWalk.i64_in _ (by omega)
            have n0 := cell_back KB.out HC9.out.1 (HC9.out.2 k hlt)
            have HLt := hid hlt
            obtain ⟨tk, htk⟩ : ∃ tk, wordAt [text, s0, s1, tb] k = tk := ⟨_, rfl⟩
            rw [htk] at n0
            have HN0 := hid (fun (W' : World) (hb : Below wo.heap.size wo W') => cell_now hb n0)
            have hrd := pread_any tk wo (HE.out.go (below_trans HBw9.out KB.out))
            have hrr := fun W' => rpread_any tk W'
            unfold ReadAPost at hrd hrr
            have hsm := readA_few tk
            obtain ⟨xr, hx⟩ : ∃ x, (readA tk).1.1 = x := ⟨_, rfl⟩
            obtain ⟨xw, hxw⟩ : ∃ x, (readA tk).1.2 = x := ⟨_, rfl⟩
            obtain ⟨r, hr⟩ : ∃ r, (readA tk).2.1 = r := ⟨_, rfl⟩
            obtain ⟨g, hg⟩ : ∃ g, (readA tk).2.2 = g := ⟨_, rfl⟩
            rw [hx, hxw, hr, hg] at hrd hrr
            rw [hxw] at hsm
            have HRd := hid hrd
            have HRr := hid hrr
            have HSm := hid hsm
            clear htk hrd hrr hx hxw hr hg hsm hk hlt
            go_wp2_with fail
            refine HRd.out.mono ?_
            rintro e w10 ⟨up, rfl, hown, hb10⟩
            obtain ⟨ep, jp, rfl⟩ := OwnR.form hown
            have hbo := below_alloc w10 (.cells #[.int .i64 xr, .slice ep xw.length jp] 24)
            have hbx := heap_alloc_new w10 (.cells #[.int .i64 xr, .slice ep xw.length jp] 24)
            have HO10 := hid ((hown.later hbo).at (d := none) (by simp))
            have HB11 := hid (below_trans hb10 hbo)
            obtain ⟨w11, hw11⟩ : ∃ w11, w10.alloc (.cells #[.int .i64 xr, .slice ep xw.length jp] 24) = w11 := ⟨_, rfl⟩
            rw [hw11] at hbx HO10 HB11
            obtain ⟨Y, hY⟩ : ∃ Y, w10.heap.size = Y := ⟨_, rfl⟩
            rw [hY] at hbx
            have HBx := hid hbx
            have n0 := HN0.out _ HB11.out
            clear hown hb10 hbo hbx HRd
            go_upto_region 18 with fail
            clear hw11 hY
            go_wp2_with fail
            refine (HRr.out _).mono ?_
            rintro e w12 ⟨up, rfl, hown, hb12⟩
            obtain ⟨fp, hp, rfl⟩ := OwnR.form hown
            have hbo := below_alloc w12 (.cells #[.int .i64 xr, .slice fp xw.length hp] 24)
            have hbx := heap_alloc_new w12 (.cells #[.int .i64 xr, .slice fp xw.length hp] 24)
            have HO12 := hid ((hown.later hbo).at (d := none) (by simp))
            have hb13 := below_trans hb12 hbo
            obtain ⟨w13, hw13⟩ : ∃ w13, w12.alloc (.cells #[.int .i64 xr, .slice fp xw.length hp] 24) = w13 := ⟨_, rfl⟩
            rw [hw13] at hbx HO12 hb13
            have HO10 := hid (HO10.out.below hb13)
            have hyy := (hb13.block Y (blkP_lt HBx.out)).trans HBx.out
            have HB13 := hid (below_trans KB.out (below_trans HB11.out hb13))
            obtain ⟨X2, hX2⟩ : ∃ X2, w12.heap.size = X2 := ⟨_, rfl⟩
            rw [hX2] at hbx
            clear n0
            go_upto_region 19 with fail
            have y0 : w13.cell? ⟨Y, 0, none⟩ = some (.int .i64 xr) := by rw [Lib.cell_of_heap hyy]; rfl
            have y1 : w13.cell? ⟨Y, 1, none⟩ = some (.slice ep xw.length jp) := by rw [Lib.cell_of_heap hyy]; rfl
            have x0 : w13.cell? ⟨X2, 0, none⟩ = some (.int .i64 xr) := by rw [Lib.cell_of_heap hbx]; rfl
            have x1 : w13.cell? ⟨X2, 1, none⟩ = some (.slice fp xw.length hp) := by rw [Lib.cell_of_heap hbx]; rfl
            clear hown hb12 hbo hbx hb13 hw13 hX2 hyy HBx HB11 HRr HN0
            go_wp2_with (go_at_call 14; refine (eqSchools_same xw xr _ _ none none _ HO10.out HO12.out (by have := HSm.out; omega)).mono ?_; rintro e w14 ⟨rfl, hb14⟩; have HB13 := hid (below_trans HB13.out hb14); clear hb14 y0 y1 x0 x1)
            go_roundw
            case rel => exact ⟨k + 1, by have := HLt.out; omega, by go_num, HB13.out⟩
            case measure => have := HLt.out; simp [intOf] <;> omega
          obtain rfl : k = 4 := by omega
          have i1 : ¬ ((4 : Nat) : Int) < 4 := by omega
          clear hk hlt
          go_wp2_with (go_at_call 6; refine (AW.out _).mono ?_; rintro e w3 ⟨rfl, hb3⟩; have KB := hid (below_trans KB.out hb3); clear hb3)
          go_ret
          exact ⟨rfl, below_trans HBw9.out KB.out⟩
end Go.Proofs.YtefdopifebhgiaaGreatDoor
