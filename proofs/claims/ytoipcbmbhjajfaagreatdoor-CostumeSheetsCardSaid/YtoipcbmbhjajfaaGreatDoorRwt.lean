/-
  WALKS: the reference's Write.
  WALKS: kit.Blot.
-/
import Derived.Test.YtoipcbmbhjajfaaGreatDoorRpr
import Derived.Test.YtoipcbmbhjajfaaGreatDoorRck
import Derived.Test.YtoipcbmbhjajfaaGreatDoorBwc
import Derived.Test.YtoipcbmbhjajfaaGreatDoorBrd
import Derived.Test.YtoipcbmbhjajfaaGreatDoorFlo2
import Derived.Test.YtoipcbmbhjajfaaGreatDoorKdo
import Derived.Laws.IdiomStrings
import Derived.Laws.Strings3
namespace Go.Proofs.YtoipcbmbhjajfaaGreatDoor
open Go.RowKit

theorem add_row (word : List UInt8) (xs : List Int) (b : List UInt8) (h1 : b.length ≤ 500000) (h2 : (rowL word xs []).length ≤ 500000) (W : World) : (Op.stringOp .add ⟨b.toArray⟩ ⟨(rowL word xs []).toArray⟩).run Tryz.prog W = .ok (.string ⟨(rowL word xs b).toArray⟩) W := by
  rw [run_string_add_sum W _ _ (by simp [ByteArray.size]; omega), ByteArray.mk_append_mk]
  have e : b ++ rowL word xs [] = rowL word xs b := by rw [row_line, row_line word xs b]; simp
  rw [← e]

set_option maxHeartbeats 8000000 in
set_option maxRecDepth 100000 in
theorem rwrite_any (p : Plot) (vp vw vd vq : Value) (w : World) (h : PlotAt none w vp vw vd vq p) (ht : Tab w) :
    Calls Tryz.prog 10 #[plotV vp vw vd vq] w fun e w' => e = .returned (.tuple #[.string ⟨(sheetRes p).toArray⟩, .int .i64 (plotErr p)]) ∧ Below w.heap.size w w' := by
  have H := hid h
  have HT := hid ht
  have HC := hid (fun W' hb => rcheck_plot p vp vw vd vq W' (H.out.below hb))
  obtain ⟨ap, cp, rfl⟩ := h.persons.form
  obtain ⟨aw, cw, rfl⟩ := h.walk.form
  obtain ⟨ad, cd, ed, _⟩ := h.dress
  subst ed
  obtain ⟨aq, cq, rfl⟩ := h.parts.form
  clear h ht
  have K := hid ((HK.start w).box4m (n := w.heap.size) rfl (.slice ap p.persons.length cp) (.slice aw p.walk.length cw) (.slice ad p.dress.length cd) (.slice aq p.parts.length cq) 27)
  by_cases hc : plotErr p = 0
  rotate_left
  · obtain ⟨e1, e2⟩ := ne_bool hc
    have hr : sheetRes p = [] := by unfold sheetRes; rw [if_neg hc]
    rw [hr]
    obtain ⟨ce, hce⟩ : ∃ ce, plotErr p = ce := ⟨_, rfl⟩
    rw [hce] at HC e1 e2 ⊢
    clear hc hr hce
    go_enter Tryz.func10, Tryz.ntmps10
    go_wp2_with (go_at_call 24; refine (HC.out _ K.out.below).mono ?_; rintro e w1 ⟨rfl, hb1⟩; have K := hid (K.out.later hb1); clear hb1)
    go_ret2
    exact ⟨rfl, K.out.below⟩
  · have HV := hid (plotErr_zero.1 hc)
    have hr : sheetRes p = sheetL p := by unfold sheetRes; rw [if_pos hc]
    rw [hr, hc]
    rw [hc] at HC
    clear hr hc
    go_enter Tryz.func10, Tryz.ntmps10
    go_wp2_with (go_at_call 24; refine (HC.out _ K.out.below).mono ?_; rintro e w1 ⟨rfl, hb1⟩; have K := hid (K.out.later hb1); clear hb1; have c0 := K.out.c (b := w.heap.size) (o := 0) (v := .slice ap p.persons.length cp) (by simp))
    have x1 := K.out.c (b := w.heap.size) (o := 1) (v := .slice aw p.walk.length cw) (by simp)
    have x2 := K.out.c (b := w.heap.size) (o := 2) (v := .slice ad p.dress.length cd) (by simp)
    have x3 := K.out.c (b := w.heap.size) (o := 3) (v := .slice aq p.parts.length cq) (by simp)
    have hTl := World.block_lt_of_cell? w1 ⟨w.heap.size, 0, none⟩ c0
    have HX0 := hid (fun (W' : World) (hb : Below w1.heap.size w1 W') => cell_back hb hTl c0)
    have HX1 := hid (fun (W' : World) (hb : Below w1.heap.size w1 W') => cell_back hb hTl x1)
    have HX2 := hid (fun (W' : World) (hb : Below w1.heap.size w1 W') => cell_back hb hTl x2)
    have HX3 := hid (fun (W' : World) (hb : Below w1.heap.size w1 W') => cell_back hb hTl x3)
    have HP := hid (fun (W' : World) (hb : Below w1.heap.size w1 W') => (H.out.below K.out.below).below hb)
    have HTB := hid (fun (W' : World) (hb : Below w1.heap.size w1 W') => HT.out.base (Nat.le_refl _) (below_trans K.out.below hb))
    have HBT := hid (fun (W' : World) (hb : Below w1.heap.size w1 W') => below_trans K.out.below hb)
    obtain ⟨T, hT⟩ : ∃ T, w.heap.size = T := ⟨_, rfl⟩
    rw [hT] at HX0 HX1 HX2 HX3 ⊢
    clear x1 x2 x3 hTl c0 hT K H HT HC
    go_loopw [5, 6] (fun s i wr => ∃ k : Nat, k ≤ p.persons.length ∧ i = .int .i64 k ∧ OwnInts w1.heap.size wr s (sizesL (p.persons.take k)) ∧ Below w1.heap.size w1 wr) (fun _ i _ => p.persons.length - (intOf i).toNat)
    case atStart => exact ⟨0, by omega, rfl, own_nil _ _, Below.refl _ _⟩
    case round =>
      obtain ⟨k, hk, rfl, ho, hkw⟩ := hrel
      obtain ⟨wo, rfl⟩ : ∃ wo : World, wo = wr := ⟨_, rfl⟩
      have KR := hid hkw
      have HO := hid ho
      have HPl := hid HV.out.persons
      obtain ⟨sa, sc, es⟩ := (own_int.2 ho).form
      have hsl : (sizesL (p.persons.take k)).length = 2 * k := by rw [sizesL_length, List.length_take]; omega
      rw [hsl] at es
      subst es
      have c0 := HX0.out _ hkw
      clear hkw ho hsl
      by_cases hlt : k < p.persons.length
      · have hg := SpansAt.cells (HP.out _ KR.out).persons hlt
        obtain ⟨bp, op, rfl, _, q0, q1⟩ := hg
        have i1 : (k : Int) < (p.persons.length : Int) := by omega
        have z2 : IntKind.i64.wrap ((k : Int) + 1) = (k : Int) + 1 := IntWalk.i64_in _ (by have := HPl.out; omega)
        have HST := hid (sizesL_take p.persons hlt)
        obtain ⟨lo, hlo⟩ : ∃ lo, (sp p.persons k).1 = lo := ⟨_, rfl⟩
        obtain ⟨hi, hhi⟩ : ∃ hi, (sp p.persons k).2 = hi := ⟨_, rfl⟩
        rw [hlo] at q0 HST
        rw [hhi] at q1 HST
        have HQ1 := hid (show (sizesL (p.persons.take k)).length + [lo, hi].length ≤ 1000000 from by rw [sizesL_length, List.length_take]; have := HPl.out; simp; omega)
        have HLN := hid (show (sizesL (p.persons.take k) ++ [lo, hi]).length = 2 * k + 2 from by rw [List.length_append, sizesL_length, List.length_take, Nat.min_eq_left hk]; rfl)
        have HD := hid (fun W' (hb : Below wo.heap.size wo W') => (⟨cell_back hb (World.block_lt_of_cell? _ _ c0) c0, cell_back hb (World.block_lt_of_cell? _ _ q0) q0, cell_back hb (World.block_lt_of_cell? _ _ q1) q1⟩ : W'.cell? ⟨T, 0, none⟩ = some (.slice (some ⟨bp, op, none⟩) p.persons.length cp) ∧ W'.cell? ⟨bp, op + k * 2, none⟩ = some (.int .i64 lo) ∧ W'.cell? ⟨bp, op + k * 2 + 1, none⟩ = some (.int .i64 hi)))
        clear hlo hhi q0 q1
        go_upto_region 8 with fail
        refine wp_named ?_
        intro ac0 hac0
        have HN := hid (show ac0.tmps.size = 93 from by rw [hac0]; rfl)
        have r5 : ac0.eval (.tmp 5) = .slice sa (2 * k) sc := by rw [hac0]; rfl
        have r1 : ac0.eval (.tmp 1) = .pointer (some ⟨T, 0, none⟩) := by rw [hac0]; rfl
        have r6 : ac0.eval (.tmp 6) = .int .i64 (k : Int) := by rw [hac0]; rfl
        have HA := hid hac0
        clear hac0
        refine wp_region_flow_tail 14 (by kernel_rfl) (by kernel_rfl) [23, 24, 25, 26, 27, 28, 29, 30, 31, 32, 33, 34, 35, 36] 100
          (fun _ w' => Below wo.heap.size wo w') (fun a b => Below a.heap.size a b) (fun _ _ => False)
          (fun _ ix v w' => match ix with
            | 0 => v = .slice sa (2 * k) sc
            | 1 => v = .pointer (some ⟨T, 0, none⟩)
            | 2 => v = .slice (some ⟨bp, op, none⟩) p.persons.length cp
            | 3 => v = .int .i64 (k : Int)
            | 4 => v = .pointer (some ⟨bp, op + k * 2, none⟩)
            | 5 => v = .pointer (some ⟨bp, op + k * 2, none⟩)
            | 6 => v = .int .i64 lo
            | 7 => v = .pointer (some ⟨T, 0, none⟩)
            | 8 => v = .slice (some ⟨bp, op, none⟩) p.persons.length cp
            | 9 => v = .int .i64 (k : Int)
            | 10 => v = .pointer (some ⟨bp, op + k * 2, none⟩)
            | 11 => v = .pointer (some ⟨bp, op + k * 2 + 1, none⟩)
            | 12 => v = .int .i64 hi
            | 13 => (∃ z : Nat, v = .slice (some ⟨z, 0, none⟩) 2 2) ∧ IntsAt none w' v [lo, hi]
            | _ => True)
          [0, 1, 2, 3, 4, 5, 6, 7, 8, 9, 10, 11, 12, 13] (by kernel_rfl) (by kernel_rfl) rfl ?_ ?_ ?_ ?_ ?_
        · intro bt ix v w2 w3' hW hg hy
          match ix with
          | 0 => exact hy
          | 1 => exact hy
          | 2 => exact hy
          | 3 => exact hy
          | 4 => exact hy
          | 5 => exact hy
          | 6 => exact hy
          | 7 => exact hy
          | 8 => exact hy
          | 9 => exact hy
          | 10 => exact hy
          | 11 => exact hy
          | 12 => exact hy
          | 13 => exact ⟨hy.1.elim fun z hz => ⟨z, hz⟩, hy.2.below hg⟩
          | n + 14 => exact trivial
        · intro ix v w2 w3' _ h; exact h.elim
        · exact (Below.refl _ _).drew
        · skip
          refine StepF.val (i := 0) (o := _) rfl (by decide) ?_ ?_
          · intro bb vs wx _ hW hY
            refine ⟨fl_want rfl, fun ρ hρ => ⟨.slice sa (2 * k) sc, wx, ?_, hW, Below.refl _ _, rfl⟩⟩
            have r_5 : ρ (.tmp 5) = .slice sa (2 * k) sc := by rw [hρ, fl_out rfl, r5]
            have rc : ∀ cv : Value, ρ (.const cv) = cv := fun cv => by rw [hρ]; rfl
            clear hρ
            simp [execOp, rc, go_sem, r_5]
          refine StepF.val (i := 1) (o := _) rfl (by decide) ?_ ?_
          · intro bb vs wx _ hW hY
            refine ⟨fl_want rfl, fun ρ hρ => ⟨.pointer (some ⟨T, 0, none⟩), wx, ?_, hW, Below.refl _ _, rfl⟩⟩
            have r_1 : ρ (.tmp 1) = .pointer (some ⟨T, 0, none⟩) := by rw [hρ, fl_out rfl, r1]
            have rc : ∀ cv : Value, ρ (.const cv) = cv := fun cv => by rw [hρ]; rfl
            clear hρ
            simp [execOp, rc, go_sem, r_1]
          refine StepF.val (i := 2) (o := _) rfl (by decide) ?_ ?_
          · intro bb vs wx _ hW hY
            have y24 : vs 24 = .pointer (some ⟨T, 0, none⟩) := hY 1 24 (by kernel_rfl) (by kernel_rfl)
            refine ⟨fl_want rfl, fun ρ hρ => ⟨.slice (some ⟨bp, op, none⟩) p.persons.length cp, wx, ?_, hW, Below.refl _ _, rfl⟩⟩
            have r_24 : ρ (.tmp 24) = .pointer (some ⟨T, 0, none⟩) := by rw [hρ, fl_in 93 HN.out rfl, y24]
            have q0 := (HD.out _ hW).1
            have rc : ∀ cv : Value, ρ (.const cv) = cv := fun cv => by rw [hρ]; rfl
            clear hρ
            simp [execOp, rc, go_sem, r_24, q0]
          refine StepF.val (i := 3) (o := _) rfl (by decide) ?_ ?_
          · intro bb vs wx _ hW hY
            refine ⟨fl_want rfl, fun ρ hρ => ⟨.int .i64 (k : Int), wx, ?_, hW, Below.refl _ _, rfl⟩⟩
            have r_6 : ρ (.tmp 6) = .int .i64 (k : Int) := by rw [hρ, fl_out rfl, r6]
            have rc : ∀ cv : Value, ρ (.const cv) = cv := fun cv => by rw [hρ]; rfl
            clear hρ
            simp [execOp, rc, go_sem, r_6]
          refine StepF.val (i := 4) (o := _) rfl (by decide) ?_ ?_
          · intro bb vs wx _ hW hY
            have y25 : vs 25 = .slice (some ⟨bp, op, none⟩) p.persons.length cp := hY 2 25 (by kernel_rfl) (by kernel_rfl)
            have y26 : vs 26 = .int .i64 (k : Int) := hY 3 26 (by kernel_rfl) (by kernel_rfl)
            refine ⟨fl_want rfl, fun ρ hρ => ⟨.pointer (some ⟨bp, op + k * 2, none⟩), wx, ?_, hW, Below.refl _ _, rfl⟩⟩
            have r_25 : ρ (.tmp 25) = .slice (some ⟨bp, op, none⟩) p.persons.length cp := by rw [hρ, fl_in 93 HN.out rfl, y25]
            have r_26 : ρ (.tmp 26) = .int .i64 (k : Int) := by rw [hρ, fl_in 93 HN.out rfl, y26]
            have rc : ∀ cv : Value, ρ (.const cv) = cv := fun cv => by rw [hρ]; rfl
            clear hρ
            simp [execOp, rc, go_sem, r_25, r_26, i1]
          refine StepF.val (i := 5) (o := _) rfl (by decide) ?_ ?_
          · intro bb vs wx _ hW hY
            have y27 : vs 27 = .pointer (some ⟨bp, op + k * 2, none⟩) := hY 4 27 (by kernel_rfl) (by kernel_rfl)
            refine ⟨fl_want rfl, fun ρ hρ => ⟨.pointer (some ⟨bp, op + k * 2, none⟩), wx, ?_, hW, Below.refl _ _, rfl⟩⟩
            have r_27 : ρ (.tmp 27) = .pointer (some ⟨bp, op + k * 2, none⟩) := by rw [hρ, fl_in 93 HN.out rfl, y27]
            have rc : ∀ cv : Value, ρ (.const cv) = cv := fun cv => by rw [hρ]; rfl
            clear hρ
            simp [execOp, rc, go_sem, r_27]
          refine StepF.val (i := 6) (o := _) rfl (by decide) ?_ ?_
          · intro bb vs wx _ hW hY
            have y28 : vs 28 = .pointer (some ⟨bp, op + k * 2, none⟩) := hY 5 28 (by kernel_rfl) (by kernel_rfl)
            refine ⟨fl_want rfl, fun ρ hρ => ⟨.int .i64 lo, wx, ?_, hW, Below.refl _ _, rfl⟩⟩
            have r_28 : ρ (.tmp 28) = .pointer (some ⟨bp, op + k * 2, none⟩) := by rw [hρ, fl_in 93 HN.out rfl, y28]
            have q0 := (HD.out _ hW).2.1
            have rc : ∀ cv : Value, ρ (.const cv) = cv := fun cv => by rw [hρ]; rfl
            clear hρ
            simp [execOp, rc, go_sem, r_28, q0]
          refine StepF.val (i := 7) (o := _) rfl (by decide) ?_ ?_
          · intro bb vs wx _ hW hY
            refine ⟨fl_want rfl, fun ρ hρ => ⟨.pointer (some ⟨T, 0, none⟩), wx, ?_, hW, Below.refl _ _, rfl⟩⟩
            have r_1 : ρ (.tmp 1) = .pointer (some ⟨T, 0, none⟩) := by rw [hρ, fl_out rfl, r1]
            have rc : ∀ cv : Value, ρ (.const cv) = cv := fun cv => by rw [hρ]; rfl
            clear hρ
            simp [execOp, rc, go_sem, r_1]
          refine StepF.val (i := 8) (o := _) rfl (by decide) ?_ ?_
          · intro bb vs wx _ hW hY
            have y30 : vs 30 = .pointer (some ⟨T, 0, none⟩) := hY 7 30 (by kernel_rfl) (by kernel_rfl)
            refine ⟨fl_want rfl, fun ρ hρ => ⟨.slice (some ⟨bp, op, none⟩) p.persons.length cp, wx, ?_, hW, Below.refl _ _, rfl⟩⟩
            have r_30 : ρ (.tmp 30) = .pointer (some ⟨T, 0, none⟩) := by rw [hρ, fl_in 93 HN.out rfl, y30]
            have q0 := (HD.out _ hW).1
            have rc : ∀ cv : Value, ρ (.const cv) = cv := fun cv => by rw [hρ]; rfl
            clear hρ
            simp [execOp, rc, go_sem, r_30, q0]
          refine StepF.val (i := 9) (o := _) rfl (by decide) ?_ ?_
          · intro bb vs wx _ hW hY
            refine ⟨fl_want rfl, fun ρ hρ => ⟨.int .i64 (k : Int), wx, ?_, hW, Below.refl _ _, rfl⟩⟩
            have r_6 : ρ (.tmp 6) = .int .i64 (k : Int) := by rw [hρ, fl_out rfl, r6]
            have rc : ∀ cv : Value, ρ (.const cv) = cv := fun cv => by rw [hρ]; rfl
            clear hρ
            simp [execOp, rc, go_sem, r_6]
          refine StepF.val (i := 10) (o := _) rfl (by decide) ?_ ?_
          · intro bb vs wx _ hW hY
            have y31 : vs 31 = .slice (some ⟨bp, op, none⟩) p.persons.length cp := hY 8 31 (by kernel_rfl) (by kernel_rfl)
            have y32 : vs 32 = .int .i64 (k : Int) := hY 9 32 (by kernel_rfl) (by kernel_rfl)
            refine ⟨fl_want rfl, fun ρ hρ => ⟨.pointer (some ⟨bp, op + k * 2, none⟩), wx, ?_, hW, Below.refl _ _, rfl⟩⟩
            have r_31 : ρ (.tmp 31) = .slice (some ⟨bp, op, none⟩) p.persons.length cp := by rw [hρ, fl_in 93 HN.out rfl, y31]
            have r_32 : ρ (.tmp 32) = .int .i64 (k : Int) := by rw [hρ, fl_in 93 HN.out rfl, y32]
            have rc : ∀ cv : Value, ρ (.const cv) = cv := fun cv => by rw [hρ]; rfl
            clear hρ
            simp [execOp, rc, go_sem, r_31, r_32, i1]
          refine StepF.val (i := 11) (o := _) rfl (by decide) ?_ ?_
          · intro bb vs wx _ hW hY
            have y33 : vs 33 = .pointer (some ⟨bp, op + k * 2, none⟩) := hY 10 33 (by kernel_rfl) (by kernel_rfl)
            refine ⟨fl_want rfl, fun ρ hρ => ⟨.pointer (some ⟨bp, op + k * 2 + 1, none⟩), wx, ?_, hW, Below.refl _ _, rfl⟩⟩
            have r_33 : ρ (.tmp 33) = .pointer (some ⟨bp, op + k * 2, none⟩) := by rw [hρ, fl_in 93 HN.out rfl, y33]
            have rc : ∀ cv : Value, ρ (.const cv) = cv := fun cv => by rw [hρ]; rfl
            clear hρ
            simp [execOp, rc, go_sem, r_33]
          refine StepF.val (i := 12) (o := _) rfl (by decide) ?_ ?_
          · intro bb vs wx _ hW hY
            have y34 : vs 34 = .pointer (some ⟨bp, op + k * 2 + 1, none⟩) := hY 11 34 (by kernel_rfl) (by kernel_rfl)
            refine ⟨fl_want rfl, fun ρ hρ => ⟨.int .i64 hi, wx, ?_, hW, Below.refl _ _, rfl⟩⟩
            have r_34 : ρ (.tmp 34) = .pointer (some ⟨bp, op + k * 2 + 1, none⟩) := by rw [hρ, fl_in 93 HN.out rfl, y34]
            have q0 := (HD.out _ hW).2.2
            have rc : ∀ cv : Value, ρ (.const cv) = cv := fun cv => by rw [hρ]; rfl
            clear hρ
            simp [execOp, rc, go_sem, r_34, q0]
          refine StepF.val (i := 13) (o := _) rfl (by decide) ?_ ?_
          · intro bb vs wx _ hW hY
            have y29 : vs 29 = .int .i64 lo := hY 6 29 (by kernel_rfl) (by kernel_rfl)
            have y35 : vs 35 = .int .i64 hi := hY 12 35 (by kernel_rfl) (by kernel_rfl)
            refine ⟨fl_want rfl, fun ρ hρ => ⟨.slice (some ⟨wx.heap.size, 0, none⟩) 2 2, wx.alloc (.cells #[.int .i64 lo, .int .i64 hi] 3), ?_, hW.trans ((below_alloc _ _).mono hW.size), below_alloc _ _, ⟨⟨_, rfl⟩, OwnInts.at (d := none) (own_lit wx [lo, hi] #[.int .i64 lo, .int .i64 hi] rfl (by simp) (n := 2) (g := wx.heap.size) rfl rfl) (by simp)⟩⟩⟩
            have r_29 : ρ (.tmp 29) = .int .i64 lo := by rw [hρ, fl_in 93 HN.out rfl, y29]
            have r_35 : ρ (.tmp 35) = .int .i64 hi := by rw [hρ, fl_in 93 HN.out rfl, y35]
            have rc : ∀ cv : Value, ρ (.const cv) = cv := fun cv => by rw [hρ]; rfl
            clear hρ
            simp [execOp, rc, go_sem, r_29, r_35]
          exact StepF.nil
        · intro vs wx hW hY
          have y36 : (∃ z : Nat, vs 36 = .slice (some ⟨z, 0, none⟩) 2 2) ∧ IntsAt none wx (vs 36) [lo, hi] := hY 13 36 (by kernel_rfl)
          have y23 : vs 23 = .slice sa (2 * k) sc := hY 0 23 (by kernel_rfl)
          obtain ⟨⟨z, ez⟩, hsp⟩ := y36
          rw [ez] at hsp
          have HSr := hid (Src.ints hsp (IntsAt.soundI hsp (by simp)))
          have HOW := hid (own_int.2 (HO.out.later hW))
          have HBW := hid (KR.out.trans (hW.mono KR.out.size))
          clear hY hW hsp HD r1 r5 r6 HN i1
          rw [HA.out]
          simp only [putAll, Act.put, List.setIfInBounds_toArray, List.set_cons_zero, List.set_cons_succ, List.drop_succ_cons, List.drop_zero]
          rw [ez, y23]
          clear ez y23 HA
          go_wp2_with (at_builtin; refine wpList_app encInt Tryz.underlying24 infoInt' (by decide) (by decide) (fun _ => rfl) rfl _ _ rfl w1.heap.size (sizesL (p.persons.take k)) [lo, hi] (fun y _ => encInt_one y) _ _ rfl rfl HOW.out HSr.out HQ1.out HBW.out.size ?_; intro v' w2 hown' hg _ _; have HB2 := hid (HBW.out.grown hg HBW.out.size (fun j hj => (HOW.out.lt hj).1)); have HO2 := hid (own_int.1 hown'); obtain ⟨a2, c2, e2⟩ := hown'.form; rw [HLN.out] at e2; subst e2; clear hown' hg)
          go_roundw
          case rel => exact ⟨k + 1, by omega, by go_num, by rw [HST.out]; exact HO2.out, HB2.out⟩
          case measure => simp [intOf] <;> omega
      obtain rfl : k = p.persons.length := by omega
      rw [List.take_length] at HO
      have HW1 := hid (rowL_len (word := personsW) (b := []) (fine_sizes HV.out))
      go_wp2_with fail
      refine (rrow_any personsW (sizesL p.persons) _ _ (OwnInts.at HO.out (by simp)) (fine_sizes HV.out) (HTB.out _ KR.out) ?_).mono ?_
      · rw [sizesL_length]; have := HPl.out; simp [personsW]; omega
      rintro e w3 ⟨rfl, hb⟩
      have KR := hid (below_trans KR.out (hb.mono (Nat.le_refl _)))
      have y1 := HX1.out _ KR.out
      have HWl := hid HV.out.walk
      clear hb HO HW1 c0
      go_wp2_with fail
      obtain ⟨out0, hout0⟩ : ∃ o, rowL personsW (sizesL p.persons) [] = o := ⟨_, rfl⟩
      rw [hout0]
      have HUW := hid (show upToWalk p = out0 from hout0)
      clear hout0
      go_loopw [7, 8] (fun s i wr => ∃ k : Nat, k ≤ p.walk.length ∧ i = .int .i64 k ∧ s = .string ⟨(walksL p.walk out0 k).toArray⟩ ∧ Below w1.heap.size w1 wr) (fun _ i _ => p.walk.length - (intOf i).toNat)
      case atStart => exact ⟨0, by omega, rfl, rfl, KR.out⟩
      case round =>
        obtain ⟨k, hk, rfl, rfl, hkw⟩ := hrel
        obtain ⟨wo, rfl⟩ : ∃ wo : World, wo = wr := ⟨_, rfl⟩
        have KR := hid hkw
        have HL := hid (walksL_len HV.out (b := out0) hk)
        have HL1 := hid (show out0.length ≤ 1000 from by rw [← HUW.out]; exact upToWalk_len HV.out)
        have y1 := HX1.out _ hkw
        clear hkw
        by_cases hlt : k < p.walk.length
        · obtain ⟨bw, ow, u, rfl, hbw, q1, hrow⟩ := ListsAt.row (HP.out _ KR.out).walk hlt
          have q0 := q1
          have HS := hid hrow
          obtain ⟨au, cu, eu, _⟩ := hrow
          subst eu
          have i1 : (k : Int) < (p.walk.length : Int) := by omega
          have z2 : IntKind.i64.wrap ((k : Int) + 1) = (k : Int) + 1 := IntWalk.i64_in _ (by have := HWl.out; omega)
          have HF := hid (fine_walk HV.out hlt)
          have HR1 := rowL_len (word := walkW) (b := []) HF.out.1
          have hadd := add_row walkW (lst p.walk k) (walksL p.walk out0 k) (by have := HL.out; have := HL1.out; have := HWl.out; omega) (by have := HF.out.2; have e0 : walkW.length = 4 := rfl; have e1 : ([] : List UInt8).length = 0 := rfl; omega)
          have HST := hid (show walksL p.walk out0 (k + 1) = rowL walkW (lst p.walk k) (walksL p.walk out0 k) from rfl)
          clear q1 hbw HR1
          go_wp2_with fail
          refine (rrow_any walkW (lst p.walk k) _ _ HS.out HF.out.1 (HTB.out _ KR.out) ?_).mono ?_
          · have := HF.out.2; simp [walkW]; omega
          rintro e w4 ⟨rfl, hb⟩
          have KR := hid (below_trans KR.out hb)
          clear hb q0
          go_wp2_with fail
          go_roundw
          case rel => exact ⟨k + 1, by omega, by go_num, by rw [HST.out], KR.out⟩
          case measure => simp [intOf] <;> omega
        obtain rfl : k = p.walk.length := by omega
        have y2 := HX2.out _ KR.out
        have HDl := hid HV.out.dress
        have HL2 := hid (upToDress_len HV.out)
        have HUD := hid (show upToDress p = walksL p.walk out0 p.walk.length from by rw [← HUW.out]; rfl)
        obtain ⟨o2, ho2⟩ : ∃ o, walksL p.walk out0 p.walk.length = o := ⟨_, rfl⟩
        rw [ho2] at HUD ⊢
        rw [HUD.out] at HL2
        have HR1 := rowL_len (word := dressW) (b := []) (fine_dress HV.out)
        have hadd := add_row dressW p.dress o2 (by have := HL2.out; omega) (by have := HDl.out; have e0 : dressW.length = 5 := rfl; have e1 : ([] : List UInt8).length = 0 := rfl; omega)
        clear ho2 HR1
        go_wp2_with fail
        refine (rrow_any dressW p.dress _ _ (HP.out _ KR.out).dress (fine_dress HV.out) (HTB.out _ KR.out) ?_).mono ?_
        · have := HDl.out; simp [dressW]; omega
        rintro e w5 ⟨rfl, hb⟩
        have KR := hid (below_trans KR.out hb)
        have y3 := HX3.out _ KR.out
        have HQl := hid HV.out.few
        have HL3 := hid (upToParts_len HV.out)
        have HUP := hid (show upToParts p = rowL dressW p.dress o2 from by rw [← HUD.out]; rfl)
        clear hb y1 y2
        go_wp2_with fail
        clear hadd
        obtain ⟨o3, ho3⟩ : ∃ o, rowL dressW p.dress o2 = o := ⟨_, rfl⟩
        rw [ho3] at HUP ⊢
        rw [HUP.out] at HL3
        clear ho3
        go_loopw [7, 9] (fun s i wr => ∃ k : Nat, k ≤ p.parts.length ∧ i = .int .i64 k ∧ s = .string ⟨(partsL p.parts o3 k).toArray⟩ ∧ Below w1.heap.size w1 wr) (fun _ i _ => p.parts.length - (intOf i).toNat)
        case atStart => exact ⟨0, by omega, rfl, rfl, KR.out⟩
        case round =>
          obtain ⟨k, hk, rfl, rfl, hkw⟩ := hrel
          obtain ⟨wp, rfl⟩ : ∃ wp : World, wp = wr := ⟨_, rfl⟩
          have KR := hid hkw
          have HL := hid (partsL_len HV.out (b := o3) hk)
          have y3 := HX3.out _ hkw
          clear hkw
          by_cases hlt : k < p.parts.length
          · have hg := PartsAt.cells (HP.out _ KR.out).parts hlt
            obtain ⟨bq, oq, rfl, _, d0, d1, d2, d3, d4⟩ := hg
            have i1 : (k : Int) < (p.parts.length : Int) := by omega
            have z2 : IntKind.i64.wrap ((k : Int) + 1) = (k : Int) + 1 := IntWalk.i64_in _ (by have := HQl.out; omega)
            have HF := hid (fine_part HV.out hlt)
            have HST := hid (show partsL p.parts o3 (k + 1) = rowL partW (partN (pt p.parts k)) (partsL p.parts o3 k) from rfl)
            obtain ⟨x, hx⟩ : ∃ x, pt p.parts k = x := ⟨_, rfl⟩
            rw [hx] at d0 d1 d2 d3 d4 HF HST
            have HLT := hid hlt
            clear hx
            have BA := hid (below_trans (below_alloc wp (.cells #[.int .i64 x.person, .int .i64 x.place, .int .i64 x.kind, .int .i64 x.start, .int .i64 x.stop] 60)) (below_alloc _ (.cells #[.int .i64 x.person, .int .i64 x.place, .int .i64 x.kind, .int .i64 x.start, .int .i64 x.stop] 3)))
            have HI := hid (own_lit (wp.alloc (.cells #[.int .i64 x.person, .int .i64 x.place, .int .i64 x.kind, .int .i64 x.start, .int .i64 x.stop] 60)) (partN x) #[.int .i64 x.person, .int .i64 x.place, .int .i64 x.kind, .int .i64 x.start, .int .i64 x.stop] rfl (by simp [partN]) (n := 5) (g := wp.heap.size + 1) rfl (by simp))
            have KR := hid (below_trans KR.out BA.out)
            have HR1 := rowL_len (word := partW) (b := []) HF.out
            have hadd := add_row partW (partN x) (partsL p.parts o3 k) (by have := HL.out; have := HL3.out; have := HQl.out; omega) (by have e0 : partW.length = 4 := rfl; have e1 : ([] : List UInt8).length = 0 := rfl; have e2 : (partN x).length = 5 := rfl; omega)
            clear HR1
            go_wp2_with (refine wpList_five_n rfl _ _ _ _ _ _ _ _ _ _ rfl rfl rfl rfl rfl rfl ?_)
            refine (rrow_any partW (partN x) _ _ (OwnInts.at HI.out (by simp)) HF.out (HTB.out _ KR.out) ?_).mono ?_
            · simp [partW, partN]
            rintro e w6 ⟨rfl, hb⟩
            have KR := hid (below_trans KR.out hb)
            clear hb d0 d1 d2 d3 d4
            go_wp2_with fail
            go_roundw
            case rel => exact ⟨k + 1, by omega, by go_num, by rw [HST.out], KR.out⟩
            case measure => simp [intOf] <;> omega
          obtain rfl : k = p.parts.length := by omega
          have HI := hid (own_lit wp [(p.parts.length : Int)] #[.int .i64 p.parts.length] rfl (by simp) (n := 1) (g := wp.heap.size) rfl rfl)
          have KR := hid (below_trans KR.out (below_alloc wp (.cells #[.int .i64 p.parts.length] 3)))
          have hok : NumsOk [(p.parts.length : Int)] := by
            intro i hi
            obtain rfl : i = 0 := by have : i < 1 := hi; omega
            show 0 ≤ (p.parts.length : Int) ∧ (p.parts.length : Int) ≤ 1000000
            have := HQl.out
            omega
          have HOK := hid hok
          have HR1 := rowL_len (word := endW) (b := []) hok
          have hadd := add_row endW [(p.parts.length : Int)] (partsL p.parts o3 p.parts.length) (by have := HL.out; have := HL3.out; have := HQl.out; omega) (by have e0 : endW.length = 3 := rfl; have e1 : ([] : List UInt8).length = 0 := rfl; have e2 : [(p.parts.length : Int)].length = 1 := rfl; omega)
          have HSH := hid (show sheetL p = rowL endW [(p.parts.length : Int)] (partsL p.parts o3 p.parts.length) from by rw [← HUP.out]; rfl)
          clear HR1 hok
          go_wp2_with fail
          refine (rrow_any endW [(p.parts.length : Int)] _ _ (OwnInts.at HI.out (by simp)) HOK.out (HTB.out _ KR.out) ?_).mono ?_
          · simp [endW]
          rintro e w7 ⟨rfl, hb⟩
          have KR := hid (below_trans KR.out hb)
          clear hb
          go_wp2_with fail
          go_ret2
          exact ⟨by rw [HSH.out]; rfl, HBT.out _ KR.out⟩
end Go.Proofs.YtoipcbmbhjajfaaGreatDoor

namespace Go.Proofs.YtoipcbmbhjajfaaGreatDoor
open Go.RowKit

theorem str_to (s : ByteArray) (a : Int) (h0 : 0 ≤ a) (h1 : a ≤ (s.size : Int)) : ∃ t : ByteArray, t.size ≤ s.size ∧ ∀ W, (Instr.sliceAt 9 (.string s) none (some (.int .i64 a)) none).run Tryz.prog W = .ok (.string t) W := by
  refine ⟨s.extract 0 a.toNat, by rw [ByteArray.size_extract]; omega, fun W => ?_⟩
  rw [run_sliceAt_string (h := Tryz.underlying9), run_slice_string_to_if (h := Tryz.underlying9), if_pos ⟨h0, h1⟩]
theorem str_from (s : ByteArray) (a : Int) (h0 : 0 ≤ a) (h1 : a ≤ (s.size : Int)) : ∃ t : ByteArray, t.size ≤ s.size ∧ ∀ W, (Instr.sliceAt 9 (.string s) (some (.int .i64 a)) none none).run Tryz.prog W = .ok (.string t) W := by
  refine ⟨s.extract a.toNat s.size, by rw [ByteArray.size_extract]; omega, fun W => ?_⟩
  rw [run_sliceAt_string (h := Tryz.underlying9), run_slice_string_from_if (h := Tryz.underlying9), if_pos ⟨h0, h1⟩]
theorem str_add (s t : ByteArray) (h1 : s.size ≤ 1000000) (h2 : t.size ≤ 1000000) : ∃ u : ByteArray, u.size = s.size + t.size ∧ ∀ W, (Op.stringOp .add s t).run Tryz.prog W = .ok (.string u) W :=
  ⟨s ++ t, by simp, fun W => by rw [run_string_add_sum W _ _ (by omega)]⟩
theorem byte_str (w : World) (n : Int) (hn : 0 ≤ n ∧ n ≤ 255) : (convert 67 9 (.slice (some ⟨w.heap.size, 0, none⟩) 1 1)).run Tryz.prog (w.alloc (.cells #[.int .u8 n] 5)) = .ok (.string ⟨[UInt8.ofNat n.toNat].toArray⟩) (w.alloc (.cells #[.int .u8 n] 5)) :=
  run_convert_bytes_back (w.alloc (.cells #[.int .u8 n] 5)) 67 9 5 ⟨w.heap.size, 0, none⟩ 1 [UInt8.ofNat n.toNat] Tryz.underlying67 Tryz.underlying5 Tryz.underlying9 (fun j hj => by
    obtain rfl : j = 0 := by simp at hj; omega
    refine (cell_at rfl (v := .int .u8 n) rfl).trans ?_
    simp
    omega)

set_option maxHeartbeats 4000000 in
set_option maxRecDepth 100000 in
theorem blot_any (s : List UInt8) (x how n : Int) (w : World) (hs : s.length ≤ 500000) (hx : -9223372036854775808 ≤ x ∧ x ≤ 9223372036854775807) (hh : -9223372036854775808 ≤ how ∧ how ≤ 9223372036854775807) (hn : 0 ≤ n ∧ n ≤ 255) :
    Calls Tryz.prog 11 #[.string ⟨s.toArray⟩, .int .i64 x, .int .i64 how, .int .u8 n] w fun e w' => ∃ t : List UInt8, e = .returned (.string ⟨t.toArray⟩) ∧ Below w.heap.size w w' := by
  have hsz : (⟨s.toArray⟩ : ByteArray).size = s.length := by simp [ByteArray.size]
  have HX := hid hx
  have HH := hid hh
  have HN := hid hn
  have HS := hid hs
  clear hx hh hn hs
  by_cases h0 : s = []
  · subst h0
    go_enter Tryz.func11, Tryz.ntmps11
    go_wp2_with fail
    go_ret
    exact ⟨[], rfl, Below.refl _ _⟩
  · have e0 : (s == ([] : List UInt8)) = false := beq_eq_false_iff_ne.2 h0
    have hl := hid (List.length_pos_iff.2 h0)
    have hcv := byte_str w n HN.out
    obtain ⟨ch, hch⟩ : ∃ ch, [UInt8.ofNat n.toNat] = ch := ⟨_, rfl⟩
    rw [hch] at hcv
    have HCH := hid (show ch.length = 1 from by rw [← hch]; rfl)
    clear h0 hch
    go_enter Tryz.func11, Tryz.ntmps11
    go_upto_region 6 with (first | (go_at_call 32; with_reducible refine (fit_any how 3 _ HH.out (by omega)).mono ?_; rintro e w1 ⟨r, rfl, r0, r1, rfl⟩; have HR := hid (show 0 ≤ r ∧ r < 3 from ⟨r0, by omega⟩); clear r0 r1) | (go_at_call 32; with_reducible refine (fit_any x s.length _ HX.out (by have := HS.out; omega)).mono ?_; rintro e w1 ⟨a, rfl, a0, a1, rfl⟩; have HA := hid (show 0 ≤ a ∧ a < (s.length : Int) from ⟨a0, by have := hl.out; omega⟩); clear a0 a1))
    obtain ⟨t1, l1, f1⟩ := str_to ⟨s.toArray⟩ a HA.out.1 (by rw [hsz]; have := HA.out; omega)
    obtain ⟨t2, l2, f2⟩ := str_from ⟨s.toArray⟩ a HA.out.1 (by rw [hsz]; have := HA.out; omega)
    obtain ⟨t3, l3, f3⟩ := str_from ⟨s.toArray⟩ (a + 1) (by have := HA.out; omega) (by rw [hsz]; have := HA.out; omega)
    rw [hsz] at l1 l2 l3
    have hs := HS.out
    have hch : (⟨ch.toArray⟩ : ByteArray).size = 1 := by rw [← HCH.out]; simp [ByteArray.size]
    obtain ⟨t4, l4, f4⟩ := str_add t1 ⟨ch.toArray⟩ (by omega) (by omega)
    obtain ⟨t5, l5, f5⟩ := str_add t4 t3 (by omega) (by omega)
    obtain ⟨t6, l6, f6⟩ := str_add t1 t3 (by omega) (by omega)
    obtain ⟨t7, l7, f7⟩ := str_add t4 t2 (by omega) (by omega)
    have z1 : IntKind.i64.wrap (a + 1) = a + 1 := IntWalk.i64_in _ (by have := HA.out; omega)
    have i1 : a ≤ (s.length : Int) := by have := HA.out; omega
    have i2 : 0 ≤ a := HA.out.1
    have HB := hid (below_alloc w (.cells #[.int .u8 n] 5))
    clear l1 l2 l3 l4 l5 l6 l7 hs hch hcv hl
    by_cases h0 : r = 0
    · subst h0
      go_upto_region 7 with fail
      go_quiet (fail)
      go_wp2_with fail
      go_ret
      exact ⟨t5.data.toList, by simp, below_drewN HB.out _⟩
    · by_cases h1 : r = 1
      · subst h1
        go_upto_region 9 with fail
        go_quiet (fail)
        go_wp2_with fail
        go_ret
        exact ⟨t6.data.toList, by simp, below_drewN HB.out _⟩
      · obtain ⟨e1, e2⟩ := ne_bool h0
        obtain ⟨e3, e4⟩ := ne_bool h1
        clear h0 h1
        go_upto_region 10 with fail
        go_quiet (fail)
        go_wp2_with fail
        go_ret
        exact ⟨t7.data.toList, by simp, below_drewN HB.out _⟩
end Go.Proofs.YtoipcbmbhjajfaaGreatDoor
