/-
  WALK: Order, the numbers below another one in an order that the drum gives.
-/
import Derived.Test.YtdcinngdilfpnaaCpo
import Derived.Test.YtdcinngdilfpnaaCod
import Derived.Test.YtdcinngdilfpnaaCdz
import Derived.Test.YtdcinngdilfpnaaFlow
namespace Go.Proofs.Ytdcinngdilfpnaa
open Go.RowKit

set_option maxHeartbeats 8000000 in
set_option maxRecDepth 100000 in
theorem order_any (d n : Nat) (w : World) (h : Beat d w) (hn : n ≤ 1000) :
    Calls Try.prog 31 #[.pointer (some ⟨d, 0, none⟩), .int .i64 n] w fun e w' => ∃ v l, e = .returned v ∧ OwnInts w.heap.size w' v l ∧ PermL l ∧ l.length = n ∧ Beat d w' ∧ w.grownBy w' (some d) := by
  have HB := hid h
  have hdl := h.lt
  clear h
  go_enter Try.func31, Try.ntmps31
  go_wp2_with fail
  go_loopw [5, 6] (fun s i wr => ∃ (k : Nat) (l : List Int), k ≤ n ∧ i = .int .i64 k ∧ l.length = k ∧ PermL l ∧ OwnInts w.heap.size wr s l ∧ Beat d wr ∧ w.grownBy wr (some d)) (fun _ i _ => n - (intOf i).toNat)
  case atStart => exact ⟨0, [], by omega, rfl, rfl, permL_nil, own_nil _ _, HB.out, gb_refl _ _⟩
  case round =>
    obtain ⟨k, l, hk, rfl, hl, hpl, ho, hbt, hg⟩ := hrel
    obtain ⟨wo, rfl⟩ : ∃ wo : World, wo = wr := ⟨_, rfl⟩
    have HO := hid (own_int.2 ho)
    have HP := hid hpl
    have HBt := hid hbt
    have HG := hid hg
    obtain ⟨sa, sc, es⟩ := (own_int.2 ho).form
    rw [hl] at es
    subst es
    have HL := hid hl
    clear ho hpl hbt hg hl HB
    by_cases hlt : k < n
    rotate_left
    · obtain rfl : k = n := by omega
      go_wp2_with fail
      go_ret
      exact ⟨_, l, rfl, own_int.1 HO.out, HP.out, HL.out, HBt.out, HG.out⟩
    have i0 : (k : Int) < (n : Int) := by omega
    have z1 : IntKind.i64.wrap ((k : Int) + 1) = (k : Int) + 1 := IntWalk.i64_in _ (by omega)
    go_upto_region 7 with (first
      | (go_at_call 16; (with_reducible refine (roll_any d ((k : Int) + 1) _ HBt.out (by omega)).mono ?_); rintro e w2 ⟨r, rfl, hr0, hr1, hbt, hg⟩; obtain ⟨q, rfl⟩ := Int.eq_ofNat_of_zero_le hr0; have hqk : q ≤ k := (by omega); have HO := hid (HO.out.go hdl hg); have HG := hid (gb_trans HG.out hg); have HBt := hid hbt; clear hbt hg hr0 hr1)
      | (at_builtin; refine wpList_app encInt Try.underlying22 infoInt' (by decide) (by decide) (fun _ => rfl) rfl _ _ rfl w.heap.size l [(k : Int)] (fun y _ => encInt_one y) _ _ rfl rfl (HO.out.later (below_alloc _ _)) (Src.lit encInt w2 (k : Int) _ 1 rfl) (by have := HL.out; simp; omega) (by have := HG.out.size; simp; omega) ?_; intro v' w' hown' hg hnil hat; have HOn := hid hown'; have HGr : Hid ((w2.alloc (.cells (encInt (k : Int)).toArray 3)).grownBy w' (Value.slice sa k sc).ownBlock) := hid hg; have hform : ∃ g c9, v' = .slice (some ⟨g, 0, none⟩) (k + 1) c9 ∧ w.heap.size ≤ g := (by
          rcases hown'.2 with ⟨_, h0⟩ | ⟨g, cap, cur, e, hg, _⟩
          · simp at h0
          · exact ⟨g, cap, by rw [e, List.length_append, List.length_singleton, HL.out], hg⟩); obtain ⟨g, c9, e9, hgw⟩ := hform; subst e9; clear hown' hg hnil hat))
    have HBa := hid (OwnR.below (HO.out.later (below_alloc w2 (.cells (encInt (k : Int)).toArray 3))) HGr.out (by have := HG.out.size; simp; omega))
    have hg2 : w.grownBy w' (some d) := ⟨(HBa.out.os.trans rfl).trans HG.out.os, (HBa.out.tape.trans rfl).trans HG.out.tape, (HBa.out.output.trans rfl).trans HG.out.output, Nat.le_trans HG.out.size (Nat.le_trans (below_alloc w2 _).size HBa.out.size), fun i hi hn => (HBa.out.block i hi).trans (((below_alloc w2 (.cells (encInt (k : Int)).toArray 3)).block i (Nat.lt_of_lt_of_le hi HG.out.size)).trans (HG.out.block i hi hn))⟩
    have hb2 : Beat d w' := by
      obtain ⟨u, q1, q2⟩ := HBt.out.gb (below_alloc w2 (.cells (encInt (k : Int)).toArray 3))
      exact ⟨u, cell_back HBa.out hdl q1, (HBa.out.frozen (p := ⟨d, 0, none⟩) hdl).trans q2⟩
    obtain ⟨m, hm⟩ : ∃ m, l ++ [(k : Int)] = m := ⟨_, rfl⟩
    have hml : m.length = k + 1 := by rw [← hm, List.length_append, List.length_singleton, HL.out]
    have hmp : PermL m := by rw [← hm]; have := permL_snoc HP.out; rw [HL.out] at this; exact this
    rw [hm] at HOn
    obtain ⟨wB, hwB⟩ : ∃ wB, wB = w' := ⟨_, rfl⟩
    rw [← hwB] at HOn hg2 hb2 ⊢
    have HOn := hid (show OwnInts w.heap.size wB (.slice (some ⟨g, 0, none⟩) (k + 1) c9) m from own_int.1 HOn.out)
    have HG := hid hg2
    have HBt := hid hb2
    have HM := hid hml
    have HP := hid hmp
    have i1 : (k : Int) < ((k + 1 : Nat) : Int) := by omega
    have i2 : (q : Int) < ((k + 1 : Nat) : Int) := by omega
    have i3 : (k : Int) < (k : Int) + 1 := by omega
    have i4 : (q : Int) < (k : Int) + 1 := by omega
    obtain ⟨a, ha⟩ : ∃ a, nm m k = a := ⟨_, rfl⟩
    obtain ⟨b, hb⟩ : ∃ b, nm m q = b := ⟨_, rfl⟩
    have Ha := hid ha
    have Hb := hid hb
    have HC := hid (fun W' (l' : List Int) (h : OwnInts w.heap.size W' (.slice (some ⟨g, 0, none⟩) (k + 1) c9) l') (i : Nat) (hi : i < l'.length) => (⟨(IntsAt.cell (OwnInts.at (d := none) h (by simp)) hi).symm ▸ (by rw [Nat.zero_add]), (own_int.2 h).thaw rfl i⟩ : W'.cell? ⟨g, i, none⟩ = some (.int .i64 (nm l' i)) ∧ W'.frozen? ⟨g, i, none⟩ = false))
    clear hm hml hmp hg2 hb2 hwB ha hb HBa HGr HO
    refine wp_region_flow_tail 14 (by kernel_rfl) (by kernel_rfl) [21, 22, 23, 24, 25, 26, 27, 28, 29, 30, 31, 32, 33] 13
      (fun b' w' => OwnInts w.heap.size w' (.slice (some ⟨g, 0, none⟩) (k + 1) c9) (if b' = true then m.set k b else m) ∧ Hid (w' = if b' = true then wB.drew.setCell ⟨g, k, none⟩ (.int .i64 b) else wB.drew)) (fun x y => y = x) (fun _ _ => True)
      (fun _ i v _ => match i with
        | 0 => v = .slice (some ⟨g, 0, none⟩) (k + 1) c9
        | 1 => v = .int .i64 k
        | 2 => v = .slice (some ⟨g, 0, none⟩) (k + 1) c9
        | 3 => v = .int .i64 q
        | 4 => v = .slice (some ⟨g, 0, none⟩) (k + 1) c9
        | 5 => v = .int .i64 q
        | 6 => v = .pointer (some ⟨g, q, none⟩)
        | 7 => v = .int .i64 b
        | 8 => v = .slice (some ⟨g, 0, none⟩) (k + 1) c9
        | 9 => v = .int .i64 k
        | 10 => v = .pointer (some ⟨g, k, none⟩)
        | 11 => v = .int .i64 a
        | 12 => v = .pointer (some ⟨g, k, none⟩)
        | _ => True)
      [0, 1, 2, 3, 4, 5, 6, 7, 8, 9, 10, 11, 12, 13] (by kernel_rfl) (by kernel_rfl) rfl ?_ ?_ ?_ ?_ ?_
    · intro b' i v w3 w4 hW hg hy; exact hy
    · intro i v w3 w4 _ _ hy; exact hy
    · exact ⟨OwnInts.later HOn.out (Below.refl _ _).drew, hid rfl⟩
    · skip
      refine StepF.cons (i := 0) (o := _) rfl (by decide) (fun b2 vs wx hb hW hY K hK => ?_) ?_
      · simp only [putAll, Act.put, List.setIfInBounds_toArray, List.set_cons_zero, List.set_cons_succ]
        go_simp
        have hk := hK.out (.slice (some ⟨g, 0, none⟩) (k + 1) c9) _ hW rfl (fun _ => rfl)
        simp only [putAll, Act.put, List.setIfInBounds_toArray, List.set_cons_zero, List.set_cons_succ] at hk
        exact hk
      refine StepF.cons (i := 1) (o := _) rfl (by decide) (fun b2 vs wx hb hW hY K hK => ?_) ?_
      · simp only [putAll, Act.put, List.setIfInBounds_toArray, List.set_cons_zero, List.set_cons_succ]
        go_simp
        have hk := hK.out (.int .i64 k) _ hW rfl (fun _ => rfl)
        simp only [putAll, Act.put, List.setIfInBounds_toArray, List.set_cons_zero, List.set_cons_succ] at hk
        exact hk
      refine StepF.cons (i := 2) (o := _) rfl (by decide) (fun b2 vs wx hb hW hY K hK => ?_) ?_
      · simp only [putAll, Act.put, List.setIfInBounds_toArray, List.set_cons_zero, List.set_cons_succ]
        go_simp
        have hk := hK.out (.slice (some ⟨g, 0, none⟩) (k + 1) c9) _ hW rfl (fun _ => rfl)
        simp only [putAll, Act.put, List.setIfInBounds_toArray, List.set_cons_zero, List.set_cons_succ] at hk
        exact hk
      refine StepF.cons (i := 3) (o := _) rfl (by decide) (fun b2 vs wx hb hW hY K hK => ?_) ?_
      · simp only [putAll, Act.put, List.setIfInBounds_toArray, List.set_cons_zero, List.set_cons_succ]
        go_simp
        have hk := hK.out (.int .i64 q) _ hW rfl (fun _ => rfl)
        simp only [putAll, Act.put, List.setIfInBounds_toArray, List.set_cons_zero, List.set_cons_succ] at hk
        exact hk
      refine StepF.cons (i := 4) (o := _) rfl (by decide) (fun b2 vs wx hb hW hY K hK => ?_) ?_
      · simp only [putAll, Act.put, List.setIfInBounds_toArray, List.set_cons_zero, List.set_cons_succ]
        go_simp
        have hk := hK.out (.slice (some ⟨g, 0, none⟩) (k + 1) c9) _ hW rfl (fun _ => rfl)
        simp only [putAll, Act.put, List.setIfInBounds_toArray, List.set_cons_zero, List.set_cons_succ] at hk
        exact hk
      refine StepF.cons (i := 5) (o := _) rfl (by decide) (fun b2 vs wx hb hW hY K hK => ?_) ?_
      · simp only [putAll, Act.put, List.setIfInBounds_toArray, List.set_cons_zero, List.set_cons_succ]
        go_simp
        have hk := hK.out (.int .i64 q) _ hW rfl (fun _ => rfl)
        simp only [putAll, Act.put, List.setIfInBounds_toArray, List.set_cons_zero, List.set_cons_succ] at hk
        exact hk
      refine StepF.cons (i := 6) (o := _) rfl (by decide) (fun b2 vs wx hb hW hY K hK => ?_) ?_
      · have y4 : vs 25 = .slice (some ⟨g, 0, none⟩) (k + 1) c9 := hY 4 25 (by kernel_rfl) (by kernel_rfl)
        have y5 : vs 26 = .int .i64 q := hY 5 26 (by kernel_rfl) (by kernel_rfl)
        simp only [putAll, Act.put, List.setIfInBounds_toArray, List.set_cons_zero, List.set_cons_succ]
        simp only [y4, y5]
        go_simp
        have hk := hK.out (.pointer (some ⟨g, q, none⟩)) _ hW rfl (fun _ => rfl)
        simp only [putAll, Act.put, List.setIfInBounds_toArray, List.set_cons_zero, List.set_cons_succ, y4, y5] at hk
        exact hk
      refine StepF.cons (i := 7) (o := _) rfl (by decide) (fun b2 vs wx hb hW hY K hK => ?_) ?_
      · have y6 : vs 27 = .pointer (some ⟨g, q, none⟩) := hY 6 27 (by kernel_rfl) (by kernel_rfl)
        have hbf := hb (by kernel_rfl)
        subst hbf
        have q0 := (HC.out _ m hW.1 q (by rw [HM.out]; omega)).1
        rw [Hb.out] at q0
        simp only [putAll, Act.put, List.setIfInBounds_toArray, List.set_cons_zero, List.set_cons_succ]
        simp only [y6]
        go_simp
        have hk := hK.out (.int .i64 b) _ hW rfl (fun _ => rfl)
        simp only [putAll, Act.put, List.setIfInBounds_toArray, List.set_cons_zero, List.set_cons_succ, y6] at hk
        exact hk
      refine StepF.cons (i := 8) (o := _) rfl (by decide) (fun b2 vs wx hb hW hY K hK => ?_) ?_
      · simp only [putAll, Act.put, List.setIfInBounds_toArray, List.set_cons_zero, List.set_cons_succ]
        go_simp
        have hk := hK.out (.slice (some ⟨g, 0, none⟩) (k + 1) c9) _ hW rfl (fun _ => rfl)
        simp only [putAll, Act.put, List.setIfInBounds_toArray, List.set_cons_zero, List.set_cons_succ] at hk
        exact hk
      refine StepF.cons (i := 9) (o := _) rfl (by decide) (fun b2 vs wx hb hW hY K hK => ?_) ?_
      · simp only [putAll, Act.put, List.setIfInBounds_toArray, List.set_cons_zero, List.set_cons_succ]
        go_simp
        have hk := hK.out (.int .i64 k) _ hW rfl (fun _ => rfl)
        simp only [putAll, Act.put, List.setIfInBounds_toArray, List.set_cons_zero, List.set_cons_succ] at hk
        exact hk
      refine StepF.cons (i := 10) (o := _) rfl (by decide) (fun b2 vs wx hb hW hY K hK => ?_) ?_
      · have y8 : vs 29 = .slice (some ⟨g, 0, none⟩) (k + 1) c9 := hY 8 29 (by kernel_rfl) (by kernel_rfl)
        have y9 : vs 30 = .int .i64 k := hY 9 30 (by kernel_rfl) (by kernel_rfl)
        simp only [putAll, Act.put, List.setIfInBounds_toArray, List.set_cons_zero, List.set_cons_succ]
        simp only [y8, y9]
        go_simp
        have hk := hK.out (.pointer (some ⟨g, k, none⟩)) _ hW rfl (fun _ => rfl)
        simp only [putAll, Act.put, List.setIfInBounds_toArray, List.set_cons_zero, List.set_cons_succ, y8, y9] at hk
        exact hk
      refine StepF.cons (i := 11) (o := _) rfl (by decide) (fun b2 vs wx hb hW hY K hK => ?_) ?_
      · have y10 : vs 31 = .pointer (some ⟨g, k, none⟩) := hY 10 31 (by kernel_rfl) (by kernel_rfl)
        have hbf := hb (by kernel_rfl)
        subst hbf
        have q0 := (HC.out _ m hW.1 k (by rw [HM.out]; omega)).1
        rw [Ha.out] at q0
        simp only [putAll, Act.put, List.setIfInBounds_toArray, List.set_cons_zero, List.set_cons_succ]
        simp only [y10]
        go_simp
        have hk := hK.out (.int .i64 a) _ hW rfl (fun _ => rfl)
        simp only [putAll, Act.put, List.setIfInBounds_toArray, List.set_cons_zero, List.set_cons_succ, y10] at hk
        exact hk
      refine StepF.cons (i := 12) (o := _) rfl (by decide) (fun b2 vs wx hb hW hY K hK => ?_) ?_
      · have y0 : vs 21 = .slice (some ⟨g, 0, none⟩) (k + 1) c9 := hY 0 21 (by kernel_rfl) (by kernel_rfl)
        have y1 : vs 22 = .int .i64 k := hY 1 22 (by kernel_rfl) (by kernel_rfl)
        simp only [putAll, Act.put, List.setIfInBounds_toArray, List.set_cons_zero, List.set_cons_succ]
        simp only [y0, y1]
        go_simp
        have hk := hK.out (.pointer (some ⟨g, k, none⟩)) _ hW rfl (fun _ => rfl)
        simp only [putAll, Act.put, List.setIfInBounds_toArray, List.set_cons_zero, List.set_cons_succ, y0, y1] at hk
        exact hk
      refine StepF.app (i := 13) (o := _) rfl rfl (fun vs wx hW hY K hK => ?_) ?_
      · have y12 : vs 33 = .pointer (some ⟨g, k, none⟩) := hY 12 33 (by kernel_rfl) (by kernel_rfl)
        have y7 : vs 28 = .int .i64 b := hY 7 28 (by kernel_rfl) (by kernel_rfl)
        have q0 := HC.out _ m hW.1 k (by rw [HM.out]; omega)
        have q1 := q0.2
        have q0 := q0.1
        simp only [putAll, Act.put, List.setIfInBounds_toArray, List.set_cons_zero, List.set_cons_succ]
        simp only [y12, y7]
        go_simp
        have hk := hK.out undef (wx.setCell ⟨g, k, none⟩ (.int .i64 b)) ⟨OwnInts.setI (ys := m) hW.1 (by rw [HM.out]; omega) b, hid (by rw [hW.2.out]; rfl)⟩ trivial Bool.noConfusion
        simp only [putAll, Act.put, List.setIfInBounds_toArray, List.set_cons_zero, List.set_cons_succ, y12, y7] at hk
        exact hk
      exact StepF.nil
    · intro vs wx hW hY
      have y2 : vs 23 = .slice (some ⟨g, 0, none⟩) (k + 1) c9 := hY 2 23 (by kernel_rfl)
      have y3 : vs 24 = .int .i64 q := hY 3 24 (by kernel_rfl)
      have y11 : vs 32 = .int .i64 a := hY 11 32 (by kernel_rfl)
      simp only [putAll, Act.put, List.setIfInBounds_toArray, List.set_cons_zero, List.set_cons_succ, List.drop_succ_cons, List.drop_zero]
      rw [y2, y3, y11]
      have q0 := HC.out wx _ hW.1 q (by simp [HM.out]; omega)
      have q1 := q0.2
      have q0 := q0.1
      have HWx := hid hW
      clear hW hY
      go_wp2_with fail
      go_roundw
      case rel =>
        have hO : OwnInts w.heap.size wx (.slice (some ⟨g, 0, none⟩) (k + 1) c9) (m.set k b) := HWx.out.1
        have hx : wx = wB.drew.setCell ⟨g, k, none⟩ (.int .i64 b) := HWx.out.2.out
        have hO2 := OwnInts.setI hO (i := q) (by simp [HM.out]; omega) a
        have hdg : g ≠ d := by omega
        refine ⟨k + 1, (m.set k b).set q a, by omega, by go_num, by simp [HM.out], ?_, hO2, ?_, ?_⟩
        · rw [← Ha.out, ← Hb.out]
          exact permL_swap HP.out (by rw [HM.out]; omega) (by rw [HM.out]; omega)
        · rw [hx]; exact ((HBt.out.gb (Below.refl wB.heap.size wB).drew).putFar hdg).putFar hdg
        · rw [hx]; exact gb_out (gb_out (gb_trans HG.out (gb_below (Below.refl wB.heap.size wB).drew _)) hgw) hgw
      case measure => simp [intOf] <;> omega
end Go.Proofs.Ytdcinngdilfpnaa
