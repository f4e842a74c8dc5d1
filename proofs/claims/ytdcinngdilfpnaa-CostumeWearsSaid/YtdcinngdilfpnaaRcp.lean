/-
  WALKS: the reference's cheapest, Cheapest.
-/
import Derived.Test.YtdcinngdilfpnaaRws
import Derived.Test.YtdcinngdilfpnaaApn
import Derived.Test.YtdcinngdilfpnaaFlo2
namespace Go.Proofs.Ytdcinngdilfpnaa
open Go.RowKit

def RChPost (p : Plot) (items : List Item) (parts : List Part) (r : Nat) (b : List Int) (base : Nat) (w : World) (e : Ending) (w' : World) : Prop :=
  ∃ v', e = .returned (.tuple #[v', .bool (bestR p items parts r b).isSome]) ∧ OwnInts base w' v' (bestL (bestR p items parts r b)) ∧ Below w.heap.size w w'

set_option maxHeartbeats 8000000 in
set_option maxRecDepth 100000 in
theorem rcheap_any (p : Plot) (items : List Item) (parts : List Part) (hv : itemsErr p items = 0) (hps : ∀ i, i < parts.length → aloneE p (pt parts i) = 0) (hpl : parts.length ≤ 30) :
    ∀ (r : Nat) (b : List Int) (base : Nat) (vp vw vd vq vi vr vb : Value) (w : World), PlotAt none w vp vw vd vq p → ItemsAt none w vi items → PartsAt none w vr parts → OwnInts base w vb b → base ≤ w.heap.size → b.length + r = parts.length →
      Calls Try.prog 90 #[plotV vp vw vd vq, vi, vr, vb] w (RChPost p items parts r b base w) := by
  have HWs := hid (fun (b : List Int) (vp vw vd vq vi vr vb : Value) (w : World) (h : PlotAt none w vp vw vd vq p) (hI : ItemsAt none w vi items) (hR : PartsAt none w vr parts) (hB : IntsAt none w vb b) (hb : b.length ≤ parts.length) => rwears_any p items parts b vp vw vd vq vi vr vb w h hI hR hB hv hps hb (by omega))
  have HPr := hid (items_priced hv)
  have hil := (itemsErr_zero hv).2.1
  intro r
  induction r with
  | zero =>
    intro b base vp vw vd vq vi vr vb w h hI hR hb hbase hl
    have HW := hid (HWs.out b vp vw vd vq vi vr vb w h hI hR (OwnInts.at (d := none) hb (by simp)) (by omega))
    have HB := hid hb
    obtain ⟨ap, cp, rfl⟩ := h.persons.form
    obtain ⟨aw, cw, rfl⟩ := h.walk.form
    obtain ⟨ad, cd, ed, _⟩ := h.dress
    subst ed
    obtain ⟨aq, cq, rfl⟩ := h.parts.form
    obtain ⟨ai, ci, rfl⟩ := hI.form
    obtain ⟨ar, cr, rfl⟩ := hR.form
    obtain ⟨ab, cb, rfl⟩ := (own_int.2 hb).form
    have HW := hid (fun W' hb' => HWs.out b _ _ _ _ _ _ _ W' (h.below hb') (hI.below hb') (hR.below hb') (OwnInts.at (d := none) (OwnInts.later hb hb') (by simp)) (by omega))
    have K := hid ((HK.start w).box4m (n := w.heap.size) rfl (.slice ap p.persons.length cp) (.slice aw p.walk.length cw) (.slice ad p.dress.length cd) (.slice aq p.parts.length cq) 29)
    obtain ⟨e1, e2⟩ := eq_bool (a := (b.length : Int)) (b := (parts.length : Int)) (by omega)
    clear h hI hR hb hl
    by_cases hw : wearsE p items parts b = 0
    · have HE := hid (show bestR p items parts 0 b = some (b, costW items b) from by simp only [bestR]; rw [if_pos hw])
      rw [hw] at HW
      clear hw
      go_enter Try.func90, Try.ntmps90
      go_wp2_with (go_at_call 95; refine (HW.out _ K.out.below).mono ?_; rintro e w2 ⟨rfl, hb2⟩; have K := hid (K.out.later hb2); clear hb2)
      refine bodyPost_ret (v := .tuple #[.slice ab b.length cb, .bool true]) (by simp [results, Try.results90, go_sem]) rfl ?_
      unfold RChPost
      rw [HE.out]
      exact ⟨_, rfl, OwnInts.later HB.out K.out.below, K.out.below⟩
    · have HE := hid (bestR_bad hw 0)
      obtain ⟨g1, g2⟩ := ne_bool hw
      clear hw
      go_enter Try.func90, Try.ntmps90
      go_wp2_with (go_at_call 95; refine (HW.out _ K.out.below).mono ?_; rintro e w2 ⟨rfl, hb2⟩; have K := hid (K.out.later hb2); clear hb2)
      refine bodyPost_ret (v := .tuple #[.slice none 0 0, .bool false]) (by simp [results, Try.results90, go_sem]) rfl ?_
      unfold RChPost
      rw [HE.out]
      exact ⟨_, rfl, own_nil _ _, K.out.below⟩
  | succ r ih =>
    intro b base vp vw vd vq vi vr vb w h hI hR hb hbase hl
    have HB := hid hb
    have H := hid h
    have HI := hid hI
    have HR := hid hR
    have IH := hid ih
    obtain ⟨ap, cp, rfl⟩ := h.persons.form
    obtain ⟨aw, cw, rfl⟩ := h.walk.form
    obtain ⟨ad, cd, ed, _⟩ := h.dress
    subst ed
    obtain ⟨aq, cq, rfl⟩ := h.parts.form
    obtain ⟨ai, ci, rfl⟩ := hI.form
    obtain ⟨ar, cr, rfl⟩ := hR.form
    obtain ⟨ab, cb, rfl⟩ := (own_int.2 hb).form
    have HW := hid (fun W' hb' => HWs.out b _ _ _ _ _ _ _ W' (h.below hb') (hI.below hb') (hR.below hb') (OwnInts.at (d := none) (OwnInts.later hb hb') (by simp)) (by omega))
    have K := hid ((HK.start w).box4m (n := w.heap.size) rfl (.slice ap p.persons.length cp) (.slice aw p.walk.length cw) (.slice ad p.dress.length cd) (.slice aq p.parts.length cq) 29)
    obtain ⟨e1, e2⟩ := ne_bool (a := (b.length : Int)) (b := (parts.length : Int)) (by omega)
    clear h hI hR hb
    by_cases hw : wearsE p items parts b = 0
    rotate_left
    · have HE := hid (bestR_bad hw (r + 1))
      obtain ⟨g1, g2⟩ := ne_bool hw
      clear hw ih
      go_enter Try.func90, Try.ntmps90
      go_wp2_with (go_at_call 95; refine (HW.out _ K.out.below).mono ?_; rintro e w2 ⟨rfl, hb2⟩; have K := hid (K.out.later hb2); clear hb2)
      refine bodyPost_ret (v := .tuple #[.slice none 0 0, .bool false]) (by simp [results, Try.results90, go_sem]) rfl ?_
      unfold RChPost
      rw [HE.out]
      exact ⟨_, rfl, own_nil _ _, K.out.below⟩
    have HE := hid (show bestR p items parts (r + 1) b = mergeN (fun i => bestR p items parts r (b ++ [(i : Int)])) items.length from by simp only [bestR]; rw [if_pos hw])
    rw [hw] at HW
    clear hw ih
    go_enter Try.func90, Try.ntmps90
    go_wp2_with (go_at_call 95; refine (HW.out _ K.out.below).mono ?_; rintro e w2 ⟨rfl, hb2⟩; have K := hid (K.out.later hb2); clear hb2)
    clear e1 e2
    go_loopw [10, 11, 12] (fun s10 s11 s12 wr => ∃ k : Nat, k ≤ items.length ∧ s12 = .int .i64 k ∧ s11 = .bool (mergeN (fun i => bestR p items parts r (b ++ [(i : Int)])) k).isSome ∧ OwnInts base wr s10 (bestL (mergeN (fun i => bestR p items parts r (b ++ [(i : Int)])) k)) ∧ HK [(w.heap.size, 0, .slice ap p.persons.length cp), (w.heap.size, 1, .slice aw p.walk.length cw), (w.heap.size, 2, .slice ad p.dress.length cd), (w.heap.size, 3, .slice aq p.parts.length cq)] w wr) (fun _ _ i _ => items.length - (intOf i).toNat)
    case atStart => exact ⟨0, by omega, rfl, rfl, own_nil _ _, K.out⟩
    case round =>
      obtain ⟨k, hk, rfl, rfl, ho, KK⟩ := hrel
      obtain ⟨wo, rfl⟩ : ∃ wo : World, wo = wr := ⟨_, rfl⟩
      have K := hid KK
      clear KK
      have HO := hid ho
      obtain ⟨sa, sc, es⟩ := (own_int.2 ho).form
      subst es
      clear ho
      by_cases hlt : k < items.length
      rotate_left
      · obtain rfl : k = items.length := by omega
        go_wp2_with fail
        refine bodyPost_ret (v := .tuple #[.slice sa (bestL (mergeN (fun i => bestR p items parts r (b ++ [(i : Int)])) items.length)).length sc, .bool (mergeN (fun i => bestR p items parts r (b ++ [(i : Int)])) items.length).isSome]) (by simp [results, Try.results90, go_sem]) rfl ?_
        unfold RChPost
        rw [HE.out]
        exact ⟨_, rfl, HO.out, K.out.below⟩
      have i1 : (k : Int) < (items.length : Int) := by omega
      have z1 : IntKind.i64.wrap ((k : Int) + 1) = (k : Int) + 1 := IntWalk.i64_in _ (by omega)
      have hMS := fun x (e : mergeN (fun i => bestR p items parts r (b ++ [(i : Int)])) k = some x) => mergeN_some e
      have HST := hid (show mergeN (fun i => bestR p items parts r (b ++ [(i : Int)])) (k + 1) = mergeB (mergeN (fun i => bestR p items parts r (b ++ [(i : Int)])) k) (bestR p items parts r (b ++ [(k : Int)])) from rfl)
      obtain ⟨s, hs⟩ : ∃ s, mergeN (fun i => bestR p items parts r (b ++ [(i : Int)])) k = s := ⟨_, rfl⟩
      obtain ⟨t, ht⟩ : ∃ t, bestR p items parts r (b ++ [(k : Int)]) = t := ⟨_, rfl⟩
      rw [hs] at HO hMS HST ⊢
      rw [ht] at HST
      have HT := hid ht
      have HSs := hid (fun l c (e : s = some (l, c)) => (by obtain ⟨i, _, hi⟩ := hMS (l, c) e; have q := bestR_some hi; exact ⟨q.1, q.2.1, by have := q.2.2.1; simp at this; omega⟩ : wearsE p items parts l = 0 ∧ c = costW items l ∧ l.length = b.length + 1 + r))
      have HTs := hid (fun l c (e : t = some (l, c)) => (by have q := bestR_some (ht.trans e); exact ⟨q.1, q.2.1, by have := q.2.2.1; simp at this; omega⟩ : wearsE p items parts l = 0 ∧ c = costW items l ∧ l.length = b.length + 1 + r))
      clear hs ht hMS
      go_upto_region 10 with fail
      have hbln : b.length ≤ 30 := by omega
      have hwo : w.heap.size ≤ wo.heap.size := K.out.below.size
      have HIH := hid (fun W' (hb' : Below wo.heap.size wo W') vb (hv : OwnInts wo.heap.size W' vb (b ++ [(k : Int)])) => IH.out (b ++ [(k : Int)]) wo.heap.size _ _ _ _ _ _ vb W' (H.out.below (K.out.below.trans (hb'.mono hwo))) (HI.out.below (K.out.below.trans (hb'.mono hwo))) (RecAt.below HR.out (K.out.below.trans (hb'.mono hwo))) hv hb'.size (by simp; omega))
      have HIH := hid (fun W' hb' vb hv => (HIH.out W' hb' vb hv).mono fun e w' (h : RChPost p items parts r (b ++ [(k : Int)]) wo.heap.size W' e w') => (by unfold RChPost at h; rw [HT.out] at h; exact h : ∃ v', e = .returned (.tuple #[v', .bool t.isSome]) ∧ OwnInts wo.heap.size w' v' (bestL t) ∧ Below W'.heap.size W' w'))
      have HCo := hid (fun (l : List Int) (v : Value) (W' : World) (hb' : Below wo.heap.size wo W') (hl : OwnInts base W' v l) (hw : wearsE p items parts l = 0) (hn : l.length = b.length + 1 + r) => rcost_any items l (.slice ai items.length ci) v W' (HI.out.below (K.out.below.trans (hb'.mono hwo))) (OwnInts.at (d := none) hl (by simp)) (wears_within hw) HPr.out (by omega) (by omega))
      have hbw : base ≤ wo.heap.size := Nat.le_trans hbase hwo
      have K0 := K
      refine wp_named ?_
      intro A0 hA0
      have HN := hid (show A0.tmps.size = 63 from by rw [hA0]; rfl)
      have r4 : A0.eval (.tmp 4) = .pointer (some ⟨w.heap.size, 0, none⟩) := by rw [hA0]; rfl
      have r1 : A0.eval (.tmp 1) = .slice ai items.length ci := by rw [hA0]; rfl
      have r2 : A0.eval (.tmp 2) = .slice ar parts.length cr := by rw [hA0]; rfl
      have r3 : A0.eval (.tmp 3) = .slice ab b.length cb := by rw [hA0]; rfl
      have r12 : A0.eval (.tmp 12) = .int .i64 k := by rw [hA0]; rfl
      have HA := hid hA0
      clear hA0
      refine wp_region_flow (by kernel_rfl) [34, 35, 36, 37, 38, 39, 40, 41, 42, 43, 33, 44, 45, 13, 14] 8
        (fun _ w' => Below wo.heap.size wo w') (fun a b => Below a.heap.size a b) (fun _ _ => True)
        (fun bt i v w' => match i, bt with
          | 0, _ => v = .agg #[.slice ap p.persons.length cp, .slice aw p.walk.length cw, .slice ad p.dress.length cd, .slice aq p.parts.length cq]
          | 1, _ => v = .slice ai items.length ci
          | 2, _ => v = .slice ar parts.length cr
          | 3, false => ∃ E, v = .slice (some ⟨E, 0, none⟩) 0 0 ∧ wo.heap.size ≤ E ∧ w'.heap[E]? = some (.cells #[] 3 (0, 0))
          | 4, _ => v = .slice ab b.length cb
          | 5, false => OwnR encInt 1 3 wo.heap.size w' v b
          | 6, _ => v = .int .i64 k
          | 7, false => LitR encInt wo.heap.size w' v (k : Int)
          | 8, true => OwnR encInt 1 3 wo.heap.size w' v (b ++ [(k : Int)])
          | 8, false => False
          | 9, true => ∃ v4, v = .tuple #[v4, .bool t.isSome] ∧ OwnInts wo.heap.size w' v4 (bestL t)
          | 10, true => ∃ v4, v = .tuple #[v4, .bool t.isSome] ∧ OwnInts wo.heap.size w' v4 (bestL t)
          | 11, true => OwnInts wo.heap.size w' v (bestL t)
          | 12, true => v = .bool t.isSome
          | 13, true => OwnInts wo.heap.size w' v (bestL t)
          | 14, true => v = .bool t.isSome
          | 9, false => False
          | 10, false => False
          | 11, false => False
          | 12, false => False
          | 13, false => False
          | 14, false => False
          | _, _ => True)
        [0, 1, 2, 3, 4, 5, 6, 7, 8, 9, 10, 11, 12, 13, 14] (by kernel_rfl) (by kernel_rfl) rfl ?_ ?_ ?_ ?_ ?_
      · intro bt i v w2 w3 hW hg hy
        match i, bt with
        | 0, _ => exact hy
        | 1, _ => exact hy
        | 2, _ => exact hy
        | 3, false => obtain ⟨E, h1, h2, h3⟩ := hy; exact ⟨E, h1, h2, (hg.block E (Array.getElem?_eq_some_iff.1 h3).1).trans h3⟩
        | 4, _ => exact hy
        | 5, false => exact OwnR.later hy hg
        | 6, _ => exact hy
        | 7, false => exact hy.later hg
        | 8, true => exact OwnR.later hy hg
        | 8, false => exact hy
        | 9, true => obtain ⟨u, h1, h2⟩ := hy; exact ⟨u, h1, OwnInts.later h2 hg⟩
        | 10, true => obtain ⟨u, h1, h2⟩ := hy; exact ⟨u, h1, OwnInts.later h2 hg⟩
        | 11, true => exact OwnInts.later hy hg
        | 12, true => exact hy
        | 13, true => exact OwnInts.later hy hg
        | 14, true => exact hy
        | 9, false => exact hy
        | 10, false => exact hy
        | 11, false => exact hy
        | 12, false => exact hy
        | 13, false => exact hy
        | 14, false => exact hy
        | 3, true => exact trivial
        | 5, true => exact trivial
        | 7, true => exact trivial
        | n + 15, _ => exact trivial
      · intro i v w2 w3 _ _ hy
        match i with
        | 0 => exact hy
        | 1 => exact hy
        | 2 => exact hy
        | 3 => exact trivial
        | 4 => exact hy
        | 5 => exact trivial
        | 6 => exact hy
        | 7 => exact trivial
        | 8 => exact hy.elim
        | 9 => exact hy.elim
        | 10 => exact hy.elim
        | 11 => exact hy.elim
        | 12 => exact hy.elim
        | 13 => exact hy.elim
        | 14 => exact hy.elim
        | n + 15 => exact trivial
      · exact (Below.refl _ _).drew
      · skip
        refine StepF.val (i := 0) (o := _) rfl (by decide) ?_ ?_
        · intro bb vs wx hb hW hY
          refine ⟨fl_want rfl, fun ρ hρ => ⟨.agg #[.slice ap p.persons.length cp, .slice aw p.walk.length cw, .slice ad p.dress.length cd, .slice aq p.parts.length cq], wx, ?_, hW, Below.refl _ _, rfl⟩⟩
          have rr : ρ (.tmp 4) = .pointer (some ⟨w.heap.size, 0, none⟩) := by rw [hρ, fl_out rfl, r4]
          have KK := K0.out.later hW
          have q0 := KK.c (b := w.heap.size) (o := 0) (v := .slice ap p.persons.length cp) (by simp)
          have q1 := KK.c (b := w.heap.size) (o := 1) (v := .slice aw p.walk.length cw) (by simp)
          have q2 := KK.c (b := w.heap.size) (o := 2) (v := .slice ad p.dress.length cd) (by simp)
          have q3 := KK.c (b := w.heap.size) (o := 3) (v := .slice aq p.parts.length cq) (by simp)
          clear hρ
          simp [execOp, rr, go_sem, q0, q1, q2, q3]
        refine StepF.val (i := 1) (o := _) rfl (by decide) ?_ ?_
        · intro bb vs wx hb hW hY
          exact ⟨fl_want rfl, fun ρ hρ => ⟨.slice ai items.length ci, wx, ex_move rfl (by rw [hρ, fl_out rfl, r1]), hW, Below.refl _ _, rfl⟩⟩
        refine StepF.val (i := 2) (o := _) rfl (by decide) ?_ ?_
        · intro bb vs wx hb hW hY
          exact ⟨fl_want rfl, fun ρ hρ => ⟨.slice ar parts.length cr, wx, ex_move rfl (by rw [hρ, fl_out rfl, r2]), hW, Below.refl _ _, rfl⟩⟩
        refine StepF.val (i := 3) (o := _) rfl (by decide) ?_ ?_
        · intro bb vs wx hb hW hY
          refine ⟨fl_want rfl, fun ρ hρ => ⟨.slice (some ⟨wx.heap.size, 0, none⟩) 0 0, wx.alloc (.cells #[] 3), ?_, hW.trans ((below_alloc _ _).mono hW.size), below_alloc _ _, ?_⟩⟩
          · clear hρ
            simp [execOp, go_sem]
          · cases bb with
            | false => exact ⟨_, rfl, hW.size, box_new _ _ _⟩
            | true => exact trivial
        refine StepF.val (i := 4) (o := _) rfl (by decide) ?_ ?_
        · intro bb vs wx hb hW hY
          exact ⟨fl_want rfl, fun ρ hρ => ⟨.slice ab b.length cb, wx, ex_move rfl (by rw [hρ, fl_out rfl, r3]), hW, Below.refl _ _, rfl⟩⟩
        refine StepF.val (i := 5) (o := _) rfl (by decide) ?_ ?_
        · intro bb vs wx hb hW hY
          have hbf : bb = false := hb (by kernel_rfl)
          subst hbf
          have y3 : ∃ E, vs 37 = .slice (some ⟨E, 0, none⟩) 0 0 ∧ wo.heap.size ≤ E ∧ wx.heap[E]? = some (.cells #[] 3 (0, 0)) := hY 3 37 (by kernel_rfl) (by kernel_rfl)
          have y4 : vs 38 = .slice ab b.length cb := hY 4 38 (by kernel_rfl) (by kernel_rfl)
          obtain ⟨E, e0, hE, hE2⟩ := y3
          obtain ⟨v', w', hr, hown', hbl⟩ := run_app_empty (P := Try.prog) encInt Try.underlying22 infoInt' (by decide) (by decide) (fun _ => rfl) 22 wo.heap.size b (fun y _ => encInt_one y) (.slice ab b.length cb) hE2 hE (Src.ints (OwnInts.at (d := none) (OwnInts.later HB.out (K0.out.below.trans (hW.mono hwo))) (by simp)) (own_int.2 HB.out).sound) (by omega) hW.size
          exact ⟨fl_want rfl, fun ρ hρ => ⟨v', w', ex_app rfl (by rw [hρ, fl_in 63 HN.out rfl, e0]) (by rw [hρ, fl_in 63 HN.out rfl, y4]) hr, hW.trans (hbl.mono hW.size), hbl, hown'⟩⟩
        refine StepF.val (i := 6) (o := _) rfl (by decide) ?_ ?_
        · intro bb vs wx hb hW hY
          exact ⟨fl_want rfl, fun ρ hρ => ⟨.int .i64 k, wx, ex_move rfl (by rw [hρ, fl_out rfl, r12]), hW, Below.refl _ _, rfl⟩⟩
        refine StepF.val (i := 7) (o := _) rfl (by decide) ?_ ?_
        · intro bb vs wx hb hW hY
          have hbf : bb = false := hb (by kernel_rfl)
          subst hbf
          have y6 : vs 40 = .int .i64 k := hY 6 40 (by kernel_rfl) (by kernel_rfl)
          refine ⟨fl_want rfl, fun ρ hρ => ⟨.slice (some ⟨wx.heap.size, 0, none⟩) 1 1, wx.alloc (.cells #[.int .i64 k] 3), ?_, hW.trans ((below_alloc _ _).mono hW.size), below_alloc _ _, LitR.new encInt hW.size (k : Int) 3⟩⟩
          have rr : ρ (.tmp 40) = .int .i64 k := by rw [hρ, fl_in 63 HN.out rfl, y6]
          clear hρ
          simp [execOp, rr, go_sem]
        refine StepF.valA (i := 8) (o := _) rfl rfl ?_ ?_
        · intro vs wx hW hY
          have y5 : OwnR encInt 1 3 wo.heap.size wx (vs 39) b := hY 5 39 (by kernel_rfl) (by kernel_rfl)
          have y7 : LitR encInt wo.heap.size wx (vs 41) (k : Int) := hY 7 41 (by kernel_rfl) (by kernel_rfl)
          obtain ⟨v', w', hr, hown', hg, _, _⟩ := run_app (P := Try.prog) encInt Try.underlying22 infoInt' (by decide) (by decide) (fun _ => rfl) 22 wo.heap.size b [(k : Int)] (fun y _ => encInt_one y) _ _ y5 y7.src (by simp; omega) hW.size
          exact ⟨fl_want rfl, fun ρ hρ => ⟨v', w', ex_app rfl (by rw [hρ, fl_in 63 HN.out rfl]) (by rw [hρ, fl_in 63 HN.out rfl]) hr, hW.trans (y5.below hg hW.size), trivial, hown'⟩⟩
        refine StepF.call (i := 9) (o := _) rfl (by decide) ?_ ?_
        · intro bb vs wx hb hW hY
          cases bb with
          | false => exact (hY 8 42 (by kernel_rfl) (by kernel_rfl)).elim
          | true =>
            have y0 : vs 34 = .agg #[.slice ap p.persons.length cp, .slice aw p.walk.length cw, .slice ad p.dress.length cd, .slice aq p.parts.length cq] := hY 0 34 (by kernel_rfl) (by kernel_rfl)
            have y1 : vs 35 = .slice ai items.length ci := hY 1 35 (by kernel_rfl) (by kernel_rfl)
            have y2 : vs 36 = .slice ar parts.length cr := hY 2 36 (by kernel_rfl) (by kernel_rfl)
            have y8 : OwnR encInt 1 3 wo.heap.size wx (vs 42) (b ++ [(k : Int)]) := hY 8 42 (by kernel_rfl) (by kernel_rfl)
            refine ⟨fl_want rfl, fun ρ hρ => ⟨90, #[vs 34, vs 35, vs 36, vs 42], ex_call rfl (by rw [hρ]; rfl) (by simp [hρ, fl_in 63 HN.out]) Try.func90 (by kernel_rfl) rfl, ?_⟩⟩
            rw [y0, y1, y2]
            refine (HIH.out wx hW _ (own_int.1 y8)).mono ?_
            rintro e w' ⟨v4, rfl, h1, h2⟩
            exact ⟨_, rfl, hW.trans (h2.mono hW.size), h2, ⟨v4, rfl, h1⟩⟩
        refine StepF.val (i := 10) (o := _) rfl (by decide) ?_ ?_
        · intro bb vs wx hb hW hY
          cases bb with
          | false => exact (hY 9 43 (by kernel_rfl) (by kernel_rfl)).elim
          | true =>
            obtain ⟨v4, e4, h4⟩ : ∃ v4, vs 43 = .tuple #[v4, .bool t.isSome] ∧ OwnInts wo.heap.size wx v4 (bestL t) := hY 9 43 (by kernel_rfl) (by kernel_rfl)
            exact ⟨fl_want rfl, fun ρ hρ => ⟨_, wx, ex_move rfl (by rw [hρ, fl_in 63 HN.out rfl, e4]), hW, Below.refl _ _, ⟨v4, rfl, h4⟩⟩⟩
        refine StepF.val (i := 11) (o := _) rfl (by decide) ?_ ?_
        · intro bb vs wx hb hW hY
          cases bb with
          | false => exact (hY 10 33 (by kernel_rfl) (by kernel_rfl)).elim
          | true =>
            obtain ⟨v4, e4, h4⟩ : ∃ v4, vs 33 = .tuple #[v4, .bool t.isSome] ∧ OwnInts wo.heap.size wx v4 (bestL t) := hY 10 33 (by kernel_rfl) (by kernel_rfl)
            exact ⟨fl_want rfl, fun ρ hρ => ⟨v4, wx, ex_extract (vs := #[v4, .bool t.isSome]) rfl (by rw [hρ, fl_in 63 HN.out rfl, e4]) rfl, hW, Below.refl _ _, h4⟩⟩
        refine StepF.val (i := 12) (o := _) rfl (by decide) ?_ ?_
        · intro bb vs wx hb hW hY
          cases bb with
          | false => exact (hY 10 33 (by kernel_rfl) (by kernel_rfl)).elim
          | true =>
            obtain ⟨v4, e4, h4⟩ : ∃ v4, vs 33 = .tuple #[v4, .bool t.isSome] ∧ OwnInts wo.heap.size wx v4 (bestL t) := hY 10 33 (by kernel_rfl) (by kernel_rfl)
            exact ⟨fl_want rfl, fun ρ hρ => ⟨.bool t.isSome, wx, ex_extract (vs := #[v4, .bool t.isSome]) rfl (by rw [hρ, fl_in 63 HN.out rfl, e4]) rfl, hW, Below.refl _ _, rfl⟩⟩
        refine StepF.val (i := 13) (o := _) rfl (by decide) ?_ ?_
        · intro bb vs wx hb hW hY
          cases bb with
          | false => exact (hY 11 44 (by kernel_rfl) (by kernel_rfl)).elim
          | true =>
            have h4 : OwnInts wo.heap.size wx (vs 44) (bestL t) := hY 11 44 (by kernel_rfl) (by kernel_rfl)
            exact ⟨fl_want rfl, fun ρ hρ => ⟨vs 44, wx, ex_assign rfl (by rw [hρ, fl_in 63 HN.out rfl]), hW, Below.refl _ _, h4⟩⟩
        refine StepF.val (i := 14) (o := _) rfl (by decide) ?_ ?_
        · intro bb vs wx hb hW hY
          cases bb with
          | false => exact (hY 12 45 (by kernel_rfl) (by kernel_rfl)).elim
          | true =>
            have h4 : vs 45 = .bool t.isSome := hY 12 45 (by kernel_rfl) (by kernel_rfl)
            exact ⟨fl_want rfl, fun ρ hρ => ⟨_, wx, ex_assign rfl (by rw [hρ, fl_in 63 HN.out rfl, h4]), hW, Below.refl _ _, rfl⟩⟩
        exact StepF.nil
      · intro vs wx hW hY
        have y13 : OwnInts wo.heap.size wx (vs 13) (bestL t) := hY 13 13 (by kernel_rfl)
        have y14 : vs 14 = .bool t.isSome := hY 14 14 (by kernel_rfl)
        have HW1 := hid (show Below wo.heap.size wo wx from hW)
        obtain ⟨a4, c4, e4⟩ := (own_int.2 y13).form
        clear hW hY
        rw [HA.out]
        simp only [putAll, Act.put, List.setIfInBounds_toArray, List.set_cons_zero, List.set_cons_succ]
        rw [e4] at y13
        rw [e4, y14]
        have HB4 := HW1
        have HO4 := hid (OwnInts.base' y13 hbw)
        have HO := hid (OwnInts.later HO.out HB4.out)
        have K := hid (K0.out.later HB4.out)
        clear y13 y14 e4 HA r1 r2 r3 r4 r12 HN
        cases t with
        | none =>
          have HM := hid (HST.out.trans (mergeB_none' s))
          go_wp2_with fail
          go_roundw
          case rel => exact ⟨k + 1, by omega, by go_num, by rw [HM.out], by rw [HM.out]; exact HO.out, K.out⟩
          case measure => simp [intOf] <;> omega
        | some x =>
          obtain ⟨l', c'⟩ := x
          obtain ⟨q1, q2, q3⟩ := HTs.out l' c' rfl
          have Q1 := hid q1
          have Q2 := hid q2
          have Q3 := hid q3
          clear q1 q2 q3
          cases s with
          | none =>
            have HM := hid (HST.out.trans (mergeB_none _))
            go_wp2_with fail
            go_roundw
            case rel => exact ⟨k + 1, by omega, by go_num, by rw [HM.out]; rfl, by rw [HM.out]; exact HO4.out, K.out⟩
            case measure => simp [intOf] <;> omega
          | some y =>
            obtain ⟨l, c⟩ := y
            obtain ⟨q4, q5, q6⟩ := HSs.out l c rfl
            have Q4 := hid q4
            have Q5 := hid q5
            have Q6 := hid q6
            clear q4 q5 q6
            by_cases hlt2 : costW items l' < costW items l
            · have HM := hid (show mergeN (fun i => bestR p items parts r (b ++ [(i : Int)])) (k + 1) = some (l', c') from HST.out.trans (by simp only [mergeB]; rw [if_pos (by rw [Q2.out, Q5.out]; exact hlt2)]))
              go_wp2_with (first
                | (go_at_call 91; (with_reducible refine (HCo.out l' _ _ HB4.out HO4.out Q1.out Q3.out).mono ?_); rintro e w5 ⟨rfl, hb5⟩; have HB4 := hid (HB4.out.trans (hb5.mono HB4.out.size)); have HO4 := hid (OwnInts.later HO4.out hb5); have HO := hid (OwnInts.later HO.out hb5); have K := hid (K.out.later hb5); clear hb5)
                | (go_at_call 91; (with_reducible refine (HCo.out l _ _ HB4.out HO.out Q4.out Q6.out).mono ?_); rintro e w6 ⟨rfl, hb5⟩; have HB4 := hid (HB4.out.trans (hb5.mono HB4.out.size)); have HO4 := hid (OwnInts.later HO4.out hb5); have HO := hid (OwnInts.later HO.out hb5); have K := hid (K.out.later hb5); clear hb5))
              go_roundw
              case rel => exact ⟨k + 1, by omega, by go_num, by rw [HM.out]; rfl, by rw [HM.out]; exact HO4.out, K.out⟩
              case measure => simp [intOf] <;> omega
            · have HM := hid (show mergeN (fun i => bestR p items parts r (b ++ [(i : Int)])) (k + 1) = some (l, c) from HST.out.trans (by simp only [mergeB]; rw [if_neg (by rw [Q2.out, Q5.out]; exact hlt2)]))
              go_wp2_with (first
                | (go_at_call 91; (with_reducible refine (HCo.out l' _ _ HB4.out HO4.out Q1.out Q3.out).mono ?_); rintro e w5 ⟨rfl, hb5⟩; have HB4 := hid (HB4.out.trans (hb5.mono HB4.out.size)); have HO4 := hid (OwnInts.later HO4.out hb5); have HO := hid (OwnInts.later HO.out hb5); have K := hid (K.out.later hb5); clear hb5)
                | (go_at_call 91; (with_reducible refine (HCo.out l _ _ HB4.out HO.out Q4.out Q6.out).mono ?_); rintro e w6 ⟨rfl, hb5⟩; have HB4 := hid (HB4.out.trans (hb5.mono HB4.out.size)); have HO4 := hid (OwnInts.later HO4.out hb5); have HO := hid (OwnInts.later HO.out hb5); have K := hid (K.out.later hb5); clear hb5))
              go_roundw
              case rel => exact ⟨k + 1, by omega, by go_num, by rw [HM.out]; rfl, by rw [HM.out]; exact HO.out, K.out⟩
              case measure => simp [intOf] <;> omega

set_option maxHeartbeats 4000000 in
set_option maxRecDepth 100000 in
theorem rcheapest_any (p : Plot) (items : List Item) (vp vw vd vq vi : Value) (w : World) (h : PlotAt none w vp vw vd vq p) (hI : ItemsAt none w vi items) :
    Calls Try.prog 41 #[plotV vp vw vd vq, vi] w (CheapestPost p items w) := by
  have H := hid h
  have HI := hid hI
  have HC := hid (fun W' hb => rfew_any p items vp vw vd vq vi W' (H.out.below hb) (HI.out.below hb))
  have HCh := hid (fun W' hb hv (hp : p.parts.length ≤ 30) => rcheap_any p items p.parts hv ((plotErr_zero.1 (itemsErr_zero hv).1).parts) hp p.parts.length [] W'.heap.size vp vw vd vq vi vq (.slice none 0 0) W' (H.out.below hb) (HI.out.below hb) (H.out.parts.below hb) (own_nil _ _) (Nat.le_refl _) (by simp))
  obtain ⟨ap, cp, rfl⟩ := h.persons.form
  obtain ⟨aw, cw, rfl⟩ := h.walk.form
  obtain ⟨ad, cd, ed, _⟩ := h.dress
  subst ed
  obtain ⟨aq, cq, rfl⟩ := h.parts.form
  obtain ⟨ai, ci, rfl⟩ := hI.form
  have K := hid ((HK.start w).box4m (n := w.heap.size) rfl (.slice ap p.persons.length cp) (.slice aw p.walk.length cw) (.slice ad p.dress.length cd) (.slice aq p.parts.length cq) 29)
  clear h hI
  by_cases hs : smallErr p items = 0
  rotate_left
  · obtain ⟨e1, e2⟩ := ne_bool hs
    have HE := hid (show cheapErr p items = smallErr p items from by unfold cheapErr; rw [if_neg hs])
    have HR := hid (show cheapB p items = none from by unfold cheapB; rw [if_neg hs])
    clear hs
    go_enter Try.func41, Try.ntmps41
    go_wp2_with (go_at_call 89; refine (HC.out _ K.out.below).mono ?_; rintro e w2 ⟨rfl, hb2⟩; have K := hid (K.out.later hb2); clear hb2)
    refine bodyPost_ret (v := .tuple #[.slice none 0 0, .int .i64 0, .int .i64 (smallErr p items)]) (by simp [results, Try.results41, go_sem]) rfl ?_
    unfold CheapestPost
    rw [HE.out, HR.out]
    exact ⟨_, rfl, own_nil _ _, K.out.below⟩
  have hv := (smallErr_zero hs).1
  have hp6 := (smallErr_zero hs).2.1
  have hi10 := (smallErr_zero hs).2.2
  have HCh := hid (fun W' hb => HCh.out W' hb hv (by omega))
  have HBs := hid (fun l c (e : bestP p items p.parts = some (l, c)) => (by have q := bestR_some e; exact ⟨q.1, q.2.1, by have := q.2.2.1; simp at this; omega⟩ : wearsE p items p.parts l = 0 ∧ c = costW items l ∧ l.length ≤ 6))
  have HCo := hid (fun (l : List Int) (v : Value) (W' : World) (hb' : Below w.heap.size w W') (hl : IntsAt none W' v l) (hw : wearsE p items p.parts l = 0) (hn : l.length ≤ 6) => rcost_any items l _ v W' (HI.out.below hb') hl (wears_within hw) (items_priced hv) (by omega) (by omega))
  have HR := hid (show cheapB p items = bestP p items p.parts from by unfold cheapB; rw [if_pos hs])
  have HE := hid (show cheapErr p items = if (bestP p items p.parts).isSome = true then 0 else 7 from by unfold cheapErr; rw [if_pos hs])
  rw [hs] at HC
  obtain ⟨s, hs2⟩ : ∃ s, bestP p items p.parts = s := ⟨_, rfl⟩
  have HCh := hid (fun W' hb => (HCh.out W' hb).mono fun e w' (h : RChPost p items p.parts p.parts.length [] W'.heap.size W' e w') => (by unfold RChPost at h; rw [show bestR p items p.parts p.parts.length [] = s from hs2] at h; exact h : ∃ v', e = .returned (.tuple #[v', .bool s.isSome]) ∧ OwnInts W'.heap.size w' v' (bestL s) ∧ Below W'.heap.size W' w'))
  rw [hs2] at HR HE HBs
  clear hs hv hs2
  cases s with
  | none =>
    go_enter Try.func41, Try.ntmps41
    go_wp2_with (first
      | (go_at_call 89; refine (HC.out _ K.out.below).mono ?_; rintro e w2 ⟨rfl, hb2⟩; have K := hid (K.out.later hb2); clear hb2; have p0 := K.out.c (b := w.heap.size) (o := 0) (v := .slice ap p.persons.length cp) (by simp); have p1 := K.out.c (b := w.heap.size) (o := 1) (v := .slice aw p.walk.length cw) (by simp); have p2 := K.out.c (b := w.heap.size) (o := 2) (v := .slice ad p.dress.length cd) (by simp); have p3 := K.out.c (b := w.heap.size) (o := 3) (v := .slice aq p.parts.length cq) (by simp))
      | (go_at_call 90; refine (HCh.out _ K.out.below).mono ?_; rintro e w3 ⟨v', rfl, ho, hb3⟩; have K := hid (K.out.later hb3); clear hb3 ho p0 p1 p2 p3))
    refine bodyPost_ret (v := .tuple #[.slice none 0 0, .int .i64 0, .int .i64 7]) (by simp [results, Try.results41, go_sem]) rfl ?_
    unfold CheapestPost
    rw [HE.out, HR.out]
    exact ⟨_, rfl, own_nil _ _, K.out.below⟩
  | some x =>
    obtain ⟨l, c⟩ := x
    obtain ⟨q1, q2, q3⟩ := HBs.out l c rfl
    have Q1 := hid q1
    have Q2 := hid q2
    have Q3 := hid q3
    clear q1 q2 q3
    go_enter Try.func41, Try.ntmps41
    go_wp2_with (first
      | (go_at_call 89; refine (HC.out _ K.out.below).mono ?_; rintro e w2 ⟨rfl, hb2⟩; have K := hid (K.out.later hb2); clear hb2; have p0 := K.out.c (b := w.heap.size) (o := 0) (v := .slice ap p.persons.length cp) (by simp); have p1 := K.out.c (b := w.heap.size) (o := 1) (v := .slice aw p.walk.length cw) (by simp); have p2 := K.out.c (b := w.heap.size) (o := 2) (v := .slice ad p.dress.length cd) (by simp); have p3 := K.out.c (b := w.heap.size) (o := 3) (v := .slice aq p.parts.length cq) (by simp))
      | (go_at_call 90; refine (HCh.out _ K.out.below).mono ?_; rintro e w3 ⟨v', rfl, ho, hb3⟩; obtain ⟨a3, c3, e3⟩ := (own_int.2 ho).form; rw [show (bestL (some (l, c))).length = l.length from rfl] at e3; subst e3; have HO := hid (show OwnInts w.heap.size w3 (.slice a3 l.length c3) l from OwnInts.base' ho K.out.below.size); have K := hid (K.out.later hb3); clear hb3 ho p0 p1 p2 p3)
      | (go_at_call 91; refine (HCo.out l _ _ K.out.below (OwnInts.at (d := none) HO.out (by simp)) Q1.out Q3.out).mono ?_; rintro e w4 ⟨rfl, hb4⟩; have HO := hid (OwnInts.later HO.out hb4); have K := hid (K.out.later hb4); clear hb4))
    refine bodyPost_ret (v := .tuple #[.slice a3 l.length c3, .int .i64 (costW items l), .int .i64 0]) (by simp [results, Try.results41, go_sem]) rfl ?_
    unfold CheapestPost
    rw [HE.out, HR.out]
    exact ⟨_, by rw [← Q2.out]; rfl, HO.out, K.out.below⟩
end Go.Proofs.Ytdcinngdilfpnaa
