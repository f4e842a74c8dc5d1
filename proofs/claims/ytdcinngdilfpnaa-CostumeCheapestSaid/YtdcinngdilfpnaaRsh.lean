/-
  WALKS: the reference's Some, short, Short.
-/
import Derived.Test.YtdcinngdilfpnaaRcp
import Derived.Test.YtdcinngdilfpnaaCsv
namespace Go.Proofs.Ytdcinngdilfpnaa
open Go.RowKit

theorem someL_snoc (p : Plot) (l : List Int) (k : Nat) (hk : k < l.length) : someL p (l.take (k + 1)) = someL p (l.take k) ++ [pt p.parts (nm l k).toNat] := by
  have e : nm l k = l[k] := by unfold nm; rw [List.getD_eq_getElem?_getD, List.getElem?_eq_getElem hk]; rfl
  unfold someL
  rw [List.take_succ_eq_append_getElem hk, List.map_append, e]
  rfl

set_option maxHeartbeats 4000000 in
set_option maxRecDepth 100000 in
theorem rsome_any (p : Plot) (l : List Int) (vp vw vd vq vl : Value) (w : World) (h : PlotAt none w vp vw vd vq p) (hL : IntsAt none w vl l) (hn : l.length ≤ 1000) (hb : ∀ i, i < l.length → 0 ≤ nm l i ∧ nm l i < p.parts.length) :
    Calls Try.prog 100 #[plotV vp vw vd vq, vl] w fun e w' => ∃ v', e = .returned v' ∧ OwnR encPart 5 38 w.heap.size w' v' (someL p l) ∧ Below w.heap.size w w' := by
  have H := hid h
  have HL := hid hL
  obtain ⟨ap, cp, rfl⟩ := h.persons.form
  obtain ⟨aw, cw, rfl⟩ := h.walk.form
  obtain ⟨ad, cd, ed, _⟩ := h.dress
  subst ed
  obtain ⟨aq, cq, rfl⟩ := h.parts.form
  obtain ⟨al, cl, el, _⟩ := hL
  subst el
  clear h
  have K := hid ((HK.start w).box4m (n := w.heap.size) rfl (.slice ap p.persons.length cp) (.slice aw p.walk.length cw) (.slice ad p.dress.length cd) (.slice aq p.parts.length cq) 29)
  go_enter Try.func100, Try.ntmps100
  go_wp2_with fail
  go_loopw [5, 6] (fun s i wr => ∃ k : Nat, k ≤ l.length ∧ i = .int .i64 k ∧ OwnR encPart 5 38 (w.heap.size + 1) wr s (someL p (l.take k)) ∧ HK [(w.heap.size, 0, .slice ap p.persons.length cp), (w.heap.size, 1, .slice aw p.walk.length cw), (w.heap.size, 2, .slice ad p.dress.length cd), (w.heap.size, 3, .slice aq p.parts.length cq)] w wr) (fun _ i _ => l.length - (intOf i).toNat)
  case atStart => exact ⟨0, by omega, rfl, OwnR.nil _ _ _ _ _, K.out⟩
  case round =>
    obtain ⟨k, hk, rfl, ho, KK⟩ := hrel
    obtain ⟨wo, rfl⟩ : ∃ wo : World, wo = wr := ⟨_, rfl⟩
    have K := hid KK
    have HO := hid ho
    obtain ⟨sa, sc, es⟩ := ho.form
    have hsl : (someL p (l.take k)).length = k := by rw [someL_len, List.length_take]; omega
    rw [hsl] at es
    subst es
    clear KK ho
    by_cases hlt : k < l.length
    rotate_left
    · obtain rfl : k = l.length := by omega
      rw [List.take_length] at HO
      go_wp2_with fail
      go_ret
      exact ⟨_, rfl, HO.out.base' (by omega), K.out.below⟩
    have hnb := hb k hlt
    have HST := hid (someL_snoc p l k hlt)
    have hLo := HL.out.below K.out.below
    obtain ⟨bl, ol, cl', e, _, _⟩ := hLo.slice (by omega)
    cases e
    have n0 := hLo.cell hlt
    obtain ⟨n, hn2⟩ := Int.eq_ofNat_of_zero_le hnb.1
    have hnl : n < p.parts.length := by omega
    have hcc := PartsAt.cells (H.out.parts.below K.out.below) hnl
    obtain ⟨bq, oq, e, hbq, d0, d1, d2, d3, d4⟩ := hcc
    cases e
    rw [hn2] at n0 HST
    rw [Int.toNat_natCast] at HST
    obtain ⟨x, hx⟩ : ∃ x, pt p.parts n = x := ⟨_, rfl⟩
    rw [hx] at d0 d1 d2 d3 d4 HST
    have HD := hid (fun W' (hb' : Below wo.heap.size wo W') => (⟨cell_now hb' n0, cell_now hb' d0, cell_now hb' d1, cell_now hb' d2, cell_now hb' d3, cell_now hb' d4⟩ : W'.cell? ⟨bl, ol + k, none⟩ = some (.int .i64 n) ∧ W'.cell? ⟨bq, oq + n * 5, none⟩ = some (.int .i64 x.person) ∧ W'.cell? ⟨bq, oq + n * 5 + 1, none⟩ = some (.int .i64 x.place) ∧ W'.cell? ⟨bq, oq + n * 5 + 2, none⟩ = some (.int .i64 x.kind) ∧ W'.cell? ⟨bq, oq + n * 5 + 3, none⟩ = some (.int .i64 x.start) ∧ W'.cell? ⟨bq, oq + n * 5 + 4, none⟩ = some (.int .i64 x.stop)))
    have i1 : (k : Int) < (l.length : Int) := by omega
    have i2 : (n : Int) < (p.parts.length : Int) := by omega
    have z1 : IntKind.i64.wrap ((k : Int) + 1) = (k : Int) + 1 := IntWalk.i64_in _ (by omega)
    have hwo : w.heap.size + 1 ≤ wo.heap.size := K.out.clt (b := w.heap.size) (o := 0) (v := .slice ap p.persons.length cp) (by simp)
    have HSl := hid hsl
    clear hnb hn2 hx n0 d0 d1 d2 d3 d4 hsl hLo
    go_upto_region 5 with fail
    have K0 := K
    refine wp_named ?_
    intro A0 hA0
    have HN := hid (show A0.tmps.size = 25 from by rw [hA0]; rfl)
    have r5 : A0.eval (.tmp 5) = .slice sa k sc := by rw [hA0]; rfl
    have r2 : A0.eval (.tmp 2) = .pointer (some ⟨w.heap.size, 0, none⟩) := by rw [hA0]; rfl
    have r1 : A0.eval (.tmp 1) = .slice (some ⟨bl, ol, none⟩) l.length cl := by rw [hA0]; rfl
    have r6 : A0.eval (.tmp 6) = .int .i64 k := by rw [hA0]; rfl
    have HA := hid hA0
    clear hA0
    refine wp_region_flow_tail 10 (by kernel_rfl) (by kernel_rfl) [13, 14, 15, 16, 17, 18, 19, 20, 21, 22] 100
      (fun _ w' => Below wo.heap.size wo w') (fun a b => Below a.heap.size a b) (fun _ _ => False)
      (fun _ i v w' => match i with
        | 0 => v = .slice sa k sc
        | 1 => v = .pointer (some ⟨w.heap.size, 3, none⟩)
        | 2 => v = .slice (some ⟨bq, oq, none⟩) p.parts.length cq
        | 3 => v = .slice (some ⟨bl, ol, none⟩) l.length cl
        | 4 => v = .int .i64 k
        | 5 => v = .pointer (some ⟨bl, ol + k, none⟩)
        | 6 => v = .int .i64 n
        | 7 => v = .pointer (some ⟨bq, oq + n * 5, none⟩)
        | 8 => v = partV x
        | 9 => LitR encPart wo.heap.size w' v x
        | _ => True)
      [0, 1, 2, 3, 4, 5, 6, 7, 8, 9] (by kernel_rfl) (by kernel_rfl) rfl ?_ ?_ ?_ ?_ ?_
    · intro bt i v w2 w3 hW hg hy
      match i with
      | 0 => exact hy
      | 1 => exact hy
      | 2 => exact hy
      | 3 => exact hy
      | 4 => exact hy
      | 5 => exact hy
      | 6 => exact hy
      | 7 => exact hy
      | 8 => exact hy
      | 9 => exact hy.later hg
      | n + 10 => exact trivial
    · intro i v w2 w3 _ h; exact h.elim
    · exact (Below.refl _ _).drew
    · skip
      refine StepF.val (i := 0) (o := _) rfl (by decide) ?_ ?_
      · intro bb vs wx hb hW hY
        exact ⟨fl_want rfl, fun ρ hρ => ⟨.slice sa k sc, wx, ex_move rfl (by rw [hρ, fl_out rfl, r5]), hW, Below.refl _ _, rfl⟩⟩
      refine StepF.val (i := 1) (o := _) rfl (by decide) ?_ ?_
      · intro bb vs wx hb hW hY
        refine ⟨fl_want rfl, fun ρ hρ => ⟨.pointer (some ⟨w.heap.size, 3, none⟩), wx, ?_, hW, Below.refl _ _, rfl⟩⟩
        have r2x : ρ (.tmp 2) = .pointer (some ⟨w.heap.size, 0, none⟩) := by rw [hρ, fl_out rfl, r2]
        clear hρ
        simp [execOp, go_sem, r2x]
      refine StepF.val (i := 2) (o := _) rfl (by decide) ?_ ?_
      · intro bb vs wx hb hW hY
        have y1 : vs 14 = .pointer (some ⟨w.heap.size, 3, none⟩) := hY 1 14 (by kernel_rfl) (by kernel_rfl)
        refine ⟨fl_want rfl, fun ρ hρ => ⟨.slice (some ⟨bq, oq, none⟩) p.parts.length cq, wx, ?_, hW, Below.refl _ _, rfl⟩⟩
        have r14x : ρ (.tmp 14) = .pointer (some ⟨w.heap.size, 3, none⟩) := by rw [hρ, fl_in 25 HN.out rfl, y1]
        have q0 := (K0.out.later hW).c (b := w.heap.size) (o := 3) (v := .slice (some ⟨bq, oq, none⟩) p.parts.length cq) (by simp)
        clear hρ
        simp [execOp, go_sem, r14x, q0]
      refine StepF.val (i := 3) (o := _) rfl (by decide) ?_ ?_
      · intro bb vs wx hb hW hY
        exact ⟨fl_want rfl, fun ρ hρ => ⟨.slice (some ⟨bl, ol, none⟩) l.length cl, wx, ex_move rfl (by rw [hρ, fl_out rfl, r1]), hW, Below.refl _ _, rfl⟩⟩
      refine StepF.val (i := 4) (o := _) rfl (by decide) ?_ ?_
      · intro bb vs wx hb hW hY
        exact ⟨fl_want rfl, fun ρ hρ => ⟨.int .i64 k, wx, ex_move rfl (by rw [hρ, fl_out rfl, r6]), hW, Below.refl _ _, rfl⟩⟩
      refine StepF.val (i := 5) (o := _) rfl (by decide) ?_ ?_
      · intro bb vs wx hb hW hY
        have y3 : vs 16 = .slice (some ⟨bl, ol, none⟩) l.length cl := hY 3 16 (by kernel_rfl) (by kernel_rfl)
        have y4 : vs 17 = .int .i64 k := hY 4 17 (by kernel_rfl) (by kernel_rfl)
        refine ⟨fl_want rfl, fun ρ hρ => ⟨.pointer (some ⟨bl, ol + k, none⟩), wx, ?_, hW, Below.refl _ _, rfl⟩⟩
        have r16x : ρ (.tmp 16) = .slice (some ⟨bl, ol, none⟩) l.length cl := by rw [hρ, fl_in 25 HN.out rfl, y3]
        have r17x : ρ (.tmp 17) = .int .i64 k := by rw [hρ, fl_in 25 HN.out rfl, y4]
        clear hρ
        simp [execOp, go_sem, r16x, r17x, i1]
      refine StepF.val (i := 6) (o := _) rfl (by decide) ?_ ?_
      · intro bb vs wx hb hW hY
        have y5 : vs 18 = .pointer (some ⟨bl, ol + k, none⟩) := hY 5 18 (by kernel_rfl) (by kernel_rfl)
        refine ⟨fl_want rfl, fun ρ hρ => ⟨.int .i64 n, wx, ?_, hW, Below.refl _ _, rfl⟩⟩
        have r18x : ρ (.tmp 18) = .pointer (some ⟨bl, ol + k, none⟩) := by rw [hρ, fl_in 25 HN.out rfl, y5]
        have q0 := (HD.out _ hW).1
        clear hρ
        simp [execOp, go_sem, r18x, q0]
      refine StepF.val (i := 7) (o := _) rfl (by decide) ?_ ?_
      · intro bb vs wx hb hW hY
        have y2 : vs 15 = .slice (some ⟨bq, oq, none⟩) p.parts.length cq := hY 2 15 (by kernel_rfl) (by kernel_rfl)
        have y6 : vs 19 = .int .i64 n := hY 6 19 (by kernel_rfl) (by kernel_rfl)
        refine ⟨fl_want rfl, fun ρ hρ => ⟨.pointer (some ⟨bq, oq + n * 5, none⟩), wx, ?_, hW, Below.refl _ _, rfl⟩⟩
        have r15x : ρ (.tmp 15) = .slice (some ⟨bq, oq, none⟩) p.parts.length cq := by rw [hρ, fl_in 25 HN.out rfl, y2]
        have r19x : ρ (.tmp 19) = .int .i64 n := by rw [hρ, fl_in 25 HN.out rfl, y6]
        clear hρ
        simp [execOp, go_sem, r15x, r19x, i2]
      refine StepF.val (i := 8) (o := _) rfl (by decide) ?_ ?_
      · intro bb vs wx hb hW hY
        have y7 : vs 20 = .pointer (some ⟨bq, oq + n * 5, none⟩) := hY 7 20 (by kernel_rfl) (by kernel_rfl)
        refine ⟨fl_want rfl, fun ρ hρ => ⟨partV x, wx, ?_, hW, Below.refl _ _, rfl⟩⟩
        have r20x : ρ (.tmp 20) = .pointer (some ⟨bq, oq + n * 5, none⟩) := by rw [hρ, fl_in 25 HN.out rfl, y7]
        obtain ⟨_, q0, q1, q2, q3, q4⟩ := HD.out _ hW
        clear hρ
        simp [execOp, go_sem, r20x, q0, q1, q2, q3, q4]
      refine StepF.val (i := 9) (o := _) rfl (by decide) ?_ ?_
      · intro bb vs wx hb hW hY
        have y8 : vs 21 = partV x := hY 8 21 (by kernel_rfl) (by kernel_rfl)
        refine ⟨fl_want rfl, fun ρ hρ => ⟨.slice (some ⟨wx.heap.size, 0, none⟩) 1 1, wx.alloc (.cells (encPart x).toArray 38), ?_, hW.trans ((below_alloc _ _).mono hW.size), below_alloc _ _, LitR.new encPart hW.size x 38⟩⟩
        have r21x : ρ (.tmp 21) = partV x := by rw [hρ, fl_in 25 HN.out rfl, y8]
        clear hρ
        simp [execOp, go_sem, r21x, encPart]
      exact StepF.nil
    · intro vs wx hW hY
      have y0 : vs 13 = .slice sa k sc := hY 0 13 (by kernel_rfl)
      have y9 : LitR encPart wo.heap.size wx (vs 22) x := hY 9 22 (by kernel_rfl)
      have HW1 := hid (show Below wo.heap.size wo wx from hW)
      have H9 := hid y9
      clear hW hY y9
      rw [HA.out]
      simp only [putAll, Act.put, List.setIfInBounds_toArray, List.set_cons_zero, List.set_cons_succ, List.drop_succ_cons, List.drop_zero]
      rw [y0]
      clear y0 HA r5 r2 r1 r6 HN
      refine wpList_app encPart Try.underlying27 infoPart' (by decide) (by decide) (fun _ => rfl) rfl _ _ rfl (w.heap.size + 1) (someL p (l.take k)) [x] (fun y _ => encPart_one y) (.slice sa k sc) (vs 22) rfl rfl (HO.out.later HW1.out) H9.out.src (by rw [HSl.out]; simp; omega) (Nat.le_trans hwo HW1.out.size) ?_
      intro v' w' hown' hg _ _
      obtain ⟨a', c', e⟩ := hown'.form
      rw [List.length_append, List.length_singleton, HSl.out] at e
      subst e
      rw [← HST.out] at hown'
      have HO1 := hid hown'
      have K := hid ((K0.out.later HW1.out).grown hg (base := w.heap.size + 1) (fun j hj => ((HO.out.later HW1.out).lt hj).1) (by omega) (by intro b' o v hm; simp only [List.mem_cons, Prod.mk.injEq, List.not_mem_nil, or_false] at hm; omega))
      clear hown' hg
      go_wp2_with fail
      go_roundw
      case rel => exact ⟨k + 1, by omega, by go_num, HO1.out, K.out⟩
      case measure => simp [intOf] <;> omega
def RShPost (s : Option (List Int)) (base : Nat) (w : World) (e : Ending) (w' : World) : Prop :=
  ∃ v' l', e = .returned (.tuple #[v', .bool s.isSome]) ∧ OwnInts base w' v' l' ∧ (∀ l, s = some l → l' = l) ∧ Below w.heap.size w w'

set_option maxHeartbeats 8000000 in
set_option maxRecDepth 100000 in
theorem rshort_any (p : Plot) (items : List Item) (hv : itemsErr p items = 0) :
    ∀ (m : Nat) (t : List Int) (lo : Nat) (base : Nat) (vp vw vd vq vi vt : Value) (w : World), PlotAt none w vp vw vd vq p → ItemsAt none w vi items → OwnInts base w vt t → base ≤ w.heap.size → (∀ i, i < t.length → 0 ≤ nm t i ∧ nm t i < p.parts.length) → t.length + m ≤ 30 → lo ≤ 100 →
      Calls Try.prog 99 #[plotV vp vw vd vq, vi, vt, .int .i64 lo, .int .i64 m] w (RShPost (shortR p items p.parts.length m t lo) base w) := by
  have Vd := hid (plotErr_zero.1 (itemsErr_zero hv).1)
  have HV := hid hv
  have hfew := Vd.out.few
  intro m
  induction m with
  | zero =>
    intro t lo base vp vw vd vq vi vt w h hI hT hbase htn hl hlo
    have HT := hid hT
    have HTn := hid htn
    have HSo := hid (fun W' hb' => rsome_any p t vp vw vd vq vt W' (h.below hb') (OwnInts.at (d := none) (OwnInts.later hT hb') (by simp)) (by omega) htn)
    have HCh := hid (fun (vr : Value) W' (hb' : Below w.heap.size w W') (hr : PartsAt none W' vr (someL p t)) => rcheap_any p items (someL p t) hv (fun i hi => by rw [someL_len] at hi; rw [pt_some hi]; have := htn i hi; exact Vd.out.parts _ (by omega)) (by rw [someL_len]; omega) (someL p t).length [] W'.heap.size vp vw vd vq vi vr (.slice none 0 0) W' (h.below hb') (hI.below hb') hr (own_nil _ _) (Nat.le_refl _) (by simp))
    have HCh := hid (fun vr W' hb' hr => (HCh.out vr W' hb' hr).mono fun e w' (h : RChPost p items (someL p t) (someL p t).length [] W'.heap.size W' e w') => (by unfold RChPost at h; exact h : ∃ v', e = .returned (.tuple #[v', .bool (worn p items t)]) ∧ OwnInts W'.heap.size w' v' _ ∧ Below W'.heap.size W' w'))
    have HE := hid (show shortR p items p.parts.length 0 t lo = if worn p items t = true then none else some t from rfl)
    obtain ⟨r, hr⟩ : ∃ r, shortR p items p.parts.length 0 t lo = r := ⟨_, rfl⟩
    obtain ⟨wn, hwn⟩ : ∃ wn, worn p items t = wn := ⟨_, rfl⟩
    rw [hr, hwn] at HE
    rw [hwn] at HCh
    rw [hr]
    obtain ⟨ai, ci, rfl⟩ := hI.form
    obtain ⟨ta, tc, rfl⟩ := (own_int.2 hT).form
    obtain ⟨ap, cp, rfl⟩ := h.persons.form
    obtain ⟨aw, cw, rfl⟩ := h.walk.form
    obtain ⟨ad, cd, ed, _⟩ := h.dress
    subst ed
    obtain ⟨aq, cq, rfl⟩ := h.parts.form
    clear h hI hT hr hwn htn
    have K := hid ((HK.start w).box4m (n := w.heap.size) rfl (.slice ap p.persons.length cp) (.slice aw p.walk.length cw) (.slice ad p.dress.length cd) (.slice aq p.parts.length cq) 29)
    go_enter Try.func99, Try.ntmps99
    go_upto_region 2 with fail
    obtain ⟨wy, hwy, KY⟩ := K.out.name
    rw [hwy]
    have K := hid KY.drew
    clear hwy KY
    go_region_held3 (fun w' => w'.cell? ⟨w.heap.size, 0, none⟩ = some (.slice ap p.persons.length cp) ∧ w'.cell? ⟨w.heap.size, 1, none⟩ = some (.slice aw p.walk.length cw) ∧ w'.cell? ⟨w.heap.size, 2, none⟩ = some (.slice ad p.dress.length cd) ∧ w'.cell? ⟨w.heap.size, 3, none⟩ = some (.slice aq p.parts.length cq))
      (first | exact ⟨K.out.c (by simp), K.out.c (by simp), K.out.c (by simp), K.out.c (by simp)⟩) (first
      | (go_at_call 100; refine (HSo.out _ K.out.below).mono ?_; rintro e w2 ⟨v2, rfl, ho, hb2⟩; have K := hid (K.out.later hb2); have HO := hid (ho.parts (d := none) (by simp)); clear hb2 ho)
      | (go_at_call 90; refine (HCh.out _ _ K.out.below HO.out).mono ?_; rintro e w3 ⟨v3, rfl, _, hb3⟩; have K := hid (K.out.later hb3); clear hb3))
    go_wp2_with fail
    refine bodyPost_ret (v := .tuple #[.slice ta t.length tc, .bool !wn]) (by simp [results, Try.results99, go_sem]) rfl ?_
    refine ⟨_, t, ?_, OwnInts.later HT.out K.out.below, ?_, K.out.below⟩
    · rw [HE.out]; cases wn <;> rfl
    · intro l hl
      rw [HE.out] at hl
      cases wn with
      | true => cases hl
      | false => cases hl; rfl
  | succ m ih =>
    intro t lo base vp vw vd vq vi vt w h hI hT hbase htn hl hlo
    have H := hid h
    have HI := hid hI
    have HT := hid hT
    have HTn := hid htn
    have IH := hid ih
    have HE := hid (show shortR p items p.parts.length (m + 1) t lo = firstS (fun i => shortR p items p.parts.length m (t ++ [(i : Int)]) (i + 1)) lo (p.parts.length - lo) from rfl)
    obtain ⟨r, hr⟩ : ∃ r, shortR p items p.parts.length (m + 1) t lo = r := ⟨_, rfl⟩
    rw [hr] at HE ⊢
    obtain ⟨ai, ci, rfl⟩ := hI.form
    obtain ⟨ta, tc, rfl⟩ := (own_int.2 hT).form
    obtain ⟨ap, cp, rfl⟩ := h.persons.form
    obtain ⟨aw, cw, rfl⟩ := h.walk.form
    obtain ⟨ad, cd, ed, _⟩ := h.dress
    subst ed
    obtain ⟨aq, cq, rfl⟩ := h.parts.form
    clear h hI hT hr htn ih
    have K := hid ((HK.start w).box4m (n := w.heap.size) rfl (.slice ap p.persons.length cp) (.slice aw p.walk.length cw) (.slice ad p.dress.length cd) (.slice aq p.parts.length cq) 29)
    obtain ⟨e1, e2⟩ := ne_bool (a := ((m + 1 : Nat) : Int)) (b := 0) (by omega)
    obtain ⟨M, hM⟩ : ∃ M : Int, ((m + 1 : Nat) : Int) = M := ⟨_, rfl⟩
    rw [hM] at e1 e2 ⊢
    have zM : IntKind.i64.wrap (M - 1) = (m : Int) := by rw [IntWalk.i64_in _ (by omega)]; omega
    clear hM
    go_enter Try.func99, Try.ntmps99
    go_wp2_with fail
    clear e1 e2
    go_loopw [14] (fun a wr => ∃ i : Nat, lo ≤ i ∧ (i ≤ p.parts.length ∨ i = lo) ∧ a = .int .i64 i ∧ firstS (fun i => shortR p items p.parts.length m (t ++ [(i : Int)]) (i + 1)) lo (i - lo) = none ∧ HK [(w.heap.size, 0, .slice ap p.persons.length cp), (w.heap.size, 1, .slice aw p.walk.length cw), (w.heap.size, 2, .slice ad p.dress.length cd), (w.heap.size, 3, .slice aq p.parts.length cq)] w wr) (fun a _ => p.parts.length - (intOf a).toNat)
    case atStart => exact ⟨lo, Nat.le_refl _, .inr rfl, rfl, by rw [Nat.sub_self]; rfl, K.out⟩
    case round =>
      obtain ⟨i, hi, hio, rfl, hf, KK⟩ := hrel
      obtain ⟨wo, rfl⟩ : ∃ wo : World, wo = wr := ⟨_, rfl⟩
      have K := hid KK
      have HF := hid hf
      have HIo := hid hio
      clear KK hf hio
      have p3 := K.out.c (b := w.heap.size) (o := 3) (v := .slice aq p.parts.length cq) (by simp)
      by_cases hlt : i < p.parts.length
      rotate_left
      · have hei : i - lo = p.parts.length - lo := by have := HIo.out; omega
        have HR := hid (show r = none from by rw [HE.out, ← hei]; exact HF.out)
        clear hei
        go_wp2_with fail
        refine bodyPost_ret (v := .tuple #[.slice none 0 0, .bool false]) (by simp [results, Try.results99, go_sem]) rfl ?_
        exact ⟨_, [], by rw [HR.out]; rfl, own_nil _ _, (by intro l hl; rw [HR.out] at hl; cases hl), K.out.below⟩
      have i1 : (i : Int) < (p.parts.length : Int) := by omega
      have z1 : IntKind.i64.wrap ((i : Int) + 1) = ((i + 1 : Nat) : Int) := by rw [IntWalk.i64_in _ (by omega)]; rfl
      have HFs := hid (fun l (e : shortR p items p.parts.length m (t ++ [(i : Int)]) (i + 1) = some l) => (by
        rw [HE.out]
        refine firstS_at (i := i - lo) (firstS_none.1 HF.out) ?_ (by omega)
        show shortR p items p.parts.length m (t ++ [((lo + (i - lo) : Nat) : Int)]) (lo + (i - lo) + 1) = some l
        rw [show lo + (i - lo) = i by omega]
        exact e : r = some l))
      have HFn := hid (fun (e : shortR p items p.parts.length m (t ++ [(i : Int)]) (i + 1) = none) => (by
        refine firstS_none.2 fun j hj => ?_
        by_cases hj2 : j < i - lo
        · exact firstS_none.1 HF.out j hj2
        · rw [show lo + j = i by omega]; exact e : firstS (fun i => shortR p items p.parts.length m (t ++ [(i : Int)]) (i + 1)) lo (i + 1 - lo) = none))
      have hwo : w.heap.size ≤ wo.heap.size := K.out.below.size
      have HIH := hid (fun W' (hb' : Below wo.heap.size wo W') vb (hv : OwnInts wo.heap.size W' vb (t ++ [(i : Int)])) => IH.out (t ++ [(i : Int)]) (i + 1) wo.heap.size _ _ _ _ _ vb W' (H.out.below (K.out.below.trans (hb'.mono hwo))) (HI.out.below (K.out.below.trans (hb'.mono hwo))) hv hb'.size (by
        intro j hj
        rw [List.length_append, List.length_singleton] at hj
        by_cases e : j < t.length
        · rw [nm_snoc_old e]; exact HTn.out j e
        · obtain rfl : j = t.length := by omega
          rw [nm_snoc_new]; omega) (by simp; omega) (by omega))
      obtain ⟨s, hs⟩ : ∃ s, shortR p items p.parts.length m (t ++ [(i : Int)]) (i + 1) = s := ⟨_, rfl⟩
      rw [hs] at HFs HFn
      have HIH := hid (fun W' hb' vb hv => (by have := HIH.out W' hb' vb hv; rw [hs] at this; exact this : Calls Try.prog 99 #[plotV (.slice ap p.persons.length cp) (.slice aw p.walk.length cw) (.slice ad p.dress.length cd) (.slice aq p.parts.length cq), .slice ai items.length ci, vb, .int .i64 (i + 1 : Nat), .int .i64 m] W' (RShPost s wo.heap.size W')))
      clear hs
      go_upto_region 7 with fail
      clear p3
      have K0 := K
      have htl : t.length ≤ 30 := by omega
      refine wp_named ?_
      intro A0 hA0
      have HN := hid (show A0.tmps.size = 57 from by rw [hA0]; rfl)
      have r5 : A0.eval (.tmp 5) = .pointer (some ⟨w.heap.size, 0, none⟩) := by rw [hA0]; rfl
      have r1 : A0.eval (.tmp 1) = .slice ai items.length ci := by rw [hA0]; rfl
      have r2 : A0.eval (.tmp 2) = .slice ta t.length tc := by rw [hA0]; rfl
      have r14 : A0.eval (.tmp 14) = .int .i64 i := by rw [hA0]; rfl
      have r4 : A0.eval (.tmp 4) = .int .i64 M := by rw [hA0]; rfl
      have HA := hid hA0
      clear hA0
      refine wp_region_flow (by kernel_rfl) [40, 41, 42, 43, 44, 45, 46, 47, 48, 49, 50, 51, 52, 39, 53, 54, 15, 16] 7
        (fun _ w' => Below wo.heap.size wo w') (fun a b => Below a.heap.size a b) (fun _ _ => True)
        (fun bt ix v w' => match ix, bt with
          | 0, _ => v = .agg #[.slice ap p.persons.length cp, .slice aw p.walk.length cw, .slice ad p.dress.length cd, .slice aq p.parts.length cq]
          | 1, _ => v = .slice ai items.length ci
          | 2, false => ∃ E, v = .slice (some ⟨E, 0, none⟩) 0 0 ∧ wo.heap.size ≤ E ∧ w'.heap[E]? = some (.cells #[] 3 (0, 0))
          | 3, _ => v = .slice ta t.length tc
          | 4, false => OwnR encInt 1 3 wo.heap.size w' v t
          | 5, _ => v = .int .i64 i
          | 6, false => LitR encInt wo.heap.size w' v (i : Int)
          | 7, true => OwnR encInt 1 3 wo.heap.size w' v (t ++ [(i : Int)])
          | 8, _ => v = .int .i64 i
          | 9, _ => v = .int .i64 (i + 1 : Nat)
          | 10, _ => v = .int .i64 M
          | 11, _ => v = .int .i64 m
          | 12, true => ∃ v4 l', v = .tuple #[v4, .bool s.isSome] ∧ OwnInts wo.heap.size w' v4 l' ∧ (∀ l, s = some l → l' = l)
          | 13, true => ∃ v4 l', v = .tuple #[v4, .bool s.isSome] ∧ OwnInts wo.heap.size w' v4 l' ∧ (∀ l, s = some l → l' = l)
          | 14, true => ∃ l', OwnInts wo.heap.size w' v l' ∧ (∀ l, s = some l → l' = l)
          | 15, true => v = .bool s.isSome
          | 16, true => ∃ l', OwnInts wo.heap.size w' v l' ∧ (∀ l, s = some l → l' = l)
          | 17, true => v = .bool s.isSome
          | 7, false => False
          | 12, false => False
          | 13, false => False
          | 14, false => False
          | 15, false => False
          | 16, false => False
          | 17, false => False
          | _, _ => True)
        [0, 1, 2, 3, 4, 5, 6, 7, 8, 9, 10, 11, 12, 13, 14, 15, 16, 17] (by kernel_rfl) (by kernel_rfl) rfl ?_ ?_ ?_ ?_ ?_
      · intro bt ix v w2 w3 hW hg hy
        match ix, bt with
        | 0, _ => exact hy
        | 1, _ => exact hy
        | 2, false => obtain ⟨E, h1, h2, h3⟩ := hy; exact ⟨E, h1, h2, (hg.block E (Array.getElem?_eq_some_iff.1 h3).1).trans h3⟩
        | 3, _ => exact hy
        | 4, false => exact OwnR.later hy hg
        | 5, _ => exact hy
        | 6, false => exact hy.later hg
        | 7, true => exact OwnR.later hy hg
        | 8, _ => exact hy
        | 9, _ => exact hy
        | 10, _ => exact hy
        | 11, _ => exact hy
        | 12, true => obtain ⟨u, l2, h1, h2, h3⟩ := hy; exact ⟨u, l2, h1, OwnInts.later h2 hg, h3⟩
        | 13, true => obtain ⟨u, l2, h1, h2, h3⟩ := hy; exact ⟨u, l2, h1, OwnInts.later h2 hg, h3⟩
        | 14, true => obtain ⟨l2, h2, h3⟩ := hy; exact ⟨l2, OwnInts.later h2 hg, h3⟩
        | 15, true => exact hy
        | 16, true => obtain ⟨l2, h2, h3⟩ := hy; exact ⟨l2, OwnInts.later h2 hg, h3⟩
        | 17, true => exact hy
        | 7, false => exact hy
        | 12, false => exact hy
        | 13, false => exact hy
        | 14, false => exact hy
        | 15, false => exact hy
        | 16, false => exact hy
        | 17, false => exact hy
        | 2, true => exact trivial
        | 4, true => exact trivial
        | 6, true => exact trivial
        | n + 18, _ => exact trivial
      · intro ix v w2 w3 _ _ hy
        match ix with
        | 0 => exact hy
        | 1 => exact hy
        | 2 => exact trivial
        | 3 => exact hy
        | 4 => exact trivial
        | 5 => exact hy
        | 6 => exact trivial
        | 7 => exact hy.elim
        | 8 => exact hy
        | 9 => exact hy
        | 10 => exact hy
        | 11 => exact hy
        | 12 => exact hy.elim
        | 13 => exact hy.elim
        | 14 => exact hy.elim
        | 15 => exact hy.elim
        | 16 => exact hy.elim
        | 17 => exact hy.elim
        | n + 18 => exact trivial
      · exact (Below.refl _ _).drew
      · skip
        refine StepF.val (i := 0) (o := _) rfl (by decide) ?_ ?_
        · intro bb vs wx hb hW hY
          refine ⟨fl_want rfl, fun ρ hρ => ⟨.agg #[.slice ap p.persons.length cp, .slice aw p.walk.length cw, .slice ad p.dress.length cd, .slice aq p.parts.length cq], wx, ?_, hW, Below.refl _ _, rfl⟩⟩
          have r5x : ρ (.tmp 5) = .pointer (some ⟨w.heap.size, 0, none⟩) := by rw [hρ, fl_out rfl, r5]
          have KK := K0.out.later hW
          have q0 := KK.c (b := w.heap.size) (o := 0) (v := .slice ap p.persons.length cp) (by simp)
          have q1 := KK.c (b := w.heap.size) (o := 1) (v := .slice aw p.walk.length cw) (by simp)
          have q2 := KK.c (b := w.heap.size) (o := 2) (v := .slice ad p.dress.length cd) (by simp)
          have q3 := KK.c (b := w.heap.size) (o := 3) (v := .slice aq p.parts.length cq) (by simp)
          clear hρ
          simp [execOp, go_sem, r5x, q0, q1, q2, q3]
        refine StepF.val (i := 1) (o := _) rfl (by decide) ?_ ?_
        · intro bb vs wx hb hW hY
          exact ⟨fl_want rfl, fun ρ hρ => ⟨.slice ai items.length ci, wx, ex_move rfl (by rw [hρ, fl_out rfl, r1]), hW, Below.refl _ _, rfl⟩⟩
        refine StepF.val (i := 2) (o := _) rfl (by decide) ?_ ?_
        · intro bb vs wx hb hW hY
          refine ⟨fl_want rfl, fun ρ hρ => ⟨.slice (some ⟨wx.heap.size, 0, none⟩) 0 0, wx.alloc (.cells #[] 3), ?_, hW.trans ((below_alloc _ _).mono hW.size), below_alloc _ _, ?_⟩⟩
          · clear hρ
            simp [execOp, go_sem]
          · cases bb with
            | false => exact ⟨_, rfl, hW.size, box_new _ _ _⟩
            | true => exact trivial
        refine StepF.val (i := 3) (o := _) rfl (by decide) ?_ ?_
        · intro bb vs wx hb hW hY
          exact ⟨fl_want rfl, fun ρ hρ => ⟨.slice ta t.length tc, wx, ex_move rfl (by rw [hρ, fl_out rfl, r2]), hW, Below.refl _ _, rfl⟩⟩
        refine StepF.val (i := 4) (o := _) rfl (by decide) ?_ ?_
        · intro bb vs wx hb hW hY
          have hbf : bb = false := hb (by kernel_rfl)
          subst hbf
          have y3 : ∃ E, vs 42 = .slice (some ⟨E, 0, none⟩) 0 0 ∧ wo.heap.size ≤ E ∧ wx.heap[E]? = some (.cells #[] 3 (0, 0)) := hY 2 42 (by kernel_rfl) (by kernel_rfl)
          have y4 : vs 43 = .slice ta t.length tc := hY 3 43 (by kernel_rfl) (by kernel_rfl)
          obtain ⟨E, e0, hE, hE2⟩ := y3
          obtain ⟨v', w', hr, hown', hbl⟩ := run_app_empty (P := Try.prog) encInt Try.underlying22 infoInt' (by decide) (by decide) (fun _ => rfl) 22 wo.heap.size t (fun y _ => encInt_one y) (.slice ta t.length tc) hE2 hE (Src.ints (OwnInts.at (d := none) (OwnInts.later HT.out (K0.out.below.trans (hW.mono hwo))) (by simp)) (own_int.2 HT.out).sound) (by omega) hW.size
          exact ⟨fl_want rfl, fun ρ hρ => ⟨v', w', ex_app rfl (by rw [hρ, fl_in 57 HN.out rfl, e0]) (by rw [hρ, fl_in 57 HN.out rfl, y4]) hr, hW.trans (hbl.mono hW.size), hbl, hown'⟩⟩
        refine StepF.val (i := 5) (o := _) rfl (by decide) ?_ ?_
        · intro bb vs wx hb hW hY
          exact ⟨fl_want rfl, fun ρ hρ => ⟨.int .i64 i, wx, ex_move rfl (by rw [hρ, fl_out rfl, r14]), hW, Below.refl _ _, rfl⟩⟩
        refine StepF.val (i := 6) (o := _) rfl (by decide) ?_ ?_
        · intro bb vs wx hb hW hY
          have hbf : bb = false := hb (by kernel_rfl)
          subst hbf
          have y6 : vs 45 = .int .i64 i := hY 5 45 (by kernel_rfl) (by kernel_rfl)
          refine ⟨fl_want rfl, fun ρ hρ => ⟨.slice (some ⟨wx.heap.size, 0, none⟩) 1 1, wx.alloc (.cells #[.int .i64 i] 3), ?_, hW.trans ((below_alloc _ _).mono hW.size), below_alloc _ _, LitR.new encInt hW.size (i : Int) 3⟩⟩
          have rr : ρ (.tmp 45) = .int .i64 i := by rw [hρ, fl_in 57 HN.out rfl, y6]
          clear hρ
          simp [execOp, rr, go_sem]
        refine StepF.valA (i := 7) (o := _) rfl rfl ?_ ?_
        · intro vs wx hW hY
          have y5 : OwnR encInt 1 3 wo.heap.size wx (vs 44) t := hY 4 44 (by kernel_rfl) (by kernel_rfl)
          have y7 : LitR encInt wo.heap.size wx (vs 46) (i : Int) := hY 6 46 (by kernel_rfl) (by kernel_rfl)
          obtain ⟨v', w', hr, hown', hg, _, _⟩ := run_app (P := Try.prog) encInt Try.underlying22 infoInt' (by decide) (by decide) (fun _ => rfl) 22 wo.heap.size t [(i : Int)] (fun y _ => encInt_one y) _ _ y5 y7.src (by simp; omega) hW.size
          exact ⟨fl_want rfl, fun ρ hρ => ⟨v', w', ex_app rfl (by rw [hρ, fl_in 57 HN.out rfl]) (by rw [hρ, fl_in 57 HN.out rfl]) hr, hW.trans (y5.below hg hW.size), trivial, hown'⟩⟩
        refine StepF.val (i := 8) (o := _) rfl (by decide) ?_ ?_
        · intro bb vs wx hb hW hY
          exact ⟨fl_want rfl, fun ρ hρ => ⟨.int .i64 i, wx, ex_move rfl (by rw [hρ, fl_out rfl, r14]), hW, Below.refl _ _, rfl⟩⟩
        refine StepF.val (i := 9) (o := _) rfl (by decide) ?_ ?_
        · intro bb vs wx hb hW hY
          have y8 : vs 48 = .int .i64 i := hY 8 48 (by kernel_rfl) (by kernel_rfl)
          refine ⟨fl_want rfl, fun ρ hρ => ⟨.int .i64 (i + 1 : Nat), wx, ?_, hW, Below.refl _ _, rfl⟩⟩
          have r48x : ρ (.tmp 48) = .int .i64 i := by rw [hρ, fl_in 57 HN.out rfl, y8]
          have rc : ∀ c, ρ (.const c) = c := fun c => by rw [hρ]; rfl
          clear hρ
          simp [execOp, go_sem, r48x, rc, z1]
        refine StepF.val (i := 10) (o := _) rfl (by decide) ?_ ?_
        · intro bb vs wx hb hW hY
          exact ⟨fl_want rfl, fun ρ hρ => ⟨.int .i64 M, wx, ex_move rfl (by rw [hρ, fl_out rfl, r4]), hW, Below.refl _ _, rfl⟩⟩
        refine StepF.val (i := 11) (o := _) rfl (by decide) ?_ ?_
        · intro bb vs wx hb hW hY
          have y10 : vs 50 = .int .i64 M := hY 10 50 (by kernel_rfl) (by kernel_rfl)
          refine ⟨fl_want rfl, fun ρ hρ => ⟨.int .i64 m, wx, ?_, hW, Below.refl _ _, rfl⟩⟩
          have r50x : ρ (.tmp 50) = .int .i64 M := by rw [hρ, fl_in 57 HN.out rfl, y10]
          have rc : ∀ c, ρ (.const c) = c := fun c => by rw [hρ]; rfl
          clear hρ
          simp [execOp, go_sem, r50x, rc, zM]
        refine StepF.call (i := 12) (o := _) rfl (by decide) ?_ ?_
        · intro bb vs wx hb hW hY
          cases bb with
          | false => exact (hY 7 47 (by kernel_rfl) (by kernel_rfl)).elim
          | true =>
            have y0 : vs 40 = .agg #[.slice ap p.persons.length cp, .slice aw p.walk.length cw, .slice ad p.dress.length cd, .slice aq p.parts.length cq] := hY 0 40 (by kernel_rfl) (by kernel_rfl)
            have y1 : vs 41 = .slice ai items.length ci := hY 1 41 (by kernel_rfl) (by kernel_rfl)
            have y7 : OwnR encInt 1 3 wo.heap.size wx (vs 47) (t ++ [(i : Int)]) := hY 7 47 (by kernel_rfl) (by kernel_rfl)
            have y9 : vs 49 = .int .i64 (i + 1 : Nat) := hY 9 49 (by kernel_rfl) (by kernel_rfl)
            have y11 : vs 51 = .int .i64 m := hY 11 51 (by kernel_rfl) (by kernel_rfl)
            refine ⟨fl_want rfl, fun ρ hρ => ⟨99, #[vs 40, vs 41, vs 47, vs 49, vs 51], ex_call rfl (by rw [hρ]; rfl) (by simp [hρ, fl_in 57 HN.out]) Try.func99 (by kernel_rfl) rfl, ?_⟩⟩
            rw [y0, y1, y9, y11]
            refine (HIH.out wx hW _ (own_int.1 y7)).mono ?_
            rintro e w' ⟨v4, l4, rfl, h1, h2, h3⟩
            exact ⟨_, rfl, hW.trans (h3.mono hW.size), h3, ⟨v4, l4, rfl, h1, h2⟩⟩
        refine StepF.val (i := 13) (o := _) rfl (by decide) ?_ ?_
        · intro bb vs wx hb hW hY
          cases bb with
          | false => exact (hY 12 52 (by kernel_rfl) (by kernel_rfl)).elim
          | true =>
            obtain ⟨v4, l4, e4, h4⟩ : ∃ v4 l', vs 52 = .tuple #[v4, .bool s.isSome] ∧ OwnInts wo.heap.size wx v4 l' ∧ (∀ l, s = some l → l' = l) := hY 12 52 (by kernel_rfl) (by kernel_rfl)
            exact ⟨fl_want rfl, fun ρ hρ => ⟨_, wx, ex_move rfl (by rw [hρ, fl_in 57 HN.out rfl, e4]), hW, Below.refl _ _, ⟨v4, l4, rfl, h4⟩⟩⟩
        refine StepF.val (i := 14) (o := _) rfl (by decide) ?_ ?_
        · intro bb vs wx hb hW hY
          cases bb with
          | false => exact (hY 13 39 (by kernel_rfl) (by kernel_rfl)).elim
          | true =>
            obtain ⟨v4, l4, e4, h4⟩ : ∃ v4 l', vs 39 = .tuple #[v4, .bool s.isSome] ∧ OwnInts wo.heap.size wx v4 l' ∧ (∀ l, s = some l → l' = l) := hY 13 39 (by kernel_rfl) (by kernel_rfl)
            exact ⟨fl_want rfl, fun ρ hρ => ⟨v4, wx, ex_extract (vs := #[v4, .bool s.isSome]) rfl (by rw [hρ, fl_in 57 HN.out rfl, e4]) rfl, hW, Below.refl _ _, ⟨l4, h4⟩⟩⟩
        refine StepF.val (i := 15) (o := _) rfl (by decide) ?_ ?_
        · intro bb vs wx hb hW hY
          cases bb with
          | false => exact (hY 13 39 (by kernel_rfl) (by kernel_rfl)).elim
          | true =>
            obtain ⟨v4, l4, e4, h4⟩ : ∃ v4 l', vs 39 = .tuple #[v4, .bool s.isSome] ∧ OwnInts wo.heap.size wx v4 l' ∧ (∀ l, s = some l → l' = l) := hY 13 39 (by kernel_rfl) (by kernel_rfl)
            exact ⟨fl_want rfl, fun ρ hρ => ⟨.bool s.isSome, wx, ex_extract (vs := #[v4, .bool s.isSome]) rfl (by rw [hρ, fl_in 57 HN.out rfl, e4]) rfl, hW, Below.refl _ _, rfl⟩⟩
        refine StepF.val (i := 16) (o := _) rfl (by decide) ?_ ?_
        · intro bb vs wx hb hW hY
          cases bb with
          | false => exact (hY 14 53 (by kernel_rfl) (by kernel_rfl)).elim
          | true =>
            have h4 : ∃ l', OwnInts wo.heap.size wx (vs 53) l' ∧ (∀ l, s = some l → l' = l) := hY 14 53 (by kernel_rfl) (by kernel_rfl)
            exact ⟨fl_want rfl, fun ρ hρ => ⟨vs 53, wx, ex_assign rfl (by rw [hρ, fl_in 57 HN.out rfl]), hW, Below.refl _ _, h4⟩⟩
        refine StepF.val (i := 17) (o := _) rfl (by decide) ?_ ?_
        · intro bb vs wx hb hW hY
          cases bb with
          | false => exact (hY 15 54 (by kernel_rfl) (by kernel_rfl)).elim
          | true =>
            have h4 : vs 54 = .bool s.isSome := hY 15 54 (by kernel_rfl) (by kernel_rfl)
            exact ⟨fl_want rfl, fun ρ hρ => ⟨_, wx, ex_assign rfl (by rw [hρ, fl_in 57 HN.out rfl, h4]), hW, Below.refl _ _, rfl⟩⟩
        exact StepF.nil
      · intro vs wx hW hY
        have y16 : ∃ l', OwnInts wo.heap.size wx (vs 15) l' ∧ (∀ l, s = some l → l' = l) := hY 16 15 (by kernel_rfl)
        have y17 : vs 16 = .bool s.isSome := hY 17 16 (by kernel_rfl)
        have HW1 := hid (show Below wo.heap.size wo wx from hW)
        obtain ⟨l4, h4, hl4⟩ := y16
        obtain ⟨a4, c4, e4⟩ := (own_int.2 h4).form
        clear hW hY
        rw [HA.out]
        simp only [putAll, Act.put, List.setIfInBounds_toArray, List.set_cons_zero, List.set_cons_succ]
        rw [e4] at h4
        rw [e4, y17]
        have HO4 := hid (OwnInts.base' h4 (Nat.le_trans hbase hwo))
        have HL4 := hid hl4
        have K := hid (K0.out.later HW1.out)
        clear h4 hl4 y17 e4 HA r1 r2 r4 r5 r14 HN
        cases s with
        | none =>
          have HG := hid (HFn.out rfl)
          go_wp2_with fail
          go_roundw
          case rel => exact ⟨i + 1, by omega, .inl (by omega), by go_num, HG.out, K.out⟩
          case measure => simp [intOf] <;> omega
        | some l =>
          have HR := hid (HFs.out l rfl)
          obtain rfl : l4 = l := HL4.out l rfl
          go_wp2_with fail
          refine bodyPost_ret (v := .tuple #[.slice a4 l4.length c4, .bool true]) (by simp [results, Try.results99, go_sem]) rfl ?_
          exact ⟨_, l4, by rw [HR.out]; rfl, HO4.out, (by intro l hl; rw [HR.out] at hl; cases hl; rfl), K.out.below⟩
def shortL (p : Plot) (items : List Item) : List Int := if smallErr p items = 0 then shortS p items p.parts.length else []
def ShortPost (p : Plot) (items : List Item) (w : World) (e : Ending) (w' : World) : Prop :=
  ∃ v', e = .returned (.tuple #[v', .int .i64 (smallErr p items)]) ∧ OwnInts w.heap.size w' v' (shortL p items) ∧ Below w.heap.size w w'

set_option maxHeartbeats 8000000 in
set_option maxRecDepth 100000 in
theorem rshortc_any (p : Plot) (items : List Item) (vp vw vd vq vi : Value) (w : World) (h : PlotAt none w vp vw vd vq p) (hI : ItemsAt none w vi items) :
    Calls Try.prog 51 #[plotV vp vw vd vq, vi] w (ShortPost p items w) := by
  have H := hid h
  have HI := hid hI
  have HC := hid (fun W' hb => rfew_any p items vp vw vd vq vi W' (H.out.below hb) (HI.out.below hb))
  have HSh := hid (fun (k : Nat) W' hb hv (hk : k ≤ 30) => (by have := rshort_any p items hv k [] 0 W'.heap.size vp vw vd vq vi (.slice none 0 0) W' (H.out.below hb) (HI.out.below hb) (own_nil _ _) (Nat.le_refl _) (fun i hi => by simp at hi) (by simpa using hk) (by omega); exact this : Calls Try.prog 99 #[plotV vp vw vd vq, vi, .slice none 0 0, .int .i64 0, .int .i64 k] W' (RShPost (shortR p items p.parts.length k [] 0) W'.heap.size W')))
  obtain ⟨ai, ci, rfl⟩ := hI.form
  obtain ⟨ap, cp, rfl⟩ := h.persons.form
  obtain ⟨aw, cw, rfl⟩ := h.walk.form
  obtain ⟨ad, cd, ed, _⟩ := h.dress
  subst ed
  obtain ⟨aq, cq, rfl⟩ := h.parts.form
  have K := hid ((HK.start w).box4m (n := w.heap.size) rfl (.slice ap p.persons.length cp) (.slice aw p.walk.length cw) (.slice ad p.dress.length cd) (.slice aq p.parts.length cq) 29)
  clear h hI
  by_cases hs : smallErr p items = 0
  rotate_left
  · obtain ⟨e1, e2⟩ := ne_bool hs
    have HR := hid (show shortL p items = [] from by unfold shortL; rw [if_neg hs])
    clear hs
    go_enter Try.func51, Try.ntmps51
    go_wp2_with (go_at_call 89; refine (HC.out _ K.out.below).mono ?_; rintro e w2 ⟨rfl, hb2⟩; have K := hid (K.out.later hb2); clear hb2)
    refine bodyPost_ret (v := .tuple #[.slice none 0 0, .int .i64 (smallErr p items)]) (by simp [results, Try.results51, go_sem]) rfl ?_
    unfold ShortPost
    rw [HR.out]
    exact ⟨_, rfl, own_nil _ _, K.out.below⟩
  have hv := (smallErr_zero hs).1
  have hp6 := (smallErr_zero hs).2.1
  have HR := hid (show shortL p items = (firstS (fun m => shortR p items p.parts.length m [] 0) 1 p.parts.length).getD [] from by unfold shortL; rw [if_pos hs]; rfl)
  have HSm := hid hs
  have HSh := hid (fun k W' hb hk => HSh.out k W' hb hv hk)
  rw [hs] at HC
  clear hs hv
  go_enter Try.func51, Try.ntmps51
  go_wp2_with (go_at_call 89; refine (HC.out _ K.out.below).mono ?_; rintro e w2 ⟨rfl, hb2⟩; have K := hid (K.out.later hb2); clear hb2)
  go_loopw [7] (fun a wr => ∃ k : Nat, 1 ≤ k ∧ k ≤ p.parts.length + 1 ∧ a = .int .i64 k ∧ firstS (fun m => shortR p items p.parts.length m [] 0) 1 (k - 1) = none ∧ HK [(w.heap.size, 0, .slice ap p.persons.length cp), (w.heap.size, 1, .slice aw p.walk.length cw), (w.heap.size, 2, .slice ad p.dress.length cd), (w.heap.size, 3, .slice aq p.parts.length cq)] w wr) (fun a _ => p.parts.length + 1 - (intOf a).toNat)
  case atStart => exact ⟨1, Nat.le_refl _, by omega, rfl, rfl, K.out⟩
  case round =>
    obtain ⟨k, hk1, hk, rfl, hf, KK⟩ := hrel
    obtain ⟨wo, rfl⟩ : ∃ wo : World, wo = wr := ⟨_, rfl⟩
    have K := hid KK
    have HF := hid hf
    clear KK hf
    have p0 := K.out.c (b := w.heap.size) (o := 0) (v := .slice ap p.persons.length cp) (by simp)
    have p1 := K.out.c (b := w.heap.size) (o := 1) (v := .slice aw p.walk.length cw) (by simp)
    have p2 := K.out.c (b := w.heap.size) (o := 2) (v := .slice ad p.dress.length cd) (by simp)
    have p3 := K.out.c (b := w.heap.size) (o := 3) (v := .slice aq p.parts.length cq) (by simp)
    by_cases hlt : k ≤ p.parts.length
    rotate_left
    · have hek : k - 1 = p.parts.length := by omega
      have HR := hid (show shortL p items = [] from by have q := HF.out; rw [hek] at q; rw [HR.out, q]; rfl)
      clear hek
      go_wp2_with fail
      refine bodyPost_ret (v := .tuple #[.slice none 0 0, .int .i64 0]) (by simp [results, Try.results51, go_sem]) rfl ?_
      unfold ShortPost
      rw [HR.out, HSm.out]
      exact ⟨_, rfl, own_nil _ _, K.out.below⟩
    have i1 : (k : Int) ≤ (p.parts.length : Int) := by omega
    have z1 : IntKind.i64.wrap ((k : Int) + 1) = (k : Int) + 1 := IntWalk.i64_in _ (by omega)
    have HS1 := hid (fun W' hb => HSh.out k W' hb (by omega))
    have HFs := hid (fun l (e : shortR p items p.parts.length k [] 0 = some l) => (by
      rw [HR.out, firstS_at (i := k - 1) (firstS_none.1 HF.out) (x := l) (by show shortR p items p.parts.length (1 + (k - 1)) [] 0 = some l; rw [show 1 + (k - 1) = k by omega]; exact e) (by omega)]; rfl : shortL p items = l))
    have HFn := hid (fun (e : shortR p items p.parts.length k [] 0 = none) => (by
      refine firstS_none.2 fun j hj => ?_
      by_cases hj2 : j < k - 1
      · exact firstS_none.1 HF.out j hj2
      · show shortR p items p.parts.length (1 + j) [] 0 = none
        rw [show 1 + j = k by omega]; exact e : firstS (fun m => shortR p items p.parts.length m [] 0) 1 (k + 1 - 1) = none))
    obtain ⟨s, hs⟩ : ∃ s, shortR p items p.parts.length k [] 0 = s := ⟨_, rfl⟩
    rw [hs] at HFs HFn HS1
    clear hs
    cases s with
    | none =>
      have HG := hid (HFn.out rfl)
      go_wp2_with (go_at_call 99; refine (HS1.out _ K.out.below).mono ?_; rintro e w3 ⟨v3, l3, rfl, ho3, hl3, hb3⟩; have K := hid (K.out.later hb3); clear ho3 hl3 hb3 p0 p1 p2 p3)
      go_roundw
      case rel => exact ⟨k + 1, by omega, by omega, by go_num, HG.out, K.out⟩
      case measure => simp [intOf] <;> omega
    | some l =>
      have HG := hid (HFs.out l rfl)
      go_wp2_with (go_at_call 99; refine (HS1.out _ K.out.below).mono ?_; rintro e w3 ⟨v3, l3, rfl, ho3, hl3, hb3⟩; obtain rfl : l3 = l := hl3 l rfl; obtain ⟨a3, c3, rfl⟩ := (own_int.2 ho3).form; have HO := hid (OwnInts.base' ho3 K.out.below.size); have K := hid (K.out.later hb3); clear ho3 hl3 hb3 p0 p1 p2 p3)
      refine bodyPost_ret (v := .tuple #[.slice a3 l3.length c3, .int .i64 0]) (by simp [results, Try.results51, go_sem]) rfl ?_
      unfold ShortPost
      rw [HG.out, HSm.out]
      exact ⟨_, rfl, HO.out, K.out.below⟩
end Go.Proofs.Ytdcinngdilfpnaa
