/-
  WALKS: the program's alone, Short.
-/
import Derived.Test.YtoipcbmbhjajfaaDoorCsa
import Derived.Test.YtoipcbmbhjajfaaDoorShp
namespace Go.Proofs.YtoipcbmbhjajfaaDoor
open Go.RowKit

set_option maxHeartbeats 8000000 in
set_option maxRecDepth 100000 in
theorem alone_any (p : Plot) (items : List Item) (l : List Int) (hv : itemsErr p items = 0) (hl : Inc p.parts.length 0 l) (vp vw vd vq vi vl : Value) (w : World) (h : PlotAt none w vp vw vd vq p) (hI : ItemsAt none w vi items) (hL : IntsAt none w vl l) :
    Calls Tryd.prog 37 #[plotV vp vw vd vq, vi, vl] w fun e w' => e = .returned (.bool (worn p items l)) ∧ Below w.heap.size w w' := by
  have H := hid h
  have HI := hid hI
  have HL := hid hL
  have HV := hid (items_some hv hl)
  have hln : l.length ≤ 30 := by have := inc_length hl; have := (plotErr_zero.1 (itemsErr_zero hv).1).few; omega
  have HLi := hid hl
  have HCh := hid (fun vp vw vd vq vi W' (h1 : PlotAt none W' vp vw vd vq { p with parts := someL p l }) (h2 : ItemsAt none W' vi items) => (cheap_any { p with parts := someL p l } items vp vw vd vq vi W' h1 h2 HV.out).mono fun e w' (h : CheapPost (bestP { p with parts := someL p l } items (someL p l)) W' e w') => (by obtain ⟨v', e1, e2, e3⟩ := h; rw [best_some] at e1; exact ⟨v', _, e1, e3⟩ : ∃ v' c, e = .returned (.tuple #[v', .int .i64 c, .bool (worn p items l)]) ∧ Below W'.heap.size W' w'))
  obtain ⟨wn, hwn⟩ : ∃ wn, worn p items l = wn := ⟨_, rfl⟩
  rw [hwn] at HCh ⊢
  obtain ⟨ap, cp, rfl⟩ := h.persons.form
  obtain ⟨aw, cw, rfl⟩ := h.walk.form
  obtain ⟨ad, cd, ed, _⟩ := h.dress
  subst ed
  obtain ⟨aq, cq, rfl⟩ := h.parts.form
  obtain ⟨ai, ci, rfl⟩ := hI.form
  obtain ⟨al, cl, el, _⟩ := hL
  subst el
  clear h hI hv hl hwn
  have K := hid ((HK.start w).box4m (n := w.heap.size) rfl (.slice ap p.persons.length cp) (.slice aw p.walk.length cw) (.slice ad p.dress.length cd) (.slice aq p.parts.length cq) 27)
  go_enter Tryd.func37, Tryd.ntmps37
  go_wp2_with fail
  go_loopw [7, 15] (fun s i wr => ∃ k : Nat, k ≤ l.length ∧ i = .int .i64 k ∧ OwnR encPart 5 30 (w.heap.size + 1) wr s (someL p (l.take k)) ∧ HK [(w.heap.size, 0, .slice ap p.persons.length cp), (w.heap.size, 1, .slice aw p.walk.length cw), (w.heap.size, 2, .slice ad p.dress.length cd), (w.heap.size, 3, .slice aq p.parts.length cq)] w wr) (fun _ i _ => l.length - (intOf i).toNat)
  case atStart => exact ⟨0, by omega, rfl, OwnR.nil _ _ _ _ _, K.out⟩
  case round =>
    obtain ⟨k, hk, rfl, ho, KK⟩ := hrel
    obtain ⟨wo, rfl⟩ : ∃ wo : World, wo = wr := ⟨_, rfl⟩
    have K := hid KK
    have HO := hid ho
    obtain ⟨sa, sc, es⟩ := ho.form
    have hsl : (someL p (l.take k)).length = k := by rw [someL_len, List.length_take]; omega
    rw [hsl] at es
    subst es
    clear KK ho
    have hwo : w.heap.size + 1 ≤ wo.heap.size := K.out.clt (b := w.heap.size) (o := 0) (v := .slice ap p.persons.length cp) (by simp)
    by_cases hlt : k < l.length
    rotate_left
    · obtain rfl : k = l.length := by omega
      rw [List.take_length] at HO hsl
      have c3 := K.out.c (b := w.heap.size) (o := 3) (v := .slice aq p.parts.length cq) (by simp)
      have f3 := K.out.f (b := w.heap.size) (o := 3) (v := .slice aq p.parts.length cq) (by simp)
      go_upto_region 8 with fail
      have hg := gb_put wo w.heap.size 3 (.slice sa l.length sc)
      have HO2 := hid (HO.out.go (show w.heap.size < w.heap.size + 1 by omega) hg)
      have KP := K.out.putO (b := w.heap.size) (o := 3) (v := .slice aq p.parts.length cq) (by simp) (.slice sa l.length sc)
      have hb2 := KP.below
      have KP2 := hid (KP.subs (cs2 := [(w.heap.size, 0, .slice ap p.persons.length cp), (w.heap.size, 1, .slice aw p.walk.length cw), (w.heap.size, 2, .slice ad p.dress.length cd), (w.heap.size, 3, .slice sa l.length sc)]) (by intro x hx; simp [upd] at hx ⊢; exact hx))
      obtain ⟨w2, hw2⟩ : ∃ w2, wo.setCell ⟨w.heap.size, 3, none⟩ (.slice sa l.length sc) = w2 := ⟨_, rfl⟩
      rw [hw2] at HO2 KP2 hb2 ⊢
      have K := hid KP2.out
      have HP := hid (show PlotAt none w2 (.slice ap p.persons.length cp) (.slice aw p.walk.length cw) (.slice ad p.dress.length cd) (.slice sa l.length sc) { p with parts := someL p l } from ⟨RecAt.below H.out.persons hb2, ListsAt.below H.out.walk hb2, IntsAt.below H.out.dress hb2, HO2.out.parts (by simp)⟩)
      have HI2 := hid (HI.out.below hb2)
      clear hg KP KP2 hb2 hw2 c3 f3 HO HO2
      have c0 := K.out.c (b := w.heap.size) (o := 0) (v := .slice ap p.persons.length cp) (by simp)
      have c1 := K.out.c (b := w.heap.size) (o := 1) (v := .slice aw p.walk.length cw) (by simp)
      have c2 := K.out.c (b := w.heap.size) (o := 2) (v := .slice ad p.dress.length cd) (by simp)
      have c3 := K.out.c (b := w.heap.size) (o := 3) (v := .slice sa l.length sc) (by simp)
      go_wp2_with (go_at_call 34; refine (HCh.out _ _ _ _ _ _ HP.out HI2.out).mono ?_; rintro e w3 ⟨v3, c, rfl, hb3⟩; have K := hid (K.out.later hb3); clear hb3 c0 c1 c2 c3)
      go_ret
      exact ⟨rfl, K.out.below⟩
    have hnb := HLi.out.at hlt
    have HST := hid (someL_snoc p l k hlt)
    have hLo := HL.out.below K.out.below
    obtain ⟨bl, ol, cl', e, _, _⟩ := hLo.slice (by omega)
    cases e
    have n0 := hLo.cell hlt
    obtain ⟨n, hn2⟩ := Int.eq_ofNat_of_zero_le hnb.1
    have hnl : n < p.parts.length := by omega
    have hcc := PartsAt.cells (H.out.parts.below K.out.below) hnl
    obtain ⟨bq, oq, e, hbq, d0, d1, d2, d3, d4⟩ := hcc
    cases e
    rw [hn2] at n0 HST
    rw [Int.toNat_natCast] at HST
    obtain ⟨x, hx⟩ : ∃ x, pt p.parts n = x := ⟨_, rfl⟩
    rw [hx] at d0 d1 d2 d3 d4 HST
    have i1 : (k : Int) < (l.length : Int) := by omega
    have i2 : (n : Int) < (p.parts.length : Int) := by omega
    have z1 : IntKind.i64.wrap ((k : Int) + 1) = (k : Int) + 1 := IntWalk.i64_in _ (by omega)
    have HSl := hid hsl
    have c3 := K.out.c (b := w.heap.size) (o := 3) (v := .slice (some ⟨bq, oq, none⟩) p.parts.length cq) (by simp)
    have HQ1 := hid (show (someL p (l.take k)).length + [x].length ≤ 1000000 from by rw [hsl]; simp; omega)
    have HQ2 := hid (show w.heap.size + 1 ≤ (wo.alloc (.cells (encPart x).toArray 30)).heap.size from by simp; omega)
    clear hnb hn2 hx hsl hLo
    go_wp2_with (at_builtin; refine wpList_app encPart Tryd.underlying25 infoPart' (by decide) (by decide) (fun _ => rfl) rfl _ _ rfl (w.heap.size + 1) (someL p (l.take k)) [x] (fun y _ => encPart_one y) _ _ rfl rfl (HO.out.later (below_alloc _ _)) (Src.lit encPart wo x _ 1 rfl) HQ1.out HQ2.out ?_; intro v' w2 hown' hg _ _; obtain ⟨a2, c2, e2⟩ := hown'.form; rw [List.length_append, List.length_singleton, HSl.out] at e2; subst e2; rw [← HST.out] at hown'; have HO2 := hid hown'; have K := hid ((K.out.later (below_alloc wo (.cells (encPart x).toArray 30))).grown hg (base := w.heap.size + 1) (fun j hj => (HO.out.lt hj).1) (by omega) (by intro b' o v hm; simp only [List.mem_cons, Prod.mk.injEq, List.not_mem_nil, or_false] at hm; omega)); clear hown' hg)
    go_roundw
    case rel => exact ⟨k + 1, by omega, by go_num, HO2.out, K.out⟩
    case measure => simp [intOf] <;> omega

set_option maxRecDepth 100000 in
theorem neq_some (x : Addr) (n c : Nat) (w : World) : Sem.run Tryd.prog (Go.binOp .neq 24 (.slice (some x) n c) (.slice none 0 0)) w = .ok (.bool true) w := rfl
set_option maxRecDepth 100000 in
theorem neq_none (w : World) : Sem.run Tryd.prog (Go.binOp .neq 24 (.slice none 0 0) (.slice none 0 0)) w = .ok (.bool false) w := rfl
theorem own_some {base : Nat} {w : World} {a : Option Addr} {n c : Nat} {xs : List Int} (h : OwnInts base w (.slice a n c) xs) (hx : xs ≠ []) : ∃ b, a = some b := by
  rcases h.2 with ⟨e, h1⟩ | ⟨g, cap, cur, e, _⟩
  · exact absurd (List.eq_nil_of_length_eq_zero (by simpa using h1)) hx
  · cases e; exact ⟨_, rfl⟩

set_option maxHeartbeats 8000000 in
set_option maxRecDepth 100000 in
theorem shortc_any (p : Plot) (items : List Item) (vp vw vd vq vi : Value) (w : World) (h : PlotAt none w vp vw vd vq p) (hI : ItemsAt none w vi items) :
    Calls Tryd.prog 14 #[plotV vp vw vd vq, vi] w (ShortPost p items w) := by
  have H := hid h
  have HI := hid hI
  have HC := hid (fun W' hb => small_any p items vp vw vd vq vi W' (H.out.below hb) (HI.out.below hb))
  have HAl := hid (fun (hv : itemsErr p items = 0) (l : List Int) (hl : Inc p.parts.length 0 l) (vl : Value) W' hb (hL : IntsAt none W' vl l) => alone_any p items l hv hl vp vw vd vq vi vl W' (H.out.below hb) (HI.out.below hb) hL)
  obtain ⟨ai, ci, rfl⟩ := hI.form
  obtain ⟨ap, cp, rfl⟩ := h.persons.form
  obtain ⟨aw, cw, rfl⟩ := h.walk.form
  obtain ⟨ad, cd, ed, _⟩ := h.dress
  subst ed
  obtain ⟨aq, cq, rfl⟩ := h.parts.form
  have K := hid ((HK.start w).box4m (n := w.heap.size) rfl (.slice ap p.persons.length cp) (.slice aw p.walk.length cw) (.slice ad p.dress.length cd) (.slice aq p.parts.length cq) 27)
  clear h hI
  by_cases hs : smallErr p items = 0
  rotate_left
  · obtain ⟨e1, e2⟩ := ne_bool hs
    have HR := hid (show shortL p items = [] from by unfold shortL; rw [if_neg hs])
    clear hs
    go_enter Tryd.func14, Tryd.ntmps14
    go_wp2_with (go_at_call 33; refine (HC.out _ K.out.below).mono ?_; rintro e w2 ⟨rfl, hb2⟩; have K := hid (K.out.later hb2); clear hb2)
    refine bodyPost_ret (v := .tuple #[.slice none 0 0, .int .i64 (smallErr p items)]) (by simp [results, Tryd.results14, go_sem]) rfl ?_
    unfold ShortPost
    rw [HR.out]
    exact ⟨_, rfl, own_nil _ _, K.out.below⟩
  have hv := (smallErr_zero hs).1
  have hp6 := (smallErr_zero hs).2.1
  have HAl := hid (fun l hl vl W' hb hL => HAl.out hv l hl vl W' hb hL)
  have HSm := hid hs
  have HR0 := hid (show shortL p items = shortP p items p.parts.length (2 ^ p.parts.length) from by unfold shortL; rw [if_pos hs, short_same])
  have hN64 : 2 ^ p.parts.length ≤ 64 := Nat.le_trans (Nat.pow_le_pow_right (by omega) hp6) (by decide)
  have HMb := hid (fun (m : Nat) (hm : m < 2 ^ p.parts.length) (W' : World) => members_any m p.parts.length (by omega) hm W')
  obtain ⟨N, hN⟩ : ∃ N, 2 ^ p.parts.length = N := ⟨_, rfl⟩
  have q1 : Op.shift .shl .i64 1 .i64 (p.parts.length : Int) = pure (.int .i64 (N : Int)) := by
    rw [shift_shl .i64 .i64 1 (p.parts.length : Int) (by omega) (by show (p.parts.length : Int) ≤ 64; omega)]
    rw [hN] at hN64
    rw [show (1 : Int) * 2 ^ ((p.parts.length : Int)).toNat = (N : Int) by rw [← hN]; simp, IntWalk.i64_in _ (by omega)]
  have q2 : IntKind.i64.wrap (2 ^ p.parts.length) = (N : Int) := by
    rw [hN] at hN64
    rw [show (2 : Int) ^ p.parts.length = (N : Int) by rw [← hN]; simp, IntWalk.i64_in _ (by omega)]
  rw [hN] at HR0 hN64 HMb
  rw [hs] at HC
  clear hs hv hN
  go_enter Tryd.func14, Tryd.ntmps14
  go_wp2_with (go_at_call 33; refine (HC.out _ K.out.below).mono ?_; rintro e w2 ⟨rfl, hb2⟩; have K := hid (K.out.later hb2); clear hb2; have p3 := K.out.c (b := w.heap.size) (o := 3) (v := .slice aq p.parts.length cq) (by simp))
  clear p3 q1 q2
  go_loopw [7, 20] (fun s i wr => ∃ m : Nat, m ≤ N ∧ i = .int .i64 m ∧ OwnInts w.heap.size wr s (shortP p items p.parts.length m) ∧ (shortP p items p.parts.length m = [] → s = .slice none 0 0) ∧ HK [(w.heap.size, 0, .slice ap p.persons.length cp), (w.heap.size, 1, .slice aw p.walk.length cw), (w.heap.size, 2, .slice ad p.dress.length cd), (w.heap.size, 3, .slice aq p.parts.length cq)] w wr) (fun _ i _ => N - (intOf i).toNat)
  case atStart => exact ⟨0, by omega, rfl, own_nil _ _, fun _ => rfl, K.out⟩
  case round =>
    obtain ⟨m, hm, rfl, ho, hz, KK⟩ := hrel
    obtain ⟨wo, rfl⟩ : ∃ wo : World, wo = wr := ⟨_, rfl⟩
    have K := hid KK
    have HO := hid ho
    have HZ := hid hz
    obtain ⟨sa, sc, es⟩ := (own_int.2 ho).form
    subst es
    have hsl : (shortP p items p.parts.length m).length ≤ p.parts.length := inc_length (shortP_upto p items p.parts.length m).inc
    clear KK ho hz
    by_cases hlt : m < N
    rotate_left
    · obtain rfl : m = N := by omega
      go_wp2_with fail
      refine bodyPost_ret (v := .tuple #[.slice sa (shortP p items p.parts.length m).length sc, .int .i64 0]) (by simp [results, Tryd.results14, go_sem]) rfl ?_
      unfold ShortPost
      rw [HSm.out, HR0.out]
      exact ⟨_, rfl, HO.out, K.out.below⟩
    have i1 : (m : Int) < (N : Int) := by omega
    have z1 : IntKind.i64.wrap ((m : Int) + 1) = (m : Int) + 1 := IntWalk.i64_in _ (by omega)
    have HMs := hid (fun W' => HMb.out m hlt W')
    have hml : (memL m p.parts.length).length ≤ p.parts.length := inc_length (memL_inc m p.parts.length)
    have HInc := hid (memL_inc m p.parts.length)
    have HST := hid (show shortP p items p.parts.length (m + 1) = if (shortP p items p.parts.length m = [] ∨ befB (memL m p.parts.length) (shortP p items p.parts.length m) = true) ∧ worn p items (memL m p.parts.length) = false then memL m p.parts.length else shortP p items p.parts.length m from rfl)
    have HA1 := hid (fun vl W' hb hL => HAl.out _ HInc.out vl W' hb hL)
    obtain ⟨S, hS⟩ : ∃ S, shortP p items p.parts.length m = S := ⟨_, rfl⟩
    obtain ⟨M, hM⟩ : ∃ M, memL m p.parts.length = M := ⟨_, rfl⟩
    obtain ⟨wn, hwn⟩ : ∃ wn, worn p items (memL m p.parts.length) = wn := ⟨_, rfl⟩
    rw [hwn] at HA1 HST
    rw [hS] at HO HZ hsl HST ⊢
    rw [hM] at HMs hml HST HA1
    clear hS hM hwn
    have HBf := hid (fun va vb W' (h1 : IntsAt none W' va M) (h2 : IntsAt none W' vb S) => before_any M S va vb W' h1 h2 (by omega))
    obtain ⟨bf, hbf⟩ : ∃ bf, befB M S = bf := ⟨_, rfl⟩
    rw [hbf] at HBf HST
    clear hbf
    have p0 := K.out.c (b := w.heap.size) (o := 0) (v := .slice ap p.persons.length cp) (by simp)
    have p1 := K.out.c (b := w.heap.size) (o := 1) (v := .slice aw p.walk.length cw) (by simp)
    have p2 := K.out.c (b := w.heap.size) (o := 2) (v := .slice ad p.dress.length cd) (by simp)
    have p3 := K.out.c (b := w.heap.size) (o := 3) (v := .slice aq p.parts.length cq) (by simp)
    by_cases hSn : S = []
    · obtain ⟨rfl, hl0, rfl⟩ : sa = none ∧ S.length = 0 ∧ sc = 0 := by have := HZ.out hSn; simp only [Value.slice.injEq] at this; exact this
      have HST := hid (show shortP p items p.parts.length (m + 1) = if wn = false then M else S from by rw [HST.out]; cases wn <;> simp [hSn])
      have HSn := hid hSn
      rw [hl0] at HO HZ ⊢
      have hnn := @neq_none
      clear hSn hl0 hsl
      cases wn with
      | true =>
        have HG := hid (HST.out.trans (if_neg (by simp)))
        go_wp2_with (first
          | (go_at_call 35; refine (HMs.out _).mono ?_; rintro e w2 ⟨v2, rfl, ho2, hz2, hb2⟩; obtain ⟨a2, c2, e2⟩ := (own_int.2 ho2).form; subst e2; have HM := hid (OwnInts.base' ho2 K.out.below.size); have HMz := hid hz2; have HO := hid (OwnInts.later HO.out hb2); have K := hid (K.out.later hb2); clear ho2 hz2 hb2 p0 p1 p2 p3; have p0 := K.out.c (b := w.heap.size) (o := 0) (v := .slice ap p.persons.length cp) (by simp); have p1 := K.out.c (b := w.heap.size) (o := 1) (v := .slice aw p.walk.length cw) (by simp); have p2 := K.out.c (b := w.heap.size) (o := 2) (v := .slice ad p.dress.length cd) (by simp); have p3 := K.out.c (b := w.heap.size) (o := 3) (v := .slice aq p.parts.length cq) (by simp))
          | (go_at_call 36; refine (HBf.out _ _ _ (OwnInts.at (d := none) HM.out (by simp)) (OwnInts.at (d := none) HO.out (by simp))).mono ?_; rintro e w3 ⟨rfl, hb3⟩; have HM := hid (OwnInts.later HM.out hb3); have HO := hid (OwnInts.later HO.out hb3); have K := hid (K.out.later hb3); clear hb3 p0 p1 p2 p3; have p0 := K.out.c (b := w.heap.size) (o := 0) (v := .slice ap p.persons.length cp) (by simp); have p1 := K.out.c (b := w.heap.size) (o := 1) (v := .slice aw p.walk.length cw) (by simp); have p2 := K.out.c (b := w.heap.size) (o := 2) (v := .slice ad p.dress.length cd) (by simp); have p3 := K.out.c (b := w.heap.size) (o := 3) (v := .slice aq p.parts.length cq) (by simp))
          | (go_at_call 37; refine (HA1.out _ _ K.out.below (OwnInts.at (d := none) HM.out (by simp))).mono ?_; rintro e w4 ⟨rfl, hb4⟩; have HM := hid (OwnInts.later HM.out hb4); have HO := hid (OwnInts.later HO.out hb4); have K := hid (K.out.later hb4); clear hb4 p0 p1 p2 p3))
        go_roundw
        case rel => exact ⟨m + 1, by omega, by go_num, by rw [HG.out]; exact HO.out, fun _ => rfl, K.out⟩
        case measure => simp [intOf] <;> omega
      | false =>
        have HG := hid (HST.out.trans (if_pos rfl))
        go_wp2_with (first
          | (go_at_call 35; refine (HMs.out _).mono ?_; rintro e w2 ⟨v2, rfl, ho2, hz2, hb2⟩; obtain ⟨a2, c2, e2⟩ := (own_int.2 ho2).form; subst e2; have HM := hid (OwnInts.base' ho2 K.out.below.size); have HMz := hid hz2; have HO := hid (OwnInts.later HO.out hb2); have K := hid (K.out.later hb2); clear ho2 hz2 hb2 p0 p1 p2 p3; have p0 := K.out.c (b := w.heap.size) (o := 0) (v := .slice ap p.persons.length cp) (by simp); have p1 := K.out.c (b := w.heap.size) (o := 1) (v := .slice aw p.walk.length cw) (by simp); have p2 := K.out.c (b := w.heap.size) (o := 2) (v := .slice ad p.dress.length cd) (by simp); have p3 := K.out.c (b := w.heap.size) (o := 3) (v := .slice aq p.parts.length cq) (by simp))
          | (go_at_call 36; refine (HBf.out _ _ _ (OwnInts.at (d := none) HM.out (by simp)) (OwnInts.at (d := none) HO.out (by simp))).mono ?_; rintro e w3 ⟨rfl, hb3⟩; have HM := hid (OwnInts.later HM.out hb3); have HO := hid (OwnInts.later HO.out hb3); have K := hid (K.out.later hb3); clear hb3 p0 p1 p2 p3; have p0 := K.out.c (b := w.heap.size) (o := 0) (v := .slice ap p.persons.length cp) (by simp); have p1 := K.out.c (b := w.heap.size) (o := 1) (v := .slice aw p.walk.length cw) (by simp); have p2 := K.out.c (b := w.heap.size) (o := 2) (v := .slice ad p.dress.length cd) (by simp); have p3 := K.out.c (b := w.heap.size) (o := 3) (v := .slice aq p.parts.length cq) (by simp))
          | (go_at_call 37; refine (HA1.out _ _ K.out.below (OwnInts.at (d := none) HM.out (by simp))).mono ?_; rintro e w4 ⟨rfl, hb4⟩; have HM := hid (OwnInts.later HM.out hb4); have HO := hid (OwnInts.later HO.out hb4); have K := hid (K.out.later hb4); clear hb4 p0 p1 p2 p3))
        go_roundw
        case rel => exact ⟨m + 1, by omega, by go_num, by rw [HG.out]; exact HM.out, by rw [HG.out]; exact HMz.out, K.out⟩
        case measure => simp [intOf] <;> omega
    · obtain ⟨sb, rfl⟩ := own_some HO.out hSn
      have HST := hid (show shortP p items p.parts.length (m + 1) = if bf = true ∧ wn = false then M else S from by rw [HST.out]; simp [hSn])
      have hns := @neq_some
      clear hSn
      cases bf with
      | false =>
        have HG := hid (HST.out.trans (if_neg (by simp)))
        go_wp2_with (first
          | (go_at_call 35; refine (HMs.out _).mono ?_; rintro e w2 ⟨v2, rfl, ho2, hz2, hb2⟩; obtain ⟨a2, c2, e2⟩ := (own_int.2 ho2).form; subst e2; have HM := hid (OwnInts.base' ho2 K.out.below.size); have HMz := hid hz2; have HO := hid (OwnInts.later HO.out hb2); have K := hid (K.out.later hb2); clear ho2 hz2 hb2 p0 p1 p2 p3; have p0 := K.out.c (b := w.heap.size) (o := 0) (v := .slice ap p.persons.length cp) (by simp); have p1 := K.out.c (b := w.heap.size) (o := 1) (v := .slice aw p.walk.length cw) (by simp); have p2 := K.out.c (b := w.heap.size) (o := 2) (v := .slice ad p.dress.length cd) (by simp); have p3 := K.out.c (b := w.heap.size) (o := 3) (v := .slice aq p.parts.length cq) (by simp))
          | (go_at_call 36; refine (HBf.out _ _ _ (OwnInts.at (d := none) HM.out (by simp)) (OwnInts.at (d := none) HO.out (by simp))).mono ?_; rintro e w3 ⟨rfl, hb3⟩; have HM := hid (OwnInts.later HM.out hb3); have HO := hid (OwnInts.later HO.out hb3); have K := hid (K.out.later hb3); clear hb3 p0 p1 p2 p3; have p0 := K.out.c (b := w.heap.size) (o := 0) (v := .slice ap p.persons.length cp) (by simp); have p1 := K.out.c (b := w.heap.size) (o := 1) (v := .slice aw p.walk.length cw) (by simp); have p2 := K.out.c (b := w.heap.size) (o := 2) (v := .slice ad p.dress.length cd) (by simp); have p3 := K.out.c (b := w.heap.size) (o := 3) (v := .slice aq p.parts.length cq) (by simp))
          | (go_at_call 37; refine (HA1.out _ _ K.out.below (OwnInts.at (d := none) HM.out (by simp))).mono ?_; rintro e w4 ⟨rfl, hb4⟩; have HM := hid (OwnInts.later HM.out hb4); have HO := hid (OwnInts.later HO.out hb4); have K := hid (K.out.later hb4); clear hb4 p0 p1 p2 p3))
        go_roundw
        case rel => exact ⟨m + 1, by omega, by go_num, by rw [HG.out]; exact HO.out, by rw [HG.out]; exact HZ.out, K.out⟩
        case measure => simp [intOf] <;> omega
      | true =>
        cases wn with
        | true =>
          have HG := hid (HST.out.trans (if_neg (by simp)))
          go_wp2_with (first
            | (go_at_call 35; refine (HMs.out _).mono ?_; rintro e w2 ⟨v2, rfl, ho2, hz2, hb2⟩; obtain ⟨a2, c2, e2⟩ := (own_int.2 ho2).form; subst e2; have HM := hid (OwnInts.base' ho2 K.out.below.size); have HMz := hid hz2; have HO := hid (OwnInts.later HO.out hb2); have K := hid (K.out.later hb2); clear ho2 hz2 hb2 p0 p1 p2 p3; have p0 := K.out.c (b := w.heap.size) (o := 0) (v := .slice ap p.persons.length cp) (by simp); have p1 := K.out.c (b := w.heap.size) (o := 1) (v := .slice aw p.walk.length cw) (by simp); have p2 := K.out.c (b := w.heap.size) (o := 2) (v := .slice ad p.dress.length cd) (by simp); have p3 := K.out.c (b := w.heap.size) (o := 3) (v := .slice aq p.parts.length cq) (by simp))
            | (go_at_call 36; refine (HBf.out _ _ _ (OwnInts.at (d := none) HM.out (by simp)) (OwnInts.at (d := none) HO.out (by simp))).mono ?_; rintro e w3 ⟨rfl, hb3⟩; have HM := hid (OwnInts.later HM.out hb3); have HO := hid (OwnInts.later HO.out hb3); have K := hid (K.out.later hb3); clear hb3 p0 p1 p2 p3; have p0 := K.out.c (b := w.heap.size) (o := 0) (v := .slice ap p.persons.length cp) (by simp); have p1 := K.out.c (b := w.heap.size) (o := 1) (v := .slice aw p.walk.length cw) (by simp); have p2 := K.out.c (b := w.heap.size) (o := 2) (v := .slice ad p.dress.length cd) (by simp); have p3 := K.out.c (b := w.heap.size) (o := 3) (v := .slice aq p.parts.length cq) (by simp))
            | (go_at_call 37; refine (HA1.out _ _ K.out.below (OwnInts.at (d := none) HM.out (by simp))).mono ?_; rintro e w4 ⟨rfl, hb4⟩; have HM := hid (OwnInts.later HM.out hb4); have HO := hid (OwnInts.later HO.out hb4); have K := hid (K.out.later hb4); clear hb4 p0 p1 p2 p3))
          go_roundw
          case rel => exact ⟨m + 1, by omega, by go_num, by rw [HG.out]; exact HO.out, by rw [HG.out]; exact HZ.out, K.out⟩
          case measure => simp [intOf] <;> omega
        | false =>
          have HG := hid (HST.out.trans (if_pos ⟨rfl, rfl⟩))
          go_wp2_with (first
            | (go_at_call 35; refine (HMs.out _).mono ?_; rintro e w2 ⟨v2, rfl, ho2, hz2, hb2⟩; obtain ⟨a2, c2, e2⟩ := (own_int.2 ho2).form; subst e2; have HM := hid (OwnInts.base' ho2 K.out.below.size); have HMz := hid hz2; have HO := hid (OwnInts.later HO.out hb2); have K := hid (K.out.later hb2); clear ho2 hz2 hb2 p0 p1 p2 p3; have p0 := K.out.c (b := w.heap.size) (o := 0) (v := .slice ap p.persons.length cp) (by simp); have p1 := K.out.c (b := w.heap.size) (o := 1) (v := .slice aw p.walk.length cw) (by simp); have p2 := K.out.c (b := w.heap.size) (o := 2) (v := .slice ad p.dress.length cd) (by simp); have p3 := K.out.c (b := w.heap.size) (o := 3) (v := .slice aq p.parts.length cq) (by simp))
            | (go_at_call 36; refine (HBf.out _ _ _ (OwnInts.at (d := none) HM.out (by simp)) (OwnInts.at (d := none) HO.out (by simp))).mono ?_; rintro e w3 ⟨rfl, hb3⟩; have HM := hid (OwnInts.later HM.out hb3); have HO := hid (OwnInts.later HO.out hb3); have K := hid (K.out.later hb3); clear hb3 p0 p1 p2 p3; have p0 := K.out.c (b := w.heap.size) (o := 0) (v := .slice ap p.persons.length cp) (by simp); have p1 := K.out.c (b := w.heap.size) (o := 1) (v := .slice aw p.walk.length cw) (by simp); have p2 := K.out.c (b := w.heap.size) (o := 2) (v := .slice ad p.dress.length cd) (by simp); have p3 := K.out.c (b := w.heap.size) (o := 3) (v := .slice aq p.parts.length cq) (by simp))
            | (go_at_call 37; refine (HA1.out _ _ K.out.below (OwnInts.at (d := none) HM.out (by simp))).mono ?_; rintro e w4 ⟨rfl, hb4⟩; have HM := hid (OwnInts.later HM.out hb4); have HO := hid (OwnInts.later HO.out hb4); have K := hid (K.out.later hb4); clear hb4 p0 p1 p2 p3))
          go_roundw
          case rel => exact ⟨m + 1, by omega, by go_num, by rw [HG.out]; exact HM.out, by rw [HG.out]; exact HMz.out, K.out⟩
          case measure => simp [intOf] <;> omega
end Go.Proofs.YtoipcbmbhjajfaaDoor
