/-
  WALKS: the reference's On, Most.
  WALKS: the reference's checkPerson, At.
  WALK: the reference's Day.
-/
import Derived.Test.YtdcinngdilfpnaaRck
import Derived.Test.YtdcinngdilfpnaaCmo
import Derived.Test.YtdcinngdilfpnaaCdz
namespace Go.Proofs.Ytdcinngdilfpnaa
open Go.RowKit

set_option maxHeartbeats 1000000 in
theorem ron_any (x : Part) (m : Int) (w : World) :
    Calls Try.prog 75 #[.agg #[.int .i64 x.person, .int .i64 x.place, .int .i64 x.kind, .int .i64 x.start, .int .i64 x.stop], .int .i64 m] w fun e w' => e = .returned (.bool (onB x m)) ∧ Below w.heap.size w w' := by
  have hb := hid (below_alloc w (.cells #[.int .i64 x.person, .int .i64 x.place, .int .i64 x.kind, .int .i64 x.start, .int .i64 x.stop] 38))
  obtain ⟨r, hr⟩ : ∃ r, onB x m = r := ⟨_, rfl⟩
  rw [hr]
  by_cases h1 : x.start ≤ m
  · by_cases h2 : m < x.stop
    · obtain rfl : r = true := hr.symm.trans (inB_true.2 ⟨h1, by omega⟩)
      clear hr
      go_enter Try.func75, Try.ntmps75
      go_wp2_with fail
      go_ret
      exact ⟨rfl, hb.out⟩
    · obtain rfl : r = false := hr.symm.trans (inB_false.2 (by omega))
      clear hr
      go_enter Try.func75, Try.ntmps75
      go_wp2_with fail
      go_ret
      exact ⟨rfl, hb.out⟩
  · obtain rfl : r = false := hr.symm.trans (inB_false.2 (by omega))
    clear hr
    go_enter Try.func75, Try.ntmps75
    go_wp2_with fail
    go_ret
    exact ⟨rfl, hb.out⟩

set_option maxHeartbeats 4000000 in
set_option maxRecDepth 100000 in
theorem rmost_any (p : Plot) (kind : Int) (vp vw vd vq : Value) (w : World) (h : PlotAt none w vp vw vd vq p) :
    Calls Try.prog 26 #[plotV vp vw vd vq, .int .i64 kind] w fun e w' => e = .returned (.tuple #[.int .i64 (mostRes p kind).1, .int .i64 (mostRes p kind).2, .int .i64 (mostErr p kind)]) ∧ Below w.heap.size w w' := by
  have H := hid h
  have HC := hid (fun W' hb => rcheck_plot p vp vw vd vq W' (H.out.below hb))
  obtain ⟨ap, cp, rfl⟩ := h.persons.form
  obtain ⟨aw, cw, rfl⟩ := h.walk.form
  obtain ⟨ad, cd, ed, _⟩ := h.dress
  subst ed
  obtain ⟨aq, cq, rfl⟩ := h.parts.form
  have K := hid ((HK.start w).box4m (n := w.heap.size) rfl (.slice ap p.persons.length cp) (.slice aw p.walk.length cw) (.slice ad p.dress.length cd) (.slice aq p.parts.length cq) 29)
  clear h
  by_cases hv : plotErr p = 0
  rotate_left
  · obtain ⟨e1, e2⟩ := ne_bool hv
    have hE : mostErr p kind = plotErr p := by unfold mostErr; rw [if_neg hv]
    have hR : mostRes p kind = (0, 0) := by unfold mostRes; rw [hE, if_neg hv]
    rw [hE, hR]
    clear hE hR hv
    go_enter Try.func26, Try.ntmps26
    go_wp2_with (go_at_call 28; refine (HC.out _ K.out.below).mono ?_; rintro e w2 ⟨rfl, hb2⟩; have K := hid (K.out.later hb2); clear hb2)
    exact bodyPost_ret (v := .tuple #[.int .i64 0, .int .i64 0, .int .i64 (plotErr p)]) (by simp [results, Try.results26, go_sem]) rfl ⟨rfl, K.out.below⟩
  have V := hid (plotErr_zero.1 hv)
  have hl := V.out.dress.2
  have zl1 : IntKind.i64.wrap ((p.dress.length : Int) - 1) = (p.dress.length : Int) - 1 := IntWalk.i64_in _ (by omega)
  cases hin : inB kind 0 ((p.dress.length : Int) - 1) with
  | false =>
    have hE : mostErr p kind = 7 := by unfold mostErr; rw [if_pos hv, if_pos hin]
    have hR : mostRes p kind = (0, 0) := by unfold mostRes; rw [hE, if_neg (by decide)]
    rw [hE, hR]
    rw [hv] at HC
    clear hE hR hv
    go_enter Try.func26, Try.ntmps26
    go_wp2_with (first
      | (go_at_call 28; refine (HC.out _ K.out.below).mono ?_; rintro e w2 ⟨rfl, hb2⟩; have K := hid (K.out.later hb2); clear hb2; have p2 := K.out.c (b := w.heap.size) (o := 2) (v := .slice ad p.dress.length cd) (by simp))
      | (go_at_call 74; refine (rwithin_any _ _ _ _).mono ?_; rintro e w' ⟨rfl, rfl⟩; rw [hin]))
    exact bodyPost_ret (v := .tuple #[.int .i64 0, .int .i64 0, .int .i64 7]) (by simp [results, Try.results26, go_sem]) rfl ⟨rfl, K.out.below⟩
  | true =>
    have hE : mostErr p kind = 0 := by unfold mostErr; rw [if_pos hv, hin]; rfl
    have hR : mostRes p kind = mostN p kind 1441 := by unfold mostRes; rw [if_pos hE]
    rw [hE, hR]
    rw [hv] at HC
    have hfew := V.out.few
    clear hE hR hv
    go_enter Try.func26, Try.ntmps26
    go_wp2_with (first
      | (go_at_call 28; refine (HC.out _ K.out.below).mono ?_; rintro e w2 ⟨rfl, hb2⟩; have K := hid (K.out.later hb2); clear hb2; have p2 := K.out.c (b := w.heap.size) (o := 2) (v := .slice ad p.dress.length cd) (by simp))
      | (go_at_call 74; refine (rwithin_any _ _ _ _).mono ?_; rintro e w' ⟨rfl, rfl⟩; rw [hin]))
    clear p2 hin zl1
    go_loopw [8, 9, 10] (fun mm aa t wr => ∃ k : Nat, k ≤ 1441 ∧ mm = .int .i64 (mostN p kind k).1 ∧ aa = .int .i64 (mostN p kind k).2 ∧ t = .int .i64 k ∧ HK [(w.heap.size, 0, .slice ap p.persons.length cp), (w.heap.size, 1, .slice aw p.walk.length cw), (w.heap.size, 2, .slice ad p.dress.length cd), (w.heap.size, 3, .slice aq p.parts.length cq)] w wr) (fun _ _ t _ => 1441 - (intOf t).toNat)
    case atStart => exact ⟨0, by omega, rfl, rfl, rfl, K.out⟩
    case round =>
      obtain ⟨k, hk, rfl, rfl, rfl, KK⟩ := hrel
      have K := hid KK
      clear KK
      obtain ⟨wo, rfl⟩ : ∃ wo : World, wo = wr := ⟨_, rfl⟩
      by_cases hlt : k < 1441
      rotate_left
      · obtain rfl : k = 1441 := by omega
        go_wp2_with fail
        exact bodyPost_ret (v := .tuple #[.int .i64 (mostN p kind 1441).1, .int .i64 (mostN p kind 1441).2, .int .i64 0]) (by simp [results, Try.results26, go_sem]) rfl ⟨rfl, K.out.below⟩
      have i0 : (k : Int) ≤ 1440 := by omega
      have z0 : IntKind.i64.wrap ((k : Int) + 1) = (k : Int) + 1 := IntWalk.i64_in _ (by omega)
      have hst := hid (show mostN p kind (k + 1) = if (mostN p kind k).1 < onAll p kind k then (onAll p kind k, (k : Int)) else mostN p kind k from rfl)
      obtain ⟨mk, hmk⟩ : ∃ mk, mostN p kind k = mk := ⟨_, rfl⟩
      rw [hmk] at hst ⊢
      clear hmk
      go_wp2_with fail
      go_loopw [11, 12] (fun n i wr => ∃ q : Nat, q ≤ p.parts.length ∧ n = .int .i64 (onN p kind k q) ∧ i = .int .i64 q ∧ HK [(w.heap.size, 0, .slice ap p.persons.length cp), (w.heap.size, 1, .slice aw p.walk.length cw), (w.heap.size, 2, .slice ad p.dress.length cd), (w.heap.size, 3, .slice aq p.parts.length cq)] w wr) (fun _ i _ => p.parts.length - (intOf i).toNat)
      case atStart => exact ⟨0, by omega, rfl, rfl, K.out⟩
      case round =>
        obtain ⟨q, hq, rfl, rfl, KK⟩ := hrel
        have K := hid KK
        clear KK
        obtain ⟨wi, rfl⟩ : ∃ wi : World, wi = wr := ⟨_, rfl⟩
        have hbd := onN_bd p kind k q
        have p3 := K.out.c (b := w.heap.size) (o := 3) (v := .slice aq p.parts.length cq) (by simp)
        by_cases hltq : q < p.parts.length
        rotate_left
        · obtain rfl : q = p.parts.length := by omega
          have hoN : onN p kind (k : Int) p.parts.length = onAll p kind k := rfl
          rw [hoN]
          by_cases hlm : mk.1 < onAll p kind k
          · have HS := hid (hst.out.trans (if_pos hlm))
            clear hst hoN
            go_wp2_with fail
            go_roundw
            case rel => exact ⟨k + 1, by omega, by rw [HS.out], by rw [HS.out], by go_num, K.out⟩
            case measure => simp [intOf] <;> omega
          · have HS := hid (hst.out.trans (if_neg hlm))
            clear hst hoN
            go_wp2_with fail
            go_roundw
            case rel => exact ⟨k + 1, by omega, by rw [HS.out], by rw [HS.out], by go_num, K.out⟩
            case measure => simp [intOf] <;> omega
        have hcc := PartsAt.cells (H.out.parts.below K.out.below) hltq
        obtain ⟨bq, oq, e, hbq, d0, d1, d2, d3, d4⟩ := hcc
        cases e
        have i1 : (q : Int) < (p.parts.length : Int) := by omega
        have z1 : IntKind.i64.wrap ((q : Int) + 1) = (q : Int) + 1 := IntWalk.i64_in _ (by omega)
        have z2 : IntKind.i64.wrap (onN p kind k q + 1) = onN p kind k q + 1 := IntWalk.i64_in _ (by omega)
        have hstep := hid (show onN p kind k (q + 1) = if (pt p.parts q).kind = kind ∧ onB (pt p.parts q) k = true then onN p kind k q + 1 else onN p kind k q from rfl)
        obtain ⟨x, hx⟩ : ∃ x, pt p.parts q = x := ⟨_, rfl⟩
        rw [hx] at d0 d1 d2 d3 d4 hstep
        have HOn := hid (fun W' => ron_any x (k : Int) W')
        obtain ⟨ob, hob⟩ : ∃ ob, onB x (k : Int) = ob := ⟨_, rfl⟩
        rw [hob] at hstep HOn
        clear hx hob
        by_cases h1 : x.kind = kind
        · obtain ⟨e1, e2⟩ := eq_bool h1
          cases ob with
          | true =>
            have HS := hid (hstep.out.trans (if_pos ⟨h1, rfl⟩))
            clear hstep h1
            go_wp2_with (go_at_call 75; refine (HOn.out _).mono ?_; rintro e w4 ⟨rfl, hb4⟩; have K := hid (K.out.later hb4); clear hb4 p3)
            go_roundw
            case rel => exact ⟨q + 1, by omega, by rw [HS.out], by go_num, K.out⟩
            case measure => simp [intOf] <;> omega
          | false =>
            have HS := hid (hstep.out.trans (if_neg (fun h => by cases h.2)))
            clear hstep h1
            go_wp2_with (go_at_call 75; refine (HOn.out _).mono ?_; rintro e w4 ⟨rfl, hb4⟩; have K := hid (K.out.later hb4); clear hb4 p3)
            go_roundw
            case rel => exact ⟨q + 1, by omega, by rw [HS.out], by go_num, K.out⟩
            case measure => simp [intOf] <;> omega
        · obtain ⟨e1, e2⟩ := ne_bool h1
          have HS := hid (hstep.out.trans (if_neg (fun h => h1 h.1)))
          clear hstep h1
          go_wp2_with fail
          go_roundw
          case rel => exact ⟨q + 1, by omega, by rw [HS.out], by go_num, K.out⟩
          case measure => simp [intOf] <;> omega
end Go.Proofs.Ytdcinngdilfpnaa

namespace Go.Proofs.Ytdcinngdilfpnaa
open Go.RowKit

set_option maxHeartbeats 2000000 in
set_option maxRecDepth 100000 in
theorem rperson_any (p : Plot) (n : Int) (vp vw vd vq : Value) (w : World) (h : PlotAt none w vp vw vd vq p) :
    Calls Try.prog 69 #[plotV vp vw vd vq, .int .i64 n] w fun e w' => e = .returned (.int .i64 (personE p n)) ∧ Below w.heap.size w w' := by
  have H := hid h
  have HC := hid (fun W' hb => rcheck_plot p vp vw vd vq W' (H.out.below hb))
  obtain ⟨ap, cp, rfl⟩ := h.persons.form
  obtain ⟨aw, cw, rfl⟩ := h.walk.form
  obtain ⟨ad, cd, ed, _⟩ := h.dress
  subst ed
  obtain ⟨aq, cq, rfl⟩ := h.parts.form
  have K := hid ((HK.start w).box4m (n := w.heap.size) rfl (.slice ap p.persons.length cp) (.slice aw p.walk.length cw) (.slice ad p.dress.length cd) (.slice aq p.parts.length cq) 29)
  clear h
  by_cases hv : plotErr p = 0
  rotate_left
  · obtain ⟨e1, e2⟩ := ne_bool hv
    have hE : personE p n = plotErr p := by unfold personE; rw [if_neg hv]
    rw [hE]
    clear hE hv
    go_enter Try.func69, Try.ntmps69
    go_wp2_with (go_at_call 28; refine (HC.out _ K.out.below).mono ?_; rintro e w2 ⟨rfl, hb2⟩; have K := hid (K.out.later hb2); clear hb2)
    go_ret
    exact ⟨rfl, K.out.below⟩
  have hl := (plotErr_zero.1 hv).persons.2
  have zl1 : IntKind.i64.wrap ((p.persons.length : Int) - 1) = (p.persons.length : Int) - 1 := IntWalk.i64_in _ (by omega)
  cases hin : inB n 0 ((p.persons.length : Int) - 1) with
  | false =>
    have hE : personE p n = 7 := by unfold personE; rw [if_pos hv, if_pos hin]
    rw [hE]
    rw [hv] at HC
    clear hE hv
    go_enter Try.func69, Try.ntmps69
    go_wp2_with (first
      | (go_at_call 28; refine (HC.out _ K.out.below).mono ?_; rintro e w2 ⟨rfl, hb2⟩; have K := hid (K.out.later hb2); clear hb2; have p0 := K.out.c (b := w.heap.size) (o := 0) (v := .slice ap p.persons.length cp) (by simp))
      | (go_at_call 74; refine (rwithin_any _ _ _ _).mono ?_; rintro e w' ⟨rfl, rfl⟩; rw [hin]))
    go_ret
    exact ⟨rfl, K.out.below⟩
  | true =>
    have hE : personE p n = 0 := by unfold personE; rw [if_pos hv, hin]; rfl
    rw [hE]
    rw [hv] at HC
    clear hE hv
    go_enter Try.func69, Try.ntmps69
    go_wp2_with (first
      | (go_at_call 28; refine (HC.out _ K.out.below).mono ?_; rintro e w2 ⟨rfl, hb2⟩; have K := hid (K.out.later hb2); clear hb2; have p0 := K.out.c (b := w.heap.size) (o := 0) (v := .slice ap p.persons.length cp) (by simp))
      | (go_at_call 74; refine (rwithin_any _ _ _ _).mono ?_; rintro e w' ⟨rfl, rfl⟩; rw [hin]))
    go_ret
    exact ⟨rfl, K.out.below⟩

set_option maxHeartbeats 4000000 in
set_option maxRecDepth 100000 in
theorem rat_any (p : Plot) (n minute : Int) (vp vw vd vq : Value) (w : World) (h : PlotAt none w vp vw vd vq p) :
    Calls Try.prog 25 #[plotV vp vw vd vq, .int .i64 n, .int .i64 minute] w fun e w' => e = .returned (.tuple #[.int .i64 (atRes p n minute), .int .i64 (atErr p n minute)]) ∧ Below w.heap.size w w' := by
  have H := hid h
  have HC := hid (fun W' hb => rperson_any p n vp vw vd vq W' (H.out.below hb))
  obtain ⟨ap, cp, rfl⟩ := h.persons.form
  obtain ⟨aw, cw, rfl⟩ := h.walk.form
  obtain ⟨ad, cd, ed, _⟩ := h.dress
  subst ed
  obtain ⟨aq, cq, rfl⟩ := h.parts.form
  have K := hid ((HK.start w).box4m (n := w.heap.size) rfl (.slice ap p.persons.length cp) (.slice aw p.walk.length cw) (.slice ad p.dress.length cd) (.slice aq p.parts.length cq) 29)
  clear h
  by_cases hv : personE p n = 0
  rotate_left
  · obtain ⟨e1, e2⟩ := ne_bool hv
    have hE : atErr p n minute = personE p n := by unfold atErr; rw [if_neg hv]
    have hR : atRes p n minute = 0 := by unfold atRes; rw [hE, if_neg hv]
    rw [hE, hR]
    clear hE hR hv
    go_enter Try.func25, Try.ntmps25
    go_wp2_with (go_at_call 69; refine (HC.out _ K.out.below).mono ?_; rintro e w2 ⟨rfl, hb2⟩; have K := hid (K.out.later hb2); clear hb2)
    exact bodyPost_ret (v := .tuple #[.int .i64 0, .int .i64 (personE p n)]) (by simp [results, Try.results25, go_sem]) rfl ⟨rfl, K.out.below⟩
  have hpv : plotErr p = 0 := by
    by_cases hpv : plotErr p = 0
    · exact hpv
    · unfold personE at hv; rw [if_neg hpv] at hv; exact absurd hv hpv
  have hfew := (plotErr_zero.1 hpv).few
  cases hin : inB minute 0 1440 with
  | false =>
    have hE : atErr p n minute = 2 := by unfold atErr; rw [if_pos hv, if_pos hin]
    have hR : atRes p n minute = 0 := by unfold atRes; rw [hE, if_neg (by decide)]
    rw [hE, hR]
    rw [hv] at HC
    clear hE hR hv
    go_enter Try.func25, Try.ntmps25
    go_wp2_with (first
      | (go_at_call 69; refine (HC.out _ K.out.below).mono ?_; rintro e w2 ⟨rfl, hb2⟩; have K := hid (K.out.later hb2); clear hb2)
      | (go_at_call 74; refine (rwithin_any _ _ _ _).mono ?_; rintro e w' ⟨rfl, rfl⟩; rw [hin]))
    exact bodyPost_ret (v := .tuple #[.int .i64 0, .int .i64 2]) (by simp [results, Try.results25, go_sem]) rfl ⟨rfl, K.out.below⟩
  | true =>
    have hE : atErr p n minute = 0 := by unfold atErr; rw [if_pos hv, hin]; rfl
    have hR : atRes p n minute = firstAt (fun i => hitP n minute (pt p.parts i)) p.parts.length := by unfold atRes; rw [if_pos hE]
    rw [hE, hR]
    rw [hv] at HC
    clear hE hR hv
    go_enter Try.func25, Try.ntmps25
    go_wp2_with (first
      | (go_at_call 69; refine (HC.out _ K.out.below).mono ?_; rintro e w2 ⟨rfl, hb2⟩; have K := hid (K.out.later hb2); clear hb2)
      | (go_at_call 74; refine (rwithin_any _ _ _ _).mono ?_; rintro e w' ⟨rfl, rfl⟩; rw [hin]))
    clear hin
    go_loopw [9] (fun i wr => ∃ q : Nat, q ≤ p.parts.length ∧ i = .int .i64 q ∧ (∀ j, j < q → hitP n minute (pt p.parts j) = false) ∧ HK [(w.heap.size, 0, .slice ap p.persons.length cp), (w.heap.size, 1, .slice aw p.walk.length cw), (w.heap.size, 2, .slice ad p.dress.length cd), (w.heap.size, 3, .slice aq p.parts.length cq)] w wr) (fun i _ => p.parts.length - (intOf i).toNat)
    case atStart => exact ⟨0, by omega, rfl, fun j hj => absurd hj (by omega), K.out⟩
    case round =>
      obtain ⟨q, hq, rfl, hf, KK⟩ := hrel
      have K := hid KK
      have HF := hid hf
      clear KK hf
      obtain ⟨wi, rfl⟩ : ∃ wi : World, wi = wr := ⟨_, rfl⟩
      have p3 := K.out.c (b := w.heap.size) (o := 3) (v := .slice aq p.parts.length cq) (by simp)
      by_cases hltq : q < p.parts.length
      rotate_left
      · obtain rfl : q = p.parts.length := by omega
        have HR := hid (firstAt_none (f := fun i => hitP n minute (pt p.parts i)) HF.out)
        go_wp2_with fail
        exact bodyPost_ret (v := .tuple #[.int .i64 (-1), .int .i64 0]) (by simp [results, Try.results25, go_sem]) rfl ⟨by rw [HR.out], K.out.below⟩
      have hcc := PartsAt.cells (H.out.parts.below K.out.below) hltq
      obtain ⟨bq, oq, e, hbq, d0, d1, d2, d3, d4⟩ := hcc
      cases e
      have i1 : (q : Int) < (p.parts.length : Int) := by omega
      have z1 : IntKind.i64.wrap ((q : Int) + 1) = (q : Int) + 1 := IntWalk.i64_in _ (by omega)
      have HX := hid (fun (hh : hitP n minute (pt p.parts q) = true) => firstAt_at (f := fun i => hitP n minute (pt p.parts i)) HF.out hh p.parts.length hltq)
      have HN := hid (fun (hh : hitP n minute (pt p.parts q) = false) (j : Nat) (hj : j < q + 1) => show hitP n minute (pt p.parts j) = false from by
        by_cases e : j = q
        · rw [e]; exact hh
        · exact HF.out j (by omega))
      obtain ⟨x, hx⟩ : ∃ x, pt p.parts q = x := ⟨_, rfl⟩
      rw [hx] at d0 d1 d2 d3 d4 HX HN
      have HOn := hid (fun W' => ron_any x minute W')
      obtain ⟨ob, hob⟩ : ∃ ob, onB x minute = ob := ⟨_, rfl⟩
      have hhit : hitP n minute x = (decide (x.person = n) && ob) := by rw [← hob]; rfl
      rw [hob] at HOn
      rw [hhit] at HX HN
      clear hx hob hhit
      by_cases h1 : x.person = n
      · obtain ⟨e1, e2⟩ := eq_bool h1
        rw [decide_eq_true h1] at HX HN
        cases ob with
        | true =>
          have HR := hid (HX.out rfl)
          clear HX HN h1
          go_wp2_with (go_at_call 75; refine (HOn.out _).mono ?_; rintro e w4 ⟨rfl, hb4⟩; have K := hid (K.out.later hb4); clear hb4 p3)
          exact bodyPost_ret (v := .tuple #[.int .i64 q, .int .i64 0]) (by simp [results, Try.results25, go_sem]) rfl ⟨by rw [HR.out], K.out.below⟩
        | false =>
          have HF := hid (HN.out rfl)
          clear HX HN h1
          go_wp2_with (go_at_call 75; refine (HOn.out _).mono ?_; rintro e w4 ⟨rfl, hb4⟩; have K := hid (K.out.later hb4); clear hb4 p3)
          go_roundw
          case rel => exact ⟨q + 1, by omega, by go_num, HF.out, K.out⟩
          case measure => simp [intOf] <;> omega
      · obtain ⟨e1, e2⟩ := ne_bool h1
        rw [decide_eq_false h1] at HX HN
        have HF := hid (HN.out rfl)
        clear HX HN h1
        go_wp2_with fail
        go_roundw
        case rel => exact ⟨q + 1, by omega, by go_num, HF.out, K.out⟩
        case measure => simp [intOf] <;> omega
end Go.Proofs.Ytdcinngdilfpnaa

namespace Go.Proofs.Ytdcinngdilfpnaa
open Go.RowKit

theorem HK.under {cs : Cells} {w0 w w' : World} {B : Nat} (k : HK cs w0 w) (h : Below B w w') (hB : w0.heap.size ≤ B) (hcs : ∀ b o v, (b, o, v) ∈ cs → b < B) : HK cs w0 w' :=
  ⟨k.below.trans (h.mono hB), fun b o v hm => by
    obtain ⟨q1, q2, q3⟩ := k.cell b o v hm
    exact ⟨q1, cell_back h (hcs b o v hm) q2, (h.frozen (p := ⟨b, o, none⟩) (hcs b o v hm)).trans q3⟩⟩
theorem minuteL_len (p : Plot) (n m : Int) : ∀ k : Nat, (minuteL p n m k).length ≤ k := by
  intro k
  induction k with
  | zero => simp [minuteL]
  | succ k ih => simp only [minuteL]; split <;> (try simp) <;> omega
theorem dayR_len (p : Plot) (n : Int) : ∀ m : Nat, (dayR p n m).length ≤ m * p.parts.length := by
  intro m
  induction m with
  | zero => simp [dayR]
  | succ m ih => simp only [dayR, List.length_append]; have := minuteL_len p n (m : Int) p.parts.length; rw [Nat.succ_mul]; omega

set_option maxHeartbeats 4000000 in
set_option maxRecDepth 100000 in
theorem rday_any (p : Plot) (n : Int) (vp vw vd vq : Value) (w : World) (h : PlotAt none w vp vw vd vq p) :
    Calls Try.prog 23 #[plotV vp vw vd vq, .int .i64 n] w fun e w' => ∃ v', e = .returned (.tuple #[v', .int .i64 (personE p n)]) ∧ OwnInts w.heap.size w' v' (dayRes p n) ∧ Below w.heap.size w w' := by
  have H := hid h
  have HC := hid (fun W' hb => rperson_any p n vp vw vd vq W' (H.out.below hb))
  obtain ⟨ap, cp, rfl⟩ := h.persons.form
  obtain ⟨aw, cw, rfl⟩ := h.walk.form
  obtain ⟨ad, cd, ed, _⟩ := h.dress
  subst ed
  obtain ⟨aq, cq, rfl⟩ := h.parts.form
  have K := hid ((HK.start w).box4m (n := w.heap.size) rfl (.slice ap p.persons.length cp) (.slice aw p.walk.length cw) (.slice ad p.dress.length cd) (.slice aq p.parts.length cq) 29)
  clear h
  by_cases hv : personE p n = 0
  rotate_left
  · obtain ⟨e1, e2⟩ := ne_bool hv
    have HR := hid (show dayRes p n = [] from by unfold dayRes; rw [if_neg hv])
    clear hv
    go_enter Try.func23, Try.ntmps23
    go_wp2_with (go_at_call 69; refine (HC.out _ K.out.below).mono ?_; rintro e w2 ⟨rfl, hb2⟩; have K := hid (K.out.later hb2); clear hb2)
    exact bodyPost_ret (v := .tuple #[.slice none 0 0, .int .i64 (personE p n)]) (by simp [results, Try.results23, go_sem]) rfl ⟨_, rfl, by rw [HR.out]; exact own_nil _ _, K.out.below⟩
  have hpv : plotErr p = 0 := by
    by_cases hpv : plotErr p = 0
    · exact hpv
    · unfold personE at hv; rw [if_neg hpv] at hv; exact absurd hv hpv
  have V := hid (plotErr_zero.1 hpv)
  have hfew := V.out.few
  have HR := hid (show dayRes p n = dayR p n 1441 from by unfold dayRes; rw [if_pos hv]; exact dayL_dayR fun i hi => by have := alone_timed (V.out.parts i hi); exact ⟨this.1, this.2.1⟩)
  rw [hv] at HC ⊢
  clear hv hpv
  go_enter Try.func23, Try.ntmps23
  go_wp2_with (go_at_call 69; refine (HC.out _ K.out.below).mono ?_; rintro e w2 ⟨rfl, hb2⟩; have K := hid (K.out.later hb2); clear hb2)
  go_loopw [7, 8] (fun va t wr => ∃ k : Nat, k ≤ 1441 ∧ OwnInts (w.heap.size + 1) wr va (dayR p n k) ∧ t = .int .i64 k ∧ HK [(w.heap.size, 0, .slice ap p.persons.length cp), (w.heap.size, 1, .slice aw p.walk.length cw), (w.heap.size, 2, .slice ad p.dress.length cd), (w.heap.size, 3, .slice aq p.parts.length cq)] w wr) (fun _ t _ => 1441 - (intOf t).toNat)
  case atStart => exact ⟨0, by omega, own_nil _ _, rfl, K.out⟩
  case round =>
    obtain ⟨k, hk, ho, rfl, KK⟩ := hrel
    have K := hid KK
    have HO := hid ho
    obtain ⟨a1, c1, rfl⟩ := (own_int.2 ho).form
    clear KK ho
    obtain ⟨wo, rfl⟩ : ∃ wo : World, wo = wr := ⟨_, rfl⟩
    by_cases hlt : k < 1441
    rotate_left
    · obtain rfl : k = 1441 := by omega
      go_wp2_with fail
      refine bodyPost_ret (v := .tuple #[.slice a1 (dayR p n 1441).length c1, .int .i64 0]) (by simp [results, Try.results23, go_sem]) rfl ⟨_, rfl, ?_, K.out.below⟩
      rw [HR.out]
      exact OwnInts.base' HO.out (by omega)
    have i0 : (k : Int) ≤ 1440 := by omega
    have z0 : IntKind.i64.wrap ((k : Int) + 1) = (k : Int) + 1 := IntWalk.i64_in _ (by omega)
    have hdl : (dayR p n k).length ≤ 1441 * 30 := Nat.le_trans (dayR_len p n k) (Nat.mul_le_mul (by omega) hfew)
    go_wp2_with fail
    go_loopw [7, 9] (fun va i wr => ∃ q : Nat, q ≤ p.parts.length ∧ OwnInts (w.heap.size + 1) wr va (dayR p n k ++ minuteL p n k q) ∧ i = .int .i64 q ∧ HK [(w.heap.size, 0, .slice ap p.persons.length cp), (w.heap.size, 1, .slice aw p.walk.length cw), (w.heap.size, 2, .slice ad p.dress.length cd), (w.heap.size, 3, .slice aq p.parts.length cq)] w wr) (fun _ i _ => p.parts.length - (intOf i).toNat)
    case atStart => exact ⟨0, by omega, by rw [show minuteL p n k 0 = [] from rfl, List.append_nil]; exact HO.out, rfl, K.out⟩
    case round =>
      obtain ⟨q, hq, ho, rfl, KK⟩ := hrel
      have K := hid KK
      have HO := hid ho
      obtain ⟨a2, c2, rfl⟩ := (own_int.2 ho).form
      clear KK ho
      obtain ⟨wi, rfl⟩ : ∃ wi : World, wi = wr := ⟨_, rfl⟩
      have p3 := K.out.c (b := w.heap.size) (o := 3) (v := .slice aq p.parts.length cq) (by simp)
      by_cases hltq : q < p.parts.length
      rotate_left
      · obtain rfl : q = p.parts.length := by omega
        go_wp2_with fail
        go_roundw
        case rel => exact ⟨k + 1, by omega, HO.out, by go_num, K.out⟩
        case measure => simp [intOf] <;> omega
      have hcc := PartsAt.cells (H.out.parts.below K.out.below) hltq
      obtain ⟨bq, oq, e, hbq, d0, d1, d2, d3, d4⟩ := hcc
      cases e
      have hlen : (dayR p n k ++ minuteL p n k q).length ≤ 1000000 := by have := minuteL_len p n (k : Int) q; rw [List.length_append]; omega
      have hws := K.out.clt (b := w.heap.size) (o := 3) (v := .slice (some ⟨bq, oq, none⟩) p.parts.length cq) (by simp)
      have i1 : (q : Int) < (p.parts.length : Int) := by omega
      have z1 : IntKind.i64.wrap ((q : Int) + 1) = (q : Int) + 1 := IntWalk.i64_in _ (by omega)
      have hstep := hid (show minuteL p n k (q + 1) = if (pt p.parts q).person = n ∧ (pt p.parts q).start = (k : Int) then minuteL p n k q ++ [(q : Int)] else minuteL p n k q from rfl)
      obtain ⟨x, hx⟩ : ∃ x, pt p.parts q = x := ⟨_, rfl⟩
      rw [hx] at d0 d1 d2 d3 d4 hstep
      clear hx
      by_cases h1 : x.person = n
      · obtain ⟨e1, e2⟩ := eq_bool h1
        by_cases h2 : x.start = (k : Int)
        · obtain ⟨e3, e4⟩ := eq_bool h2
          have HS := hid (hstep.out.trans (if_pos ⟨h1, h2⟩))
          clear hstep h1 h2
          go_wp2_with (at_builtin; refine app_int rfl _ _ rfl (w.heap.size + 1) (dayR p n k ++ minuteL p n k q) (q : Int) _ HO.out rfl rfl hlen (by omega) ?_; intro v4 w4 hown4 hb4 hg4 _; obtain ⟨L4, hL4⟩ : ∃ L4, dayR p n k ++ minuteL p n k q ++ [(q : Int)] = L4 := ⟨_, rfl⟩; rw [hL4] at hown4; have HL4 := hid hL4; have HO4 := hid hown4; obtain ⟨a4, c4, rfl⟩ := (own_int.2 hown4).form; have K := hid (K.out.under hb4 (by omega) (by intro b' o v hm; simp only [List.mem_cons, Prod.mk.injEq, List.not_mem_nil, or_false] at hm; omega)); clear hown4 hb4 hg4 p3 hL4)
          go_roundw
          case rel => exact ⟨q + 1, by omega, by rw [HS.out, ← List.append_assoc, HL4.out]; exact HO4.out, by go_num, K.out⟩
          case measure => simp [intOf] <;> omega
        · obtain ⟨e3, e4⟩ := ne_bool h2
          have HS := hid (hstep.out.trans (if_neg (fun h => h2 h.2)))
          clear hstep h1 h2
          go_wp2_with fail
          go_roundw
          case rel => exact ⟨q + 1, by omega, by rw [HS.out]; exact HO.out, by go_num, K.out⟩
          case measure => simp [intOf] <;> omega
      · obtain ⟨e1, e2⟩ := ne_bool h1
        have HS := hid (hstep.out.trans (if_neg (fun h => h1 h.1)))
        clear hstep h1
        go_wp2_with fail
        go_roundw
        case rel => exact ⟨q + 1, by omega, by rw [HS.out]; exact HO.out, by go_num, K.out⟩
        case measure => simp [intOf] <;> omega
end Go.Proofs.Ytdcinngdilfpnaa
