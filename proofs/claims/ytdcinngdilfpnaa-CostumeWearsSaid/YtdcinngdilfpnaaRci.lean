/-
  WALK: the reference's CheckItems.
-/
import Derived.Test.YtdcinngdilfpnaaRck
import Derived.Test.YtdcinngdilfpnaaCpi
namespace Go.Proofs.Ytdcinngdilfpnaa
open Go.RowKit

set_option maxHeartbeats 4000000 in
set_option maxRecDepth 100000 in
theorem rcitems_any (p : Plot) (items : List Item) (vp vw vd vq vi : Value) (w : World) (h : PlotAt none w vp vw vd vq p) (hI : ItemsAt none w vi items) :
    Calls Try.prog 47 #[plotV vp vw vd vq, vi] w fun e w' => e = .returned (.int .i64 (itemsErr p items)) ∧ Below w.heap.size w w' := by
  have H := hid h
  have HI := hid hI
  have HC := hid (fun W' hb => rcheck_plot p vp vw vd vq W' (H.out.below hb))
  obtain ⟨ap, cp, rfl⟩ := h.persons.form
  obtain ⟨aw, cw, rfl⟩ := h.walk.form
  obtain ⟨ad, cd, ed, _⟩ := h.dress
  subst ed
  obtain ⟨aq, cq, rfl⟩ := h.parts.form
  obtain ⟨ai, ci, rfl⟩ := hI.form
  clear h hI
  have K := hid ((HK.start w).box4m (n := w.heap.size) rfl (.slice ap p.persons.length cp) (.slice aw p.walk.length cw) (.slice ad p.dress.length cd) (.slice aq p.parts.length cq) 29)
  by_cases hp : plotErr p = 0
  rotate_left
  · obtain ⟨e1, e2⟩ := ne_bool hp
    have HE := hid (show itemsErr p items = plotErr p from by unfold itemsErr; rw [if_neg hp])
    clear hp
    go_enter Try.func47, Try.ntmps47
    go_wp2_with (go_at_call 28; refine (HC.out _ K.out.below).mono ?_; rintro e w2 ⟨rfl, hb2⟩; have K := hid (K.out.later hb2); clear hb2)
    go_ret
    exact ⟨ret_int HE.out.symm, K.out.below⟩
  have hl := (plotErr_zero.1 hp).dress.2
  have zl : IntKind.i64.wrap ((p.dress.length : Int) - 1) = (p.dress.length : Int) - 1 := IntWalk.i64_in _ (by omega)
  rw [hp] at HC
  by_cases h30 : 30 < items.length
  · have HE := hid (show itemsErr p items = 5 from by unfold itemsErr; rw [if_pos hp, if_pos h30])
    have h30' : (30 : Int) < (items.length : Int) := by omega
    clear hp h30
    go_enter Try.func47, Try.ntmps47
    go_wp2_with (go_at_call 28; refine (HC.out _ K.out.below).mono ?_; rintro e w2 ⟨rfl, hb2⟩; have K := hid (K.out.later hb2); clear hb2)
    go_ret
    exact ⟨ret_int HE.out.symm, K.out.below⟩
  have HE := hid (show itemsErr p items = firstBad (fun i => itemE p (it items i)) items.length from by unfold itemsErr; rw [if_pos hp, if_neg h30])
  have h30' : ¬ (30 : Int) < (items.length : Int) := by omega
  have hl30 : items.length ≤ 30 := by omega
  clear hp h30
  go_enter Try.func47, Try.ntmps47
  go_wp2_with (go_at_call 28; refine (HC.out _ K.out.below).mono ?_; rintro e w2 ⟨rfl, hb2⟩; have K := hid (K.out.later hb2); clear hb2)
  clear h30'
  go_loopw [6] (fun a wr => ∃ k : Nat, k ≤ items.length ∧ a = .int .i64 k ∧ (∀ j, j < k → itemE p (it items j) = 0) ∧ HK [(w.heap.size, 0, .slice ap p.persons.length cp), (w.heap.size, 1, .slice aw p.walk.length cw), (w.heap.size, 2, .slice ad p.dress.length cd), (w.heap.size, 3, .slice aq p.parts.length cq)] w wr) (fun a _ => items.length - (intOf a).toNat)
  case atStart => exact ⟨0, by omega, rfl, fun j hj => absurd hj (by omega), K.out⟩
  case round =>
    obtain ⟨k, hk, rfl, hf, KK⟩ := hrel
    have K := hid KK
    have HF := hid hf
    clear KK hf
    obtain ⟨wo, rfl⟩ : ∃ wo : World, wo = wr := ⟨_, rfl⟩
    by_cases hlt : k < items.length
    rotate_left
    · obtain rfl : k = items.length := by omega
      have HR := hid (HE.out.trans (firstBad_zero.2 HF.out))
      clear HF
      go_wp2_with fail
      go_ret
      exact ⟨ret_int HR.out.symm, K.out.below⟩
    have hcc := ItemsAt.cells (HI.out.below K.out.below) hlt
    obtain ⟨bi, oi, e, hbi, d0, d1, d2, d3, d4⟩ := hcc
    cases e
    have i1 : (k : Int) < (items.length : Int) := by omega
    have z1 : IntKind.i64.wrap ((k : Int) + 1) = (k : Int) + 1 := IntWalk.i64_in _ (by omega)
    have HX := hid (fun (v : Int) (hv : itemE p (it items k) = v) (h0 : v ≠ 0) => HE.out.trans ((firstBad_at (f := fun i => itemE p (it items i)) hlt HF.out (by show itemE p (it items k) ≠ 0; rw [hv]; exact h0)).trans hv))
    have HN := hid (fun (hv : itemE p (it items k) = 0) (j : Nat) (hj : j < k + 1) => show itemE p (it items j) = 0 from by
      by_cases e : j = k
      · rw [e]; exact hv
      · exact HF.out j (by omega))
    obtain ⟨x, hx⟩ : ∃ x, it items k = x := ⟨_, rfl⟩
    rw [hx] at d0 d1 d2 d3 d4 HX HN
    clear hx HF
    have K' := hid (K.out.box5 (n := wo.heap.size) rfl (.int .i64 x.kind) (.int .i64 x.lo) (.int .i64 x.hi) (.int .i64 x.cost) (.int .i64 x.clean) 42)
    have K := K'
    clear K'
    have HSz := hid (fun W' => rsize_any x.lo x.hi W')
    have p2 := K.out.c (b := w.heap.size) (o := 2) (v := .slice ad p.dress.length cd) (by simp)
    cases q0 : inB x.kind 0 ((p.dress.length : Int) - 1) with
    | false =>
      have HR := hid (HX.out 7 (by unfold itemE; rw [if_pos q0]) (by decide))
      clear HX HN
      go_wp2_with (go_at_call 74; refine (rwithin_any _ _ _ _).mono ?_; rintro e w' ⟨rfl, rfl⟩; rw [q0])
      go_ret
      exact ⟨ret_int HR.out.symm, K.out.below⟩
    | true =>
      obtain ⟨fe, hfe⟩ : ∃ fe, figE (x.lo, x.hi) = fe := ⟨_, rfl⟩
      rw [hfe] at HSz
      by_cases hf : fe = 0
      rotate_left
      · obtain ⟨e1, e2⟩ := ne_bool hf
        have HR := hid (HX.out fe (by unfold itemE; rw [if_neg (by simp [q0]), if_neg (by rw [hfe]; exact hf), hfe]) hf)
        clear HX HN hfe hf
        go_wp2_with (first
              | (go_at_call 74; refine (rwithin_any _ _ _ _).mono ?_; rintro e w' ⟨rfl, rfl⟩; first | rw [q0])
              | (go_at_call 94; refine (HSz.out _).mono ?_; rintro e w4 ⟨rfl, hb4⟩; have K := hid (K.out.later hb4); clear hb4 p2; have x3 := K.out.c (b := wo.heap.size) (o := 3) (v := .int .i64 x.cost) (by simp); have x4 := K.out.c (b := wo.heap.size) (o := 4) (v := .int .i64 x.clean) (by simp)))
        go_ret
        exact ⟨ret_int HR.out.symm, K.out.below⟩
      subst hf
      cases q1 : inB x.cost 0 1000000 with
      | false =>
        have HR := hid (HX.out 2 (by unfold itemE; rw [if_neg (by simp [q0]), if_pos hfe, if_pos q1]) (by decide))
        clear HX HN hfe
        go_wp2_with (first
              | (go_at_call 74; refine (rwithin_any _ _ _ _).mono ?_; rintro e w' ⟨rfl, rfl⟩; first | rw [q0] | rw [q1])
              | (go_at_call 94; refine (HSz.out _).mono ?_; rintro e w4 ⟨rfl, hb4⟩; have K := hid (K.out.later hb4); clear hb4 p2; have x3 := K.out.c (b := wo.heap.size) (o := 3) (v := .int .i64 x.cost) (by simp); have x4 := K.out.c (b := wo.heap.size) (o := 4) (v := .int .i64 x.clean) (by simp)))
        go_ret
        exact ⟨ret_int HR.out.symm, K.out.below⟩
      | true =>
        cases q2 : inB x.clean 0 1440 with
        | false =>
          have HR := hid (HX.out 2 (by unfold itemE; rw [if_neg (by simp [q0]), if_pos hfe, if_neg (by simp [q1]), if_pos q2]) (by decide))
          clear HX HN hfe
          go_wp2_with (first
                | (go_at_call 74; refine (rwithin_any _ _ _ _).mono ?_; rintro e w' ⟨rfl, rfl⟩; first | rw [q0] | rw [q1] | rw [q2])
                | (go_at_call 94; refine (HSz.out _).mono ?_; rintro e w4 ⟨rfl, hb4⟩; have K := hid (K.out.later hb4); clear hb4 p2; have x3 := K.out.c (b := wo.heap.size) (o := 3) (v := .int .i64 x.cost) (by simp); have x4 := K.out.c (b := wo.heap.size) (o := 4) (v := .int .i64 x.clean) (by simp)))
          go_ret
          exact ⟨ret_int HR.out.symm, K.out.below⟩
        | true =>
          have HF := hid (HN.out (by unfold itemE; rw [if_neg (by simp [q0]), if_pos hfe, if_neg (by simp [q1]), if_neg (by simp [q2])]))
          clear HX HN hfe
          go_wp2_with (first
                | (go_at_call 74; refine (rwithin_any _ _ _ _).mono ?_; rintro e w' ⟨rfl, rfl⟩; first | rw [q0] | rw [q1] | rw [q2])
                | (go_at_call 94; refine (HSz.out _).mono ?_; rintro e w4 ⟨rfl, hb4⟩; have K := hid (K.out.later hb4); clear hb4 p2; have x3 := K.out.c (b := wo.heap.size) (o := 3) (v := .int .i64 x.cost) (by simp); have x4 := K.out.c (b := wo.heap.size) (o := 4) (v := .int .i64 x.clean) (by simp)))
          go_roundw
          case rel => exact ⟨k + 1, by omega, by go_num, HF.out, K.out.sub (fun x hx => List.mem_cons_of_mem _ (List.mem_cons_of_mem _ (List.mem_cons_of_mem _ (List.mem_cons_of_mem _ (List.mem_cons_of_mem _ hx)))))⟩
          case measure => simp [intOf] <;> omega
end Go.Proofs.Ytdcinngdilfpnaa
