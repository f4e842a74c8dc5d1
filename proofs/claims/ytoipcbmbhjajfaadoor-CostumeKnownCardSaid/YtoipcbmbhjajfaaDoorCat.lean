/-
  WALK: At, with its errors.
-/
import Derived.Test.YtoipcbmbhjajfaaDoorCdz
namespace Go.Proofs.YtoipcbmbhjajfaaDoor
open Go.RowKit

set_option maxHeartbeats 2000000 in
set_option maxRecDepth 100000 in
theorem at_any (p : Plot) (n minute : Int) (vp vw vd vq : Value) (w : World) (h : PlotAt none w vp vw vd vq p) :
    Calls Tryd.prog 7 #[plotV vp vw vd vq, .int .i64 n, .int .i64 minute] w fun e w' => e = .returned (.tuple #[.int .i64 (atRes p n minute), .int .i64 (atErr p n minute)]) ∧ Below w.heap.size w w' := by
  by_cases hv : personE p n = 0
  · have hpv : plotErr p = 0 := by
      by_cases hpv : plotErr p = 0
      · exact hpv
      · unfold personE at hv; rw [if_neg hpv] at hv; exact absurd hv hpv
    have hn : inB n 0 ((p.persons.length : Int) - 1) = true := by
      unfold personE at hv
      rw [if_pos hpv] at hv
      cases hi : inB n 0 ((p.persons.length : Int) - 1) with
      | true => rfl
      | false => rw [hi] at hv; simp at hv
    cases hm : inB minute 0 1440 with
    | true =>
      have hE : atErr p n minute = 0 := by unfold atErr; rw [if_pos hv, hm]; rfl
      have hR : atRes p n minute = firstAt (fun i => hitP n minute (pt p.parts i)) p.parts.length := by unfold atRes; rw [if_pos hE]
      rw [hE, hR]
      exact at_fine p n minute vp vw vd vq w h hpv hn hm
    | false =>
      have hE : atErr p n minute = 2 := by unfold atErr; rw [if_pos hv, if_pos hm]
      have hR : atRes p n minute = 0 := by unfold atRes; rw [hE, if_neg (by decide)]
      rw [hE, hR]
      have H := hid h
      have HP := hid (fun W' hb => person_any p n vp vw vd vq W' (H.out.below hb))
      rw [hv] at HP
      obtain ⟨ap, cp, rfl⟩ := h.persons.form
      obtain ⟨aw, cw, rfl⟩ := h.walk.form
      obtain ⟨ad, cd, ed, _⟩ := h.dress
      subst ed
      obtain ⟨aq, cq, rfl⟩ := h.parts.form
      have K := hid ((((HK.start w).box4m (n := w.heap.size) rfl (.slice ap p.persons.length cp) (.slice aw p.walk.length cw) (.slice ad p.dress.length cd) (.slice aq p.parts.length cq) 27).box1n (n := w.heap.size + 1) (by simp) (.int .i64 n) 3).box1n (n := w.heap.size + 1 + 1) (by simp) (.int .i64 minute) 3)
      clear h hv hpv hn hE hR
      go_enter Tryd.func7, Tryd.ntmps7
      go_wp2_with (first
        | (go_at_call 24; refine (HP.out _ K.out.below).mono ?_; rintro e w2 ⟨rfl, hb2⟩; have K := hid (K.out.later hb2); clear hb2; have q0 := K.out.c (b := w.heap.size + 1) (o := 0) (v := .int .i64 n) (by simp); have q1 := K.out.c (b := w.heap.size + 1 + 1) (o := 0) (v := .int .i64 minute) (by simp))
        | (go_at_call 20; refine (minute_any _ _).mono ?_; rintro e w' ⟨rfl, rfl⟩; rw [hm]))
      exact bodyPost_ret (v := .tuple #[.int .i64 0, .int .i64 2]) (by simp [results, Tryd.results7, go_sem]) rfl ⟨rfl, K.out.below⟩
  · obtain ⟨e1, e2⟩ := ne_bool hv
    have hE : atErr p n minute = personE p n := by unfold atErr; rw [if_neg hv]
    have hR : atRes p n minute = 0 := by unfold atRes; rw [hE, if_neg hv]
    rw [hE, hR]
    have H := hid h
    have HP := hid (fun W' hb => person_any p n vp vw vd vq W' (H.out.below hb))
    obtain ⟨ap, cp, rfl⟩ := h.persons.form
    obtain ⟨aw, cw, rfl⟩ := h.walk.form
    obtain ⟨ad, cd, ed, _⟩ := h.dress
    subst ed
    obtain ⟨aq, cq, rfl⟩ := h.parts.form
    have K := hid ((((HK.start w).box4m (n := w.heap.size) rfl (.slice ap p.persons.length cp) (.slice aw p.walk.length cw) (.slice ad p.dress.length cd) (.slice aq p.parts.length cq) 27).box1n (n := w.heap.size + 1) (by simp) (.int .i64 n) 3).box1n (n := w.heap.size + 1 + 1) (by simp) (.int .i64 minute) 3)
    clear h hv hE hR
    go_enter Tryd.func7, Tryd.ntmps7
    go_wp2_with (go_at_call 24; refine (HP.out _ K.out.below).mono ?_; rintro e w2 ⟨rfl, hb2⟩; have K := hid (K.out.later hb2); clear hb2; have q0 := K.out.c (b := w.heap.size + 1) (o := 0) (v := .int .i64 n) (by simp))
    exact bodyPost_ret (v := .tuple #[.int .i64 0, .int .i64 (personE p n)]) (by simp [results, Tryd.results7, go_sem]) rfl ⟨rfl, K.out.below⟩
end Go.Proofs.YtoipcbmbhjajfaaDoor
