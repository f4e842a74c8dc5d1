/-
  WALKS: the law's only: some parts of a plot alone.
-/
import Derived.Test.YtdcinngdilfpnaaCsh
import Derived.Test.YtdcinngdilfpnaaKqq
namespace Go.Proofs.Ytdcinngdilfpnaa
open Go.RowKit

set_option maxHeartbeats 8000000 in
set_option maxRecDepth 100000 in
theorem only_any (p : Plot) (l : List Int) (hl : Inc p.parts.length 0 l) (v : Valid p) (vp vw vd vq vl : Value) (w : World) (h : PlotAt none w vp vw vd vq p) (hsd : Sound0 vq) (hL : IntsAt none w vl l) :
    Calls Try.prog 52 #[plotV vp vw vd vq, vl] w fun e w' => ∃ vp' vw' vd' vq', e = .returned (plotV vp' vw' vd' vq') ∧ PlotAt none w' vp' vw' vd' vq' { p with parts := someL p l } ∧ Below w.heap.size w w' := by
  have H := hid h
  have HL := hid hL
  have V := hid v
  have hln : l.length ≤ 30 := by have := inc_length hl; have := v.few; omega
  have HOP := hid (fun W' hb => ownPlot_any p vp vw vd vq none W' (PlotS.ofValid (h.below hb) v hsd) (PlotN.ofValid v))
  have HSo := hid (fun W' hb => rsome_any p l vp vw vd vq vl W' (h.below hb) (hL.below hb) (by omega) (fun i hi => by have := hl.at hi; omega))
  obtain ⟨ap, cp, rfl⟩ := h.persons.form
  obtain ⟨aw, cw, rfl⟩ := h.walk.form
  obtain ⟨ad, cd, ed, _⟩ := h.dress
  subst ed
  obtain ⟨aq, cq, rfl⟩ := h.parts.form
  obtain ⟨al, cl, el, _⟩ := hL
  subst el
  clear h hl v
  have K := hid (((HK.start w).box4m (n := w.heap.size) rfl (.slice ap p.persons.length cp) (.slice aw p.walk.length cw) (.slice ad p.dress.length cd) (.slice aq p.parts.length cq) 29).box4m (n := w.heap.size + 1) (by simp) (.slice none 0 0) (.slice none 0 0) (.slice none 0 0) (.slice none 0 0) 29)
  go_enter Try.func52, Try.ntmps52
  go_upto_region 1 with fail
  obtain ⟨w1, hw1, K1⟩ := K.out.name
  have hsz : w1.heap.size = w.heap.size + 2 := by rw [← hw1]; simp
  rw [hw1]
  have K := hid K1
  clear hw1 K1
  have y0 := K.out.c (b := w.heap.size) (o := 0) (v := .slice ap p.persons.length cp) (by simp)
  have y1 := K.out.c (b := w.heap.size) (o := 1) (v := .slice aw p.walk.length cw) (by simp)
  have y2 := K.out.c (b := w.heap.size) (o := 2) (v := .slice ad p.dress.length cd) (by simp)
  have y3 := K.out.c (b := w.heap.size) (o := 3) (v := .slice aq p.parts.length cq) (by simp)
  go_upto_region 2 with (go_at_call 21; refine (HOP.out _ K.out.below).mono ?_; rintro e w2 ⟨vp', vw', vd', vq', rfl, hown, hb5⟩; have HOw := hid hown; have K := hid (K.out.later hb5); have HB5 := hid hb5; obtain ⟨ap', cp', rfl⟩ := hown.persons.form; obtain ⟨aw', cw', rfl⟩ := hown.wform; obtain ⟨ad', cd', rfl⟩ := hown.dress.form; obtain ⟨aq', cq', rfl⟩ := hown.parts.form; clear hown hb5 y0 y1 y2 y3)
  obtain ⟨Z, hZ⟩ : ∃ Z, w2.heap.size = Z := ⟨_, rfl⟩
  have hZ2 : w.heap.size + 2 ≤ Z := by rw [← hZ, ← hsz]; exact HB5.out.size
  have HOw := hid (HOw.out.later (below_alloc w2 (.cells #[.slice ap' p.persons.length cp', .slice aw' p.walk.length cw', .slice ad' p.dress.length cd', .slice aq' p.parts.length cq'] 29)))
  have HZh := hid (box_new w2 #[.slice ap' p.persons.length cp', .slice aw' p.walk.length cw', .slice ad' p.dress.length cd', .slice aq' p.parts.length cq'] 29)
  have K2 := hid (K.out.box4m (n := Z) hZ.symm (.slice ap' p.persons.length cp') (.slice aw' p.walk.length cw') (.slice ad' p.dress.length cd') (.slice aq' p.parts.length cq') 29)
  obtain ⟨w3, hw3, K3⟩ := K2.out.name
  have hs3 : w3.heap.size = Z + 1 := by rw [← hw3, ← hZ]; simp
  rw [hw3] at HOw HZh
  rw [hZ] at HZh
  rw [hsz] at HOw
  rw [hZ, hw3]
  have K := hid K3
  clear hw3 K3 K2 hZ HB5
  have y0 := K.out.c (b := w.heap.size) (o := 0) (v := .slice ap p.persons.length cp) (by simp)
  have y1 := K.out.c (b := w.heap.size) (o := 1) (v := .slice aw p.walk.length cw) (by simp)
  have y2 := K.out.c (b := w.heap.size) (o := 2) (v := .slice ad p.dress.length cd) (by simp)
  have y3 := K.out.c (b := w.heap.size) (o := 3) (v := .slice aq p.parts.length cq) (by simp)
  go_upto_region 3 with (go_at_call 100; refine (HSo.out _ K.out.below).mono ?_; rintro e w4 ⟨v4, rfl, ho4, hb4⟩; obtain ⟨a4, c4, e4⟩ := ho4.form; rw [someL_len] at e4; subst e4; have HO4 := hid ho4; have HZh := hid ((hb4.block Z (by rw [hs3]; omega)).trans HZh.out); have HOw := hid (HOw.out.later hb4); have K := hid (K.out.later hb4); clear ho4 hb4 y0 y1 y2 y3; have z3 := K.out.c (b := Z) (o := 3) (v := .slice aq' p.parts.length cq') (by simp); have zf := K.out.f (b := Z) (o := 3) (v := .slice aq' p.parts.length cq') (by simp))
  have hg := gb_put w4 Z 3 (.slice a4 l.length c4)
  rw [hs3] at HO4
  have HO5 := hid (HO4.out.go (show Z < Z + 1 by omega) hg)
  have HOw5 := hid (HOw.out.off HZh.out hg)
  have KP := K.out.putO (b := Z) (o := 3) (v := .slice aq' p.parts.length cq') (by simp) (.slice a4 l.length c4)
  have hne1 : w.heap.size ≠ Z := by omega
  have hne2 : w.heap.size + 1 ≠ Z := by omega
  have KP2 := hid (KP.subs (cs2 := [(Z, 0, .slice ap' p.persons.length cp'), (Z, 1, .slice aw' p.walk.length cw'), (Z, 2, .slice ad' p.dress.length cd'), (Z, 3, .slice a4 l.length c4), (w.heap.size + 1, 0, .slice none 0 0), (w.heap.size + 1, 1, .slice none 0 0), (w.heap.size + 1, 2, .slice none 0 0), (w.heap.size + 1, 3, .slice none 0 0)]) (by intro x hx; simp [upd, hne1, hne2] at hx ⊢; rcases hx with h | h | h | h | h | h | h | h <;> simp [h]))
  obtain ⟨w5, hw5, K5⟩ := KP2.out.name
  rw [hw5] at HO5 HOw5 ⊢
  have K := hid K5
  clear hw5 K5 KP KP2 hg z3 zf hne1 hne2 HO4 HOw HZh
  have z0 := K.out.c (b := Z) (o := 0) (v := .slice ap' p.persons.length cp') (by simp)
  have z1 := K.out.c (b := Z) (o := 1) (v := .slice aw' p.walk.length cw') (by simp)
  have z2 := K.out.c (b := Z) (o := 2) (v := .slice ad' p.dress.length cd') (by simp)
  have z3 := K.out.c (b := Z) (o := 3) (v := .slice a4 l.length c4) (by simp)
  have r0 := K.out.c (b := w.heap.size + 1) (o := 0) (v := .slice none 0 0) (by simp)
  have r1 := K.out.c (b := w.heap.size + 1) (o := 1) (v := .slice none 0 0) (by simp)
  have r2 := K.out.c (b := w.heap.size + 1) (o := 2) (v := .slice none 0 0) (by simp)
  have r3 := K.out.c (b := w.heap.size + 1) (o := 3) (v := .slice none 0 0) (by simp)
  have q0 := K.out.f (b := w.heap.size + 1) (o := 0) (v := .slice none 0 0) (by simp)
  have q1 := K.out.f (b := w.heap.size + 1) (o := 1) (v := .slice none 0 0) (by simp)
  have q2 := K.out.f (b := w.heap.size + 1) (o := 2) (v := .slice none 0 0) (by simp)
  have q3 := K.out.f (b := w.heap.size + 1) (o := 3) (v := .slice none 0 0) (by simp)
  go_wp2_with fail
  obtain ⟨l0, l1, l2, l3⟩ := put4_cells (R := w.heap.size + 1) (w := w5) (a := .slice ap' p.persons.length cp') (b := .slice aw' p.walk.length cw') (c := .slice ad' p.dress.length cd') (d := .slice a4 l.length c4) r0 r1 r2 r3
  have hgQ : w5.grownBy ((((w5.setCell ⟨w.heap.size + 1, 0, none⟩ (.slice ap' p.persons.length cp')).setCell ⟨w.heap.size + 1, 1, none⟩ (.slice aw' p.walk.length cw')).setCell ⟨w.heap.size + 1, 2, none⟩ (.slice ad' p.dress.length cd')).setCell ⟨w.heap.size + 1, 3, none⟩ (.slice a4 l.length c4)) (some (w.heap.size + 1)) := gb_trans (gb_trans (gb_trans (gb_put _ _ _ _) (gb_put _ _ _ _)) (gb_put _ _ _ _)) (gb_put _ _ _ _)
  obtain ⟨wz, hwz⟩ : ∃ wz, ((((w5.setCell ⟨w.heap.size + 1, 0, none⟩ (.slice ap' p.persons.length cp')).setCell ⟨w.heap.size + 1, 1, none⟩ (.slice aw' p.walk.length cw')).setCell ⟨w.heap.size + 1, 2, none⟩ (.slice ad' p.dress.length cd')).setCell ⟨w.heap.size + 1, 3, none⟩ (.slice a4 l.length c4)) = wz := ⟨_, rfl⟩
  rw [hwz] at l0 l1 l2 l3 hgQ ⊢
  refine bodyPost_ret (v := plotV (.slice ap' p.persons.length cp') (.slice aw' p.walk.length cw') (.slice ad' p.dress.length cd') (.slice a4 l.length c4)) (by simp [results, Try.results52, go_sem, l0, l1, l2, l3]) rfl ?_
  have hd : w.heap.size + 1 < w.heap.size + 2 := by omega
  have HOz := HOw5.out.go hd hgQ
  have hP := HOz.at (d := none) (by simp)
  have hQ := (HO5.out.go (d := w.heap.size + 1) (by omega) hgQ).parts (d := none) (by simp)
  exact ⟨_, _, _, _, rfl, ⟨hP.persons, hP.walk, hP.dress, hQ⟩, K.out.below.grown hgQ K.out.below.size (fun g e => by cases e; omega)⟩
end Go.Proofs.Ytdcinngdilfpnaa
