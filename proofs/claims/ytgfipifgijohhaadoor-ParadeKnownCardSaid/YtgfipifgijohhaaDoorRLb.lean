/-
  WALKS: the reference's spans, Lasts.
-/
import Derived.Test.YtgfipifgijohhaaDoorRLa
namespace Go.Proofs.YtgfipifgijohhaaDoor
open Go.RowKit

set_option maxHeartbeats 2000000 in
set_option maxRecDepth 100000 in
theorem rspans_any (ws : List Wing) (st : List Int) (route : Int) (vw vs : Value) (w : World) (hW : WgAt none w vw ws) (hS : IntsAt none w vs st) (hc : checkStarts route ws st = 0) :
    Calls Tryd.prog 81 #[.agg #[.int .i64 route, vw], vs] w
     fun e w' => e = .returned (.agg #[.int .i64 (longOf route ws st (Hi ws)), .int .i64 (longOf route ws st (Lo ws))]) ∧ Below w.heap.size w w' := by
  have hW2 := hid hW
  have hS2 := hid hS
  obtain ⟨q1, q2, q3⟩ := starts_zero hc
  obtain ⟨r1, r2, r3, r4, _⟩ := check_zero q1
  obtain ⟨bw, ow, cap, rfl, _, _⟩ := hW.slice r3
  obtain ⟨bs, os, caps, rfl, _, _⟩ := hS.slice (by omega)
  have hsm := Small.of_check q1
  have SL := hid (hsm.slow (st := st) (k := ws.length - 1) (by omega) (by omega) (fun i hi => q3.bound i (by omega)))
  have SF := hid (hsm.fast (st := st) (k := ws.length - 1) (by omega) (by omega) (fun i hi => q3.bound i (by omega)))
  have hn : ws.length ≤ 100 := by omega
  obtain ⟨A, hA⟩ : ∃ A, longOf route ws st (Hi ws) = A := ⟨_, rfl⟩
  obtain ⟨B, hB⟩ : ∃ B, longOf route ws st (Lo ws) = B := ⟨_, rfl⟩
  rw [hA, hB]
  have HA := hid hA
  have HB := hid hB
  have K := hid (((HK.start w).box2 (.int .i64 route) (.slice (some ⟨bw, ow, none⟩) ws.length cap) 24).box2 (.int .i64 0) (.int .i64 0) 27).drew
  simp only [World.size_alloc] at K
  have rc0 := K.out.c (b := w.heap.size + 1) (o := 0) (v := .int .i64 0) (by simp)
  have rc1 := K.out.c (b := w.heap.size + 1) (o := 1) (v := .int .i64 0) (by simp)
  have rf := K.out.f (b := w.heap.size + 1) (o := 0) (v := .int .i64 0) (by simp)
  have rf1 := K.out.f (b := w.heap.size + 1) (o := 1) (v := .int .i64 0) (by simp)
  clear hA hB hW hS hc q1 q2 q3 hsm
  go_enter Tryd.func81, Tryd.ntmps81
  go_wp2
  go_region_held3 (fun w' => w'.cell? ⟨w.heap.size, 0, none⟩ = some (.int .i64 route) ∧ w'.cell? ⟨w.heap.size, 1, none⟩ = some (.slice (some ⟨bw, ow, none⟩) ws.length cap))
    (first | with_reducible exact ⟨K.out.c (by simp), K.out.c (by simp)⟩ | exact ⟨cell_set_far (by omega) (cell_set_far (by omega) (K.out.c (by simp))), cell_set_far (by omega) (cell_set_far (by omega) (K.out.c (by simp)))⟩) (first
    | (go_at_call 51; refine (fast_any ws route _ none _ (hW2.out.below K.out.below) hn).mono ?_; rintro e w1 ⟨vf, rfl, hof, hb1⟩; have F := hid (hof.at (d := none) (by simp)); (try have L := hid (L.out.below hb1)); have K := hid (K.out.later hb1); clear hof hb1; have rc0 := K.out.c (b := w.heap.size + 1) (o := 0) (v := .int .i64 0) (by simp); have rc1 := K.out.c (b := w.heap.size + 1) (o := 1) (v := .int .i64 0) (by simp); have rf := K.out.f (b := w.heap.size + 1) (o := 0) (v := .int .i64 0) (by simp); have rf1 := K.out.f (b := w.heap.size + 1) (o := 1) (v := .int .i64 0) (by simp))
    | (go_at_call 50; refine (slow_any ws route _ none _ (hW2.out.below K.out.below) hn).mono ?_; rintro e w1 ⟨vl, rfl, hof, hb1⟩; have L := hid (hof.at (d := none) (by simp)); (try have F := hid (F.out.below hb1)); have K := hid (K.out.later hb1); clear hof hb1; have rc0 := K.out.c (b := w.heap.size + 1) (o := 0) (v := .int .i64 0) (by simp); have rc1 := K.out.c (b := w.heap.size + 1) (o := 1) (v := .int .i64 0) (by simp); have rf := K.out.f (b := w.heap.size + 1) (o := 0) (v := .int .i64 0) (by simp); have rf1 := K.out.f (b := w.heap.size + 1) (o := 1) (v := .int .i64 0) (by simp))
    | (go_at_call 121; refine (rlasts1_any ws st _ route _ _ _ _ (hW2.out.below K.out.below) (hS2.out.below K.out.below) (by first | exact F.out | exact L.out) (by first | exact SF.out | exact SL.out) (by omega) (by omega)).mono ?_; (first | rw [nm_hi, HA.out] | rw [nm_lo, HB.out]); rintro e w1 ⟨rfl, hb1⟩; (try have F := hid (F.out.below hb1)); (try have L := hid (L.out.below hb1)); have K := hid (K.out.later hb1); clear hb1; have rc0 := K.out.c (b := w.heap.size + 1) (o := 0) (v := .int .i64 0) (by simp); have rc1 := K.out.c (b := w.heap.size + 1) (o := 1) (v := .int .i64 0) (by simp); have rf := K.out.f (b := w.heap.size + 1) (o := 0) (v := .int .i64 0) (by simp); have rf1 := K.out.f (b := w.heap.size + 1) (o := 1) (v := .int .i64 0) (by simp)))
  all_goals (
    go_wp2
    refine bodyPost_ret (v := .agg #[.int .i64 A, .int .i64 B]) (by simp [results, Tryd.results81, go_sem, rc0, rc1]) rfl ⟨rfl, ?_⟩
    exact (K.out.below.setCell (p := ⟨w.heap.size + 1, 0, none⟩) (by simp) _).setCell (p := ⟨w.heap.size + 1, 1, none⟩) (by simp) _)

set_option maxHeartbeats 4000000 in
set_option maxRecDepth 100000 in
theorem rLasts_any (ws : List Wing) (st : List Int) (route a b c : Int) (vw vs : Value) (w : World) (hW : WgAt none w vw ws) (hS : IntsAt none w vs st) (hn : ws.length ≤ 100) (hnm : ∀ i, i < ws.length → (wg ws i).name.size ≤ 1000000) (hns : st.length ≤ 1000000) :
    Calls Tryd.prog 34 #[.agg #[.int .i64 route, vw], vs, .agg #[.int .i64 a, .int .i64 b, .int .i64 c]] w
     fun e w' => e = .returned (.tuple #[.int .i64 (lastsRes route ws st a b c).1, .agg #[.int .i64 (lastsRes route ws st a b c).2.1, .int .i64 (lastsRes route ws st a b c).2.2], .int .i64 (bothErr route ws st a b c)]) ∧ Below w.heap.size w w' := by
  have hW2 := hid hW
  have hS2 := hid hS
  obtain ⟨aw, cap, rfl, _⟩ := hW
  obtain ⟨ags, caps, rfl, _⟩ := hS
  have K := hid ((((HK.start w).box2 (.int .i64 route) (.slice aw ws.length cap) 24).box3 (.int .i64 a) (.int .i64 b) (.int .i64 c) 50).box2 (.int .i64 0) (.int .i64 0) 27)
  simp only [World.size_alloc] at K
  by_cases hc : checkStarts route ws st = 0
  · obtain ⟨c1, c2⟩ := eq_bool hc
    have Hc := hid hc
    by_cases hr : rulesErr a b c = 0
    · obtain ⟨d1, d2⟩ := eq_bool hr
      have hbe := both_rules hc hr
      have hl := lasts_fine (a := a) (b := b) (c := c) hbe
      rw [hbe, hl]
      dsimp only
      obtain ⟨A, hA⟩ : ∃ A, longOf route ws st (Hi ws) = A := ⟨_, rfl⟩
      obtain ⟨B, hB⟩ : ∃ B, longOf route ws st (Lo ws) = B := ⟨_, rfl⟩
      rw [hA, hB]
      have HA := hid hA
      have HB := hid hB
      clear hA hB hl hbe hr hc
      go_enter Tryd.func34, Tryd.ntmps34
      go_wp2_with (first
        | (go_at_call 30; refine (rstarts_any ws st route _ _ _ (hW2.out.below K.out.below) (hS2.out.below K.out.below) hn hnm hns).mono ?_; rintro e w1 ⟨rfl, hb1⟩; have K := hid (K.out.later hb1); clear hb1; have e0 := K.out.c (b := w.heap.size + 1) (o := 0) (v := .int .i64 a) (by simp); have e1 := K.out.c (b := w.heap.size + 1) (o := 1) (v := .int .i64 b) (by simp); have e2 := K.out.c (b := w.heap.size + 1) (o := 2) (v := .int .i64 c) (by simp))
        | (go_at_call 80; refine (rrules_any _ _ _ _).mono ?_; rintro e w1 ⟨rfl, hb1⟩; have K := hid (K.out.later hb1); clear hb1; have s0 := K.out.c (b := w.heap.size) (o := 0) (v := .int .i64 route) (by simp); have s1 := K.out.c (b := w.heap.size) (o := 1) (v := .slice aw ws.length cap) (by simp))
        | (go_at_call 81; refine (rspans_any ws st route _ _ _ (hW2.out.below K.out.below) (hS2.out.below K.out.below) Hc.out).mono ?_; rw [HA.out, HB.out]; rintro e w1 ⟨rfl, hb1⟩; have K := hid (K.out.later hb1); clear hb1))
      have hXs := K.out.clt (b := w.heap.size + 2) (o := 0) (v := .int .i64 0) (by simp)
      have K := hid (K.out.box2 (.int .i64 A) (.int .i64 B) 27).drew
      obtain ⟨X, hX⟩ : ∃ X, w1.heap.size = X := ⟨_, rfl⟩
      rw [hX] at hXs K
      rw [hX]
      clear hX
      have rc0 := K.out.c (b := w.heap.size + 2) (o := 0) (v := .int .i64 0) (by simp); have rc1 := K.out.c (b := w.heap.size + 2) (o := 1) (v := .int .i64 0) (by simp); have rf := K.out.f (b := w.heap.size + 2) (o := 0) (v := .int .i64 0) (by simp); have rf1 := K.out.f (b := w.heap.size + 2) (o := 1) (v := .int .i64 0) (by simp)
      go_region_held3 (fun w' => w'.cell? ⟨w.heap.size + 1, 0, none⟩ = some (.int .i64 a) ∧ w'.cell? ⟨w.heap.size + 1, 1, none⟩ = some (.int .i64 b) ∧ w'.cell? ⟨w.heap.size + 1, 2, none⟩ = some (.int .i64 c) ∧ w'.cell? ⟨X, 0, none⟩ = some (.int .i64 A) ∧ w'.cell? ⟨X, 1, none⟩ = some (.int .i64 B))
        (first | with_reducible exact ⟨K.out.c (by simp), K.out.c (by simp), K.out.c (by simp), K.out.c (by simp), K.out.c (by simp)⟩ | exact ⟨cell_set_far (by omega) (cell_set_far (by omega) (K.out.c (by simp))), cell_set_far (by omega) (cell_set_far (by omega) (K.out.c (by simp))), cell_set_far (by omega) (cell_set_far (by omega) (K.out.c (by simp))), cell_set_far (by omega) (cell_set_far (by omega) (K.out.c (by simp))), cell_set_far (by omega) (cell_set_far (by omega) (K.out.c (by simp)))⟩) (first
        | (go_at_call 82; refine (rverdict_any _ _ _ _ _ _).mono ?_; rintro e w2 ⟨rfl, hb1⟩; have K := hid (K.out.later hb1); clear hb1; have rc0 := K.out.c (b := w.heap.size + 2) (o := 0) (v := .int .i64 0) (by simp); have rc1 := K.out.c (b := w.heap.size + 2) (o := 1) (v := .int .i64 0) (by simp); have rf := K.out.f (b := w.heap.size + 2) (o := 0) (v := .int .i64 0) (by simp); have rf1 := K.out.f (b := w.heap.size + 2) (o := 1) (v := .int .i64 0) (by simp)))
      all_goals (
        go_wp2
        refine bodyPost_ret (v := .tuple #[.int .i64 (verdictOf a b A B), .agg #[.int .i64 A, .int .i64 B], .int .i64 0]) (by simp [results, Tryd.results34, go_sem, rc0, rc1]) rfl ⟨rfl, ?_⟩
        exact (K.out.below.setCell (p := ⟨w.heap.size + 2, 0, none⟩) (by simp) _).setCell (p := ⟨w.heap.size + 2, 1, none⟩) (by simp) _)
    · obtain ⟨d1, d2⟩ := ne_bool hr
      have hbe : bothErr route ws st a b c = rulesErr a b c := by unfold bothErr; rw [if_pos hc]
      have hl : lastsRes route ws st a b c = (0, 0, 0) := by unfold lastsRes; rw [if_neg (by rw [hbe]; exact hr)]
      rw [hbe, hl]
      dsimp only
      clear hl hbe hr hc
      go_enter Tryd.func34, Tryd.ntmps34
      go_wp2_with (first
        | (go_at_call 30; refine (rstarts_any ws st route _ _ _ (hW2.out.below K.out.below) (hS2.out.below K.out.below) hn hnm hns).mono ?_; rintro e w1 ⟨rfl, hb1⟩; have K := hid (K.out.later hb1); clear hb1; have e0 := K.out.c (b := w.heap.size + 1) (o := 0) (v := .int .i64 a) (by simp); have e1 := K.out.c (b := w.heap.size + 1) (o := 1) (v := .int .i64 b) (by simp); have e2 := K.out.c (b := w.heap.size + 1) (o := 2) (v := .int .i64 c) (by simp); have rc0 := K.out.c (b := w.heap.size + 2) (o := 0) (v := .int .i64 0) (by simp); have rc1 := K.out.c (b := w.heap.size + 2) (o := 1) (v := .int .i64 0) (by simp); have rf := K.out.f (b := w.heap.size + 2) (o := 0) (v := .int .i64 0) (by simp); have rf1 := K.out.f (b := w.heap.size + 2) (o := 1) (v := .int .i64 0) (by simp))
        | (go_at_call 80; refine (rrules_any _ _ _ _).mono ?_; rintro e w1 ⟨rfl, hb1⟩; have K := hid (K.out.later hb1); clear hb1; have rc0 := K.out.c (b := w.heap.size + 2) (o := 0) (v := .int .i64 0) (by simp); have rc1 := K.out.c (b := w.heap.size + 2) (o := 1) (v := .int .i64 0) (by simp); have rf := K.out.f (b := w.heap.size + 2) (o := 0) (v := .int .i64 0) (by simp); have rf1 := K.out.f (b := w.heap.size + 2) (o := 1) (v := .int .i64 0) (by simp)))
      refine bodyPost_ret (v := .tuple #[.int .i64 0, .agg #[.int .i64 0, .int .i64 0], .int .i64 (rulesErr a b c)]) (by simp [results, Tryd.results34, go_sem, rc0, rc1]) rfl ⟨rfl, ?_⟩
      exact (K.out.below.setCell (p := ⟨w.heap.size + 2, 0, none⟩) (by simp) _).setCell (p := ⟨w.heap.size + 2, 1, none⟩) (by simp) _
  · obtain ⟨c1, c2⟩ := ne_bool hc
    have hbe : bothErr route ws st a b c = checkStarts route ws st := by unfold bothErr; rw [if_neg hc]
    have hl : lastsRes route ws st a b c = (0, 0, 0) := by unfold lastsRes; rw [if_neg (by rw [hbe]; exact hc)]
    rw [hbe, hl]
    dsimp only
    clear hl hbe hc
    go_enter Tryd.func34, Tryd.ntmps34
    go_wp2_with (first
      | (go_at_call 30; refine (rstarts_any ws st route _ _ _ (hW2.out.below K.out.below) (hS2.out.below K.out.below) hn hnm hns).mono ?_; rintro e w1 ⟨rfl, hb1⟩; have K := hid (K.out.later hb1); clear hb1; have e0 := K.out.c (b := w.heap.size + 1) (o := 0) (v := .int .i64 a) (by simp); have e1 := K.out.c (b := w.heap.size + 1) (o := 1) (v := .int .i64 b) (by simp); have e2 := K.out.c (b := w.heap.size + 1) (o := 2) (v := .int .i64 c) (by simp); have rc0 := K.out.c (b := w.heap.size + 2) (o := 0) (v := .int .i64 0) (by simp); have rc1 := K.out.c (b := w.heap.size + 2) (o := 1) (v := .int .i64 0) (by simp); have rf := K.out.f (b := w.heap.size + 2) (o := 0) (v := .int .i64 0) (by simp); have rf1 := K.out.f (b := w.heap.size + 2) (o := 1) (v := .int .i64 0) (by simp))
      | (go_at_call 80; refine (rrules_any _ _ _ _).mono ?_; rintro e w1 ⟨rfl, hb1⟩; have K := hid (K.out.later hb1); clear hb1; have rc0 := K.out.c (b := w.heap.size + 2) (o := 0) (v := .int .i64 0) (by simp); have rc1 := K.out.c (b := w.heap.size + 2) (o := 1) (v := .int .i64 0) (by simp); have rf := K.out.f (b := w.heap.size + 2) (o := 0) (v := .int .i64 0) (by simp); have rf1 := K.out.f (b := w.heap.size + 2) (o := 1) (v := .int .i64 0) (by simp)))
    refine bodyPost_ret (v := .tuple #[.int .i64 0, .agg #[.int .i64 0, .int .i64 0], .int .i64 (checkStarts route ws st)]) (by simp [results, Tryd.results34, go_sem, rc0, rc1]) rfl ⟨rfl, ?_⟩
    exact (K.out.below.setCell (p := ⟨w.heap.size + 2, 0, none⟩) (by simp) _).setCell (p := ⟨w.heap.size + 2, 1, none⟩) (by simp) _
end Go.Proofs.YtgfipifgijohhaaDoor
