/-
  WALKS: the reference's checkWing, checkWhere, Where, Passes.
  WALKS: the reference's Where, Passes.
-/
import Derived.Test.YtgfipifgijohhaaDoorLo
namespace Go.Proofs.YtgfipifgijohhaaDoor
open Go.RowKit

/-- the error of a school, starts and a wing -/
def wingErr (route : Int) (ws : List Wing) (st : List Int) (wing : Int) : Int :=
  if checkStarts route ws st = 0 then (if inB wing 0 ((ws.length : Int) - 1) = false then 7 else 0) else checkStarts route ws st

theorem wing_zero {route : Int} {ws : List Wing} {st : List Int} {wing : Int} (h : wingErr route ws st wing = 0) : checkStarts route ws st = 0 ∧ inB wing 0 ((ws.length : Int) - 1) = true := by
  unfold wingErr at h
  by_cases hc : checkStarts route ws st = 0
  · rw [if_pos hc] at h
    split at h
    · omega
    · rename_i h1
      exact ⟨hc, by simpa using h1⟩
  · rw [if_neg hc] at h; exact absurd h hc

set_option maxHeartbeats 1000000 in
set_option maxRecDepth 100000 in
theorem rwing_any (ws : List Wing) (st : List Int) (route wing : Int) (vw vs : Value) (w : World) (hW : WgAt none w vw ws) (hS : IntsAt none w vs st) (hn : ws.length ≤ 100) (hnm : ∀ i, i < ws.length → (wg ws i).name.size ≤ 1000000) (hns : st.length ≤ 1000000) :
    Calls Tryd.prog 100 #[.agg #[.int .i64 route, vw], vs, .int .i64 wing] w
     fun e w' => e = .returned (.int .i64 (wingErr route ws st wing)) ∧ Below w.heap.size w w' := by
  have hW2 := hid hW
  have hS2 := hid hS
  obtain ⟨aw, cap, rfl, _⟩ := hW
  obtain ⟨ags, caps, rfl, _⟩ := hS
  have K := hid ((HK.start w).box2 (.int .i64 route) (.slice aw ws.length cap) 24)
  by_cases hc : checkStarts route ws st = 0
  · obtain ⟨c1, c2⟩ := eq_bool hc
    have Hc := hid hc
    clear hc
    cases hin : inB wing 0 ((ws.length : Int) - 1) with
    | false =>
      go_enter Tryd.func100, Tryd.ntmps100
      go_wp2_with (first
        | (go_at_call 30; refine (rstarts_any ws st route _ _ _ (hW2.out.below K.out.below) (hS2.out.below K.out.below) hn hnm hns).mono ?_; rintro e w1 ⟨rfl, hb1⟩; have K := hid (K.out.later hb1); clear hb1; have s1 := K.out.c (b := w.heap.size) (o := 1) (v := .slice aw ws.length cap) (by simp))
        | (go_at_call 78; refine (within_any _ _ _ _).mono ?_; rintro e w' ⟨rfl, rfl⟩))
      go_ret
      exact ⟨ret_int (by unfold wingErr; rw [if_pos Hc.out, if_pos hin]), K.out.below⟩
    | true =>
      go_enter Tryd.func100, Tryd.ntmps100
      go_wp2_with (first
        | (go_at_call 30; refine (rstarts_any ws st route _ _ _ (hW2.out.below K.out.below) (hS2.out.below K.out.below) hn hnm hns).mono ?_; rintro e w1 ⟨rfl, hb1⟩; have K := hid (K.out.later hb1); clear hb1; have s1 := K.out.c (b := w.heap.size) (o := 1) (v := .slice aw ws.length cap) (by simp))
        | (go_at_call 78; refine (within_any _ _ _ _).mono ?_; rintro e w' ⟨rfl, rfl⟩))
      go_ret
      exact ⟨ret_int (by unfold wingErr; rw [if_pos Hc.out, if_neg (by simp [hin])]), K.out.below⟩
  · obtain ⟨c1, c2⟩ := ne_bool hc
    have Hc := hid hc
    clear hc
    go_enter Tryd.func100, Tryd.ntmps100
    go_wp2_with (first
      | (go_at_call 30; refine (rstarts_any ws st route _ _ _ (hW2.out.below K.out.below) (hS2.out.below K.out.below) hn hnm hns).mono ?_; rintro e w1 ⟨rfl, hb1⟩; have K := hid (K.out.later hb1); clear hb1; have s1 := K.out.c (b := w.heap.size) (o := 1) (v := .slice aw ws.length cap) (by simp)))
    go_ret
    exact ⟨ret_int (by unfold wingErr; rw [if_neg Hc.out]), K.out.below⟩

theorem asked_of_wing {route : Int} {ws : List Wing} {st : List Int} {wing second : Int} (h : wingErr route ws st wing = 0) : askedErr route ws st wing second = if second < nm st wing.toNat then 12 else if 100000 < second then 2 else 0 := by
  obtain ⟨h1, h2⟩ := wing_zero h
  unfold askedErr
  rw [if_pos h1, if_neg (by simp [h2])]
theorem asked_of_wing_ne {route : Int} {ws : List Wing} {st : List Int} {wing second : Int} (h : wingErr route ws st wing ≠ 0) : askedErr route ws st wing second = wingErr route ws st wing := by
  unfold askedErr wingErr at *
  by_cases hc : checkStarts route ws st = 0
  · rw [if_pos hc] at h ⊢
    rw [if_pos hc]
    split
    · rfl
    · rename_i h1
      rw [if_neg h1] at h
      exact absurd rfl h
  · rw [if_neg hc, if_neg hc]
theorem pass_of_wing {route : Int} {ws : List Wing} {st : List Int} {wing place : Int} (h : wingErr route ws st wing = 0) : passErr route ws st wing place = if inB place 0 100000 = false then 2 else 0 := by
  obtain ⟨h1, h2⟩ := wing_zero h
  unfold passErr
  rw [if_pos h1, if_neg (by simp [h2])]
theorem pass_of_wing_ne {route : Int} {ws : List Wing} {st : List Int} {wing place : Int} (h : wingErr route ws st wing ≠ 0) : passErr route ws st wing place = wingErr route ws st wing := by
  unfold passErr wingErr at *
  by_cases hc : checkStarts route ws st = 0
  · rw [if_pos hc] at h ⊢
    rw [if_pos hc]
    split
    · rfl
    · rename_i h1
      rw [if_neg h1] at h
      exact absurd rfl h
  · rw [if_neg hc, if_neg hc]

set_option maxHeartbeats 1000000 in
set_option maxRecDepth 100000 in
theorem rasked_any (ws : List Wing) (st : List Int) (route wing second : Int) (vw vs : Value) (w : World) (hW : WgAt none w vw ws) (hS : IntsAt none w vs st) (hn : ws.length ≤ 100) (hnm : ∀ i, i < ws.length → (wg ws i).name.size ≤ 1000000) (hns : st.length ≤ 1000000) :
    Calls Tryd.prog 99 #[.agg #[.int .i64 route, vw], vs, .int .i64 wing, .int .i64 second] w
     fun e w' => e = .returned (.int .i64 (askedErr route ws st wing second)) ∧ Below w.heap.size w w' := by
  have hW2 := hid hW
  have hS2 := hid hS
  obtain ⟨aw, cap, rfl, _⟩ := hW
  obtain ⟨ags, caps, rfl, hh2⟩ := hS
  have K := hid ((HK.start w).box2 (.int .i64 route) (.slice aw ws.length cap) 24)
  by_cases hc : wingErr route ws st wing = 0
  · obtain ⟨c1, c2⟩ := eq_bool hc
    have Ha := hid (asked_of_wing (second := second) hc)
    obtain ⟨q1, q2⟩ := wing_zero hc
    have q2 := inB_true.1 q2
    obtain ⟨k, rfl⟩ := Int.eq_ofNat_of_zero_le q2.1
    rw [Int.toNat_natCast] at Ha
    have hks : k < st.length := by have := (starts_zero q1).2.1; omega
    have hkw : k < ws.length := by omega
    obtain ⟨bs, os, rfl, _, _, _, hbs, hSc⟩ := hh2 (by omega)
    have sc := hSc k hks
    clear hSc hh2 q1 hc
    by_cases h1 : second < nm st k
    · go_enter Tryd.func99, Tryd.ntmps99
      go_wp2_with (go_at_call 100; refine (rwing_any ws st route _ _ _ _ (hW2.out.below K.out.below) (hS2.out.below K.out.below) hn hnm hns).mono ?_; rintro e w1 ⟨rfl, hb1⟩; have K := hid (K.out.later hb1); clear hb1; have p4 := cell_back K.out.below hbs sc)
      go_ret
      exact ⟨ret_int (by rw [Ha.out, if_pos h1]), K.out.below⟩
    · by_cases h2 : 100000 < second
      · go_enter Tryd.func99, Tryd.ntmps99
        go_wp2_with (go_at_call 100; refine (rwing_any ws st route _ _ _ _ (hW2.out.below K.out.below) (hS2.out.below K.out.below) hn hnm hns).mono ?_; rintro e w1 ⟨rfl, hb1⟩; have K := hid (K.out.later hb1); clear hb1; have p4 := cell_back K.out.below hbs sc)
        go_ret
        exact ⟨ret_int (by rw [Ha.out, if_neg (by omega), if_pos h2]), K.out.below⟩
      · go_enter Tryd.func99, Tryd.ntmps99
        go_wp2_with (go_at_call 100; refine (rwing_any ws st route _ _ _ _ (hW2.out.below K.out.below) (hS2.out.below K.out.below) hn hnm hns).mono ?_; rintro e w1 ⟨rfl, hb1⟩; have K := hid (K.out.later hb1); clear hb1; have p4 := cell_back K.out.below hbs sc)
        go_ret
        exact ⟨ret_int (by rw [Ha.out, if_neg (by omega), if_neg (by omega)]), K.out.below⟩
  · obtain ⟨c1, c2⟩ := ne_bool hc
    have Ha := hid (asked_of_wing_ne (second := second) hc)
    clear hc
    go_enter Tryd.func99, Tryd.ntmps99
    go_wp2_with (go_at_call 100; refine (rwing_any ws st route _ _ _ _ (hW2.out.below K.out.below) (hS2.out.below K.out.below) hn hnm hns).mono ?_; rintro e w1 ⟨rfl, hb1⟩; have K := hid (K.out.later hb1); clear hb1)
    go_ret
    exact ⟨ret_int Ha.out.symm, K.out.below⟩
end Go.Proofs.YtgfipifgijohhaaDoor

namespace Go.Proofs.YtgfipifgijohhaaDoor
open Go.RowKit

set_option maxHeartbeats 2000000 in
set_option maxRecDepth 100000 in
theorem rwhere_any (ws : List Wing) (st : List Int) (route wing second : Int) (vw vs : Value) (w : World) (hW : WgAt none w vw ws) (hS : IntsAt none w vs st) (hn : ws.length ≤ 100) (hnm : ∀ i, i < ws.length → (wg ws i).name.size ≤ 1000000) (hns : st.length ≤ 1000000) :
    Calls Tryd.prog 46 #[.agg #[.int .i64 route, vw], vs, .int .i64 wing, .int .i64 second] w
     fun e w' => e = .returned (.tuple #[.agg #[.int .i64 (whereSpan route ws st wing second).1, .int .i64 (whereSpan route ws st wing second).2], .int .i64 (askedErr route ws st wing second)]) ∧ Below w.heap.size w w' := by
  have hW2 := hid hW
  have hS2 := hid hS
  obtain ⟨aw, cap, rfl, _⟩ := hW
  obtain ⟨ags, caps, rfl, _⟩ := hS
  have K := hid (((HK.start w).box2 (.int .i64 route) (.slice aw ws.length cap) 24).box2 (.int .i64 0) (.int .i64 0) 27)
  simp only [World.size_alloc] at K
  by_cases hc : askedErr route ws st wing second = 0
  · obtain ⟨c1, c2⟩ := eq_bool hc
    obtain ⟨a1, a2, a3, a4, a5⟩ := asked_zero hc
    have hw : whereSpan route ws st wing second = (front (Ln ws) (nm st) (Lo ws) wing.toNat second, front (Ln ws) (nm st) (Hi ws) wing.toNat second) := by unfold whereSpan; rw [if_pos hc]
    have Hc := hid hc
    rw [hw, hc]
    obtain ⟨q1, q2, q3⟩ := starts_zero a1
    have hsm := Small.of_check q1
    have SL := hid (hsm.slow (st := st) (k := wing.toNat) a3 (by omega) (fun i hi => q3.bound i (by omega)))
    have SF := hid (hsm.fast (st := st) (k := wing.toNat) a3 (by omega) (fun i hi => q3.bound i (by omega)))
    have a6 := q3.bound wing.toNat (by omega)
    dsimp only
    obtain ⟨A, hA⟩ : ∃ A, front (Ln ws) (nm st) (Lo ws) wing.toNat second = A := ⟨_, rfl⟩
    obtain ⟨B, hB⟩ : ∃ B, front (Ln ws) (nm st) (Hi ws) wing.toNat second = B := ⟨_, rfl⟩
    rw [hA, hB]
    have HA := hid hA
    have HB := hid hB
    have a7 : -10000000 ≤ second := by omega
    have a8 : second ≤ 10000000 := by omega
    clear hA hB hw hc a1 a3 a4 a6 q1 q2 q3 hsm
    go_enter Tryd.func46, Tryd.ntmps46
    go_wp2_with (go_at_call 99; refine (rasked_any ws st route _ _ _ _ _ (hW2.out.below K.out.below) (hS2.out.below K.out.below) hn hnm hns).mono ?_; rintro e w1 ⟨rfl, hb1⟩; have K := hid (K.out.later hb1); clear hb1; have rc0 := K.out.c (b := w.heap.size + 1) (o := 0) (v := .int .i64 0) (by simp); have rc1 := K.out.c (b := w.heap.size + 1) (o := 1) (v := .int .i64 0) (by simp); have rf := K.out.f (b := w.heap.size + 1) (o := 0) (v := .int .i64 0) (by simp); have rf1 := K.out.f (b := w.heap.size + 1) (o := 1) (v := .int .i64 0) (by simp))
    have K := hid K.out.drew
    have rc0 := K.out.c (b := w.heap.size + 1) (o := 0) (v := .int .i64 0) (by simp); have rc1 := K.out.c (b := w.heap.size + 1) (o := 1) (v := .int .i64 0) (by simp); have rf := K.out.f (b := w.heap.size + 1) (o := 0) (v := .int .i64 0) (by simp); have rf1 := K.out.f (b := w.heap.size + 1) (o := 1) (v := .int .i64 0) (by simp)
    go_region_held3 (fun w' => w'.cell? ⟨w.heap.size, 0, none⟩ = some (.int .i64 route) ∧ w'.cell? ⟨w.heap.size, 1, none⟩ = some (.slice aw ws.length cap))
      (first | with_reducible exact ⟨K.out.c (by simp), K.out.c (by simp)⟩ | exact ⟨cell_set_far (by omega) (cell_set_far (by omega) (K.out.c (by simp))), cell_set_far (by omega) (cell_set_far (by omega) (K.out.c (by simp)))⟩) (first
        | (go_at_call 51; refine (fast_any ws route _ none _ (hW2.out.below K.out.below) hn).mono ?_; rintro e w1 ⟨vf, rfl, hof, hb1⟩; have F := hid (hof.at (d := none) (by simp)); (try have L := hid (L.out.below hb1)); have K := hid (K.out.later hb1); clear hof hb1; have rc0 := K.out.c (b := w.heap.size + 1) (o := 0) (v := .int .i64 0) (by simp); have rc1 := K.out.c (b := w.heap.size + 1) (o := 1) (v := .int .i64 0) (by simp); have rf := K.out.f (b := w.heap.size + 1) (o := 0) (v := .int .i64 0) (by simp); have rf1 := K.out.f (b := w.heap.size + 1) (o := 1) (v := .int .i64 0) (by simp))
        | (go_at_call 50; refine (slow_any ws route _ none _ (hW2.out.below K.out.below) hn).mono ?_; rintro e w1 ⟨vl, rfl, hof, hb1⟩; have L := hid (hof.at (d := none) (by simp)); (try have F := hid (F.out.below hb1)); have K := hid (K.out.later hb1); clear hof hb1; have rc0 := K.out.c (b := w.heap.size + 1) (o := 0) (v := .int .i64 0) (by simp); have rc1 := K.out.c (b := w.heap.size + 1) (o := 1) (v := .int .i64 0) (by simp); have rf := K.out.f (b := w.heap.size + 1) (o := 0) (v := .int .i64 0) (by simp); have rf1 := K.out.f (b := w.heap.size + 1) (o := 1) (v := .int .i64 0) (by simp))
        | (go_at_call 58; refine (front_any ws st _ _ _ route _ _ _ none _ (hW2.out.below K.out.below) (hS2.out.below K.out.below) (by first | exact F.out | exact L.out) a2 (by first | exact SF.out | exact SL.out) a7 a8).mono ?_; (first | rw [nm_lo, HA.out] | rw [nm_hi, HB.out]); rintro e w1 ⟨rfl, hb1⟩; (try have F := hid (F.out.below hb1)); (try have L := hid (L.out.below hb1)); have K := hid (K.out.later hb1); clear hb1; have rc0 := K.out.c (b := w.heap.size + 1) (o := 0) (v := .int .i64 0) (by simp); have rc1 := K.out.c (b := w.heap.size + 1) (o := 1) (v := .int .i64 0) (by simp); have rf := K.out.f (b := w.heap.size + 1) (o := 0) (v := .int .i64 0) (by simp); have rf1 := K.out.f (b := w.heap.size + 1) (o := 1) (v := .int .i64 0) (by simp)))
    all_goals (
      go_wp2
      refine bodyPost_ret (v := .tuple #[.agg #[.int .i64 A, .int .i64 B], .int .i64 0]) (by simp [results, Tryd.results46, go_sem, rc0, rc1]) rfl ⟨rfl, ?_⟩
      exact (K.out.below.setCell (p := ⟨w.heap.size + 1, 0, none⟩) (by simp) _).setCell (p := ⟨w.heap.size + 1, 1, none⟩) (by simp) _)
  · obtain ⟨c1, c2⟩ := ne_bool hc
    have hw : whereSpan route ws st wing second = (0, 0) := by unfold whereSpan; rw [if_neg hc]
    rw [hw]
    clear hc hw
    go_enter Tryd.func46, Tryd.ntmps46
    go_wp2_with (go_at_call 99; refine (rasked_any ws st route _ _ _ _ _ (hW2.out.below K.out.below) (hS2.out.below K.out.below) hn hnm hns).mono ?_; rintro e w1 ⟨rfl, hb1⟩; have K := hid (K.out.later hb1); clear hb1; have rc0 := K.out.c (b := w.heap.size + 1) (o := 0) (v := .int .i64 0) (by simp); have rc1 := K.out.c (b := w.heap.size + 1) (o := 1) (v := .int .i64 0) (by simp); have rf := K.out.f (b := w.heap.size + 1) (o := 0) (v := .int .i64 0) (by simp); have rf1 := K.out.f (b := w.heap.size + 1) (o := 1) (v := .int .i64 0) (by simp))
    refine bodyPost_ret (v := .tuple #[.agg #[.int .i64 0, .int .i64 0], .int .i64 (askedErr route ws st wing second)]) (by simp [results, Tryd.results46, go_sem, rc0, rc1]) rfl ⟨rfl, ?_⟩
    exact (K.out.below.setCell (p := ⟨w.heap.size + 1, 0, none⟩) (by simp) _).setCell (p := ⟨w.heap.size + 1, 1, none⟩) (by simp) _

set_option maxHeartbeats 2000000 in
set_option maxRecDepth 100000 in
theorem rpasses_any (ws : List Wing) (st : List Int) (route wing place : Int) (vw vs : Value) (w : World) (hW : WgAt none w vw ws) (hS : IntsAt none w vs st) (hn : ws.length ≤ 100) (hnm : ∀ i, i < ws.length → (wg ws i).name.size ≤ 1000000) (hns : st.length ≤ 1000000) :
    Calls Tryd.prog 47 #[.agg #[.int .i64 route, vw], vs, .int .i64 wing, .int .i64 place] w
     fun e w' => e = .returned (.tuple #[.agg #[.int .i64 (passSpan route ws st wing place).1, .int .i64 (passSpan route ws st wing place).2], .int .i64 (passErr route ws st wing place)]) ∧ Below w.heap.size w w' := by
  have hW2 := hid hW
  have hS2 := hid hS
  obtain ⟨aw, cap, rfl, _⟩ := hW
  obtain ⟨ags, caps, rfl, _⟩ := hS
  have K := hid (((HK.start w).box2 (.int .i64 route) (.slice aw ws.length cap) 24).box2 (.int .i64 0) (.int .i64 0) 27)
  simp only [World.size_alloc] at K
  by_cases hc : wingErr route ws st wing = 0
  · obtain ⟨c1, c2⟩ := eq_bool hc
    have hpe := pass_of_wing (place := place) hc
    obtain ⟨a1, a2⟩ := wing_zero hc
    have a2 := inB_true.1 a2
    have a3 : 0 ≤ wing := a2.1
    cases hin : inB place 0 100000 with
    | false =>
      rw [if_pos hin] at hpe
      rw [passSpan_ne (by rw [hpe]; decide), hpe]
      clear hpe hc a1 a2
      go_enter Tryd.func47, Tryd.ntmps47
      go_wp2_with (first | (go_at_call 100; refine (rwing_any ws st route _ _ _ _ (hW2.out.below K.out.below) (hS2.out.below K.out.below) hn hnm hns).mono ?_; rintro e w1 ⟨rfl, hb1⟩; have K := hid (K.out.later hb1); clear hb1; have rc0 := K.out.c (b := w.heap.size + 1) (o := 0) (v := .int .i64 0) (by simp); have rc1 := K.out.c (b := w.heap.size + 1) (o := 1) (v := .int .i64 0) (by simp); have rf := K.out.f (b := w.heap.size + 1) (o := 0) (v := .int .i64 0) (by simp); have rf1 := K.out.f (b := w.heap.size + 1) (o := 1) (v := .int .i64 0) (by simp)) | (go_at_call 78; refine (within_any _ _ _ _).mono ?_; rintro e w' ⟨rfl, rfl⟩))
      refine bodyPost_ret (v := .tuple #[.agg #[.int .i64 0, .int .i64 0], .int .i64 2]) (by simp [results, Tryd.results47, go_sem, rc0, rc1]) rfl ⟨rfl, ?_⟩
      exact (K.out.below.setCell (p := ⟨w.heap.size + 1, 0, none⟩) (by simp) _).setCell (p := ⟨w.heap.size + 1, 1, none⟩) (by simp) _
    | true =>
      rw [if_neg (by simp [hin])] at hpe
      rw [passSpan_0 hpe, hpe]
      have hp := inB_true.1 hin
      obtain ⟨q1, q2, q3⟩ := starts_zero a1
      have hsm := Small.of_check q1
      have a4 : wing.toNat < ws.length := by omega
      have SL := hid (hsm.slow (st := st) (k := wing.toNat) a4 (by omega) (fun i hi => q3.bound i (by omega)))
      have SF := hid (hsm.fast (st := st) (k := wing.toNat) a4 (by omega) (fun i hi => q3.bound i (by omega)))
      dsimp only
      obtain ⟨A, hA⟩ : ∃ A, passed (Ln ws) (nm st) (Hi ws) wing.toNat place = A := ⟨_, rfl⟩
      obtain ⟨B, hB⟩ : ∃ B, passed (Ln ws) (nm st) (Lo ws) wing.toNat place = B := ⟨_, rfl⟩
      rw [hA, hB]
      have HA := hid hA
      have HB := hid hB
      clear hA hB hpe hc a1 a2 a4 q1 q2 q3 hsm
      go_enter Tryd.func47, Tryd.ntmps47
      go_wp2_with (first | (go_at_call 100; refine (rwing_any ws st route _ _ _ _ (hW2.out.below K.out.below) (hS2.out.below K.out.below) hn hnm hns).mono ?_; rintro e w1 ⟨rfl, hb1⟩; have K := hid (K.out.later hb1); clear hb1; have rc0 := K.out.c (b := w.heap.size + 1) (o := 0) (v := .int .i64 0) (by simp); have rc1 := K.out.c (b := w.heap.size + 1) (o := 1) (v := .int .i64 0) (by simp); have rf := K.out.f (b := w.heap.size + 1) (o := 0) (v := .int .i64 0) (by simp); have rf1 := K.out.f (b := w.heap.size + 1) (o := 1) (v := .int .i64 0) (by simp)) | (go_at_call 78; refine (within_any _ _ _ _).mono ?_; rintro e w' ⟨rfl, rfl⟩))
      have K := hid K.out.drew
      have rc0 := K.out.c (b := w.heap.size + 1) (o := 0) (v := .int .i64 0) (by simp); have rc1 := K.out.c (b := w.heap.size + 1) (o := 1) (v := .int .i64 0) (by simp); have rf := K.out.f (b := w.heap.size + 1) (o := 0) (v := .int .i64 0) (by simp); have rf1 := K.out.f (b := w.heap.size + 1) (o := 1) (v := .int .i64 0) (by simp)
      go_region_held3 (fun w' => w'.cell? ⟨w.heap.size, 0, none⟩ = some (.int .i64 route) ∧ w'.cell? ⟨w.heap.size, 1, none⟩ = some (.slice aw ws.length cap))
        (first | with_reducible exact ⟨K.out.c (by simp), K.out.c (by simp)⟩ | exact ⟨cell_set_far (by omega) (cell_set_far (by omega) (K.out.c (by simp))), cell_set_far (by omega) (cell_set_far (by omega) (K.out.c (by simp)))⟩) (first
        | (go_at_call 51; refine (fast_any ws route _ none _ (hW2.out.below K.out.below) hn).mono ?_; rintro e w1 ⟨vf, rfl, hof, hb1⟩; have F := hid (hof.at (d := none) (by simp)); (try have L := hid (L.out.below hb1)); have K := hid (K.out.later hb1); clear hof hb1; have rc0 := K.out.c (b := w.heap.size + 1) (o := 0) (v := .int .i64 0) (by simp); have rc1 := K.out.c (b := w.heap.size + 1) (o := 1) (v := .int .i64 0) (by simp); have rf := K.out.f (b := w.heap.size + 1) (o := 0) (v := .int .i64 0) (by simp); have rf1 := K.out.f (b := w.heap.size + 1) (o := 1) (v := .int .i64 0) (by simp))
        | (go_at_call 50; refine (slow_any ws route _ none _ (hW2.out.below K.out.below) hn).mono ?_; rintro e w1 ⟨vl, rfl, hof, hb1⟩; have L := hid (hof.at (d := none) (by simp)); (try have F := hid (F.out.below hb1)); have K := hid (K.out.later hb1); clear hof hb1; have rc0 := K.out.c (b := w.heap.size + 1) (o := 0) (v := .int .i64 0) (by simp); have rc1 := K.out.c (b := w.heap.size + 1) (o := 1) (v := .int .i64 0) (by simp); have rf := K.out.f (b := w.heap.size + 1) (o := 0) (v := .int .i64 0) (by simp); have rf1 := K.out.f (b := w.heap.size + 1) (o := 1) (v := .int .i64 0) (by simp))
        | (go_at_call 44; refine (passed_any ws st _ _ _ route _ _ _ none _ (hW2.out.below K.out.below) (hS2.out.below K.out.below) (by first | exact F.out | exact L.out) a3 (by first | exact SF.out | exact SL.out) hp.1 (by omega)).mono ?_; (first | rw [nm_hi, HA.out] | rw [nm_lo, HB.out]); rintro e w1 ⟨rfl, hb1⟩; (try have F := hid (F.out.below hb1)); (try have L := hid (L.out.below hb1)); have K := hid (K.out.later hb1); clear hb1; have rc0 := K.out.c (b := w.heap.size + 1) (o := 0) (v := .int .i64 0) (by simp); have rc1 := K.out.c (b := w.heap.size + 1) (o := 1) (v := .int .i64 0) (by simp); have rf := K.out.f (b := w.heap.size + 1) (o := 0) (v := .int .i64 0) (by simp); have rf1 := K.out.f (b := w.heap.size + 1) (o := 1) (v := .int .i64 0) (by simp)))
      all_goals (
        go_wp2
        refine bodyPost_ret (v := .tuple #[.agg #[.int .i64 A, .int .i64 B], .int .i64 0]) (by simp [results, Tryd.results47, go_sem, rc0, rc1]) rfl ⟨rfl, ?_⟩
        exact (K.out.below.setCell (p := ⟨w.heap.size + 1, 0, none⟩) (by simp) _).setCell (p := ⟨w.heap.size + 1, 1, none⟩) (by simp) _)
  · obtain ⟨c1, c2⟩ := ne_bool hc
    have hpe := pass_of_wing_ne (place := place) hc
    rw [passSpan_ne (by rw [hpe]; exact hc), hpe]
    clear hc hpe
    go_enter Tryd.func47, Tryd.ntmps47
    go_wp2_with (first | (go_at_call 100; refine (rwing_any ws st route _ _ _ _ (hW2.out.below K.out.below) (hS2.out.below K.out.below) hn hnm hns).mono ?_; rintro e w1 ⟨rfl, hb1⟩; have K := hid (K.out.later hb1); clear hb1; have rc0 := K.out.c (b := w.heap.size + 1) (o := 0) (v := .int .i64 0) (by simp); have rc1 := K.out.c (b := w.heap.size + 1) (o := 1) (v := .int .i64 0) (by simp); have rf := K.out.f (b := w.heap.size + 1) (o := 0) (v := .int .i64 0) (by simp); have rf1 := K.out.f (b := w.heap.size + 1) (o := 1) (v := .int .i64 0) (by simp)) | (go_at_call 78; refine (within_any _ _ _ _).mono ?_; rintro e w' ⟨rfl, rfl⟩))
    refine bodyPost_ret (v := .tuple #[.agg #[.int .i64 0, .int .i64 0], .int .i64 (wingErr route ws st wing)]) (by simp [results, Tryd.results47, go_sem, rc0, rc1]) rfl ⟨rfl, ?_⟩
    exact (K.out.below.setCell (p := ⟨w.heap.size + 1, 0, none⟩) (by simp) _).setCell (p := ⟨w.heap.size + 1, 1, none⟩) (by simp) _
end Go.Proofs.YtgfipifgijohhaaDoor
