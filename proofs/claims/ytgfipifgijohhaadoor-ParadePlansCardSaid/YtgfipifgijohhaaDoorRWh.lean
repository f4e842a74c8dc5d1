/-
  WALKS: the reference's checkWing, checkWhere, Where, Passes.
-/
import Derived.Test.YtgfipifgijohhaaDoorLo
namespace Go.Proofs.YtgfipifgijohhaaDoor
open Go.RowKit

/-- the error of a school, starts and a wing -/
def wingErr (route : Int) (ws : List Wing) (st : List Int) (wing : Int) : Int :=
  if checkStarts route ws st = 0 then (if inB wing 0 ((ws.length : Int) - 1) = false then 7 else 0) else checkStarts route ws st

theorem wing_zero {route : Int} {ws : List Wing} {st : List Int} {wing : Int} (h : wingErr route ws st wing = 0) : checkStarts route ws st = 0 ∧ inB wing 0 ((ws.length : Int) - 1) = true := by
  unfold wingErr at h
  by_cases hc : checkStarts route ws st = 0
  · rw [if_pos hc] at h
    split at h
    · omega
    · rename_i h1
      exact ⟨hc, by simpa using h1⟩
  · rw [if_neg hc] at h; exact absurd h hc

set_option maxHeartbeats 1000000 in
set_option maxRecDepth 100000 in
theorem rwing_any (ws : List Wing) (st : List Int) (route wing : Int) (vw vs : Value) (w : World) (hW : WgAt none w vw ws) (hS : IntsAt none w vs st) (hn : ws.length ≤ 100) (hnm : ∀ i, i < ws.length → (wg ws i).name.size ≤ 1000000) (hns : st.length ≤ 1000000) :
    Calls Tryd.prog 100 #[.agg #[.int .i64 route, vw], vs, .int .i64 wing] w
     fun e w' => e = .returned (.int .i64 (wingErr route ws st wing)) ∧ Below w.heap.size w w' := by
  have hW2 := hid hW
  have hS2 := hid hS
  obtain ⟨aw, cap, rfl, _⟩ := hW
  obtain ⟨ags, caps, rfl, _⟩ := hS
  have K := hid ((HK.start w).box2 (.int .i64 route) (.slice aw ws.length cap) 24)
  by_cases hc : checkStarts route ws st = 0
  · obtain ⟨c1, c2⟩ := eq_bool hc
    have Hc := hid hc
    clear hc
    cases hin : inB wing 0 ((ws.length : Int) - 1) with
    | false =>
      go_enter Tryd.func100, Tryd.ntmps100
      go_wp2_with (first
        | (go_at_call 30; refine (rstarts_any ws st route _ _ _ (hW2.out.below K.out.below) (hS2.out.below K.out.below) hn hnm hns).mono ?_; rintro e w1 ⟨rfl, hb1⟩; have K := hid (K.out.later hb1); clear hb1; have s1 := K.out.c (b := w.heap.size) (o := 1) (v := .slice aw ws.length cap) (by simp))
        | (go_at_call 78; refine (within_any _ _ _ _).mono ?_; rintro e w' ⟨rfl, rfl⟩))
      go_ret
      exact ⟨ret_int (by unfold wingErr; rw [if_pos Hc.out, if_pos hin]), K.out.below⟩
    | true =>
      go_enter Tryd.func100, Tryd.ntmps100
      go_wp2_with (first
        | (go_at_call 30; refine (rstarts_any ws st route _ _ _ (hW2.out.below K.out.below) (hS2.out.below K.out.below) hn hnm hns).mono ?_; rintro e w1 ⟨rfl, hb1⟩; have K := hid (K.out.later hb1); clear hb1; have s1 := K.out.c (b := w.heap.size) (o := 1) (v := .slice aw ws.length cap) (by simp))
        | (go_at_call 78; refine (within_any _ _ _ _).mono ?_; rintro e w' ⟨rfl, rfl⟩))
      go_ret
      exact ⟨ret_int (by unfold wingErr; rw [if_pos Hc.out, if_neg (by simp [hin])]), K.out.below⟩
  · obtain ⟨c1, c2⟩ := ne_bool hc
    have Hc := hid hc
    clear hc
    go_enter Tryd.func100, Tryd.ntmps100
    go_wp2_with (first
      | (go_at_call 30; refine (rstarts_any ws st route _ _ _ (hW2.out.below K.out.below) (hS2.out.below K.out.below) hn hnm hns).mono ?_; rintro e w1 ⟨rfl, hb1⟩; have K := hid (K.out.later hb1); clear hb1; have s1 := K.out.c (b := w.heap.size) (o := 1) (v := .slice aw ws.length cap) (by simp)))
    go_ret
    exact ⟨ret_int (by unfold wingErr; rw [if_neg Hc.out]), K.out.below⟩

theorem asked_of_wing {route : Int} {ws : List Wing} {st : List Int} {wing second : Int} (h : wingErr route ws st wing = 0) : askedErr route ws st wing second = if second < nm st wing.toNat then 12 else if 100000 < second then 2 else 0 := by
  obtain ⟨h1, h2⟩ := wing_zero h
  unfold askedErr
  rw [if_pos h1, if_neg (by simp [h2])]
theorem asked_of_wing_ne {route : Int} {ws : List Wing} {st : List Int} {wing second : Int} (h : wingErr route ws st wing ≠ 0) : askedErr route ws st wing second = wingErr route ws st wing := by
  unfold askedErr wingErr at *
  by_cases hc : checkStarts route ws st = 0
  · rw [if_pos hc] at h ⊢
    rw [if_pos hc]
    split
    · rfl
    · rename_i h1
      rw [if_neg h1] at h
      exact absurd rfl h
  · rw [if_neg hc, if_neg hc]
theorem pass_of_wing {route : Int} {ws : List Wing} {st : List Int} {wing place : Int} (h : wingErr route ws st wing = 0) : passErr route ws st wing place = if inB place 0 100000 = false then 2 else 0 := by
  obtain ⟨h1, h2⟩ := wing_zero h
  unfold passErr
  rw [if_pos h1, if_neg (by simp [h2])]
theorem pass_of_wing_ne {route : Int} {ws : List Wing} {st : List Int} {wing place : Int} (h : wingErr route ws st wing ≠ 0) : passErr route ws st wing place = wingErr route ws st wing := by
  unfold passErr wingErr at *
  by_cases hc : checkStarts route ws st = 0
  · rw [if_pos hc] at h ⊢
    rw [if_pos hc]
    split
    · rfl
    · rename_i h1
      rw [if_neg h1] at h
      exact absurd rfl h
  · rw [if_neg hc, if_neg hc]

set_option maxHeartbeats 1000000 in
set_option maxRecDepth 100000 in
theorem rasked_any (ws : List Wing) (st : List Int) (route wing second : Int) (vw vs : Value) (w : World) (hW : WgAt none w vw ws) (hS : IntsAt none w vs st) (hn : ws.length ≤ 100) (hnm : ∀ i, i < ws.length → (wg ws i).name.size ≤ 1000000) (hns : st.length ≤ 1000000) :
    Calls Tryd.prog 99 #[.agg #[.int .i64 route, vw], vs, .int .i64 wing, .int .i64 second] w
     fun e w' => e = .returned (.int .i64 (askedErr route ws st wing second)) ∧ Below w.heap.size w w' := by
  have hW2 := hid hW
  have hS2 := hid hS
  obtain ⟨aw, cap, rfl, _⟩ := hW
  obtain ⟨ags, caps, rfl, hh2⟩ := hS
  have K := hid ((HK.start w).box2 (.int .i64 route) (.slice aw ws.length cap) 24)
  by_cases hc : wingErr route ws st wing = 0
  · obtain ⟨c1, c2⟩ := eq_bool hc
    have Ha := hid (asked_of_wing (second := second) hc)
    obtain ⟨q1, q2⟩ := wing_zero hc
    have q2 := inB_true.1 q2
    obtain ⟨k, rfl⟩ := Int.eq_ofNat_of_zero_le q2.1
    rw [Int.toNat_natCast] at Ha
    have hks : k < st.length := by have := (starts_zero q1).2.1; omega
    have hkw : k < ws.length := by omega
    obtain ⟨bs, os, rfl, _, _, _, hbs, hSc⟩ := hh2 (by omega)
    have sc := hSc k hks
    clear hSc hh2 q1 hc
    by_cases h1 : second < nm st k
    · go_enter Tryd.func99, Tryd.ntmps99
      go_wp2_with (go_at_call 100; refine (rwing_any ws st route _ _ _ _ (hW2.out.below K.out.below) (hS2.out.below K.out.below) hn hnm hns).mono ?_; rintro e w1 ⟨rfl, hb1⟩; have K := hid (K.out.later hb1); clear hb1; have p4 := cell_back K.out.below hbs sc)
      go_ret
      exact ⟨ret_int (by rw [Ha.out, if_pos h1]), K.out.below⟩
    · by_cases h2 : 100000 < second
      · go_enter Tryd.func99, Tryd.ntmps99
        go_wp2_with (go_at_call 100; refine (rwing_any ws st route _ _ _ _ (hW2.out.below K.out.below) (hS2.out.below K.out.below) hn hnm hns).mono ?_; rintro e w1 ⟨rfl, hb1⟩; have K := hid (K.out.later hb1); clear hb1; have p4 := cell_back K.out.below hbs sc)
        go_ret
        exact ⟨ret_int (by rw [Ha.out, if_neg (by omega), if_pos h2]), K.out.below⟩
      · go_enter Tryd.func99, Tryd.ntmps99
        go_wp2_with (go_at_call 100; refine (rwing_any ws st route _ _ _ _ (hW2.out.below K.out.below) (hS2.out.below K.out.below) hn hnm hns).mono ?_; rintro e w1 ⟨rfl, hb1⟩; have K := hid (K.out.later hb1); clear hb1; have p4 := cell_back K.out.below hbs sc)
        go_ret
        exact ⟨ret_int (by rw [Ha.out, if_neg (by omega), if_neg (by omega)]), K.out.below⟩
  · obtain ⟨c1, c2⟩ := ne_bool hc
    have Ha := hid (asked_of_wing_ne (second := second) hc)
    clear hc
    go_enter Tryd.func99, Tryd.ntmps99
    go_wp2_with (go_at_call 100; refine (rwing_any ws st route _ _ _ _ (hW2.out.below K.out.below) (hS2.out.below K.out.below) hn hnm hns).mono ?_; rintro e w1 ⟨rfl, hb1⟩; have K := hid (K.out.later hb1); clear hb1)
    go_ret
    exact ⟨ret_int Ha.out.symm, K.out.below⟩
end Go.Proofs.YtgfipifgijohhaaDoor
