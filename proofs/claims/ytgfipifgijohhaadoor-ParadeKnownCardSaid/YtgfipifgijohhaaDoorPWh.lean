/-
  WALKS: the program's asked and Where.
-/
import Derived.Test.YtgfipifgijohhaaDoorPSt
namespace Go.Proofs.YtgfipifgijohhaaDoor
open Go.RowKit

theorem hb_go {w wx w2 : World} (h : Hid (Below w.heap.size w wx)) (k : Below wx.heap.size wx w2) : Hid (Below w.heap.size w w2) := below_trans h.out k

theorem twoBelow {w w' : World} {X Y : Obj} (h : Below (w.heap.size + 2) ((w.alloc X).alloc Y) w') : Below w.heap.size w w' :=
  (((Below.refl _ w).alloc (Nat.le_refl _) X).alloc (by simp) Y).trans (h.mono (by omega))

/-- the error of a school, starts, a wing and a second -/
def askedErr (route : Int) (ws : List Wing) (st : List Int) (wing second : Int) : Int :=
  if checkStarts route ws st = 0 then (if inB wing 0 ((ws.length : Int) - 1) = false then 7 else if second < nm st wing.toNat then 12 else if 100000 < second then 2 else 0) else checkStarts route ws st

theorem asked_starts {route : Int} {ws : List Wing} {st : List Int} {wing second : Int} (h : checkStarts route ws st ≠ 0) : askedErr route ws st wing second = checkStarts route ws st := by unfold askedErr; rw [if_neg h]

/-- what starts that are valid are good for -/
theorem starts_tr {route : Int} {ws : List Wing} {st : List Int} (h : checkStarts route ws st = 0) {k : Nat} (hk : k < ws.length) {e : Int} (he : e = 0 ∨ e = 1) : Tr ws st k e := by
  obtain ⟨h1, h2, h3⟩ := starts_zero h
  exact ⟨Small.of_check h1, hk, by omega, fun i hi => h3.bound i (by omega), he⟩

theorem asked_zero {route : Int} {ws : List Wing} {st : List Int} {wing second : Int} (h : askedErr route ws st wing second = 0) :
    checkStarts route ws st = 0 ∧ 0 ≤ wing ∧ wing.toNat < ws.length ∧ nm st wing.toNat ≤ second ∧ second ≤ 100000 := by
  unfold askedErr at h
  by_cases hc : checkStarts route ws st = 0
  · rw [if_pos hc] at h
    split at h
    · omega
    · rename_i h1
      have h1' : inB wing 0 ((ws.length : Int) - 1) = true := by simpa using h1
      rw [inB_true] at h1'
      split at h
      · omega
      · split at h
        · omega
        · exact ⟨hc, h1'.1, by omega, by omega, by omega⟩
  · rw [if_neg hc] at h; exact absurd h hc

set_option maxHeartbeats 1000000 in
set_option maxRecDepth 100000 in
theorem asked_any (ws : List Wing) (st : List Int) (route wing second : Int) (vw vs : Value) (w : World) (hW : WgAt none w vw ws) (hS : IntsAt none w vs st) (hn : ws.length ≤ 100) (hnm : ∀ i, i < ws.length → (wg ws i).name.size ≤ 1000000) (hns : st.length ≤ 1000000) :
    Calls Tryd.prog 96 #[.agg #[.int .i64 route, vw], vs, .int .i64 wing, .int .i64 second] w
     fun e w' => e = .returned (.int .i64 (askedErr route ws st wing second)) ∧ Below w.heap.size w w' := by
  have hb0 := hid (Below.refl (w.heap.size + 1) (w.alloc (.cells #[.int .i64 route, vw] 24)))
  have hW2 := hid hW
  have hS2 := hid hS
  obtain ⟨aw, cap, rfl, _⟩ := hW
  obtain ⟨ags, caps, rfl, hh2⟩ := hS
  have hh2 := hid hh2
  have z1 : IntKind.i64.wrap ((ws.length : Int) - 1) = (ws.length : Int) - 1 := IntWalk.i64_in _ (by omega)
  by_cases hc : checkStarts route ws st = 0
  · obtain ⟨c1, c2⟩ := eq_bool hc
    have Hc := hid hc
    clear hc
    cases hin : inB wing 0 ((ws.length : Int) - 1) with
    | false =>
      go_enter Tryd.func96, Tryd.ntmps96
      go_wp2_with (first
        | (go_at_call 29; refine (pstarts_any ws st route _ _ _ (hW2.out.below (boxed2 hb0.out).2.2.1) (hS2.out.below (boxed2 hb0.out).2.2.1) hn hnm hns).mono ?_; rintro e w1 ⟨rfl, hb1⟩; have hk1 := hid (below_go hb0.out hb1 (by simp)); obtain ⟨p0, p1, p2', p3⟩ := boxed2 hk1.out)
        | (go_at_call 74; refine (in_any _ _ _ _).mono ?_; rintro e w' ⟨rfl, rfl⟩))
      go_ret
      exact ⟨ret_int (by unfold askedErr; rw [if_pos Hc.out, if_pos hin]), p2'⟩
    | true =>
      have hin2 := inB_true.1 hin
      obtain ⟨k, rfl⟩ := Int.eq_ofNat_of_zero_le hin2.1
      have hkw : k < ws.length := by omega
      have hlen := (starts_zero Hc.out).2.1
      have hks : k < st.length := by omega
      obtain ⟨bs, offs, rfl, _, _, _, hbs, hSc⟩ := hh2.out (by omega)
      have sc := hSc k hks
      clear hSc hlen
      by_cases h1 : second < nm st k
      · go_enter Tryd.func96, Tryd.ntmps96
        go_wp2_with (first
          | (go_at_call 29; refine (pstarts_any ws st route _ _ _ (hW2.out.below (boxed2 hb0.out).2.2.1) (hS2.out.below (boxed2 hb0.out).2.2.1) hn hnm hns).mono ?_; rintro e w1 ⟨rfl, hb1⟩; have hk1 := hid (below_go hb0.out hb1 (by simp)); obtain ⟨p0, p1, p2', p3⟩ := boxed2 hk1.out; have p4 := cell_back p2' hbs sc)
          | (go_at_call 74; refine (in_any _ _ _ _).mono ?_; rintro e w' ⟨rfl, rfl⟩))
        go_ret
        exact ⟨ret_int (by unfold askedErr; rw [if_pos Hc.out, if_neg (by simp [hin]), if_pos (by simpa using h1)]), p2'⟩
      · by_cases h2 : 100000 < second
        · go_enter Tryd.func96, Tryd.ntmps96
          go_wp2_with (first
            | (go_at_call 29; refine (pstarts_any ws st route _ _ _ (hW2.out.below (boxed2 hb0.out).2.2.1) (hS2.out.below (boxed2 hb0.out).2.2.1) hn hnm hns).mono ?_; rintro e w1 ⟨rfl, hb1⟩; have hk1 := hid (below_go hb0.out hb1 (by simp)); obtain ⟨p0, p1, p2', p3⟩ := boxed2 hk1.out; have p4 := cell_back p2' hbs sc)
            | (go_at_call 74; refine (in_any _ _ _ _).mono ?_; rintro e w' ⟨rfl, rfl⟩))
          go_ret
          exact ⟨ret_int (by unfold askedErr; rw [if_pos Hc.out, if_neg (by simp [hin]), if_neg (by simp; omega), if_pos h2]), p2'⟩
        · go_enter Tryd.func96, Tryd.ntmps96
          go_wp2_with (first
            | (go_at_call 29; refine (pstarts_any ws st route _ _ _ (hW2.out.below (boxed2 hb0.out).2.2.1) (hS2.out.below (boxed2 hb0.out).2.2.1) hn hnm hns).mono ?_; rintro e w1 ⟨rfl, hb1⟩; have hk1 := hid (below_go hb0.out hb1 (by simp)); obtain ⟨p0, p1, p2', p3⟩ := boxed2 hk1.out; have p4 := cell_back p2' hbs sc)
            | (go_at_call 74; refine (in_any _ _ _ _).mono ?_; rintro e w' ⟨rfl, rfl⟩))
          go_ret
          exact ⟨ret_int (by unfold askedErr; rw [if_pos Hc.out, if_neg (by simp [hin]), if_neg (by simp; omega), if_neg (by omega)]), p2'⟩
  · obtain ⟨c1, c2⟩ := ne_bool hc
    have Hc := hid hc
    clear hc
    go_enter Tryd.func96, Tryd.ntmps96
    go_wp2_with (go_at_call 29; refine (pstarts_any ws st route _ _ _ (hW2.out.below (boxed2 hb0.out).2.2.1) (hS2.out.below (boxed2 hb0.out).2.2.1) hn hnm hns).mono ?_; rintro e w1 ⟨rfl, hb1⟩; have hk1 := hid (below_go hb0.out hb1 (by simp)); obtain ⟨p0, p1, p2', p3⟩ := boxed2 hk1.out)
    go_ret
    exact ⟨ret_int (asked_starts Hc.out).symm, p2'⟩

/-- the least and the greatest place -/
def whereSpan (route : Int) (ws : List Wing) (st : List Int) (wing second : Int) : Int × Int :=
  if askedErr route ws st wing second = 0 then (front (Ln ws) (nm st) (Lo ws) wing.toNat second, front (Ln ws) (nm st) (Hi ws) wing.toNat second) else (0, 0)

theorem endOf_0 (ws : List Wing) : endOf ws 0 = Lo ws := rfl
theorem endOf_1 (ws : List Wing) : endOf ws 1 = Hi ws := rfl

set_option maxHeartbeats 2000000 in
set_option maxRecDepth 100000 in
theorem where_any (ws : List Wing) (st : List Int) (route wing second : Int) (vw vs : Value) (w : World) (hW : WgAt none w vw ws) (hS : IntsAt none w vs st) (hn : ws.length ≤ 100) (hnm : ∀ i, i < ws.length → (wg ws i).name.size ≤ 1000000) (hns : st.length ≤ 1000000) :
    Calls Tryd.prog 45 #[.agg #[.int .i64 route, vw], vs, .int .i64 wing, .int .i64 second] w
     fun e w' => e = .returned (.tuple #[.agg #[.int .i64 (whereSpan route ws st wing second).1, .int .i64 (whereSpan route ws st wing second).2], .int .i64 (askedErr route ws st wing second)]) ∧ Below w.heap.size w w' := by
  have hW2 := hid hW
  have hS2 := hid hS
  obtain ⟨aw, cap, rfl, _⟩ := hW
  obtain ⟨ags, caps, rfl, _⟩ := hS
  have hb0 := hid (Below.refl (w.heap.size + 2) ((w.alloc (.cells #[.int .i64 route, .slice aw ws.length cap] 24)).alloc (.cells #[.int .i64 0, .int .i64 0] 27)))
  by_cases hc : askedErr route ws st wing second = 0
  · obtain ⟨c1, c2⟩ := eq_bool hc
    have Hc := hid hc
    clear hc
    obtain ⟨a1, a2, a3, a4, a5⟩ := asked_zero Hc.out
    have T0 := hid (starts_tr a1 a3 (e := 0) (.inl rfl))
    have T1 := hid (starts_tr a1 a3 (e := 1) (.inr rfl))
    have a6 : -10000000 ≤ second := by
      have := T0.out.start wing.toNat (Nat.le_refl _); omega
    clear a1 a3 a4
    go_enter Tryd.func45, Tryd.ntmps45
    go_wp2_with (go_at_call 96; refine (asked_any ws st route _ _ _ _ _ (hW2.out.below (by exact twoBelow hb0.out)) (hS2.out.below (by exact twoBelow hb0.out)) hn hnm hns).mono ?_; rintro e w1 ⟨rfl, hb1⟩; have hk1 := hid (below_go hb0.out hb1 (by simp)))
    have kb : Hid (Below w.heap.size w w1) := hid (twoBelow hk1.out)
    have s0 : w1.cell? ⟨w.heap.size, 0, none⟩ = some (.int .i64 route) := cell_back hk1.out (by omega) (cell_up (cell_at rfl rfl))
    have s1 : w1.cell? ⟨w.heap.size, 1, none⟩ = some (.slice aw ws.length cap) := cell_back hk1.out (by omega) (cell_up (cell_at rfl rfl))
    have rc0 : w1.cell? ⟨w.heap.size + 1, 0, none⟩ = some (.int .i64 0) := cell_back hk1.out (by omega) (cell_at (by simp) rfl)
    have rc1 : w1.cell? ⟨w.heap.size + 1, 1, none⟩ = some (.int .i64 0) := cell_back hk1.out (by omega) (cell_at (by simp) rfl)
    have rf : w1.frozen? ⟨w.heap.size + 1, 0, none⟩ = false := (hk1.out.frozen (p := ⟨w.heap.size + 1, 0, none⟩) (by simp)).trans (frozen_at (by simp))
    have rf1 : w1.frozen? ⟨w.heap.size + 1, 1, none⟩ = false := (hk1.out.frozen (p := ⟨w.heap.size + 1, 1, none⟩) (by simp)).trans (frozen_at (by simp))
    have kb := hid kb.out.drew
    have s0 : w1.drew.cell? ⟨w.heap.size, 0, none⟩ = some (.int .i64 route) := s0
    have s1 : w1.drew.cell? ⟨w.heap.size, 1, none⟩ = some (.slice aw ws.length cap) := s1
    have rc0 : w1.drew.cell? ⟨w.heap.size + 1, 0, none⟩ = some (.int .i64 0) := rc0
    have rc1 : w1.drew.cell? ⟨w.heap.size + 1, 1, none⟩ = some (.int .i64 0) := rc1
    have rf : w1.drew.frozen? ⟨w.heap.size + 1, 0, none⟩ = false := rf
    have rf1 : w1.drew.frozen? ⟨w.heap.size + 1, 1, none⟩ = false := rf1
    clear hb0 hb1 hk1
    go_region_held3 (fun w' => w'.cell? ⟨w.heap.size, 0, none⟩ = some (.int .i64 route) ∧ w'.cell? ⟨w.heap.size, 1, none⟩ = some (.slice aw ws.length cap))
      (first | exact ⟨s0, s1⟩ | go_keep) (first
      | (go_at_call 97; refine (truthOf_any _ _ _ _ _ _ _ _ _).mono ?_; rintro e w2 ⟨rfl, hb2⟩; have kb := hb_go (by assumption) hb2; have s0 := cell_now (b := w.heap.size) (o := 0) (v := .int .i64 route) hb2 (by first | assumption | exact s0); have s1 := cell_now (b := w.heap.size) (o := 1) (v := .slice aw ws.length cap) hb2 (by first | assumption | exact s1); have rf := frozen_now (b := w.heap.size + 1) (o := 0) (v := .int .i64 0) hb2 (by first | assumption | exact rc0) (by first | assumption | exact rf); have rf1 := frozen_now (b := w.heap.size + 1) (o := 1) (v := .int .i64 0) hb2 (by first | assumption | exact rc1) (by first | assumption | exact rf1); have rc0 := cell_now (b := w.heap.size + 1) (o := 0) (v := .int .i64 0) hb2 (by first | assumption | exact rc0); have rc1 := cell_now (b := w.heap.size + 1) (o := 1) (v := .int .i64 0) hb2 (by first | assumption | exact rc1))
      | (go_at_call 98; refine (pfront_any ws st _ _ _ _ _ _ (hW2.out.below (Hid.out (by assumption))) (hS2.out.below (Hid.out (by assumption))) (by assumption) (by first | exact T0.out | exact T1.out) (by omega) (by omega)).mono ?_; rintro e w2 ⟨rfl, hb2⟩; have kb := hb_go (by assumption) hb2; have s0 := cell_now (b := w.heap.size) (o := 0) (v := .int .i64 route) hb2 (by first | assumption | exact s0); have s1 := cell_now (b := w.heap.size) (o := 1) (v := .slice aw ws.length cap) hb2 (by first | assumption | exact s1); have rf := frozen_now (b := w.heap.size + 1) (o := 0) (v := .int .i64 0) hb2 (by first | assumption | exact rc0) (by first | assumption | exact rf); have rf1 := frozen_now (b := w.heap.size + 1) (o := 1) (v := .int .i64 0) hb2 (by first | assumption | exact rc1) (by first | assumption | exact rf1); have rc0 := cell_now (b := w.heap.size + 1) (o := 0) (v := .int .i64 0) hb2 (by first | assumption | exact rc0); have rc1 := cell_now (b := w.heap.size + 1) (o := 1) (v := .int .i64 0) hb2 (by first | assumption | exact rc1)))
    all_goals (
      go_wp2
      refine bodyPost_ret (v := .tuple #[.agg #[.int .i64 (front (Ln ws) (nm st) (Lo ws) wing.toNat second), .int .i64 (front (Ln ws) (nm st) (Hi ws) wing.toNat second)], .int .i64 0]) (by simp [results, Tryd.results45, go_sem, rc0, rc1, endOf_0, endOf_1]) rfl ⟨by unfold whereSpan; rw [if_pos Hc.out, Hc.out], ?_⟩
      exact (kb.out.setCell (p := ⟨w.heap.size + 1, 0, none⟩) (by simp) _).setCell (p := ⟨w.heap.size + 1, 1, none⟩) (by simp) _)
  · obtain ⟨c1, c2⟩ := ne_bool hc
    have Hc := hid hc
    clear hc
    go_enter Tryd.func45, Tryd.ntmps45
    go_wp2_with (go_at_call 96; refine (asked_any ws st route _ _ _ _ _ (hW2.out.below (by exact twoBelow hb0.out)) (hS2.out.below (by exact twoBelow hb0.out)) hn hnm hns).mono ?_; rintro e w1 ⟨rfl, hb1⟩; have hk1 := hid (below_go hb0.out hb1 (by simp)); have rc0 : w1.cell? ⟨w.heap.size + 1, 0, none⟩ = some (.int .i64 0) := cell_back hk1.out (by omega) (cell_at (by simp) rfl); have rc1 : w1.cell? ⟨w.heap.size + 1, 1, none⟩ = some (.int .i64 0) := cell_back hk1.out (by omega) (cell_at (by simp) rfl); have rf : w1.frozen? ⟨w.heap.size + 1, 0, none⟩ = false := (hk1.out.frozen (p := ⟨w.heap.size + 1, 0, none⟩) (by simp)).trans (frozen_at (by simp)); have rf1 : w1.frozen? ⟨w.heap.size + 1, 1, none⟩ = false := (hk1.out.frozen (p := ⟨w.heap.size + 1, 1, none⟩) (by simp)).trans (frozen_at (by simp)))
    refine bodyPost_ret (v := .tuple #[.agg #[.int .i64 0, .int .i64 0], .int .i64 (askedErr route ws st wing second)]) (by simp [results, Tryd.results45, go_sem, rc0, rc1]) rfl ⟨by unfold whereSpan; rw [if_neg Hc.out], ?_⟩
    exact ((twoBelow hk1.out).setCell (p := ⟨w.heap.size + 1, 0, none⟩) (by simp) _).setCell (p := ⟨w.heap.size + 1, 1, none⟩) (by simp) _
end Go.Proofs.YtgfipifgijohhaaDoor
