/-
  WALKS: the program's Gap.
-/
import Derived.Test.YtgfipifgijohhaaDoorPGa
namespace Go.Proofs.YtgfipifgijohhaaDoor
open Go.RowKit

theorem twoBoxes {w w' : World} {x y p q : Value} {t u : TypeId} (h : Below (w.heap.size + 2) ((w.alloc (.cells #[x, y] t)).alloc (.cells #[p, q] u)) w') :
    w'.cell? ⟨w.heap.size, 0, none⟩ = some x ∧ w'.cell? ⟨w.heap.size, 1, none⟩ = some y ∧ w'.cell? ⟨w.heap.size + 1, 0, none⟩ = some p ∧ w'.cell? ⟨w.heap.size + 1, 1, none⟩ = some q ∧
    w'.frozen? ⟨w.heap.size + 1, 0, none⟩ = false ∧ w'.frozen? ⟨w.heap.size + 1, 1, none⟩ = false ∧ Below w.heap.size w w' ∧ w.heap.size + 2 ≤ w'.heap.size :=
  ⟨cell_back h (by omega) (cell_up (cell_at rfl rfl)), cell_back h (by omega) (cell_up (cell_at rfl rfl)), cell_back h (by omega) (cell_at (by simp) rfl), cell_back h (by omega) (cell_at (by simp) rfl),
    (h.frozen (p := ⟨w.heap.size + 1, 0, none⟩) (by simp)).trans (frozen_at (by simp)), (h.frozen (p := ⟨w.heap.size + 1, 1, none⟩) (by simp)).trans (frozen_at (by simp)), twoBelow h, by have := h.size; simpa using this⟩

/-- the error of Gap -/
def gapErr (route : Int) (ws : List Wing) (st : List Int) (wing second : Int) : Int :=
  if askedErr route ws st wing second = 0 then (if wing = 0 then 7 else 0) else askedErr route ws st wing second
/-- both ends of a gap -/
def gapSpan (route : Int) (ws : List Wing) (st : List Int) (wing second : Int) : Int × Int :=
  if gapErr route ws st wing second = 0 then (max 0 (gapAt ws st 0 (wing.toNat - 1) second), max 0 (gapAt ws st 1 (wing.toNat - 1) second)) else (0, 0)

theorem gapAt_bound {ws : List Wing} {st : List Int} {m : Nat} {t e : Int} (ht : Tr ws st (m + 1) e) (h1 : -10000000 ≤ t) (h2 : t ≤ 10000000) : -400000000000 ≤ gapAt ws st e m t ∧ gapAt ws st e m t ≤ 400000000000 := by
  have hk := ht.kw
  have hF := end_bound (show Tr ws st m e from ⟨ht.small, by omega, by have := ht.ks; omega, fun i hi => ht.start i (by omega), ht.e⟩) h1 h2
  have gl := ht.small.len m (by omega)
  have gs := ht.start (m + 1) (by omega)
  have glo := ht.small.lo (m + 1) hk
  have ghi := ht.small.hi (m + 1) hk
  rcases ht.e with rfl | rfl
  · rw [gapAt_0]
    rw [endOf_0] at hF
    have hm := mul_bound (p := Hi ws (m + 1)) (q := t - nm st (m + 1)) (by omega) (by omega) (by omega) (by omega)
    omega
  · rw [gapAt_1]
    rw [endOf_1] at hF
    have hm := mul_bound (p := Lo ws (m + 1)) (q := t - nm st (m + 1)) (by omega) (by omega) (by omega) (by omega)
    omega

set_option maxHeartbeats 2000000 in
set_option maxRecDepth 100000 in
theorem Gap_any (ws : List Wing) (st : List Int) (route wing second : Int) (vw vs : Value) (w : World) (hW : WgAt none w vw ws) (hS : IntsAt none w vs st) (hn : ws.length ≤ 100) (hnm : ∀ i, i < ws.length → (wg ws i).name.size ≤ 1000000) (hns : st.length ≤ 1000000) :
    Calls Tryd.prog 49 #[.agg #[.int .i64 route, vw], vs, .int .i64 wing, .int .i64 second] w
     fun e w' => e = .returned (.tuple #[.agg #[.int .i64 (gapSpan route ws st wing second).1, .int .i64 (gapSpan route ws st wing second).2], .int .i64 (gapErr route ws st wing second)]) ∧ Below w.heap.size w w' := by
  have hW2 := hid hW
  have hS2 := hid hS
  obtain ⟨aw, cap, rfl, _⟩ := hW
  obtain ⟨ags, caps, rfl, _⟩ := hS
  have hb0 := hid (Below.refl (w.heap.size + 2) ((w.alloc (.cells #[.int .i64 route, .slice aw ws.length cap] 24)).alloc (.cells #[.int .i64 0, .int .i64 0] 27)))
  by_cases hc : askedErr route ws st wing second = 0
  · obtain ⟨c1, c2⟩ := eq_bool hc
    have Hc := hid hc
    obtain ⟨a1, a2, a3, a4, a5⟩ := asked_zero hc
    clear hc
    by_cases hz : wing = 0
    · obtain ⟨d1, d2⟩ := eq_bool hz
      have Hz := hid hz
      clear hz
      go_enter Tryd.func49, Tryd.ntmps49
      go_wp2_with (go_at_call 96; refine (asked_any ws st route _ _ _ _ _ (hW2.out.below (twoBoxes hb0.out).2.2.2.2.2.2.1) (hS2.out.below (twoBoxes hb0.out).2.2.2.2.2.2.1) hn hnm hns).mono ?_; rintro e w1 ⟨rfl, hb1⟩; have hb0 := hid (below_go hb0.out hb1 (twoBoxes hb0.out).2.2.2.2.2.2.2); have rc0 := (twoBoxes hb0.out).2.2.1; have rc1 := (twoBoxes hb0.out).2.2.2.1; have rf := (twoBoxes hb0.out).2.2.2.2.1; have rf1 := (twoBoxes hb0.out).2.2.2.2.2.1; have kb := (twoBoxes hb0.out).2.2.2.2.2.2.1; have s0 := (twoBoxes hb0.out).1; have s1 := (twoBoxes hb0.out).2.1)
      have He : gapErr route ws st wing second = 7 := by unfold gapErr; rw [if_pos Hc.out, if_pos Hz.out]
      refine bodyPost_ret (v := .tuple #[.agg #[.int .i64 0, .int .i64 0], .int .i64 7]) (by simp [results, Tryd.results49, go_sem, rc0, rc1]) rfl ⟨by unfold gapSpan; rw [He]; rfl, ?_⟩
      exact (kb.setCell (p := ⟨w.heap.size + 1, 0, none⟩) (by simp) _).setCell (p := ⟨w.heap.size + 1, 1, none⟩) (by simp) _
    · obtain ⟨d1, d2⟩ := ne_bool hz
      have Hz := hid hz
      obtain ⟨m, rfl⟩ : ∃ m : Nat, wing = (m : Int) + 1 := ⟨(wing - 1).toNat, by omega⟩
      have em : ((m : Int) + 1).toNat = m + 1 := by omega
      rw [em] at a3 a4
      have T0 := hid (starts_tr a1 a3 (e := 0) (.inl rfl))
      have T1 := hid (starts_tr a1 a3 (e := 1) (.inr rfl))
      have a6 : -10000000 ≤ second := by have := T0.out.start (m + 1) (Nat.le_refl _); omega
      have Em := hid em
      have g0 := gapAt_bound T0.out a6 (by omega)
      have g1 := gapAt_bound T1.out a6 (by omega)
      have He : gapErr route ws st ((m : Int) + 1) second = 0 := by unfold gapErr; rw [if_pos Hc.out, if_neg Hz.out]
      have Hg : gapSpan route ws st ((m : Int) + 1) second = (max 0 (gapAt ws st 0 m second), max 0 (gapAt ws st 1 m second)) := by unfold gapSpan; rw [if_pos He, em, Nat.add_sub_cancel]
      rw [He, Hg]
      obtain ⟨G0, hG0⟩ : ∃ G, gapAt ws st 0 m second = G := ⟨_, rfl⟩
      obtain ⟨G1, hG1⟩ : ∃ G, gapAt ws st 1 m second = G := ⟨_, rfl⟩
      rw [hG0, hG1]
      rw [hG0] at g0
      rw [hG1] at g1
      have HG0 := hid hG0
      have HG1 := hid hG1
      clear hz a1 a3 a4 em He Hg hG0 hG1
      go_enter Tryd.func49, Tryd.ntmps49
      go_wp2_with (go_at_call 96; refine (asked_any ws st route _ _ _ _ _ (hW2.out.below (twoBoxes hb0.out).2.2.2.2.2.2.1) (hS2.out.below (twoBoxes hb0.out).2.2.2.2.2.2.1) hn hnm hns).mono ?_; rintro e w1 ⟨rfl, hb1⟩; have hb0 := hid (below_go hb0.out hb1 (twoBoxes hb0.out).2.2.2.2.2.2.2); have rc0 := (twoBoxes hb0.out).2.2.1; have rc1 := (twoBoxes hb0.out).2.2.2.1; have rf := (twoBoxes hb0.out).2.2.2.2.1; have rf1 := (twoBoxes hb0.out).2.2.2.2.2.1; have kb := (twoBoxes hb0.out).2.2.2.2.2.2.1; have s0 := (twoBoxes hb0.out).1; have s1 := (twoBoxes hb0.out).2.1)
      have hb0 := hid hb0.out.drew
      have rc0 := (twoBoxes hb0.out).2.2.1
      have rc1 := (twoBoxes hb0.out).2.2.2.1
      have rf := (twoBoxes hb0.out).2.2.2.2.1
      have rf1 := (twoBoxes hb0.out).2.2.2.2.2.1
      go_region_held3 (fun w' => w'.cell? ⟨w.heap.size, 0, none⟩ = some (.int .i64 route) ∧ w'.cell? ⟨w.heap.size, 1, none⟩ = some (.slice aw ws.length cap))
        (first | with_reducible exact ⟨(twoBoxes hb0.out).1, (twoBoxes hb0.out).2.1⟩ | exact ⟨cell_set_far (by omega) (cell_set_far (by omega) (twoBoxes hb0.out).1), cell_set_far (by omega) (cell_set_far (by omega) (twoBoxes hb0.out).2.1)⟩) (first
        | (go_at_call 97; refine (truthOf_any _ _ _ _ _ _ _ _ _).mono ?_; rintro e w2 ⟨rfl, hb1⟩; have hb0 := hid (below_go hb0.out hb1 (twoBoxes hb0.out).2.2.2.2.2.2.2); have rc0 := (twoBoxes hb0.out).2.2.1; have rc1 := (twoBoxes hb0.out).2.2.2.1; have rf := (twoBoxes hb0.out).2.2.2.2.1; have rf1 := (twoBoxes hb0.out).2.2.2.2.2.1; have kb := (twoBoxes hb0.out).2.2.2.2.2.2.1)
        | (go_at_call 101; refine (gap_any ws st m _ _ _ _ _ (hW2.out.below (twoBoxes hb0.out).2.2.2.2.2.2.1) (hS2.out.below (twoBoxes hb0.out).2.2.2.2.2.2.1) (by first | exact T0.out | exact T1.out) a6 (by omega)).mono ?_; (first | rw [HG0.out] | rw [HG1.out]); rintro e w2 ⟨rfl, hb1⟩; have hb0 := hid (below_go hb0.out hb1 (twoBoxes hb0.out).2.2.2.2.2.2.2); have rc0 := (twoBoxes hb0.out).2.2.1; have rc1 := (twoBoxes hb0.out).2.2.2.1; have rf := (twoBoxes hb0.out).2.2.2.2.1; have rf1 := (twoBoxes hb0.out).2.2.2.2.2.1; have kb := (twoBoxes hb0.out).2.2.2.2.2.2.1))
      all_goals (
        go_wp2
        refine bodyPost_ret (v := .tuple #[.agg #[.int .i64 (max 0 G0), .int .i64 (max 0 G1)], .int .i64 0]) (by simp [results, Tryd.results49, go_sem, rc0, rc1]) rfl ⟨rfl, ?_⟩
        exact (kb.setCell (p := ⟨w.heap.size + 1, 0, none⟩) (by simp) _).setCell (p := ⟨w.heap.size + 1, 1, none⟩) (by simp) _)
  · obtain ⟨c1, c2⟩ := ne_bool hc
    have He : gapErr route ws st wing second = askedErr route ws st wing second := by unfold gapErr; rw [if_neg hc]
    have Hg : gapSpan route ws st wing second = (0, 0) := by unfold gapSpan; rw [if_neg (by rw [He]; exact hc)]
    rw [He, Hg]
    clear hc He Hg
    go_enter Tryd.func49, Tryd.ntmps49
    go_wp2_with (go_at_call 96; refine (asked_any ws st route _ _ _ _ _ (hW2.out.below (twoBoxes hb0.out).2.2.2.2.2.2.1) (hS2.out.below (twoBoxes hb0.out).2.2.2.2.2.2.1) hn hnm hns).mono ?_; rintro e w1 ⟨rfl, hb1⟩; have hb0 := hid (below_go hb0.out hb1 (twoBoxes hb0.out).2.2.2.2.2.2.2); have rc0 := (twoBoxes hb0.out).2.2.1; have rc1 := (twoBoxes hb0.out).2.2.2.1; have rf := (twoBoxes hb0.out).2.2.2.2.1; have rf1 := (twoBoxes hb0.out).2.2.2.2.2.1; have kb := (twoBoxes hb0.out).2.2.2.2.2.2.1; have s0 := (twoBoxes hb0.out).1; have s1 := (twoBoxes hb0.out).2.1)
    refine bodyPost_ret (v := .tuple #[.agg #[.int .i64 0, .int .i64 0], .int .i64 (askedErr route ws st wing second)]) (by simp [results, Tryd.results49, go_sem, rc0, rc1]) rfl ⟨rfl, ?_⟩
    exact (kb.setCell (p := ⟨w.heap.size + 1, 0, none⟩) (by simp) _).setCell (p := ⟨w.heap.size + 1, 1, none⟩) (by simp) _
end Go.Proofs.YtgfipifgijohhaaDoor
