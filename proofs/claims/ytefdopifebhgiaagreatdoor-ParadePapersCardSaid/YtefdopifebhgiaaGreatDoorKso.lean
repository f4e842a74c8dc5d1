/-
  WALKS: SchoolOf.
-/
import Derived.Test.YtefdopifebhgiaaGreatDoorKp
import Derived.Test.YtefdopifebhgiaaGreatDoorMad
namespace Go.Proofs.YtefdopifebhgiaaGreatDoor
open Go.RowKit

theorem wg_snoc (ws : List Wing) (x : Wing) (i : Nat) (hi : i < ws.length) : wg (ws ++ [x]) i = wg ws i := by
  unfold wg; rw [List.getD_eq_getElem?_getD, List.getD_eq_getElem?_getD, List.getElem?_append_left hi]
theorem wg_last (ws : List Wing) (x : Wing) : wg (ws ++ [x]) ws.length = x := by
  unfold wg; rw [List.getD_eq_getElem?_getD]; simp

theorem MadeW.snoc {ws : List Wing} (h : MadeW ws) {ln p z : Int} (h1 : 1 ≤ ln) (h2 : ln ≤ 80) (h3 : 1 ≤ p) (h4 : p ≤ 40) (h5 : 0 ≤ z) (h6 : z ≤ 29) : MadeW (ws ++ [⟨kitName ws.length, ln, p, p + z⟩]) := by
  intro i hi
  by_cases e : i < ws.length
  · rw [wg_snoc _ _ _ e]; exact h i e
  · have : i = ws.length := by simp at hi; omega
    subst this
    rw [wg_last]
    exact ⟨rfl, h1, h2, h3, h4, by show p ≤ p + z; omega, by show p + z ≤ p + 29; omega⟩

set_option maxHeartbeats 4000000 in
set_option maxRecDepth 100000 in
theorem schoolOf_any (d : Nat) (most : Int) (w : World) (h : Beat d w) (h1 : 1 ≤ most) (h8 : most ≤ 8) :
    Calls Tryz.prog 7 #[.pointer (some ⟨d, 0, none⟩), .int .i64 most] w
     fun e w' => ∃ route v ws, e = .returned (.agg #[.int .i64 route, v]) ∧ 1 ≤ route ∧ route ≤ 2000 ∧ 0 < ws.length ∧ (ws.length : Int) ≤ most ∧ MadeW ws ∧ OwnWg w.heap.size w' v ws ∧ Beat d w' ∧ w.grownBy w' (some d) := by
  have H := hid h
  have hd := h.lt
  clear h
  obtain ⟨wR, hwR⟩ : ∃ wR, w.alloc (.cells #[.int .i64 0, .slice none 0 0] 24) = wR := ⟨_, rfl⟩
  have hsR : wR.heap.size = w.heap.size + 1 := by rw [← hwR]; simp
  have HR := hid hwR
  have bt : Beat d wR := by rw [← hwR]; exact H.out.gb ((Below.refl _ w).alloc (Nat.le_refl _) _)
  have g1 : w.grownBy wR (some d) := by rw [← hwR]; exact World.grownBy_alloc w _ _
  have r0 : wR.cell? ⟨w.heap.size, 0, none⟩ = some (.int .i64 0) := by rw [← hwR]; exact cell_at rfl rfl
  have r1 : wR.cell? ⟨w.heap.size, 1, none⟩ = some (.slice none 0 0) := by rw [← hwR]; exact cell_at rfl rfl
  have rf : wR.frozen? ⟨w.heap.size, 0, none⟩ = false := by rw [← hwR]; exact frozen_at rfl
  have rf1 : wR.frozen? ⟨w.heap.size, 1, none⟩ = false := by rw [← hwR]; exact frozen_at rfl
  clear hwR
  have xs1 : IntsAt (some d) (wR.alloc (.cells #[.int .i64 60, .int .i64 400, .int .i64 2000] 3)) (.slice (some ⟨w.heap.size + 1, 0, none⟩) 3 3) [60, 400, 2000] := by
    have h := ints_three d wR 60 400 2000 (by omega)
    rw [hsR] at h
    exact h
  have bt1 : Beat d (wR.alloc (.cells #[.int .i64 60, .int .i64 400, .int .i64 2000] 3)) := bt.gb ((Below.refl _ wR).alloc (Nat.le_refl _) _)
  have g2 : w.grownBy (wR.alloc (.cells #[.int .i64 60, .int .i64 400, .int .i64 2000] 3)) (some d) := gb_trans g1 (World.grownBy_alloc wR _ _)
  have r0 := cell_up (X := (.cells #[.int .i64 60, .int .i64 400, .int .i64 2000] 3)) r0
  have r1 := cell_up (X := (.cells #[.int .i64 60, .int .i64 400, .int .i64 2000] 3)) r1
  have rf := frozen_up (X := (.cells #[.int .i64 60, .int .i64 400, .int .i64 2000] 3)) (by omega) rf
  have rf1 := frozen_up (X := (.cells #[.int .i64 60, .int .i64 400, .int .i64 2000] 3)) (by omega) rf1
  have hsz2 : (wR.alloc (.cells #[.int .i64 60, .int .i64 400, .int .i64 2000] 3)).heap.size = w.heap.size + 2 := by simp [hsR]
  have hne : w.heap.size ≠ d := by omega
  go_enter Tryz.func7, Tryz.ntmps7
  go_wp2_with (first
    | (go_at_call 23; rw [HR.out]; refine (any_any d _ _ _ bt1 xs1 (by decide) (by decide)).mono ?_; rintro e w2 ⟨i, hi, rfl, bt2, gb2⟩; have r0 := cell_gb gb2 hne r0; have r1 := cell_gb gb2 hne r1; have rf := frozen_gb gb2 (by omega) hne rf; have rf1 := frozen_gb gb2 (by omega) hne rf1; have g3 := gb_trans g2 gb2; have hz := gb2.size; have hx : 60 ≤ nm [60, 400, 2000] i ∧ nm [60, 400, 2000] i ≤ 2000 := any_three (by omega) (by omega) (by omega) hi; generalize nm [60, 400, 2000] i = x at *)
    | (go_at_call 22; refine (mid_any d _ _ _ bt2 (by decide) (by decide) (by omega) (by omega)).mono ?_; rintro e w3 ⟨route, rfl, hr1, hr2, bt3, gb3⟩; have r0 := cell_gb gb3 hne r0; have r1 := cell_gb gb3 hne r1; have rf := frozen_gb gb3 (by omega) hne rf; have rf1 := frozen_gb gb3 (by omega) hne rf1; have g4 := gb_trans g3 gb3; have hz3 := gb3.size))
  have K0 : Keep d w.heap.size w3.heap.size (w3.heap.size + 1) w route (.slice none 0 0) [] (w3.alloc (.cells #[.int .i64 route, .slice none 0 0] 24)) :=
    { gb := gb_trans g4 (World.grownBy_alloc w3 _ _), beat := bt3.gb ((Below.refl _ w3).alloc (Nat.le_refl _) _), c0 := cell_at rfl rfl, c1 := cell_at rfl rfl, f0 := frozen_at rfl, f1 := frozen_at rfl, r0 := cell_up r0, r1 := cell_up r1, g0 := frozen_up (by omega) rf, g1 := frozen_up (by omega) rf1,
      own := World.ownsRow_nil _ _ _ _, sz := by simp, hd := hd, hR := Nat.le_refl _, hRB := by omega, hB := by omega }
  have K0 := hid K0
  have hBs := hid (show w.heap.size + 2 ≤ w3.heap.size by omega)
  clear r0 r1 rf rf1 bt1 bt2 g1 g2 g3 g4 gb2 gb3 hz hz3 xs1 bt bt3 hsz2
  refine (mid_any d _ _ _ K0.out.beat (by decide) (by decide) (by omega) (by omega)).mono ?_
  rintro e w4 ⟨n, rfl, hn1, hn2, bt4, gb4⟩
  have K1 := hid (K0.out.go gb4 bt4)
  clear K0 bt4 gb4
  generalize w3.heap.size = B at *
  obtain ⟨m, rfl⟩ := Int.eq_ofNat_of_zero_le (show 0 ≤ n by omega)
  go_wp2
  go_loopw [6] (fun i wr => ∃ (k : Nat) (v : Value) (ws : List Wing), k ≤ m ∧ i = .int .i64 ((m : Int) - k) ∧ ws.length = k ∧ MadeW ws ∧ Keep d w.heap.size B (B + 1) w route v ws wr)
    (fun i _ => (intOf i).toNat)
  case atStart => exact ⟨0, _, [], by omega, by simp, rfl, fun i hi => by simp at hi, K1.out⟩
  case round =>
    obtain ⟨k, v, ws, hk, rfl, rfl, hmade, KK⟩ := hrel
    obtain ⟨a1, c1, rfl⟩ := KK.own.form
    have hdB : d < B := by have := KK.hd; have := KK.hRB; have := KK.hR; omega
    have hdz : d < wr.heap.size := KK.beat.lt
    have K := hid KK
    clear KK
    have q0 := K.out.c0
    have q1 := K.out.c1
    by_cases hlt : ws.length < m
    · have ix1 : (0 : Int) ≤ (ws.length : Int) := by omega
      have ix2 : (ws.length : Int) < 8 := by omega
      have ix3 : ws.length < 8 := by omega
      go_wp2_with (first
        | (go_at_call 23; refine (any_any d _ _ _ (K.out.alloc _).beat (ints_two d wr 5 40 hdz) (by decide) (by decide)).mono ?_; rintro e w2 ⟨j, hj, rfl, bt2, gb2⟩; have K := hid ((K.out.alloc _).go gb2 bt2); have hy : 5 ≤ nm [5, 40] j ∧ nm [5, 40] j ≤ 40 := any_two (by omega) (by omega) hj; generalize nm [5, 40] j = y at *)
        | (go_at_call 22; refine (mid_any d _ _ _ K.out.beat (by decide) (by decide) (by omega) (by omega)).mono ?_; rintro e w3 ⟨p, rfl, hp1, hp2, bt3, gb3⟩; have K := hid (K.out.go gb3 bt3)))
      have K := hid K.out.drew
      have hp3 : p ≤ 40 := by omega
      clear q0 q1
      have q1 := K.out.c1
      have qf := K.out.f1
      have hz3 := K.out.beat.lt
      refine wp_region_noPanic ?_
      refine wp_region_G (L := 28) (S := fun w' : World => w'.cell? ⟨B, 1, none⟩ = some (.slice a1 ws.length c1)) (by kernel_rfl) ?_
      refine wpAnyG_take (i := 0) (oi := _) (v := ?_) rfl (by kernel_rfl) (by kernel_rfl) (by kernel_rfl) (by kernel_rfl) (fun _ _ _ h => h) (Or.inl ⟨by rfl, ?_⟩) (K.out.c1) ?_
      rotate_left
      · intro w hSw; (try dsimp only at hSw); (try obtain ⟨hSw, hSw2⟩ := hSw); go_simp; try with_reducible rfl
      try simp only [Act.put, List.setIfInBounds_toArray, List.set_cons_zero, List.set_cons_succ]
      refine wpAnyG_take (i := 1) (oi := _) (v := ?_) rfl (by kernel_rfl) (by kernel_rfl) (by kernel_rfl) (by kernel_rfl) (fun _ _ _ h => h) (Or.inl ⟨by rfl, ?_⟩) (K.out.c1) ?_
      rotate_left
      · intro w hSw; (try dsimp only at hSw); (try obtain ⟨hSw, hSw2⟩ := hSw); go_simp; try with_reducible rfl
      try simp only [Act.put, List.setIfInBounds_toArray, List.set_cons_zero, List.set_cons_succ]
      refine wpAnyG_take (i := 3) (oi := _) (v := ?_) rfl (by kernel_rfl) (by kernel_rfl) (by kernel_rfl) (by kernel_rfl) (fun _ _ _ h => h) (Or.inl ⟨by rfl, ?_⟩) (K.out.c1) ?_
      rotate_left
      · intro w hSw; (try dsimp only at hSw); (try obtain ⟨hSw, hSw2⟩ := hSw); go_simp; try with_reducible rfl
      try simp only [Act.put, List.setIfInBounds_toArray, List.set_cons_zero, List.set_cons_succ]
      refine wpAnyG_take (i := 4) (oi := _) (v := ?_) rfl (by kernel_rfl) (by kernel_rfl) (by kernel_rfl) (by kernel_rfl) (fun _ _ _ h => h) (Or.inl ⟨by rfl, ?_⟩) (K.out.c1) ?_
      rotate_left
      · intro w hSw; (try dsimp only at hSw); (try obtain ⟨hSw, hSw2⟩ := hSw); go_simp; try with_reducible rfl
      try simp only [Act.put, List.setIfInBounds_toArray, List.set_cons_zero, List.set_cons_succ]
      refine wpAnyG_take (i := 5) (oi := _) (v := ?_) rfl (by kernel_rfl) (by kernel_rfl) (by kernel_rfl) (by kernel_rfl) (fun _ _ _ h => h) (Or.inl ⟨by rfl, ?_⟩) (K.out.c1) ?_
      rotate_left
      · intro w hSw; (try dsimp only at hSw); (try obtain ⟨hSw, hSw2⟩ := hSw); go_simp; try with_reducible rfl
      try simp only [Act.put, List.setIfInBounds_toArray, List.set_cons_zero, List.set_cons_succ]
      refine wpAnyG_take (i := 8) (oi := _) (v := ?_) rfl (by kernel_rfl) (by kernel_rfl) (by kernel_rfl) (by kernel_rfl) (fun _ _ _ h => h) (Or.inl ⟨by rfl, ?_⟩) (K.out.c1) ?_
      rotate_left
      · intro w hSw; (try dsimp only at hSw); (try obtain ⟨hSw, hSw2⟩ := hSw); go_simp; try with_reducible rfl
      try simp only [Act.put, List.setIfInBounds_toArray, List.set_cons_zero, List.set_cons_succ]
      refine wpAnyG_take (i := 9) (oi := _) (v := ?_) rfl (by kernel_rfl) (by kernel_rfl) (by kernel_rfl) (by kernel_rfl) (fun _ _ _ h => h) (Or.inl ⟨by rfl, ?_⟩) (K.out.c1) ?_
      rotate_left
      · intro w hSw; (try dsimp only at hSw); (try obtain ⟨hSw, hSw2⟩ := hSw); go_simp; try with_reducible rfl
      try simp only [Act.put, List.setIfInBounds_toArray, List.set_cons_zero, List.set_cons_succ]
      refine wpAnyG_take (i := 13) (oi := _) (v := ?_) rfl (by kernel_rfl) (by kernel_rfl) (by kernel_rfl) (by kernel_rfl) (fun _ _ _ h => h) (Or.inl ⟨by rfl, ?_⟩) (K.out.c1) ?_
      rotate_left
      · intro w hSw; (try dsimp only at hSw); (try obtain ⟨hSw, hSw2⟩ := hSw); go_simp; try with_reducible rfl
      try simp only [Act.put, List.setIfInBounds_toArray, List.set_cons_zero, List.set_cons_succ]
      refine wpAnyG_take (i := 14) (oi := _) (v := ?_) rfl (by kernel_rfl) (by kernel_rfl) (by kernel_rfl) (by kernel_rfl) (fun _ _ _ h => h) (Or.inl ⟨by rfl, ?_⟩) (K.out.c1) ?_
      rotate_left
      · intro w hSw; (try dsimp only at hSw); (try obtain ⟨hSw, hSw2⟩ := hSw); go_simp; try with_reducible rfl
      try simp only [Act.put, List.setIfInBounds_toArray, List.set_cons_zero, List.set_cons_succ]
      refine wpAnyG_take (i := 15) (oi := _) (v := ?_) rfl (by kernel_rfl) (by kernel_rfl) (by kernel_rfl) (by kernel_rfl) (fun _ _ _ h => h) (Or.inl ⟨by rfl, ?_⟩) (K.out.c1) ?_
      rotate_left
      · intro w hSw; (try dsimp only at hSw); (try obtain ⟨hSw, hSw2⟩ := hSw); go_simp; try with_reducible rfl
      try simp only [Act.put, List.setIfInBounds_toArray, List.set_cons_zero, List.set_cons_succ]
      refine wpAnyG_take (i := 16) (oi := _) (v := ?_) rfl (by kernel_rfl) (by kernel_rfl) (by kernel_rfl) (by kernel_rfl) (fun _ _ _ h => h) (Or.inl ⟨by rfl, ?_⟩) (K.out.c1) ?_
      rotate_left
      · intro w hSw; (try dsimp only at hSw); (try obtain ⟨hSw, hSw2⟩ := hSw); go_simp; try with_reducible rfl
      try simp only [Act.put, List.setIfInBounds_toArray, List.set_cons_zero, List.set_cons_succ]
      refine wpAnyG_take (i := 18) (oi := _) (v := ?_) rfl (by kernel_rfl) (by kernel_rfl) (by kernel_rfl) (by kernel_rfl) (fun _ _ _ h => h) (Or.inl ⟨by rfl, ?_⟩) (K.out.c1) ?_
      rotate_left
      · intro w hSw; (try dsimp only at hSw); (try obtain ⟨hSw, hSw2⟩ := hSw); go_simp; try with_reducible rfl
      try simp only [Act.put, List.setIfInBounds_toArray, List.set_cons_zero, List.set_cons_succ]
      refine wpAnyG_ready (rs := [2, 10]) (by kernel_rfl) (by simp) ?_
      refine AllReadyG.cons (o := _) rfl (fun K' hK => ?_) ?_
      · skip
        go_simp
        go_at_call 24; refine (names_any _).mono ?_; rintro e w4 ⟨g, hg, rfl, hnm, hb4⟩; have nmc := hnm ws.length ix3; have gk : ∀ k, (Value.slice a1 ws.length c1).ownBlock = some k → k < g := (fun k e => by have := (World.ownsRow.lt K.out.own k e).2; simp at hg this; omega)
        have K := hid (K.out.below hb4)
        have nmd : g ≠ d := (by have h1 := hz3; simp at h1 hg; omega)
        refine hK.out _ _ (fun _ => K.out.c1) (fun _ => ?_)
        clear hK K'
        try simp only [Act.put, List.setIfInBounds_toArray, List.set_cons_zero, List.set_cons_succ]
        refine anyG_weaken (S2 := fun w' : World => w'.cell? ⟨B, 1, none⟩ = some (.slice a1 ws.length c1) ∧ w'.cell? ⟨g, ws.length, none⟩ = some (.string (kitName ws.length))) (fun _ h => h.1) _ _ _ _ ?_
        refine wpAnyG_take (i := 6) (oi := _) (v := ?_) rfl (by kernel_rfl) (by kernel_rfl) (by kernel_rfl) (by kernel_rfl) (fun _ _ _ h => h) (Or.inl ⟨by rfl, ?_⟩) (⟨K.out.c1, nmc⟩) ?_
        rotate_left
        · intro w hSw; (try dsimp only at hSw); (try obtain ⟨hSw, hSw2⟩ := hSw); go_simp; try with_reducible rfl
        try simp only [Act.put, List.setIfInBounds_toArray, List.set_cons_zero, List.set_cons_succ]
        refine wpAnyG_take (i := 7) (oi := _) (v := ?_) rfl (by kernel_rfl) (by kernel_rfl) (by kernel_rfl) (by kernel_rfl) (fun _ _ _ h => h) (Or.inl ⟨by rfl, ?_⟩) (⟨K.out.c1, nmc⟩) ?_
        rotate_left
        · intro w hSw; (try dsimp only at hSw); (try obtain ⟨hSw, hSw2⟩ := hSw); go_simp; try with_reducible rfl
        try simp only [Act.put, List.setIfInBounds_toArray, List.set_cons_zero, List.set_cons_succ]
        refine wpAnyG_ready (rs := [10]) (by kernel_rfl) (by simp) ?_
        refine AllReadyG.cons (o := _) rfl (fun K' hK => ?_) ?_
        rotate_left
        · exact AllReadyG.nil
        go_simp
        refine hK.out _ _ (fun _ => ⟨(K.out.alloc _).c1, cell_up nmc⟩) (fun _ => ?_)
        clear hK K'
        try simp only [Act.put, List.setIfInBounds_toArray, List.set_cons_zero, List.set_cons_succ]
        refine wpAnyG_ready (rs := [11]) (by kernel_rfl) (by simp) ?_
        refine AllReadyG.cons (o := _) rfl (fun K' hK => ?_) ?_
        rotate_left
        · exact AllReadyG.nil
        go_simp
        go_at_call 23; refine (any_any d [10, 80] _ _ (K.out.alloc _).beat (ints_two d _ 10 80 K.out.beat.lt) (by decide) (by decide)).mono ?_; rintro e w4 ⟨j, hj, rfl, bt4, gb4⟩
        have nmc := (by first | exact cell_gb gb4 nmd nmc | exact cell_gb gb4 nmd (cell_up nmc))
        have K := (by first | exact hid (K.out.go gb4 bt4) | exact hid ((K.out.alloc _).go gb4 bt4))
        have hyl : 10 ≤ nm [10, 80] j ∧ nm [10, 80] j ≤ 80 := any_two (by omega) (by omega) hj
        generalize nm [10, 80] j = yl at *
        refine hK.out _ _ (fun _ => ⟨K.out.c1, nmc⟩) (fun _ => ?_)
        clear hK K'
        try simp only [Act.put, List.setIfInBounds_toArray, List.set_cons_zero, List.set_cons_succ]
        refine wpAnyG_ready (rs := [12]) (by kernel_rfl) (by simp) ?_
        refine AllReadyG.cons (o := _) rfl (fun K' hK => ?_) ?_
        rotate_left
        · exact AllReadyG.nil
        go_simp
        go_at_call 22; refine (mid_any d _ _ _ K.out.beat (by omega) (by omega) (by omega) (by omega)).mono ?_; rintro e w4 ⟨ln, rfl, hln1, hln2, bt4, gb4⟩
        have nmc := (by first | exact cell_gb gb4 nmd nmc | exact cell_gb gb4 nmd (cell_up nmc))
        have K := (by first | exact hid (K.out.go gb4 bt4) | exact hid ((K.out.alloc _).go gb4 bt4))
        refine hK.out _ _ (fun _ => ⟨K.out.c1, nmc⟩) (fun _ => ?_)
        clear hK K'
        try simp only [Act.put, List.setIfInBounds_toArray, List.set_cons_zero, List.set_cons_succ]
        refine wpAnyG_ready (rs := [17]) (by kernel_rfl) (by simp) ?_
        refine AllReadyG.cons (o := _) rfl (fun K' hK => ?_) ?_
        rotate_left
        · exact AllReadyG.nil
        go_simp
        go_at_call 25; refine (roll_any d _ _ K.out.beat (by omega)).mono ?_; rintro e w4 ⟨rA, rfl, hrA1, hrA2, bt4, gb4⟩
        have nmc := (by first | exact cell_gb gb4 nmd nmc | exact cell_gb gb4 nmd (cell_up nmc))
        have K := (by first | exact hid (K.out.go gb4 bt4) | exact hid ((K.out.alloc _).go gb4 bt4))
        refine hK.out _ _ (fun _ => ⟨K.out.c1, nmc⟩) (fun _ => ?_)
        clear hK K'
        try simp only [Act.put, List.setIfInBounds_toArray, List.set_cons_zero, List.set_cons_succ]
        refine wpAnyG_ready (rs := [19]) (by kernel_rfl) (by simp) ?_
        refine AllReadyG.cons (o := _) rfl (fun K' hK => ?_) ?_
        rotate_left
        · exact AllReadyG.nil
        go_simp
        go_at_call 25; refine (roll_any d _ _ K.out.beat (by omega)).mono ?_; rintro e w4 ⟨rB, rfl, hrB1, hrB2, bt4, gb4⟩
        have nmc := (by first | exact cell_gb gb4 nmd nmc | exact cell_gb gb4 nmd (cell_up nmc))
        have K := (by first | exact hid (K.out.go gb4 bt4) | exact hid ((K.out.alloc _).go gb4 bt4))
        refine hK.out _ _ (fun _ => ⟨K.out.c1, nmc⟩) (fun _ => ?_)
        clear hK K'
        try simp only [Act.put, List.setIfInBounds_toArray, List.set_cons_zero, List.set_cons_succ]
        refine wpAnyG_ready (rs := [20]) (by kernel_rfl) (by simp) ?_
        refine AllReadyG.cons (o := _) rfl (fun K' hK => ?_) ?_
        rotate_left
        · exact AllReadyG.nil
        go_simp
        refine hK.out _ _ (fun _ => ⟨(K.out.alloc _).c1, cell_up nmc⟩) (fun _ => ?_)
        clear hK K'
        try simp only [Act.put, List.setIfInBounds_toArray, List.set_cons_zero, List.set_cons_succ]
        refine wpAnyG_ready (rs := [21]) (by kernel_rfl) (by simp) ?_
        refine AllReadyG.cons (o := _) rfl (fun K' hK => ?_) ?_
        rotate_left
        · exact AllReadyG.nil
        go_simp
        go_at_call 23; refine (any_any d [0, rA, rB] _ _ (K.out.alloc _).beat (ints_three d _ 0 rA rB K.out.beat.lt) (by simp) (by simp)).mono ?_; rintro e w4 ⟨j, hj, rfl, bt4, gb4⟩
        have nmc := (by first | exact cell_gb gb4 nmd nmc | exact cell_gb gb4 nmd (cell_up nmc))
        have K := (by first | exact hid (K.out.go gb4 bt4) | exact hid ((K.out.alloc _).go gb4 bt4))
        obtain ⟨z, hzq, hz⟩ := any_three_ex (lo := 0) (hi := 29) (by omega) (by omega) (by omega) hj
        rw [hzq]
        have zw : IntKind.i64.wrap (p + z) = p + z := IntWalk.i64_in _ (by omega)
        refine hK.out _ _ (fun _ => ⟨K.out.c1, nmc⟩) (fun _ => ?_)
        clear hK K'
        try simp only [Act.put, List.setIfInBounds_toArray, List.set_cons_zero, List.set_cons_succ]
        refine wpAnyG_take (i := 22) (oi := _) (v := ?_) rfl (by kernel_rfl) (by kernel_rfl) (by kernel_rfl) (by kernel_rfl) (fun _ _ _ h => h) (Or.inl ⟨by rfl, ?_⟩) (⟨K.out.c1, nmc⟩) ?_
        rotate_left
        · intro w hSw; (try dsimp only at hSw); (try obtain ⟨hSw, hSw2⟩ := hSw); go_simp; try with_reducible rfl
        try simp only [Act.put, List.setIfInBounds_toArray, List.set_cons_zero, List.set_cons_succ]
        refine wpAnyG_take (i := 23) (oi := _) (v := ?_) rfl (by kernel_rfl) (by kernel_rfl) (by kernel_rfl) (by kernel_rfl) (fun _ _ _ h => h) (Or.inl ⟨by rfl, ?_⟩) (⟨K.out.c1, nmc⟩) ?_
        rotate_left
        · intro w hSw; (try dsimp only at hSw); (try obtain ⟨hSw, hSw2⟩ := hSw); go_simp; try with_reducible rfl
        try simp only [Act.put, List.setIfInBounds_toArray, List.set_cons_zero, List.set_cons_succ]
        refine wpAnyG_take (i := 24) (oi := _) (v := ?_) rfl (by kernel_rfl) (by kernel_rfl) (by kernel_rfl) (by kernel_rfl) (fun _ _ _ h => h) (Or.inl ⟨by rfl, ?_⟩) (⟨K.out.c1, nmc⟩) ?_
        rotate_left
        · intro w hSw; (try dsimp only at hSw); (try obtain ⟨hSw, hSw2⟩ := hSw); go_simp; try with_reducible rfl
        try simp only [Act.put, List.setIfInBounds_toArray, List.set_cons_zero, List.set_cons_succ]
        refine wpAnyG_ready (rs := [25]) (by kernel_rfl) (by simp) ?_
        refine AllReadyG.cons (o := _) rfl (fun K' hK => ?_) ?_
        rotate_left
        · exact AllReadyG.nil
        go_simp
        refine hK.out _ _ (fun _ => ⟨(K.out.alloc _).c1, cell_up nmc⟩) (fun _ => ?_)
        clear hK K'
        try simp only [Act.put, List.setIfInBounds_toArray, List.set_cons_zero, List.set_cons_succ]
        refine wpAnyG_ready (rs := [26]) (by kernel_rfl) (by simp) ?_
        refine AllReadyG.cons (o := _) rfl (fun K' hK => ?_) ?_
        rotate_left
        · exact AllReadyG.nil
        refine step_app_wing (by rfl) _ _ (by rfl) (B + 1) ws ⟨kitName ws.length, ln, p, p + z⟩ _ K.out.own (by rfl) (by rfl) (by omega) K.out.sz ?_; intro a2 c2 w5 hown5 hg5
        have c5 := K.out.cellOwn hg5 K.out.hB K.out.c1
        have f5 := K.out.frozenOwn hg5 K.out.hB K.out.f1
        have n5 : w5.cell? ⟨g, ws.length, none⟩ = some (.string (kitName ws.length)) := (World.cell?_of_block (a := ⟨g, _, none⟩) (hg5.block g (World.block_lt_of_cell? _ ⟨g, _, none⟩ nmc) (fun e => by have := gk g e.symm; omega))).trans nmc
        have K5 := hid (K.out.stored hg5 hown5)
        refine hK.out _ _ (fun _ => ⟨c5, n5⟩) (fun _ => ?_)
        clear hK K'
        try simp only [Act.put, List.setIfInBounds_toArray, List.set_cons_zero, List.set_cons_succ]
        refine wpAnyG_take (i := 27) (oi := _) (v := ?_) rfl (by kernel_rfl) (by kernel_rfl) (by kernel_rfl) (by kernel_rfl) (fun _ _ _ h => h) (Or.inl ⟨by rfl, ?_⟩) (⟨c5, n5⟩) ?_
        rotate_left
        · intro w hSw; (try dsimp only at hSw); (try obtain ⟨hSw, hSw2⟩ := hSw); go_simp; try with_reducible rfl
        try simp only [Act.put, List.setIfInBounds_toArray, List.set_cons_zero, List.set_cons_succ]
        refine wpAnyG_ready (rs := [28]) (by kernel_rfl) (by simp) ?_
        refine AllReadyG.cons (o := _) rfl (fun K' hK => ?_) ?_
        rotate_left
        · exact AllReadyG.nil
        go_simp
        refine hK.out _ _ (fun h => absurd rfl h) (fun _ => ?_)
        clear hK K'
        try simp only [Act.put, List.setIfInBounds_toArray, List.set_cons_zero, List.set_cons_succ]
        refine wpAnyG_done (by kernel_rfl) ?_ _
        refine NoPanic.normal ?_
        go_wp2
        go_roundw
        case rel =>
          refine ⟨ws.length + 1, _, ws ++ [⟨kitName ws.length, ln, p, p + z⟩], by omega, ?_, by simp, ?_, K5.out⟩
          · go_num
          · exact hmade.snoc (by omega) (by omega) (by omega) (by omega) (by omega) (by omega)
        case measure => simp [intOf] <;> omega
      refine AllReadyG.cons (o := _) rfl (fun K' hK => ?_) ?_
      · skip
        go_simp
        refine hK.out _ _ (fun _ => (K.out.alloc _).c1) (fun _ => ?_)
        clear hK K'
        try simp only [Act.put, List.setIfInBounds_toArray, List.set_cons_zero, List.set_cons_succ]
        refine wpAnyG_ready (rs := [2]) (by kernel_rfl) (by simp) ?_
        refine AllReadyG.cons (o := _) rfl (fun K' hK => ?_) ?_
        rotate_left
        · exact AllReadyG.nil
        go_simp
        go_at_call 24; refine (names_any _).mono ?_; rintro e w4 ⟨g, hg, rfl, hnm, hb4⟩; have nmc := hnm ws.length ix3; have gk : ∀ k, (Value.slice a1 ws.length c1).ownBlock = some k → k < g := (fun k e => by have := (World.ownsRow.lt K.out.own k e).2; simp at hg this; omega)
        have X80 := hid ((ints_two d _ 10 80 hz3).below hb4)
        have K := hid ((K.out.alloc _).below hb4)
        have nmd : g ≠ d := (by have h1 := hz3; simp at h1 hg; omega)
        refine hK.out _ _ (fun _ => K.out.c1) (fun _ => ?_)
        clear hK K'
        try simp only [Act.put, List.setIfInBounds_toArray, List.set_cons_zero, List.set_cons_succ]
        refine anyG_weaken (S2 := fun w' : World => w'.cell? ⟨B, 1, none⟩ = some (.slice a1 ws.length c1) ∧ w'.cell? ⟨g, ws.length, none⟩ = some (.string (kitName ws.length))) (fun _ h => h.1) _ _ _ _ ?_
        refine wpAnyG_take (i := 6) (oi := _) (v := ?_) rfl (by kernel_rfl) (by kernel_rfl) (by kernel_rfl) (by kernel_rfl) (fun _ _ _ h => h) (Or.inl ⟨by rfl, ?_⟩) (⟨K.out.c1, nmc⟩) ?_
        rotate_left
        · intro w hSw; (try dsimp only at hSw); (try obtain ⟨hSw, hSw2⟩ := hSw); go_simp; try with_reducible rfl
        try simp only [Act.put, List.setIfInBounds_toArray, List.set_cons_zero, List.set_cons_succ]
        refine wpAnyG_take (i := 7) (oi := _) (v := ?_) rfl (by kernel_rfl) (by kernel_rfl) (by kernel_rfl) (by kernel_rfl) (fun _ _ _ h => h) (Or.inl ⟨by rfl, ?_⟩) (⟨K.out.c1, nmc⟩) ?_
        rotate_left
        · intro w hSw; (try dsimp only at hSw); (try obtain ⟨hSw, hSw2⟩ := hSw); go_simp; try with_reducible rfl
        try simp only [Act.put, List.setIfInBounds_toArray, List.set_cons_zero, List.set_cons_succ]
        refine wpAnyG_ready (rs := [11]) (by kernel_rfl) (by simp) ?_
        refine AllReadyG.cons (o := _) rfl (fun K' hK => ?_) ?_
        rotate_left
        · exact AllReadyG.nil
        go_simp
        go_at_call 23; refine (any_any d [10, 80] _ _ K.out.beat (X80.out) (by decide) (by decide)).mono ?_; rintro e w4 ⟨j, hj, rfl, bt4, gb4⟩
        have nmc := (by first | exact cell_gb gb4 nmd nmc | exact cell_gb gb4 nmd (cell_up nmc))
        have K := (by first | exact hid (K.out.go gb4 bt4) | exact hid ((K.out.alloc _).go gb4 bt4))
        have hyl : 10 ≤ nm [10, 80] j ∧ nm [10, 80] j ≤ 80 := any_two (by omega) (by omega) hj
        generalize nm [10, 80] j = yl at *
        refine hK.out _ _ (fun _ => ⟨K.out.c1, nmc⟩) (fun _ => ?_)
        clear hK K'
        try simp only [Act.put, List.setIfInBounds_toArray, List.set_cons_zero, List.set_cons_succ]
        refine wpAnyG_ready (rs := [12]) (by kernel_rfl) (by simp) ?_
        refine AllReadyG.cons (o := _) rfl (fun K' hK => ?_) ?_
        rotate_left
        · exact AllReadyG.nil
        go_simp
        go_at_call 22; refine (mid_any d _ _ _ K.out.beat (by omega) (by omega) (by omega) (by omega)).mono ?_; rintro e w4 ⟨ln, rfl, hln1, hln2, bt4, gb4⟩
        have nmc := (by first | exact cell_gb gb4 nmd nmc | exact cell_gb gb4 nmd (cell_up nmc))
        have K := (by first | exact hid (K.out.go gb4 bt4) | exact hid ((K.out.alloc _).go gb4 bt4))
        refine hK.out _ _ (fun _ => ⟨K.out.c1, nmc⟩) (fun _ => ?_)
        clear hK K'
        try simp only [Act.put, List.setIfInBounds_toArray, List.set_cons_zero, List.set_cons_succ]
        refine wpAnyG_ready (rs := [17]) (by kernel_rfl) (by simp) ?_
        refine AllReadyG.cons (o := _) rfl (fun K' hK => ?_) ?_
        rotate_left
        · exact AllReadyG.nil
        go_simp
        go_at_call 25; refine (roll_any d _ _ K.out.beat (by omega)).mono ?_; rintro e w4 ⟨rA, rfl, hrA1, hrA2, bt4, gb4⟩
        have nmc := (by first | exact cell_gb gb4 nmd nmc | exact cell_gb gb4 nmd (cell_up nmc))
        have K := (by first | exact hid (K.out.go gb4 bt4) | exact hid ((K.out.alloc _).go gb4 bt4))
        refine hK.out _ _ (fun _ => ⟨K.out.c1, nmc⟩) (fun _ => ?_)
        clear hK K'
        try simp only [Act.put, List.setIfInBounds_toArray, List.set_cons_zero, List.set_cons_succ]
        refine wpAnyG_ready (rs := [19]) (by kernel_rfl) (by simp) ?_
        refine AllReadyG.cons (o := _) rfl (fun K' hK => ?_) ?_
        rotate_left
        · exact AllReadyG.nil
        go_simp
        go_at_call 25; refine (roll_any d _ _ K.out.beat (by omega)).mono ?_; rintro e w4 ⟨rB, rfl, hrB1, hrB2, bt4, gb4⟩
        have nmc := (by first | exact cell_gb gb4 nmd nmc | exact cell_gb gb4 nmd (cell_up nmc))
        have K := (by first | exact hid (K.out.go gb4 bt4) | exact hid ((K.out.alloc _).go gb4 bt4))
        refine hK.out _ _ (fun _ => ⟨K.out.c1, nmc⟩) (fun _ => ?_)
        clear hK K'
        try simp only [Act.put, List.setIfInBounds_toArray, List.set_cons_zero, List.set_cons_succ]
        refine wpAnyG_ready (rs := [20]) (by kernel_rfl) (by simp) ?_
        refine AllReadyG.cons (o := _) rfl (fun K' hK => ?_) ?_
        rotate_left
        · exact AllReadyG.nil
        go_simp
        refine hK.out _ _ (fun _ => ⟨(K.out.alloc _).c1, cell_up nmc⟩) (fun _ => ?_)
        clear hK K'
        try simp only [Act.put, List.setIfInBounds_toArray, List.set_cons_zero, List.set_cons_succ]
        refine wpAnyG_ready (rs := [21]) (by kernel_rfl) (by simp) ?_
        refine AllReadyG.cons (o := _) rfl (fun K' hK => ?_) ?_
        rotate_left
        · exact AllReadyG.nil
        go_simp
        go_at_call 23; refine (any_any d [0, rA, rB] _ _ (K.out.alloc _).beat (ints_three d _ 0 rA rB K.out.beat.lt) (by simp) (by simp)).mono ?_; rintro e w4 ⟨j, hj, rfl, bt4, gb4⟩
        have nmc := (by first | exact cell_gb gb4 nmd nmc | exact cell_gb gb4 nmd (cell_up nmc))
        have K := (by first | exact hid (K.out.go gb4 bt4) | exact hid ((K.out.alloc _).go gb4 bt4))
        obtain ⟨z, hzq, hz⟩ := any_three_ex (lo := 0) (hi := 29) (by omega) (by omega) (by omega) hj
        rw [hzq]
        have zw : IntKind.i64.wrap (p + z) = p + z := IntWalk.i64_in _ (by omega)
        refine hK.out _ _ (fun _ => ⟨K.out.c1, nmc⟩) (fun _ => ?_)
        clear hK K'
        try simp only [Act.put, List.setIfInBounds_toArray, List.set_cons_zero, List.set_cons_succ]
        refine wpAnyG_take (i := 22) (oi := _) (v := ?_) rfl (by kernel_rfl) (by kernel_rfl) (by kernel_rfl) (by kernel_rfl) (fun _ _ _ h => h) (Or.inl ⟨by rfl, ?_⟩) (⟨K.out.c1, nmc⟩) ?_
        rotate_left
        · intro w hSw; (try dsimp only at hSw); (try obtain ⟨hSw, hSw2⟩ := hSw); go_simp; try with_reducible rfl
        try simp only [Act.put, List.setIfInBounds_toArray, List.set_cons_zero, List.set_cons_succ]
        refine wpAnyG_take (i := 23) (oi := _) (v := ?_) rfl (by kernel_rfl) (by kernel_rfl) (by kernel_rfl) (by kernel_rfl) (fun _ _ _ h => h) (Or.inl ⟨by rfl, ?_⟩) (⟨K.out.c1, nmc⟩) ?_
        rotate_left
        · intro w hSw; (try dsimp only at hSw); (try obtain ⟨hSw, hSw2⟩ := hSw); go_simp; try with_reducible rfl
        try simp only [Act.put, List.setIfInBounds_toArray, List.set_cons_zero, List.set_cons_succ]
        refine wpAnyG_take (i := 24) (oi := _) (v := ?_) rfl (by kernel_rfl) (by kernel_rfl) (by kernel_rfl) (by kernel_rfl) (fun _ _ _ h => h) (Or.inl ⟨by rfl, ?_⟩) (⟨K.out.c1, nmc⟩) ?_
        rotate_left
        · intro w hSw; (try dsimp only at hSw); (try obtain ⟨hSw, hSw2⟩ := hSw); go_simp; try with_reducible rfl
        try simp only [Act.put, List.setIfInBounds_toArray, List.set_cons_zero, List.set_cons_succ]
        refine wpAnyG_ready (rs := [25]) (by kernel_rfl) (by simp) ?_
        refine AllReadyG.cons (o := _) rfl (fun K' hK => ?_) ?_
        rotate_left
        · exact AllReadyG.nil
        go_simp
        refine hK.out _ _ (fun _ => ⟨(K.out.alloc _).c1, cell_up nmc⟩) (fun _ => ?_)
        clear hK K'
        try simp only [Act.put, List.setIfInBounds_toArray, List.set_cons_zero, List.set_cons_succ]
        refine wpAnyG_ready (rs := [26]) (by kernel_rfl) (by simp) ?_
        refine AllReadyG.cons (o := _) rfl (fun K' hK => ?_) ?_
        rotate_left
        · exact AllReadyG.nil
        refine step_app_wing (by rfl) _ _ (by rfl) (B + 1) ws ⟨kitName ws.length, ln, p, p + z⟩ _ K.out.own (by rfl) (by rfl) (by omega) K.out.sz ?_; intro a2 c2 w5 hown5 hg5
        have c5 := K.out.cellOwn hg5 K.out.hB K.out.c1
        have f5 := K.out.frozenOwn hg5 K.out.hB K.out.f1
        have n5 : w5.cell? ⟨g, ws.length, none⟩ = some (.string (kitName ws.length)) := (World.cell?_of_block (a := ⟨g, _, none⟩) (hg5.block g (World.block_lt_of_cell? _ ⟨g, _, none⟩ nmc) (fun e => by have := gk g e.symm; omega))).trans nmc
        have K5 := hid (K.out.stored hg5 hown5)
        refine hK.out _ _ (fun _ => ⟨c5, n5⟩) (fun _ => ?_)
        clear hK K'
        try simp only [Act.put, List.setIfInBounds_toArray, List.set_cons_zero, List.set_cons_succ]
        refine wpAnyG_take (i := 27) (oi := _) (v := ?_) rfl (by kernel_rfl) (by kernel_rfl) (by kernel_rfl) (by kernel_rfl) (fun _ _ _ h => h) (Or.inl ⟨by rfl, ?_⟩) (⟨c5, n5⟩) ?_
        rotate_left
        · intro w hSw; (try dsimp only at hSw); (try obtain ⟨hSw, hSw2⟩ := hSw); go_simp; try with_reducible rfl
        try simp only [Act.put, List.setIfInBounds_toArray, List.set_cons_zero, List.set_cons_succ]
        refine wpAnyG_ready (rs := [28]) (by kernel_rfl) (by simp) ?_
        refine AllReadyG.cons (o := _) rfl (fun K' hK => ?_) ?_
        rotate_left
        · exact AllReadyG.nil
        go_simp
        refine hK.out _ _ (fun h => absurd rfl h) (fun _ => ?_)
        clear hK K'
        try simp only [Act.put, List.setIfInBounds_toArray, List.set_cons_zero, List.set_cons_succ]
        refine wpAnyG_done (by kernel_rfl) ?_ _
        refine NoPanic.normal ?_
        go_wp2
        go_roundw
        case rel =>
          refine ⟨ws.length + 1, _, ws ++ [⟨kitName ws.length, ln, p, p + z⟩], by omega, ?_, by simp, ?_, K5.out⟩
          · go_num
          · exact hmade.snoc (by omega) (by omega) (by omega) (by omega) (by omega) (by omega)
        case measure => simp [intOf] <;> omega
      exact AllReadyG.nil
    · obtain rfl : ws.length = m := by omega
      have f0 := K.out.f0
      have f1 := K.out.f1
      have t0 := K.out.r0
      have t1 := K.out.r1
      have u0 := K.out.g0
      have u1 := K.out.g1
      go_wp2
      refine bodyPost_ret (v := .agg #[.int .i64 route, .slice a1 ws.length c1]) (by simp [results, Tryz.results7, go_sem, t0, t1]) rfl ⟨route, _, ws, rfl, by omega, by omega, by omega, by omega, hmade, ?_, ?_, ?_⟩
      · have hBs := hBs.out
        exact ((K.out.own.put (by omega)).put (by omega)).base (by omega)
      · exact Beat.putFar (Beat.putFar K.out.beat hne) hne
      · exact gb_out (gb_out K.out.gb (Nat.le_refl _)) (Nat.le_refl _)
end Go.Proofs.YtefdopifebhgiaaGreatDoor
