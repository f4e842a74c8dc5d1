/-
  WALKS: ParadePlaces.
-/
import Derived.Test.YtgfipifgijohhaaDoorOrdS
import Derived.Test.YtgfipifgijohhaaDoorLax
import Derived.Test.YtgfipifgijohhaaDoorRWp
import Derived.Test.YtgfipifgijohhaaDoorLl
namespace Go.Proofs.YtgfipifgijohhaaDoor
open Go.RowKit

set_option linter.unusedSimpArgs false in
set_option maxHeartbeats 16000000 in
set_option maxRecDepth 100000 in
theorem places_any (ws0 : List Wing) (st0 xs : List Int) (route0 wing second place : Int) (vw0 vs0 v : Value) (w : World) (hW : WgAt none w vw0 ws0) (hS : IntsAt none w vs0 st0) (hX : IntsAt none w v xs) (hn : xs.length ≤ 9223372036854775807) :
    Calls Tryd.prog 7 #[.agg #[.int .i64 route0, vw0], vs0, .int .i64 wing, .int .i64 second, .int .i64 place, v] w fun e w' => e = .returned (.bool true) ∧ Below w.heap.size w w' := by
  have HX := hid hX
  have HW := hid hW
  have HS := hid hS
  obtain ⟨ax, cx, rfl, _⟩ := hX
  obtain ⟨aw0, cap0, rfl, _⟩ := hW
  obtain ⟨as0, cas0, rfl, _⟩ := hS
  have K := hid ((HK.start w).box2 (.int .i64 route0) (.slice aw0 ws0.length cap0) 24)
  go_enter Tryd.func7, Tryd.ntmps7
  go_wp2_with fail
  refine (long_any ws0 route0 _ _ (HW.out.below K.out.below)).mono ?_
  rintro e w1 ⟨b, rfl, hlong, hb1⟩
  have K := hid (K.out.later hb1)
  clear hb1
  cases b with
  | true =>
    go_wp2_with (go_at_call 18; refine (awake_any _).mono ?_; rintro e w10 ⟨rfl, hb10⟩)
    go_ret
    exact ⟨rfl, (K.out.later hb10).below⟩
  | false =>
    obtain ⟨hl1, hl2⟩ := hlong rfl
    by_cases hl3 : 20 < st0.length
    · go_wp2_with (go_at_call 18; refine (awake_any _).mono ?_; rintro e w10 ⟨rfl, hb10⟩)
      go_ret
      exact ⟨rfl, (K.out.later hb10).below⟩
    · go_wp2_with fail
      refine (drumOf_any xs _ _ (HX.out.below K.out.below) hn).mono ?_
      rintro e w2 ⟨rfl, hb2, hl2'⟩
      have hraw : ∀ v' xs', (v', xs') ∈ [(Value.slice ax xs.length cx, xs), (Value.slice as0 st0.length cas0, st0)] → IntsAt none w v' xs' := fun v' xs' h => by
        rcases List.mem_cons.1 h with h | h
        · cases h; exact HX.out
        · rcases List.mem_cons.1 h with h | h
          · cases h; exact HS.out
          · cases h
      have hraw2 : ∀ v' xs', (v', xs') ∈ [(Value.slice aw0 ws0.length cap0, ws0)] → WgAt none w v' xs' := fun v' xs' h => by
        rcases List.mem_cons.1 h with h | h
        · cases h; exact HW.out
        · cases h
      have K := hid (LK.ofHK (li := [(.slice ax xs.length cx, xs), (.slice as0 st0.length cas0, st0)]) (lw := [(.slice aw0 ws0.length cap0, ws0)]) K.out hl2' hb2 (Nat.le_refl _) hraw hraw2)
      clear hb2 hl2' hraw hraw2
      go_wp2_with fail
      refine (schoolOf_any _ 6 _ K.out.beat (by decide) (by decide)).mono ?_
      rintro e w3 ⟨route, vw, ws, rfl, hr1, hr2, h0, h6, hm, hown, hbt, hgb⟩
      obtain ⟨bw, ow, cap, rfl, _, _⟩ := (hown.at (d := none) (by simp)).slice h0
      have K := hid (K.out.addWgs (K.out.go hgb hbt) hown)
      clear hgb hbt hown
      have h8 : ws.length ≤ 8 := by omega
      have hc := hid (made_check hm hr1 hr2 h0 h8)
      have K := hid (K.out.box2 (.int .i64 route) (.slice (some ⟨bw, ow, none⟩) ws.length cap) 24)
      have q0 := K.out.c (o := 0) (v := .int .i64 route) (List.Mem.head _)
      have q1 := K.out.c (o := 1) (v := .slice (some ⟨bw, ow, none⟩) ws.length cap) (List.Mem.tail _ (List.Mem.head _))
      go_wp2_with fail
      refine (startsOf_any _ ws route _ _ K.out.beat (K.out.g (by simp)) hc.out hm).mono ?_
      rintro e w4 ⟨vs, st, rfl, hls, hms, hso, hbt, hgb⟩
      have K := hid (K.out.addInts (K.out.go hgb hbt) hso)
      clear hbt hgb hso
      have hcs := hid (made_starts hc.out hls h8 hms)
      have Hls := hid hls
      obtain ⟨bs, os, cv, rfl, _, _⟩ := (K.out.i (v := vs) (xs := st) (by simp)).slice (by omega)
      clear hls q0 q1
      obtain ⟨B, hB⟩ : ∃ B, w3.heap.size = B := ⟨_, rfl⟩
      rw [hB] at K ⊢
      clear hB
      have q1 := K.out.c (b := B) (o := 1) (v := .slice (some ⟨bw, ow, none⟩) ws.length cap) (by simp)
      go_wp2_with fail
      refine (roll_any _ _ _ K.out.beat (by omega)).mono ?_
      rintro e w9 ⟨wi, rfl, hw1, hw2, hbt, hgb⟩
      obtain ⟨m, rfl⟩ := Int.eq_ofNat_of_zero_le hw1
      have hmw : m < ws.length := by omega
      have hms1 : m < st.length := by have := Hls.out; omega
      have K := hid (K.out.go hgb hbt)
      clear hbt hgb q1
      go_wp2_with fail
      have hsb := hms.bound m hms1
      have i2 : (m : Int) < (st.length : Int) := by omega
      have wr : IntKind.i64.wrap (route + 200) = route + 200 := IntWalk.i64_in _ (by omega)
      obtain ⟨wn, hwn, KN⟩ := K.out.name
      rw [hwn]
      clear hwn K
      obtain ⟨N, hN⟩ : ∃ N, wn.heap.size = N := ⟨_, rfl⟩
      have K := hid KN.drew
      have KS := hid KN
      clear KN
      have hdN : w1.heap.size < N := by have := KS.out.lt; omega
      have hSd := hid (show (fun w' : World => w'.cell? ⟨w.heap.size, 0, none⟩ = some (.int .i64 route0) ∧ w'.cell? ⟨w.heap.size, 1, none⟩ = some (.slice aw0 ws0.length cap0) ∧ w'.cell? ⟨B, 0, none⟩ = some (.int .i64 route) ∧ w'.cell? ⟨B, 1, none⟩ = some (.slice (some ⟨bw, ow, none⟩) ws.length cap) ∧ w'.cell? ⟨bs, os + m, none⟩ = some (.int .i64 (nm st m))) _ from ⟨K.out.c (by simp), K.out.c (by simp), K.out.c (by simp), K.out.c (by simp), (K.out.i (v := .slice (some ⟨bs, os, none⟩) st.length cv) (xs := st) (by simp)).cell hms1⟩)
      refine wp_region_noPanic ?_
      refine wp_region_held_drew (S := fun w' : World => w'.cell? ⟨w.heap.size, 0, none⟩ = some (.int .i64 route0) ∧ w'.cell? ⟨w.heap.size, 1, none⟩ = some (.slice aw0 ws0.length cap0) ∧ w'.cell? ⟨B, 0, none⟩ = some (.int .i64 route) ∧ w'.cell? ⟨B, 1, none⟩ = some (.slice (some ⟨bw, ow, none⟩) ws.length cap) ∧ w'.cell? ⟨bs, os + m, none⟩ = some (.int .i64 (nm st m))) (by kernel_rfl) hSd.out (fun hHeld => ?_)
      refine wpAnyH_take (i := 0) (oi := _) (v := ?_) rfl (by kernel_rfl) (by kernel_rfl) (by kernel_rfl) (fun _ _ _ h => h) (Or.inl ⟨by rfl, ?_⟩) hHeld ?_
      rotate_left
      · intro w hSw; (try dsimp only at hSw); obtain ⟨hSw, hSw2, hSw3, hSw4, hSw5⟩ := hSw; go_simp; try with_reducible rfl
      try simp only [Act.put, List.setIfInBounds_toArray, List.set_cons_zero, List.set_cons_succ]
      refine wpAnyH_take (i := 1) (oi := _) (v := ?_) rfl (by kernel_rfl) (by kernel_rfl) (by kernel_rfl) (fun _ _ _ h => h) (Or.inl ⟨by rfl, ?_⟩) hHeld ?_
      rotate_left
      · intro w hSw; (try dsimp only at hSw); obtain ⟨hSw, hSw2, hSw3, hSw4, hSw5⟩ := hSw; go_simp; try with_reducible rfl
      try simp only [Act.put, List.setIfInBounds_toArray, List.set_cons_zero, List.set_cons_succ]
      refine wpAnyH_take (i := 2) (oi := _) (v := ?_) rfl (by kernel_rfl) (by kernel_rfl) (by kernel_rfl) (fun _ _ _ h => h) (Or.inl ⟨by rfl, ?_⟩) hHeld ?_
      rotate_left
      · intro w hSw; (try dsimp only at hSw); obtain ⟨hSw, hSw2, hSw3, hSw4, hSw5⟩ := hSw; go_simp; try with_reducible rfl
      try simp only [Act.put, List.setIfInBounds_toArray, List.set_cons_zero, List.set_cons_succ]
      refine wpAnyH_take (i := 3) (oi := _) (v := ?_) rfl (by kernel_rfl) (by kernel_rfl) (by kernel_rfl) (fun _ _ _ h => h) (Or.inl ⟨by rfl, ?_⟩) hHeld ?_
      rotate_left
      · intro w hSw; (try dsimp only at hSw); obtain ⟨hSw, hSw2, hSw3, hSw4, hSw5⟩ := hSw; go_simp; try with_reducible rfl
      try simp only [Act.put, List.setIfInBounds_toArray, List.set_cons_zero, List.set_cons_succ]
      refine wpAnyH_take (i := 5) (oi := _) (v := ?_) rfl (by kernel_rfl) (by kernel_rfl) (by kernel_rfl) (fun _ _ _ h => h) (Or.inl ⟨by rfl, ?_⟩) hHeld ?_
      rotate_left
      · intro w hSw; (try dsimp only at hSw); obtain ⟨hSw, hSw2, hSw3, hSw4, hSw5⟩ := hSw; go_simp; try with_reducible rfl
      try simp only [Act.put, List.setIfInBounds_toArray, List.set_cons_zero, List.set_cons_succ]
      refine wpAnyH_take (i := 6) (oi := _) (v := ?_) rfl (by kernel_rfl) (by kernel_rfl) (by kernel_rfl) (fun _ _ _ h => h) (Or.inl ⟨by rfl, ?_⟩) hHeld ?_
      rotate_left
      · intro w hSw; (try dsimp only at hSw); obtain ⟨hSw, hSw2, hSw3, hSw4, hSw5⟩ := hSw; go_simp; try with_reducible rfl
      try simp only [Act.put, List.setIfInBounds_toArray, List.set_cons_zero, List.set_cons_succ]
      refine wpAnyH_take (i := 7) (oi := _) (v := ?_) rfl (by kernel_rfl) (by kernel_rfl) (by kernel_rfl) (fun _ _ _ h => h) (Or.inl ⟨by rfl, ?_⟩) hHeld ?_
      rotate_left
      · intro w hSw; (try dsimp only at hSw); obtain ⟨hSw, hSw2, hSw3, hSw4, hSw5⟩ := hSw; go_simp; try with_reducible rfl
      try simp only [Act.put, List.setIfInBounds_toArray, List.set_cons_zero, List.set_cons_succ]
      refine wpAnyH_take (i := 8) (oi := _) (v := ?_) rfl (by kernel_rfl) (by kernel_rfl) (by kernel_rfl) (fun _ _ _ h => h) (Or.inl ⟨by rfl, ?_⟩) hHeld ?_
      rotate_left
      · intro w hSw; (try dsimp only at hSw); obtain ⟨hSw, hSw2, hSw3, hSw4, hSw5⟩ := hSw; go_simp; try with_reducible rfl
      try simp only [Act.put, List.setIfInBounds_toArray, List.set_cons_zero, List.set_cons_succ]
      refine wpAnyH_take (i := 10) (oi := _) (v := ?_) rfl (by kernel_rfl) (by kernel_rfl) (by kernel_rfl) (fun _ _ _ h => h) (Or.inl ⟨by rfl, ?_⟩) hHeld ?_
      rotate_left
      · intro w hSw; (try dsimp only at hSw); obtain ⟨hSw, hSw2, hSw3, hSw4, hSw5⟩ := hSw; go_simp; try with_reducible rfl
      try simp only [Act.put, List.setIfInBounds_toArray, List.set_cons_zero, List.set_cons_succ]
      refine wpAnyH_take (i := 11) (oi := _) (v := ?_) rfl (by kernel_rfl) (by kernel_rfl) (by kernel_rfl) (fun _ _ _ h => h) (Or.inl ⟨by rfl, ?_⟩) hHeld ?_
      rotate_left
      · intro w hSw; (try dsimp only at hSw); obtain ⟨hSw, hSw2, hSw3, hSw4, hSw5⟩ := hSw; go_simp; try with_reducible rfl
      try simp only [Act.put, List.setIfInBounds_toArray, List.set_cons_zero, List.set_cons_succ]
      refine wpAnyH_take (i := 12) (oi := _) (v := ?_) rfl (by kernel_rfl) (by kernel_rfl) (by kernel_rfl) (fun _ _ _ h => h) (Or.inl ⟨by rfl, ?_⟩) hHeld ?_
      rotate_left
      · intro w hSw; (try dsimp only at hSw); obtain ⟨hSw, hSw2, hSw3, hSw4, hSw5⟩ := hSw; go_simp; try with_reducible rfl
      try simp only [Act.put, List.setIfInBounds_toArray, List.set_cons_zero, List.set_cons_succ]
      refine wpAnyH_take (i := 13) (oi := _) (v := ?_) rfl (by kernel_rfl) (by kernel_rfl) (by kernel_rfl) (fun _ _ _ h => h) (Or.inl ⟨by rfl, ?_⟩) hHeld ?_
      rotate_left
      · intro w hSw; (try dsimp only at hSw); obtain ⟨hSw, hSw2, hSw3, hSw4, hSw5⟩ := hSw; go_simp; try with_reducible rfl
      try simp only [Act.put, List.setIfInBounds_toArray, List.set_cons_zero, List.set_cons_succ]
      refine wpAnyH_take (i := 15) (oi := _) (v := ?_) rfl (by kernel_rfl) (by kernel_rfl) (by kernel_rfl) (fun _ _ _ h => h) (Or.inl ⟨by rfl, ?_⟩) hHeld ?_
      rotate_left
      · intro w hSw; (try dsimp only at hSw); obtain ⟨hSw, hSw2, hSw3, hSw4, hSw5⟩ := hSw; go_simp; try with_reducible rfl
      try simp only [Act.put, List.setIfInBounds_toArray, List.set_cons_zero, List.set_cons_succ]
      refine wpAnyH_take (i := 16) (oi := _) (v := ?_) rfl (by kernel_rfl) (by kernel_rfl) (by kernel_rfl) (fun _ _ _ h => h) (Or.inl ⟨by rfl, ?_⟩) hHeld ?_
      rotate_left
      · intro w hSw; (try dsimp only at hSw); obtain ⟨hSw, hSw2, hSw3, hSw4, hSw5⟩ := hSw; go_simp; try with_reducible rfl
      try simp only [Act.put, List.setIfInBounds_toArray, List.set_cons_zero, List.set_cons_succ]
      refine wpAnyH_take (i := 17) (oi := _) (v := ?_) rfl (by kernel_rfl) (by kernel_rfl) (by kernel_rfl) (fun _ _ _ h => h) (Or.inl ⟨by rfl, ?_⟩) hHeld ?_
      rotate_left
      · intro w hSw; (try dsimp only at hSw); obtain ⟨hSw, hSw2, hSw3, hSw4, hSw5⟩ := hSw; go_simp; try with_reducible rfl
      try simp only [Act.put, List.setIfInBounds_toArray, List.set_cons_zero, List.set_cons_succ]
      refine wpAnyH_take (i := 18) (oi := _) (v := ?_) rfl (by kernel_rfl) (by kernel_rfl) (by kernel_rfl) (fun _ _ _ h => h) (Or.inl ⟨by rfl, ?_⟩) hHeld ?_
      rotate_left
      · intro w hSw; (try dsimp only at hSw); obtain ⟨hSw, hSw2, hSw3, hSw4, hSw5⟩ := hSw; go_simp; try with_reducible rfl
      try simp only [Act.put, List.setIfInBounds_toArray, List.set_cons_zero, List.set_cons_succ]
      refine wpAnyH_take (i := 19) (oi := _) (v := ?_) rfl (by kernel_rfl) (by kernel_rfl) (by kernel_rfl) (fun _ _ _ h => h) (Or.inl ⟨by rfl, ?_⟩) hHeld ?_
      rotate_left
      · intro w hSw; (try dsimp only at hSw); obtain ⟨hSw, hSw2, hSw3, hSw4, hSw5⟩ := hSw; go_simp; try with_reducible rfl
      try simp only [Act.put, List.setIfInBounds_toArray, List.set_cons_zero, List.set_cons_succ]
      refine wpAnyH_take (i := 20) (oi := _) (v := ?_) rfl (by kernel_rfl) (by kernel_rfl) (by kernel_rfl) (fun _ _ _ h => h) (Or.inl ⟨by rfl, ?_⟩) hHeld ?_
      rotate_left
      · intro w hSw; (try dsimp only at hSw); obtain ⟨hSw, hSw2, hSw3, hSw4, hSw5⟩ := hSw; go_simp; try with_reducible rfl
      try simp only [Act.put, List.setIfInBounds_toArray, List.set_cons_zero, List.set_cons_succ]
      refine wpAnyH_take (i := 23) (oi := _) (v := ?_) rfl (by kernel_rfl) (by kernel_rfl) (by kernel_rfl) (fun _ _ _ h => h) (Or.inl ⟨by rfl, ?_⟩) hHeld ?_
      rotate_left
      · intro w hSw; (try dsimp only at hSw); obtain ⟨hSw, hSw2, hSw3, hSw4, hSw5⟩ := hSw; go_simp; try with_reducible rfl
      try simp only [Act.put, List.setIfInBounds_toArray, List.set_cons_zero, List.set_cons_succ]
      refine wpAnyH_take (i := 24) (oi := _) (v := ?_) rfl (by kernel_rfl) (by kernel_rfl) (by kernel_rfl) (fun _ _ _ h => h) (Or.inl ⟨by rfl, ?_⟩) hHeld ?_
      rotate_left
      · intro w hSw; (try dsimp only at hSw); obtain ⟨hSw, hSw2, hSw3, hSw4, hSw5⟩ := hSw; go_simp; try with_reducible rfl
      try simp only [Act.put, List.setIfInBounds_toArray, List.set_cons_zero, List.set_cons_succ]
      refine wpAnyH_take (i := 26) (oi := _) (v := ?_) rfl (by kernel_rfl) (by kernel_rfl) (by kernel_rfl) (fun _ _ _ h => h) (Or.inl ⟨by rfl, ?_⟩) hHeld ?_
      rotate_left
      · intro w hSw; (try dsimp only at hSw); obtain ⟨hSw, hSw2, hSw3, hSw4, hSw5⟩ := hSw; go_simp; try with_reducible rfl
      try simp only [Act.put, List.setIfInBounds_toArray, List.set_cons_zero, List.set_cons_succ]
      refine wpAnyH_take (i := 27) (oi := _) (v := ?_) rfl (by kernel_rfl) (by kernel_rfl) (by kernel_rfl) (fun _ _ _ h => h) (Or.inl ⟨by rfl, ?_⟩) hHeld ?_
      rotate_left
      · intro w hSw; (try dsimp only at hSw); obtain ⟨hSw, hSw2, hSw3, hSw4, hSw5⟩ := hSw; go_simp; try with_reducible rfl
      try simp only [Act.put, List.setIfInBounds_toArray, List.set_cons_zero, List.set_cons_succ]
      refine wpAnyH_take (i := 28) (oi := _) (v := ?_) rfl (by kernel_rfl) (by kernel_rfl) (by kernel_rfl) (fun _ _ _ h => h) (Or.inl ⟨by rfl, ?_⟩) hHeld ?_
      rotate_left
      · intro w hSw; (try dsimp only at hSw); obtain ⟨hSw, hSw2, hSw3, hSw4, hSw5⟩ := hSw; go_simp; try with_reducible rfl
      try simp only [Act.put, List.setIfInBounds_toArray, List.set_cons_zero, List.set_cons_succ]
      refine wpAnyH_take (i := 29) (oi := _) (v := ?_) rfl (by kernel_rfl) (by kernel_rfl) (by kernel_rfl) (fun _ _ _ h => h) (Or.inl ⟨by rfl, ?_⟩) hHeld ?_
      rotate_left
      · intro w hSw; (try dsimp only at hSw); obtain ⟨hSw, hSw2, hSw3, hSw4, hSw5⟩ := hSw; go_simp; try with_reducible rfl
      try simp only [Act.put, List.setIfInBounds_toArray, List.set_cons_zero, List.set_cons_succ]
      refine wpAnyH_take (i := 30) (oi := _) (v := ?_) rfl (by kernel_rfl) (by kernel_rfl) (by kernel_rfl) (fun _ _ _ h => h) (Or.inl ⟨by rfl, ?_⟩) hHeld ?_
      rotate_left
      · intro w hSw; (try dsimp only at hSw); obtain ⟨hSw, hSw2, hSw3, hSw4, hSw5⟩ := hSw; go_simp; try with_reducible rfl
      try simp only [Act.put, List.setIfInBounds_toArray, List.set_cons_zero, List.set_cons_succ]
      refine wpAnyH_take (i := 32) (oi := _) (v := ?_) rfl (by kernel_rfl) (by kernel_rfl) (by kernel_rfl) (fun _ _ _ h => h) (Or.inl ⟨by rfl, ?_⟩) hHeld ?_
      rotate_left
      · intro w hSw; (try dsimp only at hSw); obtain ⟨hSw, hSw2, hSw3, hSw4, hSw5⟩ := hSw; go_simp; try with_reducible rfl
      try simp only [Act.put, List.setIfInBounds_toArray, List.set_cons_zero, List.set_cons_succ]
      refine wpAnyH_take (i := 33) (oi := _) (v := ?_) rfl (by kernel_rfl) (by kernel_rfl) (by kernel_rfl) (fun _ _ _ h => h) (Or.inl ⟨by rfl, ?_⟩) hHeld ?_
      rotate_left
      · intro w hSw; (try dsimp only at hSw); obtain ⟨hSw, hSw2, hSw3, hSw4, hSw5⟩ := hSw; go_simp; try with_reducible rfl
      try simp only [Act.put, List.setIfInBounds_toArray, List.set_cons_zero, List.set_cons_succ]
      refine wpAnyH_slots [55, 60, 65, 72, 73, 76, 82, 85, 17, 18, 19, 20, 21] [0, 1, 2, 3, 5, 6, 7, 8, 10, 11, 12, 13, 15, 16, 17, 18, 19, 20, 23, 24, 26, 27, 28, 29, 30, 32, 33] [4, 9, 14, 21, 22, 25, 31, 34, 35, 36, 37, 38, 39] (fun (l : Nat → Bool) (vs : Nat → Value) (w' : World) => N ≤ w'.heap.size ∧ LK w1.heap.size [(B, 0, .int .i64 route), (B, 1, .slice (some ⟨bw, ow, none⟩) ws.length cap), (w.heap.size, 0, .int .i64 route0), (w.heap.size, 1, .slice aw0 ws0.length cap0)] [(.slice (some ⟨bs, os, none⟩) st.length cv, st), (.slice ax xs.length cx, xs), (.slice as0 st0.length cas0, st0)] [(.slice (some ⟨bw, ow, none⟩) ws.length cap, ws), (.slice aw0 ws0.length cap0, ws0)] w w' ∧ (l 4 = true → LitAt N w' (vs 55) 4 [.int .i64 route0, .slice aw0 ws0.length cap0, .int .i64 route, .slice (some ⟨bw, ow, none⟩) ws.length cap, .int .i64 route, .slice (some ⟨bw, ow, none⟩) ws.length cap, .int .i64 route, .slice (some ⟨bw, ow, none⟩) ws.length cap]) ∧ (l 9 = true → LitAt N w' (vs 60) 4 [.slice as0 st0.length cas0, .slice (some ⟨bs, os, none⟩) st.length cv, .slice (some ⟨bs, os, none⟩) st.length cv, .slice (some ⟨bs, os, none⟩) st.length cv]) ∧ (l 14 = true → LitAt N w' (vs 65) 4 [.int .i64 wing, .int .i64 m, .int .i64 m, .int .i64 wing]) ∧ (l 21 = true → ∃ r, (vs 72) = .int .i64 r) ∧ (l 22 = true → ∃ r, (vs 73) = .int .i64 r) ∧ (l 25 = true → ∃ r, LitAt N w' (vs 76) 4 [.int .i64 second, .int .i64 r, .int .i64 second, .int .i64 second]) ∧ (l 31 = true → ∃ r, (vs 82) = .int .i64 r) ∧ (l 34 = true → ∃ r, LitAt N w' (vs 85) 4 [.int .i64 place, .int .i64 r, .int .i64 place, .int .i64 place]) ∧ (l 35 = true → LitAt N w' (vs 17) 4 [.int .i64 route0, .slice aw0 ws0.length cap0, .int .i64 route, .slice (some ⟨bw, ow, none⟩) ws.length cap, .int .i64 route, .slice (some ⟨bw, ow, none⟩) ws.length cap, .int .i64 route, .slice (some ⟨bw, ow, none⟩) ws.length cap]) ∧ (l 36 = true → LitAt N w' (vs 18) 4 [.slice as0 st0.length cas0, .slice (some ⟨bs, os, none⟩) st.length cv, .slice (some ⟨bs, os, none⟩) st.length cv, .slice (some ⟨bs, os, none⟩) st.length cv]) ∧ (l 37 = true → LitAt N w' (vs 19) 4 [.int .i64 wing, .int .i64 m, .int .i64 m, .int .i64 wing]) ∧ (l 38 = true → ∃ r, LitAt N w' (vs 20) 4 [.int .i64 second, .int .i64 r, .int .i64 second, .int .i64 second]) ∧ (l 39 = true → ∃ r, LitAt N w' (vs 21) 4 [.int .i64 place, .int .i64 r, .int .i64 place, .int .i64 place])) (by kernel_rfl) (by kernel_rfl) (by kernel_rfl) (Nat.le_of_ble_eq_true (by kernel_rfl)) (by kernel_rfl) (by kernel_rfl) hHeld ?_ ?_ ?_
      · intro l vs hall
        exact ⟨Nat.le_of_eq hN.symm, K.out, fun h => absurd h (by rw [hall 4 (by simp)]; simp), fun h => absurd h (by rw [hall 9 (by simp)]; simp), fun h => absurd h (by rw [hall 14 (by simp)]; simp), fun h => absurd h (by rw [hall 21 (by simp)]; simp), fun h => absurd h (by rw [hall 22 (by simp)]; simp), fun h => absurd h (by rw [hall 25 (by simp)]; simp), fun h => absurd h (by rw [hall 31 (by simp)]; simp), fun h => absurd h (by rw [hall 34 (by simp)]; simp), fun h => absurd h (by rw [hall 35 (by simp)]; simp), fun h => absurd h (by rw [hall 36 (by simp)]; simp), fun h => absurd h (by rw [hall 37 (by simp)]; simp), fun h => absurd h (by rw [hall 38 (by simp)]; simp), fun h => absurd h (by rw [hall 39 (by simp)]; simp)⟩
      · skip
        refine StepS.cons (o := _) rfl (fun l vs wx hl haw hSw hF K' hK => ?_) ?_
        · have HF := hid hF
          have Haw := hid haw
          clear hF haw
          have KX := hid HF.out.2.1
          simp only [putAll, Act.put, List.setIfInBounds_toArray, List.set_cons_zero, List.set_cons_succ]
          go_simp
          have KY := hid (KX.out.alloc (.cells (List.toArray [.int .i64 route0, .slice aw0 ws0.length cap0, .int .i64 route, .slice (some ⟨bw, ow, none⟩) ws.length cap, .int .i64 route, .slice (some ⟨bw, ow, none⟩) ws.length cap, .int .i64 route, .slice (some ⟨bw, ow, none⟩) ws.length cap]) 24))
          obtain ⟨hNx, _, E4, E9, E14, E21, E22, E25, E31, E34, E35, E36, E37, E38, E39⟩ := HF.out
          refine putK (vs' := fun k => if k = 55 then .slice (some ⟨wx.heap.size, 0, none⟩) 4 4 else vs k) hK.out (by kernel_rfl) ⟨KY.out.c (by simp), KY.out.c (by simp), KY.out.c (by simp), KY.out.c (by simp), (KY.out.i (v := .slice (some ⟨bs, os, none⟩) st.length cv) (xs := st) (by simp)).cell hms1⟩ ⟨Nat.le_trans hNx (below_alloc wx _).size, KY.out, fun _ => LitAt.new hNx, fun h => (E9 h).later (gb_below (below_alloc wx _) (some w1.heap.size)) hdN, fun h => (E14 h).later (gb_below (below_alloc wx _) (some w1.heap.size)) hdN, fun h => E21 h, fun h => E22 h, fun h => by obtain ⟨r', h'⟩ := E25 h; exact ⟨r', h'.later (gb_below (below_alloc wx _) (some w1.heap.size)) hdN⟩, fun h => E31 h, fun h => by obtain ⟨r', h'⟩ := E34 h; exact ⟨r', h'.later (gb_below (below_alloc wx _) (some w1.heap.size)) hdN⟩, fun h => (E35 h).later (gb_below (below_alloc wx _) (some w1.heap.size)) hdN, fun h => (E36 h).later (gb_below (below_alloc wx _) (some w1.heap.size)) hdN, fun h => (E37 h).later (gb_below (below_alloc wx _) (some w1.heap.size)) hdN, fun h => by obtain ⟨r', h'⟩ := E38 h; exact ⟨r', h'.later (gb_below (below_alloc wx _) (some w1.heap.size)) hdN⟩, fun h => by obtain ⟨r', h'⟩ := E39 h; exact ⟨r', h'.later (gb_below (below_alloc wx _) (some w1.heap.size)) hdN⟩⟩
        refine StepS.cons (o := _) rfl (fun l vs wx hl haw hSw hF K' hK => ?_) ?_
        · have HF := hid hF
          have Haw := hid haw
          clear hF haw
          have KX := hid HF.out.2.1
          simp only [putAll, Act.put, List.setIfInBounds_toArray, List.set_cons_zero, List.set_cons_succ]
          go_simp
          have KY := hid (KX.out.alloc (.cells (List.toArray [.slice as0 st0.length cas0, .slice (some ⟨bs, os, none⟩) st.length cv, .slice (some ⟨bs, os, none⟩) st.length cv, .slice (some ⟨bs, os, none⟩) st.length cv]) 25))
          obtain ⟨hNx, _, E4, E9, E14, E21, E22, E25, E31, E34, E35, E36, E37, E38, E39⟩ := HF.out
          refine putK (vs' := fun k => if k = 60 then .slice (some ⟨wx.heap.size, 0, none⟩) 4 4 else vs k) hK.out (by kernel_rfl) ⟨KY.out.c (by simp), KY.out.c (by simp), KY.out.c (by simp), KY.out.c (by simp), (KY.out.i (v := .slice (some ⟨bs, os, none⟩) st.length cv) (xs := st) (by simp)).cell hms1⟩ ⟨Nat.le_trans hNx (below_alloc wx _).size, KY.out, fun h => (E4 h).later (gb_below (below_alloc wx _) (some w1.heap.size)) hdN, fun _ => LitAt.new hNx, fun h => (E14 h).later (gb_below (below_alloc wx _) (some w1.heap.size)) hdN, fun h => E21 h, fun h => E22 h, fun h => by obtain ⟨r', h'⟩ := E25 h; exact ⟨r', h'.later (gb_below (below_alloc wx _) (some w1.heap.size)) hdN⟩, fun h => E31 h, fun h => by obtain ⟨r', h'⟩ := E34 h; exact ⟨r', h'.later (gb_below (below_alloc wx _) (some w1.heap.size)) hdN⟩, fun h => (E35 h).later (gb_below (below_alloc wx _) (some w1.heap.size)) hdN, fun h => (E36 h).later (gb_below (below_alloc wx _) (some w1.heap.size)) hdN, fun h => (E37 h).later (gb_below (below_alloc wx _) (some w1.heap.size)) hdN, fun h => by obtain ⟨r', h'⟩ := E38 h; exact ⟨r', h'.later (gb_below (below_alloc wx _) (some w1.heap.size)) hdN⟩, fun h => by obtain ⟨r', h'⟩ := E39 h; exact ⟨r', h'.later (gb_below (below_alloc wx _) (some w1.heap.size)) hdN⟩⟩
        refine StepS.cons (o := _) rfl (fun l vs wx hl haw hSw hF K' hK => ?_) ?_
        · have HF := hid hF
          have Haw := hid haw
          clear hF haw
          have KX := hid HF.out.2.1
          simp only [putAll, Act.put, List.setIfInBounds_toArray, List.set_cons_zero, List.set_cons_succ]
          go_simp
          have KY := hid (KX.out.alloc (.cells (List.toArray [.int .i64 wing, .int .i64 m, .int .i64 m, .int .i64 wing]) 3))
          obtain ⟨hNx, _, E4, E9, E14, E21, E22, E25, E31, E34, E35, E36, E37, E38, E39⟩ := HF.out
          refine putK (vs' := fun k => if k = 65 then .slice (some ⟨wx.heap.size, 0, none⟩) 4 4 else vs k) hK.out (by kernel_rfl) ⟨KY.out.c (by simp), KY.out.c (by simp), KY.out.c (by simp), KY.out.c (by simp), (KY.out.i (v := .slice (some ⟨bs, os, none⟩) st.length cv) (xs := st) (by simp)).cell hms1⟩ ⟨Nat.le_trans hNx (below_alloc wx _).size, KY.out, fun h => (E4 h).later (gb_below (below_alloc wx _) (some w1.heap.size)) hdN, fun h => (E9 h).later (gb_below (below_alloc wx _) (some w1.heap.size)) hdN, fun _ => LitAt.new hNx, fun h => E21 h, fun h => E22 h, fun h => by obtain ⟨r', h'⟩ := E25 h; exact ⟨r', h'.later (gb_below (below_alloc wx _) (some w1.heap.size)) hdN⟩, fun h => E31 h, fun h => by obtain ⟨r', h'⟩ := E34 h; exact ⟨r', h'.later (gb_below (below_alloc wx _) (some w1.heap.size)) hdN⟩, fun h => (E35 h).later (gb_below (below_alloc wx _) (some w1.heap.size)) hdN, fun h => (E36 h).later (gb_below (below_alloc wx _) (some w1.heap.size)) hdN, fun h => (E37 h).later (gb_below (below_alloc wx _) (some w1.heap.size)) hdN, fun h => by obtain ⟨r', h'⟩ := E38 h; exact ⟨r', h'.later (gb_below (below_alloc wx _) (some w1.heap.size)) hdN⟩, fun h => by obtain ⟨r', h'⟩ := E39 h; exact ⟨r', h'.later (gb_below (below_alloc wx _) (some w1.heap.size)) hdN⟩⟩
        refine StepS.cons (o := _) rfl (fun l vs wx hl haw hSw hF K' hK => ?_) ?_
        · have HF := hid hF
          have Haw := hid haw
          clear hF haw
          have KX := hid HF.out.2.1
          simp only [putAll, Act.put, List.setIfInBounds_toArray, List.set_cons_zero, List.set_cons_succ]
          go_simp
          go_at_call 40; refine (roll_any _ _ _ KX.out.beat (by omega)).mono ?_; rintro e wy ⟨r, rfl, hr1, hr2, hbt, hgb⟩
          have KY := hid (KX.out.go hgb hbt)
          obtain ⟨hNx, _, E4, E9, E14, E21, E22, E25, E31, E34, E35, E36, E37, E38, E39⟩ := HF.out
          refine putK (vs' := fun k => if k = 72 then .int .i64 r else vs k) hK.out (by kernel_rfl) ⟨KY.out.c (by simp), KY.out.c (by simp), KY.out.c (by simp), KY.out.c (by simp), (KY.out.i (v := .slice (some ⟨bs, os, none⟩) st.length cv) (xs := st) (by simp)).cell hms1⟩ ⟨Nat.le_trans hNx hgb.size, KY.out, fun h => (E4 h).later hgb hdN, fun h => (E9 h).later hgb hdN, fun h => (E14 h).later hgb hdN, fun _ => ⟨r, rfl⟩, fun h => E22 h, fun h => by obtain ⟨r', h'⟩ := E25 h; exact ⟨r', h'.later hgb hdN⟩, fun h => E31 h, fun h => by obtain ⟨r', h'⟩ := E34 h; exact ⟨r', h'.later hgb hdN⟩, fun h => (E35 h).later hgb hdN, fun h => (E36 h).later hgb hdN, fun h => (E37 h).later hgb hdN, fun h => by obtain ⟨r', h'⟩ := E38 h; exact ⟨r', h'.later hgb hdN⟩, fun h => by obtain ⟨r', h'⟩ := E39 h; exact ⟨r', h'.later hgb hdN⟩⟩
        refine StepS.cons (o := _) rfl (fun l vs wx hl haw hSw hF K' hK => ?_) ?_
        · have HF := hid hF
          have Haw := hid haw
          clear hF haw
          have KX := hid HF.out.2.1
          have hmk := Haw.out 21 (by kernel_rfl)
          have hex := HF.out.2.2.2.2.2.1 hmk
          clear hmk
          apply Exists.elim hex
          intro r hr
          clear hex
          simp only [putAll, Act.put, List.setIfInBounds_toArray, List.set_cons_zero, List.set_cons_succ]
          simp only [hr]
          go_simp
          have KY := KX
          obtain ⟨hNx, _, E4, E9, E14, E21, E22, E25, E31, E34, E35, E36, E37, E38, E39⟩ := HF.out
          refine putK (vs' := fun k => if k = 73 then .int .i64 (IntKind.i64.wrap (nm st m + r)) else if k = 72 then .int .i64 r else vs k) hK.out (by kernel_rfl) ⟨KY.out.c (by simp), KY.out.c (by simp), KY.out.c (by simp), KY.out.c (by simp), (KY.out.i (v := .slice (some ⟨bs, os, none⟩) st.length cv) (xs := st) (by simp)).cell hms1⟩ ⟨hNx, KY.out, fun h => E4 h, fun h => E9 h, fun h => E14 h, fun _ => ⟨r, rfl⟩, fun _ => ⟨_, rfl⟩, fun h => E25 h, fun h => E31 h, fun h => E34 h, fun h => E35 h, fun h => E36 h, fun h => E37 h, fun h => E38 h, fun h => E39 h⟩
        refine StepS.cons (o := _) rfl (fun l vs wx hl haw hSw hF K' hK => ?_) ?_
        · have HF := hid hF
          have Haw := hid haw
          clear hF haw
          have KX := hid HF.out.2.1
          have hmk := Haw.out 22 (by kernel_rfl)
          have hex := HF.out.2.2.2.2.2.2.1 hmk
          clear hmk
          apply Exists.elim hex
          intro r hr
          clear hex
          simp only [putAll, Act.put, List.setIfInBounds_toArray, List.set_cons_zero, List.set_cons_succ]
          simp only [hr]
          go_simp
          have KY := hid (KX.out.alloc (.cells (List.toArray [.int .i64 second, .int .i64 r, .int .i64 second, .int .i64 second]) 3))
          obtain ⟨hNx, _, E4, E9, E14, E21, E22, E25, E31, E34, E35, E36, E37, E38, E39⟩ := HF.out
          refine putK (vs' := fun k => if k = 76 then .slice (some ⟨wx.heap.size, 0, none⟩) 4 4 else if k = 73 then .int .i64 r else vs k) hK.out (by kernel_rfl) ⟨KY.out.c (by simp), KY.out.c (by simp), KY.out.c (by simp), KY.out.c (by simp), (KY.out.i (v := .slice (some ⟨bs, os, none⟩) st.length cv) (xs := st) (by simp)).cell hms1⟩ ⟨Nat.le_trans hNx (below_alloc wx _).size, KY.out, fun h => (E4 h).later (gb_below (below_alloc wx _) (some w1.heap.size)) hdN, fun h => (E9 h).later (gb_below (below_alloc wx _) (some w1.heap.size)) hdN, fun h => (E14 h).later (gb_below (below_alloc wx _) (some w1.heap.size)) hdN, fun h => E21 h, fun _ => ⟨r, rfl⟩, fun _ => ⟨r, LitAt.new hNx⟩, fun h => E31 h, fun h => by obtain ⟨r', h'⟩ := E34 h; exact ⟨r', h'.later (gb_below (below_alloc wx _) (some w1.heap.size)) hdN⟩, fun h => (E35 h).later (gb_below (below_alloc wx _) (some w1.heap.size)) hdN, fun h => (E36 h).later (gb_below (below_alloc wx _) (some w1.heap.size)) hdN, fun h => (E37 h).later (gb_below (below_alloc wx _) (some w1.heap.size)) hdN, fun h => by obtain ⟨r', h'⟩ := E38 h; exact ⟨r', h'.later (gb_below (below_alloc wx _) (some w1.heap.size)) hdN⟩, fun h => by obtain ⟨r', h'⟩ := E39 h; exact ⟨r', h'.later (gb_below (below_alloc wx _) (some w1.heap.size)) hdN⟩⟩
        refine StepS.cons (o := _) rfl (fun l vs wx hl haw hSw hF K' hK => ?_) ?_
        · have HF := hid hF
          have Haw := hid haw
          clear hF haw
          have KX := hid HF.out.2.1
          simp only [putAll, Act.put, List.setIfInBounds_toArray, List.set_cons_zero, List.set_cons_succ]
          go_simp
          go_at_call 40; refine (roll_any _ _ _ KX.out.beat (by omega)).mono ?_; rintro e wy ⟨r, rfl, hr1, hr2, hbt, hgb⟩
          have KY := hid (KX.out.go hgb hbt)
          obtain ⟨hNx, _, E4, E9, E14, E21, E22, E25, E31, E34, E35, E36, E37, E38, E39⟩ := HF.out
          refine putK (vs' := fun k => if k = 82 then .int .i64 r else vs k) hK.out (by kernel_rfl) ⟨KY.out.c (by simp), KY.out.c (by simp), KY.out.c (by simp), KY.out.c (by simp), (KY.out.i (v := .slice (some ⟨bs, os, none⟩) st.length cv) (xs := st) (by simp)).cell hms1⟩ ⟨Nat.le_trans hNx hgb.size, KY.out, fun h => (E4 h).later hgb hdN, fun h => (E9 h).later hgb hdN, fun h => (E14 h).later hgb hdN, fun h => E21 h, fun h => E22 h, fun h => by obtain ⟨r', h'⟩ := E25 h; exact ⟨r', h'.later hgb hdN⟩, fun _ => ⟨r, rfl⟩, fun h => by obtain ⟨r', h'⟩ := E34 h; exact ⟨r', h'.later hgb hdN⟩, fun h => (E35 h).later hgb hdN, fun h => (E36 h).later hgb hdN, fun h => (E37 h).later hgb hdN, fun h => by obtain ⟨r', h'⟩ := E38 h; exact ⟨r', h'.later hgb hdN⟩, fun h => by obtain ⟨r', h'⟩ := E39 h; exact ⟨r', h'.later hgb hdN⟩⟩
        refine StepS.cons (o := _) rfl (fun l vs wx hl haw hSw hF K' hK => ?_) ?_
        · have HF := hid hF
          have Haw := hid haw
          clear hF haw
          have KX := hid HF.out.2.1
          have hmk := Haw.out 31 (by kernel_rfl)
          have hex := HF.out.2.2.2.2.2.2.2.2.1 hmk
          clear hmk
          apply Exists.elim hex
          intro r hr
          clear hex
          simp only [putAll, Act.put, List.setIfInBounds_toArray, List.set_cons_zero, List.set_cons_succ]
          simp only [hr]
          go_simp
          have KY := hid (KX.out.alloc (.cells (List.toArray [.int .i64 place, .int .i64 r, .int .i64 place, .int .i64 place]) 3))
          obtain ⟨hNx, _, E4, E9, E14, E21, E22, E25, E31, E34, E35, E36, E37, E38, E39⟩ := HF.out
          refine putK (vs' := fun k => if k = 85 then .slice (some ⟨wx.heap.size, 0, none⟩) 4 4 else if k = 82 then .int .i64 r else vs k) hK.out (by kernel_rfl) ⟨KY.out.c (by simp), KY.out.c (by simp), KY.out.c (by simp), KY.out.c (by simp), (KY.out.i (v := .slice (some ⟨bs, os, none⟩) st.length cv) (xs := st) (by simp)).cell hms1⟩ ⟨Nat.le_trans hNx (below_alloc wx _).size, KY.out, fun h => (E4 h).later (gb_below (below_alloc wx _) (some w1.heap.size)) hdN, fun h => (E9 h).later (gb_below (below_alloc wx _) (some w1.heap.size)) hdN, fun h => (E14 h).later (gb_below (below_alloc wx _) (some w1.heap.size)) hdN, fun h => E21 h, fun h => E22 h, fun h => by obtain ⟨r', h'⟩ := E25 h; exact ⟨r', h'.later (gb_below (below_alloc wx _) (some w1.heap.size)) hdN⟩, fun _ => ⟨r, rfl⟩, fun _ => ⟨r, LitAt.new hNx⟩, fun h => (E35 h).later (gb_below (below_alloc wx _) (some w1.heap.size)) hdN, fun h => (E36 h).later (gb_below (below_alloc wx _) (some w1.heap.size)) hdN, fun h => (E37 h).later (gb_below (below_alloc wx _) (some w1.heap.size)) hdN, fun h => by obtain ⟨r', h'⟩ := E38 h; exact ⟨r', h'.later (gb_below (below_alloc wx _) (some w1.heap.size)) hdN⟩, fun h => by obtain ⟨r', h'⟩ := E39 h; exact ⟨r', h'.later (gb_below (below_alloc wx _) (some w1.heap.size)) hdN⟩⟩
        refine StepS.cons (o := _) rfl (fun l vs wx hl haw hSw hF K' hK => ?_) ?_
        · have HF := hid hF
          have Haw := hid haw
          clear hF haw
          have KX := hid HF.out.2.1
          simp only [putAll, Act.put, List.setIfInBounds_toArray, List.set_cons_zero, List.set_cons_succ]
          go_simp
          have KY := KX
          have hmk := Haw.out 4 (by kernel_rfl)
          obtain ⟨hNx, _, E4, E9, E14, E21, E22, E25, E31, E34, E35, E36, E37, E38, E39⟩ := HF.out
          refine putK (vs' := fun k => if k = 17 then vs 55 else vs k) hK.out (by kernel_rfl) ⟨KY.out.c (by simp), KY.out.c (by simp), KY.out.c (by simp), KY.out.c (by simp), (KY.out.i (v := .slice (some ⟨bs, os, none⟩) st.length cv) (xs := st) (by simp)).cell hms1⟩ ⟨hNx, KY.out, fun h => E4 h, fun h => E9 h, fun h => E14 h, fun h => E21 h, fun h => E22 h, fun h => E25 h, fun h => E31 h, fun h => E34 h, fun _ => E4 hmk, fun h => E36 h, fun h => E37 h, fun h => E38 h, fun h => E39 h⟩
        refine StepS.cons (o := _) rfl (fun l vs wx hl haw hSw hF K' hK => ?_) ?_
        · have HF := hid hF
          have Haw := hid haw
          clear hF haw
          have KX := hid HF.out.2.1
          simp only [putAll, Act.put, List.setIfInBounds_toArray, List.set_cons_zero, List.set_cons_succ]
          go_simp
          have KY := KX
          have hmk := Haw.out 9 (by kernel_rfl)
          obtain ⟨hNx, _, E4, E9, E14, E21, E22, E25, E31, E34, E35, E36, E37, E38, E39⟩ := HF.out
          refine putK (vs' := fun k => if k = 18 then vs 60 else vs k) hK.out (by kernel_rfl) ⟨KY.out.c (by simp), KY.out.c (by simp), KY.out.c (by simp), KY.out.c (by simp), (KY.out.i (v := .slice (some ⟨bs, os, none⟩) st.length cv) (xs := st) (by simp)).cell hms1⟩ ⟨hNx, KY.out, fun h => E4 h, fun h => E9 h, fun h => E14 h, fun h => E21 h, fun h => E22 h, fun h => E25 h, fun h => E31 h, fun h => E34 h, fun h => E35 h, fun _ => E9 hmk, fun h => E37 h, fun h => E38 h, fun h => E39 h⟩
        refine StepS.cons (o := _) rfl (fun l vs wx hl haw hSw hF K' hK => ?_) ?_
        · have HF := hid hF
          have Haw := hid haw
          clear hF haw
          have KX := hid HF.out.2.1
          simp only [putAll, Act.put, List.setIfInBounds_toArray, List.set_cons_zero, List.set_cons_succ]
          go_simp
          have KY := KX
          have hmk := Haw.out 14 (by kernel_rfl)
          obtain ⟨hNx, _, E4, E9, E14, E21, E22, E25, E31, E34, E35, E36, E37, E38, E39⟩ := HF.out
          refine putK (vs' := fun k => if k = 19 then vs 65 else vs k) hK.out (by kernel_rfl) ⟨KY.out.c (by simp), KY.out.c (by simp), KY.out.c (by simp), KY.out.c (by simp), (KY.out.i (v := .slice (some ⟨bs, os, none⟩) st.length cv) (xs := st) (by simp)).cell hms1⟩ ⟨hNx, KY.out, fun h => E4 h, fun h => E9 h, fun h => E14 h, fun h => E21 h, fun h => E22 h, fun h => E25 h, fun h => E31 h, fun h => E34 h, fun h => E35 h, fun h => E36 h, fun _ => E14 hmk, fun h => E38 h, fun h => E39 h⟩
        refine StepS.cons (o := _) rfl (fun l vs wx hl haw hSw hF K' hK => ?_) ?_
        · have HF := hid hF
          have Haw := hid haw
          clear hF haw
          have KX := hid HF.out.2.1
          simp only [putAll, Act.put, List.setIfInBounds_toArray, List.set_cons_zero, List.set_cons_succ]
          go_simp
          have KY := KX
          have hmk := Haw.out 25 (by kernel_rfl)
          obtain ⟨hNx, _, E4, E9, E14, E21, E22, E25, E31, E34, E35, E36, E37, E38, E39⟩ := HF.out
          refine putK (vs' := fun k => if k = 20 then vs 76 else vs k) hK.out (by kernel_rfl) ⟨KY.out.c (by simp), KY.out.c (by simp), KY.out.c (by simp), KY.out.c (by simp), (KY.out.i (v := .slice (some ⟨bs, os, none⟩) st.length cv) (xs := st) (by simp)).cell hms1⟩ ⟨hNx, KY.out, fun h => E4 h, fun h => E9 h, fun h => E14 h, fun h => E21 h, fun h => E22 h, fun h => E25 h, fun h => E31 h, fun h => E34 h, fun h => E35 h, fun h => E36 h, fun h => E37 h, fun _ => E25 hmk, fun h => E39 h⟩
        refine StepS.cons (o := _) rfl (fun l vs wx hl haw hSw hF K' hK => ?_) ?_
        · have HF := hid hF
          have Haw := hid haw
          clear hF haw
          have KX := hid HF.out.2.1
          simp only [putAll, Act.put, List.setIfInBounds_toArray, List.set_cons_zero, List.set_cons_succ]
          go_simp
          have KY := KX
          have hmk := Haw.out 34 (by kernel_rfl)
          obtain ⟨hNx, _, E4, E9, E14, E21, E22, E25, E31, E34, E35, E36, E37, E38, E39⟩ := HF.out
          refine putK (vs' := fun k => if k = 21 then vs 85 else vs k) hK.out (by kernel_rfl) ⟨KY.out.c (by simp), KY.out.c (by simp), KY.out.c (by simp), KY.out.c (by simp), (KY.out.i (v := .slice (some ⟨bs, os, none⟩) st.length cv) (xs := st) (by simp)).cell hms1⟩ ⟨hNx, KY.out, fun h => E4 h, fun h => E9 h, fun h => E14 h, fun h => E21 h, fun h => E22 h, fun h => E25 h, fun h => E31 h, fun h => E34 h, fun h => E35 h, fun h => E36 h, fun h => E37 h, fun h => E38 h, fun _ => E34 hmk⟩
        exact StepS.nil
      · intro l vs wx hall hSw hF
        obtain ⟨hNx, KX, E4, E9, E14, E21, E22, E25, E31, E34, E35, E36, E37, E38, E39⟩ := hF
        have h35 := E35 (hall 35 (by simp))
        obtain ⟨SS, es, bs1, _, cs1⟩ := h35
        have h36 := E36 (hall 36 (by simp))
        obtain ⟨LS, el, bs2, _, cs2⟩ := h36
        have h37 := E37 (hall 37 (by simp))
        obtain ⟨WI, ew, bs3, _, cs3⟩ := h37
        have h38 := E38 (hall 38 (by simp))
        obtain ⟨t, SE, et, bs4, _, cs4⟩ := h38
        have h39 := E39 (hall 39 (by simp))
        obtain ⟨x, PL, ep, bs5, _, cs5⟩ := h39
        clear E4 E9 E14 E21 E22 E25 E31 E34 E35 E36 E37 E38 E39 hall
        simp only [putAll, Act.put, List.setIfInBounds_toArray, List.set_cons_zero, List.set_cons_succ]
        simp only [es, el, ew, et, ep]
        apply NoPanic.normal
        have K : Hid (LK w1.heap.size [(SS, 0, .int .i64 route0), (SS, 1, .slice aw0 ws0.length cap0), (SS, 2, .int .i64 route), (SS, 3, .slice (some ⟨bw, ow, none⟩) ws.length cap), (SS, 4, .int .i64 route), (SS, 5, .slice (some ⟨bw, ow, none⟩) ws.length cap), (SS, 6, .int .i64 route), (SS, 7, .slice (some ⟨bw, ow, none⟩) ws.length cap), (LS, 0, .slice as0 st0.length cas0), (LS, 1, .slice (some ⟨bs, os, none⟩) st.length cv), (LS, 2, .slice (some ⟨bs, os, none⟩) st.length cv), (LS, 3, .slice (some ⟨bs, os, none⟩) st.length cv), (WI, 0, .int .i64 wing), (WI, 1, .int .i64 m), (WI, 2, .int .i64 m), (WI, 3, .int .i64 wing), (SE, 0, .int .i64 second), (SE, 1, .int .i64 t), (SE, 2, .int .i64 second), (SE, 3, .int .i64 second), (PL, 0, .int .i64 place), (PL, 1, .int .i64 x), (PL, 2, .int .i64 place), (PL, 3, .int .i64 place)] [(.slice (some ⟨bs, os, none⟩) st.length cv, st), (.slice ax xs.length cx, xs), (.slice as0 st0.length cas0, st0)] [(.slice (some ⟨bw, ow, none⟩) ws.length cap, ws), (.slice aw0 ws0.length cap0, ws0)] w wx) := hid (KS.out.addLit (KS.out.addLit (KS.out.addLit (KS.out.addLit (KS.out.addLit (KX.sub (cs2 := []) (fun _ h => by cases h)) (hN ▸ bs5) cs5) (hN ▸ bs4) cs4) (hN ▸ bs3) cs3) (hN ▸ bs2) cs2) (hN ▸ bs1) cs1)
        clear KX KS cs1 cs2 cs3 cs4 cs5 bs1 bs2 bs3 bs4 bs5 es el ew et ep hSw hNx hHeld hSd
        go_wp2_with fail
        go_loopw [22] (fun i wr => ∃ k : Nat, k ≤ 4 ∧ i = .int .i64 k ∧ LK w1.heap.size [(SS, 0, .int .i64 route0), (SS, 1, .slice aw0 ws0.length cap0), (SS, 2, .int .i64 route), (SS, 3, .slice (some ⟨bw, ow, none⟩) ws.length cap), (SS, 4, .int .i64 route), (SS, 5, .slice (some ⟨bw, ow, none⟩) ws.length cap), (SS, 6, .int .i64 route), (SS, 7, .slice (some ⟨bw, ow, none⟩) ws.length cap), (LS, 0, .slice as0 st0.length cas0), (LS, 1, .slice (some ⟨bs, os, none⟩) st.length cv), (LS, 2, .slice (some ⟨bs, os, none⟩) st.length cv), (LS, 3, .slice (some ⟨bs, os, none⟩) st.length cv), (WI, 0, .int .i64 wing), (WI, 1, .int .i64 m), (WI, 2, .int .i64 m), (WI, 3, .int .i64 wing), (SE, 0, .int .i64 second), (SE, 1, .int .i64 t), (SE, 2, .int .i64 second), (SE, 3, .int .i64 second), (PL, 0, .int .i64 place), (PL, 1, .int .i64 x), (PL, 2, .int .i64 place), (PL, 3, .int .i64 place)] [(.slice (some ⟨bs, os, none⟩) st.length cv, st), (.slice ax xs.length cx, xs), (.slice as0 st0.length cas0, st0)] [(.slice (some ⟨bw, ow, none⟩) ws.length cap, ws), (.slice aw0 ws0.length cap0, ws0)] w wr)
          (fun i _ => 4 - (intOf i).toNat)
        case atStart => exact ⟨0, by omega, rfl, K.out⟩
        case round =>
          as_aux_lemma =>
          obtain ⟨k, hk, rfl, KK⟩ := hrel
          by_cases hlt : k < 4
          · obtain ⟨rt, vq, wq, vr, sq, gi, sc, pl, m0, m1, m2, m3, m4, m5, mW, mS, gn, gnm, gns⟩ : ∃ (rt : Int) (vq : Value) (wq : List Wing) (vr : Value) (sq : List Int) (gi sc pl : Int), (SS, k * 2, Value.int .i64 rt) ∈ ([(SS, 0, .int .i64 route0), (SS, 1, .slice aw0 ws0.length cap0), (SS, 2, .int .i64 route), (SS, 3, .slice (some ⟨bw, ow, none⟩) ws.length cap), (SS, 4, .int .i64 route), (SS, 5, .slice (some ⟨bw, ow, none⟩) ws.length cap), (SS, 6, .int .i64 route), (SS, 7, .slice (some ⟨bw, ow, none⟩) ws.length cap), (LS, 0, .slice as0 st0.length cas0), (LS, 1, .slice (some ⟨bs, os, none⟩) st.length cv), (LS, 2, .slice (some ⟨bs, os, none⟩) st.length cv), (LS, 3, .slice (some ⟨bs, os, none⟩) st.length cv), (WI, 0, .int .i64 wing), (WI, 1, .int .i64 m), (WI, 2, .int .i64 m), (WI, 3, .int .i64 wing), (SE, 0, .int .i64 second), (SE, 1, .int .i64 t), (SE, 2, .int .i64 second), (SE, 3, .int .i64 second), (PL, 0, .int .i64 place), (PL, 1, .int .i64 x), (PL, 2, .int .i64 place), (PL, 3, .int .i64 place)] : Cells) ∧ (SS, k * 2 + 1, vq) ∈ ([(SS, 0, .int .i64 route0), (SS, 1, .slice aw0 ws0.length cap0), (SS, 2, .int .i64 route), (SS, 3, .slice (some ⟨bw, ow, none⟩) ws.length cap), (SS, 4, .int .i64 route), (SS, 5, .slice (some ⟨bw, ow, none⟩) ws.length cap), (SS, 6, .int .i64 route), (SS, 7, .slice (some ⟨bw, ow, none⟩) ws.length cap), (LS, 0, .slice as0 st0.length cas0), (LS, 1, .slice (some ⟨bs, os, none⟩) st.length cv), (LS, 2, .slice (some ⟨bs, os, none⟩) st.length cv), (LS, 3, .slice (some ⟨bs, os, none⟩) st.length cv), (WI, 0, .int .i64 wing), (WI, 1, .int .i64 m), (WI, 2, .int .i64 m), (WI, 3, .int .i64 wing), (SE, 0, .int .i64 second), (SE, 1, .int .i64 t), (SE, 2, .int .i64 second), (SE, 3, .int .i64 second), (PL, 0, .int .i64 place), (PL, 1, .int .i64 x), (PL, 2, .int .i64 place), (PL, 3, .int .i64 place)] : Cells) ∧ (LS, k, vr) ∈ ([(SS, 0, .int .i64 route0), (SS, 1, .slice aw0 ws0.length cap0), (SS, 2, .int .i64 route), (SS, 3, .slice (some ⟨bw, ow, none⟩) ws.length cap), (SS, 4, .int .i64 route), (SS, 5, .slice (some ⟨bw, ow, none⟩) ws.length cap), (SS, 6, .int .i64 route), (SS, 7, .slice (some ⟨bw, ow, none⟩) ws.length cap), (LS, 0, .slice as0 st0.length cas0), (LS, 1, .slice (some ⟨bs, os, none⟩) st.length cv), (LS, 2, .slice (some ⟨bs, os, none⟩) st.length cv), (LS, 3, .slice (some ⟨bs, os, none⟩) st.length cv), (WI, 0, .int .i64 wing), (WI, 1, .int .i64 m), (WI, 2, .int .i64 m), (WI, 3, .int .i64 wing), (SE, 0, .int .i64 second), (SE, 1, .int .i64 t), (SE, 2, .int .i64 second), (SE, 3, .int .i64 second), (PL, 0, .int .i64 place), (PL, 1, .int .i64 x), (PL, 2, .int .i64 place), (PL, 3, .int .i64 place)] : Cells) ∧ (WI, k, Value.int .i64 gi) ∈ ([(SS, 0, .int .i64 route0), (SS, 1, .slice aw0 ws0.length cap0), (SS, 2, .int .i64 route), (SS, 3, .slice (some ⟨bw, ow, none⟩) ws.length cap), (SS, 4, .int .i64 route), (SS, 5, .slice (some ⟨bw, ow, none⟩) ws.length cap), (SS, 6, .int .i64 route), (SS, 7, .slice (some ⟨bw, ow, none⟩) ws.length cap), (LS, 0, .slice as0 st0.length cas0), (LS, 1, .slice (some ⟨bs, os, none⟩) st.length cv), (LS, 2, .slice (some ⟨bs, os, none⟩) st.length cv), (LS, 3, .slice (some ⟨bs, os, none⟩) st.length cv), (WI, 0, .int .i64 wing), (WI, 1, .int .i64 m), (WI, 2, .int .i64 m), (WI, 3, .int .i64 wing), (SE, 0, .int .i64 second), (SE, 1, .int .i64 t), (SE, 2, .int .i64 second), (SE, 3, .int .i64 second), (PL, 0, .int .i64 place), (PL, 1, .int .i64 x), (PL, 2, .int .i64 place), (PL, 3, .int .i64 place)] : Cells) ∧ (SE, k, Value.int .i64 sc) ∈ ([(SS, 0, .int .i64 route0), (SS, 1, .slice aw0 ws0.length cap0), (SS, 2, .int .i64 route), (SS, 3, .slice (some ⟨bw, ow, none⟩) ws.length cap), (SS, 4, .int .i64 route), (SS, 5, .slice (some ⟨bw, ow, none⟩) ws.length cap), (SS, 6, .int .i64 route), (SS, 7, .slice (some ⟨bw, ow, none⟩) ws.length cap), (LS, 0, .slice as0 st0.length cas0), (LS, 1, .slice (some ⟨bs, os, none⟩) st.length cv), (LS, 2, .slice (some ⟨bs, os, none⟩) st.length cv), (LS, 3, .slice (some ⟨bs, os, none⟩) st.length cv), (WI, 0, .int .i64 wing), (WI, 1, .int .i64 m), (WI, 2, .int .i64 m), (WI, 3, .int .i64 wing), (SE, 0, .int .i64 second), (SE, 1, .int .i64 t), (SE, 2, .int .i64 second), (SE, 3, .int .i64 second), (PL, 0, .int .i64 place), (PL, 1, .int .i64 x), (PL, 2, .int .i64 place), (PL, 3, .int .i64 place)] : Cells) ∧ (PL, k, Value.int .i64 pl) ∈ ([(SS, 0, .int .i64 route0), (SS, 1, .slice aw0 ws0.length cap0), (SS, 2, .int .i64 route), (SS, 3, .slice (some ⟨bw, ow, none⟩) ws.length cap), (SS, 4, .int .i64 route), (SS, 5, .slice (some ⟨bw, ow, none⟩) ws.length cap), (SS, 6, .int .i64 route), (SS, 7, .slice (some ⟨bw, ow, none⟩) ws.length cap), (LS, 0, .slice as0 st0.length cas0), (LS, 1, .slice (some ⟨bs, os, none⟩) st.length cv), (LS, 2, .slice (some ⟨bs, os, none⟩) st.length cv), (LS, 3, .slice (some ⟨bs, os, none⟩) st.length cv), (WI, 0, .int .i64 wing), (WI, 1, .int .i64 m), (WI, 2, .int .i64 m), (WI, 3, .int .i64 wing), (SE, 0, .int .i64 second), (SE, 1, .int .i64 t), (SE, 2, .int .i64 second), (SE, 3, .int .i64 second), (PL, 0, .int .i64 place), (PL, 1, .int .i64 x), (PL, 2, .int .i64 place), (PL, 3, .int .i64 place)] : Cells) ∧ (vq, wq) ∈ ([(.slice (some ⟨bw, ow, none⟩) ws.length cap, ws), (.slice aw0 ws0.length cap0, ws0)] : List (Value × List Wing)) ∧ (vr, sq) ∈ ([(.slice (some ⟨bs, os, none⟩) st.length cv, st), (.slice ax xs.length cx, xs), (.slice as0 st0.length cas0, st0)] : List (Value × List Int)) ∧
                wq.length ≤ 100 ∧ (∀ i, i < wq.length → (wg wq i).name.size ≤ 1000000) ∧ sq.length ≤ 1000000 := by
              have hx0 : ∀ i, i < ws0.length → (wg ws0 i).name.size ≤ 1000000 := fun i hi => by have := hl2 i hi; omega
              have hx1 := made_size hm h8
              have hx2 : st.length ≤ 1000000 := by have := Hls.out; omega
              rcases (by omega : k = 0 ∨ k = 1 ∨ k = 2 ∨ k = 3) with rfl | rfl | rfl | rfl
              · exact ⟨route0, .slice aw0 ws0.length cap0, ws0, .slice as0 st0.length cas0, st0, wing, second, place, by simp, by simp, by simp, by simp, by simp, by simp, by simp, by simp, by omega, hx0, by omega⟩
              · exact ⟨route, .slice (some ⟨bw, ow, none⟩) ws.length cap, ws, .slice (some ⟨bs, os, none⟩) st.length cv, st, m, t, x, by simp, by simp, by simp, by simp, by simp, by simp, by simp, by simp, by omega, hx1, hx2⟩
              · exact ⟨route, .slice (some ⟨bw, ow, none⟩) ws.length cap, ws, .slice (some ⟨bs, os, none⟩) st.length cv, st, m, second, place, by simp, by simp, by simp, by simp, by simp, by simp, by simp, by simp, by omega, hx1, hx2⟩
              · exact ⟨route, .slice (some ⟨bw, ow, none⟩) ws.length cap, ws, .slice (some ⟨bs, os, none⟩) st.length cv, st, wing, second, place, by simp, by simp, by simp, by simp, by simp, by simp, by simp, by simp, by omega, hx1, hx2⟩
            obtain ⟨aq, cq, rfl, _⟩ := KK.g mW
            obtain ⟨ar, cr, rfl, _⟩ := KK.i mS
            have K := hid KK
            clear KK
            obtain ⟨P, hP⟩ : ∃ P, whereSpan rt wq sq gi sc = P := ⟨_, rfl⟩
            obtain ⟨E, hE⟩ : ∃ E, askedErr rt wq sq gi sc = E := ⟨_, rfl⟩
            obtain ⟨Q, hQ⟩ : ∃ Q, passSpan rt wq sq gi pl = Q := ⟨_, rfl⟩
            obtain ⟨G, hG⟩ : ∃ G, passErr rt wq sq gi pl = G := ⟨_, rfl⟩
            obtain ⟨P1, P2⟩ := P
            obtain ⟨Q1, Q2⟩ := Q
            have hp0 : ∀ W', WgAt none W' (.slice aq wq.length cq) wq → IntsAt none W' (.slice ar sq.length cr) sq → Calls Tryd.prog 45 #[.agg #[.int .i64 rt, .slice aq wq.length cq], .slice ar sq.length cr, .int .i64 gi, .int .i64 sc] W' (fun e w' => e = .returned (.tuple #[.agg #[.int .i64 P1, .int .i64 P2], .int .i64 E]) ∧ Below W'.heap.size W' w') := fun W' h1 h2 => by
              have h := where_any wq sq rt gi sc _ _ W' h1 h2 gn gnm gns
              rw [hP, hE] at h
              exact h
            have Hp0 := hid hp0
            clear hp0
            have hp1 : ∀ W', WgAt none W' (.slice aq wq.length cq) wq → IntsAt none W' (.slice ar sq.length cr) sq → Calls Tryd.prog 46 #[.agg #[.int .i64 rt, .slice aq wq.length cq], .slice ar sq.length cr, .int .i64 gi, .int .i64 sc] W' (fun e w' => e = .returned (.tuple #[.agg #[.int .i64 P1, .int .i64 P2], .int .i64 E]) ∧ Below W'.heap.size W' w') := fun W' h1 h2 => by
              have h := rwhere_any wq sq rt gi sc _ _ W' h1 h2 gn gnm gns
              rw [hP, hE] at h
              exact h
            have Hp1 := hid hp1
            clear hp1
            have hp2 : ∀ W', WgAt none W' (.slice aq wq.length cq) wq → IntsAt none W' (.slice ar sq.length cr) sq → Calls Tryd.prog 41 #[.agg #[.int .i64 rt, .slice aq wq.length cq], .slice ar sq.length cr, .int .i64 gi, .int .i64 pl] W' (fun e w' => e = .returned (.tuple #[.agg #[.int .i64 Q1, .int .i64 Q2], .int .i64 G]) ∧ Below W'.heap.size W' w') := fun W' h1 h2 => by
              have h := ppasses_any wq sq rt gi pl _ _ W' h1 h2 gn gnm gns
              rw [hQ, hG] at h
              exact h
            have Hp2 := hid hp2
            clear hp2
            have hp3 : ∀ W', WgAt none W' (.slice aq wq.length cq) wq → IntsAt none W' (.slice ar sq.length cr) sq → Calls Tryd.prog 47 #[.agg #[.int .i64 rt, .slice aq wq.length cq], .slice ar sq.length cr, .int .i64 gi, .int .i64 pl] W' (fun e w' => e = .returned (.tuple #[.agg #[.int .i64 Q1, .int .i64 Q2], .int .i64 G]) ∧ Below W'.heap.size W' w') := fun W' h1 h2 => by
              have h := rpasses_any wq sq rt gi pl _ _ W' h1 h2 gn gnm gns
              rw [hQ, hG] at h
              exact h
            have Hp3 := hid hp3
            clear hp3
            have hlt4 : (k : Int) < 4 := by omega
            clear hP hE hQ hG
            obtain ⟨wo, rfl⟩ : ∃ wo : World, wo = wr := ⟨_, rfl⟩
            have hneq := fun b o v h => Nat.ne_of_lt (K.out.clt (b := b) (o := o) (v := v) h)
            have Hneq := hid hneq
            clear hneq
            go_wp2_with fail
            go_cut [23, 24] from 86 to 189 (fun sz se wx => ∃ Z : Nat, sz = .pointer (some ⟨Z, 0, none⟩) ∧ se = .int .i64 E ∧ LK w1.heap.size ((Z, 0, .int .i64 P1) :: (Z, 1, .int .i64 P2) :: [(SS, 0, .int .i64 route0), (SS, 1, .slice aw0 ws0.length cap0), (SS, 2, .int .i64 route), (SS, 3, .slice (some ⟨bw, ow, none⟩) ws.length cap), (SS, 4, .int .i64 route), (SS, 5, .slice (some ⟨bw, ow, none⟩) ws.length cap), (SS, 6, .int .i64 route), (SS, 7, .slice (some ⟨bw, ow, none⟩) ws.length cap), (LS, 0, .slice as0 st0.length cas0), (LS, 1, .slice (some ⟨bs, os, none⟩) st.length cv), (LS, 2, .slice (some ⟨bs, os, none⟩) st.length cv), (LS, 3, .slice (some ⟨bs, os, none⟩) st.length cv), (WI, 0, .int .i64 wing), (WI, 1, .int .i64 m), (WI, 2, .int .i64 m), (WI, 3, .int .i64 wing), (SE, 0, .int .i64 second), (SE, 1, .int .i64 t), (SE, 2, .int .i64 second), (SE, 3, .int .i64 second), (PL, 0, .int .i64 place), (PL, 1, .int .i64 x), (PL, 2, .int .i64 place), (PL, 3, .int .i64 place)]) [(.slice (some ⟨bs, os, none⟩) st.length cv, st), (.slice ax xs.length cx, xs), (.slice as0 st0.length cas0, st0)] [(.slice (some ⟨bw, ow, none⟩) ws.length cap, ws), (.slice aw0 ws0.length cap0, ws0)] w wx)
            case first =>
              go_region_held3 (fun w' => w'.cell? ⟨SS, k * 2, none⟩ = some (.int .i64 rt) ∧ w'.cell? ⟨SS, k * 2 + 1, none⟩ = some (.slice aq wq.length cq) ∧ w'.cell? ⟨LS, k, none⟩ = some (.slice ar sq.length cr) ∧ w'.cell? ⟨WI, k, none⟩ = some (.int .i64 gi) ∧ w'.cell? ⟨SE, k, none⟩ = some (.int .i64 sc))
                (first | with_reducible exact ⟨K.out.drew.c m0, K.out.drew.c m1, K.out.drew.c m2, K.out.drew.c m3, K.out.drew.c m4⟩ | with_reducible exact ⟨K.out.c m0, K.out.c m1, K.out.c m2, K.out.c m3, K.out.c m4⟩ | with_reducible exact ⟨K.out.c (List.mem_cons_of_mem _ (List.mem_cons_of_mem _ m0)), K.out.c (List.mem_cons_of_mem _ (List.mem_cons_of_mem _ m1)), K.out.c (List.mem_cons_of_mem _ (List.mem_cons_of_mem _ m2)), K.out.c (List.mem_cons_of_mem _ (List.mem_cons_of_mem _ m3)), K.out.c (List.mem_cons_of_mem _ (List.mem_cons_of_mem _ m4))⟩ | with_reducible exact ⟨(K.out.alloc _).drew.c m0, (K.out.alloc _).drew.c m1, (K.out.alloc _).drew.c m2, (K.out.alloc _).drew.c m3, (K.out.alloc _).drew.c m4⟩ | with_reducible exact ⟨(K.out.alloc _).c m0, (K.out.alloc _).c m1, (K.out.alloc _).c m2, (K.out.alloc _).c m3, (K.out.alloc _).c m4⟩ | with_reducible exact ⟨(K.out.put2 Hneq.out).c (List.mem_cons_of_mem _ (List.mem_cons_of_mem _ m0)), (K.out.put2 Hneq.out).c (List.mem_cons_of_mem _ (List.mem_cons_of_mem _ m1)), (K.out.put2 Hneq.out).c (List.mem_cons_of_mem _ (List.mem_cons_of_mem _ m2)), (K.out.put2 Hneq.out).c (List.mem_cons_of_mem _ (List.mem_cons_of_mem _ m3)), (K.out.put2 Hneq.out).c (List.mem_cons_of_mem _ (List.mem_cons_of_mem _ m4))⟩) (first
                | (go_at_call 45; refine (Hp0.out _ (by first | with_reducible exact (K.out.drew.g mW).any | exact ((K.out.alloc _).drew.g mW).any) (by first | with_reducible exact (K.out.drew.i mS).any | exact ((K.out.alloc _).drew.i mS).any)).mono ?_; rintro e w12 ⟨rfl, hb⟩; (first | (with_reducible have K := hid (K.out.drew.later hb)) | (have K := hid ((K.out.box2 (.int .i64 0) (.int .i64 0) 27).drew.later hb); have z0 := K.out.c (o := 0) (v := .int .i64 0) (List.Mem.head _); have z1 := K.out.c (o := 1) (v := .int .i64 0) (List.Mem.tail _ (List.Mem.head _)); have y0 := K.out.f (o := 0) (v := .int .i64 0) (List.Mem.head _); have y1 := K.out.f (o := 1) (v := .int .i64 0) (List.Mem.tail _ (List.Mem.head _)))); clear hb))
              all_goals (
                go_wp2_with fail
                go_meet
                refine ⟨_, rfl, rfl, ?_⟩
                first
                  | with_reducible exact K.out.put2 Hneq.out
                  | exact K.out.box2 (.int .i64 P1) (.int .i64 P2) 27)
            case rest =>
              obtain ⟨Z0, rfl, rfl, KK⟩ := hcut
              have K := hid KK
              clear KK Hneq
              obtain ⟨wp0, rfl⟩ : ∃ wp : World, wp = wc := ⟨_, rfl⟩
              replace m0 := List.mem_cons_of_mem (Z0, 0, Value.int .i64 P1) (List.mem_cons_of_mem (Z0, 1, Value.int .i64 P2) m0)
              replace m1 := List.mem_cons_of_mem (Z0, 0, Value.int .i64 P1) (List.mem_cons_of_mem (Z0, 1, Value.int .i64 P2) m1)
              replace m2 := List.mem_cons_of_mem (Z0, 0, Value.int .i64 P1) (List.mem_cons_of_mem (Z0, 1, Value.int .i64 P2) m2)
              replace m3 := List.mem_cons_of_mem (Z0, 0, Value.int .i64 P1) (List.mem_cons_of_mem (Z0, 1, Value.int .i64 P2) m3)
              replace m4 := List.mem_cons_of_mem (Z0, 0, Value.int .i64 P1) (List.mem_cons_of_mem (Z0, 1, Value.int .i64 P2) m4)
              replace m5 := List.mem_cons_of_mem (Z0, 0, Value.int .i64 P1) (List.mem_cons_of_mem (Z0, 1, Value.int .i64 P2) m5)
              have hneq := fun b o v h => Nat.ne_of_lt (K.out.clt (b := b) (o := o) (v := v) h)
              have Hneq := hid hneq
              clear hneq
              go_wp2_with fail
              go_cut [25, 26] from 86 to 189 (fun sz se wx => ∃ Z : Nat, sz = .pointer (some ⟨Z, 0, none⟩) ∧ se = .int .i64 E ∧ LK w1.heap.size ((Z, 0, .int .i64 P1) :: (Z, 1, .int .i64 P2) :: (Z0, 0, .int .i64 P1) :: (Z0, 1, .int .i64 P2) :: [(SS, 0, .int .i64 route0), (SS, 1, .slice aw0 ws0.length cap0), (SS, 2, .int .i64 route), (SS, 3, .slice (some ⟨bw, ow, none⟩) ws.length cap), (SS, 4, .int .i64 route), (SS, 5, .slice (some ⟨bw, ow, none⟩) ws.length cap), (SS, 6, .int .i64 route), (SS, 7, .slice (some ⟨bw, ow, none⟩) ws.length cap), (LS, 0, .slice as0 st0.length cas0), (LS, 1, .slice (some ⟨bs, os, none⟩) st.length cv), (LS, 2, .slice (some ⟨bs, os, none⟩) st.length cv), (LS, 3, .slice (some ⟨bs, os, none⟩) st.length cv), (WI, 0, .int .i64 wing), (WI, 1, .int .i64 m), (WI, 2, .int .i64 m), (WI, 3, .int .i64 wing), (SE, 0, .int .i64 second), (SE, 1, .int .i64 t), (SE, 2, .int .i64 second), (SE, 3, .int .i64 second), (PL, 0, .int .i64 place), (PL, 1, .int .i64 x), (PL, 2, .int .i64 place), (PL, 3, .int .i64 place)]) [(.slice (some ⟨bs, os, none⟩) st.length cv, st), (.slice ax xs.length cx, xs), (.slice as0 st0.length cas0, st0)] [(.slice (some ⟨bw, ow, none⟩) ws.length cap, ws), (.slice aw0 ws0.length cap0, ws0)] w wx)
              case first =>
                go_region_held3 (fun w' => w'.cell? ⟨SS, k * 2, none⟩ = some (.int .i64 rt) ∧ w'.cell? ⟨SS, k * 2 + 1, none⟩ = some (.slice aq wq.length cq) ∧ w'.cell? ⟨LS, k, none⟩ = some (.slice ar sq.length cr) ∧ w'.cell? ⟨WI, k, none⟩ = some (.int .i64 gi) ∧ w'.cell? ⟨SE, k, none⟩ = some (.int .i64 sc))
                  (first | with_reducible exact ⟨K.out.drew.c m0, K.out.drew.c m1, K.out.drew.c m2, K.out.drew.c m3, K.out.drew.c m4⟩ | with_reducible exact ⟨K.out.c m0, K.out.c m1, K.out.c m2, K.out.c m3, K.out.c m4⟩ | with_reducible exact ⟨K.out.c (List.mem_cons_of_mem _ (List.mem_cons_of_mem _ m0)), K.out.c (List.mem_cons_of_mem _ (List.mem_cons_of_mem _ m1)), K.out.c (List.mem_cons_of_mem _ (List.mem_cons_of_mem _ m2)), K.out.c (List.mem_cons_of_mem _ (List.mem_cons_of_mem _ m3)), K.out.c (List.mem_cons_of_mem _ (List.mem_cons_of_mem _ m4))⟩ | with_reducible exact ⟨(K.out.alloc _).drew.c m0, (K.out.alloc _).drew.c m1, (K.out.alloc _).drew.c m2, (K.out.alloc _).drew.c m3, (K.out.alloc _).drew.c m4⟩ | with_reducible exact ⟨(K.out.alloc _).c m0, (K.out.alloc _).c m1, (K.out.alloc _).c m2, (K.out.alloc _).c m3, (K.out.alloc _).c m4⟩ | with_reducible exact ⟨(K.out.put2 Hneq.out).c (List.mem_cons_of_mem _ (List.mem_cons_of_mem _ m0)), (K.out.put2 Hneq.out).c (List.mem_cons_of_mem _ (List.mem_cons_of_mem _ m1)), (K.out.put2 Hneq.out).c (List.mem_cons_of_mem _ (List.mem_cons_of_mem _ m2)), (K.out.put2 Hneq.out).c (List.mem_cons_of_mem _ (List.mem_cons_of_mem _ m3)), (K.out.put2 Hneq.out).c (List.mem_cons_of_mem _ (List.mem_cons_of_mem _ m4))⟩) (first
                  | (go_at_call 46; refine (Hp1.out _ (by first | with_reducible exact (K.out.drew.g mW).any | exact ((K.out.alloc _).drew.g mW).any) (by first | with_reducible exact (K.out.drew.i mS).any | exact ((K.out.alloc _).drew.i mS).any)).mono ?_; rintro e w12 ⟨rfl, hb⟩; (first | (with_reducible have K := hid (K.out.drew.later hb)) | (have K := hid ((K.out.box2 (.int .i64 0) (.int .i64 0) 27).drew.later hb); have z0 := K.out.c (o := 0) (v := .int .i64 0) (List.Mem.head _); have z1 := K.out.c (o := 1) (v := .int .i64 0) (List.Mem.tail _ (List.Mem.head _)); have y0 := K.out.f (o := 0) (v := .int .i64 0) (List.Mem.head _); have y1 := K.out.f (o := 1) (v := .int .i64 0) (List.Mem.tail _ (List.Mem.head _)))); clear hb))
                all_goals (
                  go_wp2_with fail
                  go_meet
                  refine ⟨_, rfl, rfl, ?_⟩
                  first
                    | with_reducible exact K.out.put2 Hneq.out
                    | exact K.out.box2 (.int .i64 P1) (.int .i64 P2) 27)
              case rest =>
                obtain ⟨Z1, rfl, rfl, KK⟩ := hcut
                have K := hid KK
                clear KK Hneq
                obtain ⟨wp1, rfl⟩ : ∃ wp : World, wp = wc := ⟨_, rfl⟩
                replace m0 := List.mem_cons_of_mem (Z1, 0, Value.int .i64 P1) (List.mem_cons_of_mem (Z1, 1, Value.int .i64 P2) m0)
                replace m1 := List.mem_cons_of_mem (Z1, 0, Value.int .i64 P1) (List.mem_cons_of_mem (Z1, 1, Value.int .i64 P2) m1)
                replace m2 := List.mem_cons_of_mem (Z1, 0, Value.int .i64 P1) (List.mem_cons_of_mem (Z1, 1, Value.int .i64 P2) m2)
                replace m3 := List.mem_cons_of_mem (Z1, 0, Value.int .i64 P1) (List.mem_cons_of_mem (Z1, 1, Value.int .i64 P2) m3)
                replace m4 := List.mem_cons_of_mem (Z1, 0, Value.int .i64 P1) (List.mem_cons_of_mem (Z1, 1, Value.int .i64 P2) m4)
                replace m5 := List.mem_cons_of_mem (Z1, 0, Value.int .i64 P1) (List.mem_cons_of_mem (Z1, 1, Value.int .i64 P2) m5)
                have hneq := fun b o v h => Nat.ne_of_lt (K.out.clt (b := b) (o := o) (v := v) h)
                have Hneq := hid hneq
                clear hneq
                go_wp2_with fail
                go_cut [27, 28] from 86 to 189 (fun sz se wx => ∃ Z : Nat, sz = .pointer (some ⟨Z, 0, none⟩) ∧ se = .int .i64 G ∧ LK w1.heap.size ((Z, 0, .int .i64 Q1) :: (Z, 1, .int .i64 Q2) :: (Z1, 0, .int .i64 P1) :: (Z1, 1, .int .i64 P2) :: (Z0, 0, .int .i64 P1) :: (Z0, 1, .int .i64 P2) :: [(SS, 0, .int .i64 route0), (SS, 1, .slice aw0 ws0.length cap0), (SS, 2, .int .i64 route), (SS, 3, .slice (some ⟨bw, ow, none⟩) ws.length cap), (SS, 4, .int .i64 route), (SS, 5, .slice (some ⟨bw, ow, none⟩) ws.length cap), (SS, 6, .int .i64 route), (SS, 7, .slice (some ⟨bw, ow, none⟩) ws.length cap), (LS, 0, .slice as0 st0.length cas0), (LS, 1, .slice (some ⟨bs, os, none⟩) st.length cv), (LS, 2, .slice (some ⟨bs, os, none⟩) st.length cv), (LS, 3, .slice (some ⟨bs, os, none⟩) st.length cv), (WI, 0, .int .i64 wing), (WI, 1, .int .i64 m), (WI, 2, .int .i64 m), (WI, 3, .int .i64 wing), (SE, 0, .int .i64 second), (SE, 1, .int .i64 t), (SE, 2, .int .i64 second), (SE, 3, .int .i64 second), (PL, 0, .int .i64 place), (PL, 1, .int .i64 x), (PL, 2, .int .i64 place), (PL, 3, .int .i64 place)]) [(.slice (some ⟨bs, os, none⟩) st.length cv, st), (.slice ax xs.length cx, xs), (.slice as0 st0.length cas0, st0)] [(.slice (some ⟨bw, ow, none⟩) ws.length cap, ws), (.slice aw0 ws0.length cap0, ws0)] w wx)
                case first =>
                  go_region_held3 (fun w' => w'.cell? ⟨SS, k * 2, none⟩ = some (.int .i64 rt) ∧ w'.cell? ⟨SS, k * 2 + 1, none⟩ = some (.slice aq wq.length cq) ∧ w'.cell? ⟨LS, k, none⟩ = some (.slice ar sq.length cr) ∧ w'.cell? ⟨WI, k, none⟩ = some (.int .i64 gi) ∧ w'.cell? ⟨PL, k, none⟩ = some (.int .i64 pl))
                    (first | with_reducible exact ⟨K.out.drew.c m0, K.out.drew.c m1, K.out.drew.c m2, K.out.drew.c m3, K.out.drew.c m5⟩ | with_reducible exact ⟨K.out.c m0, K.out.c m1, K.out.c m2, K.out.c m3, K.out.c m5⟩ | with_reducible exact ⟨K.out.c (List.mem_cons_of_mem _ (List.mem_cons_of_mem _ m0)), K.out.c (List.mem_cons_of_mem _ (List.mem_cons_of_mem _ m1)), K.out.c (List.mem_cons_of_mem _ (List.mem_cons_of_mem _ m2)), K.out.c (List.mem_cons_of_mem _ (List.mem_cons_of_mem _ m3)), K.out.c (List.mem_cons_of_mem _ (List.mem_cons_of_mem _ m5))⟩ | with_reducible exact ⟨(K.out.alloc _).drew.c m0, (K.out.alloc _).drew.c m1, (K.out.alloc _).drew.c m2, (K.out.alloc _).drew.c m3, (K.out.alloc _).drew.c m5⟩ | with_reducible exact ⟨(K.out.alloc _).c m0, (K.out.alloc _).c m1, (K.out.alloc _).c m2, (K.out.alloc _).c m3, (K.out.alloc _).c m5⟩ | with_reducible exact ⟨(K.out.put2 Hneq.out).c (List.mem_cons_of_mem _ (List.mem_cons_of_mem _ m0)), (K.out.put2 Hneq.out).c (List.mem_cons_of_mem _ (List.mem_cons_of_mem _ m1)), (K.out.put2 Hneq.out).c (List.mem_cons_of_mem _ (List.mem_cons_of_mem _ m2)), (K.out.put2 Hneq.out).c (List.mem_cons_of_mem _ (List.mem_cons_of_mem _ m3)), (K.out.put2 Hneq.out).c (List.mem_cons_of_mem _ (List.mem_cons_of_mem _ m5))⟩) (first
                    | (go_at_call 41; refine (Hp2.out _ (by first | with_reducible exact (K.out.drew.g mW).any | exact ((K.out.alloc _).drew.g mW).any) (by first | with_reducible exact (K.out.drew.i mS).any | exact ((K.out.alloc _).drew.i mS).any)).mono ?_; rintro e w12 ⟨rfl, hb⟩; (first | (with_reducible have K := hid (K.out.drew.later hb)) | (have K := hid ((K.out.box2 (.int .i64 0) (.int .i64 0) 27).drew.later hb); have z0 := K.out.c (o := 0) (v := .int .i64 0) (List.Mem.head _); have z1 := K.out.c (o := 1) (v := .int .i64 0) (List.Mem.tail _ (List.Mem.head _)); have y0 := K.out.f (o := 0) (v := .int .i64 0) (List.Mem.head _); have y1 := K.out.f (o := 1) (v := .int .i64 0) (List.Mem.tail _ (List.Mem.head _)))); clear hb))
                  all_goals (
                    go_wp2_with fail
                    go_meet
                    refine ⟨_, rfl, rfl, ?_⟩
                    first
                      | with_reducible exact K.out.put2 Hneq.out
                      | exact K.out.box2 (.int .i64 Q1) (.int .i64 Q2) 27)
                case rest =>
                  obtain ⟨Z2, rfl, rfl, KK⟩ := hcut
                  have K := hid KK
                  clear KK Hneq
                  obtain ⟨wp2, rfl⟩ : ∃ wp : World, wp = wc := ⟨_, rfl⟩
                  replace m0 := List.mem_cons_of_mem (Z2, 0, Value.int .i64 Q1) (List.mem_cons_of_mem (Z2, 1, Value.int .i64 Q2) m0)
                  replace m1 := List.mem_cons_of_mem (Z2, 0, Value.int .i64 Q1) (List.mem_cons_of_mem (Z2, 1, Value.int .i64 Q2) m1)
                  replace m2 := List.mem_cons_of_mem (Z2, 0, Value.int .i64 Q1) (List.mem_cons_of_mem (Z2, 1, Value.int .i64 Q2) m2)
                  replace m3 := List.mem_cons_of_mem (Z2, 0, Value.int .i64 Q1) (List.mem_cons_of_mem (Z2, 1, Value.int .i64 Q2) m3)
                  replace m4 := List.mem_cons_of_mem (Z2, 0, Value.int .i64 Q1) (List.mem_cons_of_mem (Z2, 1, Value.int .i64 Q2) m4)
                  replace m5 := List.mem_cons_of_mem (Z2, 0, Value.int .i64 Q1) (List.mem_cons_of_mem (Z2, 1, Value.int .i64 Q2) m5)
                  have hneq := fun b o v h => Nat.ne_of_lt (K.out.clt (b := b) (o := o) (v := v) h)
                  have Hneq := hid hneq
                  clear hneq
                  go_wp2_with fail
                  go_cut [29, 30] from 86 to 189 (fun sz se wx => ∃ Z : Nat, sz = .pointer (some ⟨Z, 0, none⟩) ∧ se = .int .i64 G ∧ LK w1.heap.size ((Z, 0, .int .i64 Q1) :: (Z, 1, .int .i64 Q2) :: (Z2, 0, .int .i64 Q1) :: (Z2, 1, .int .i64 Q2) :: (Z1, 0, .int .i64 P1) :: (Z1, 1, .int .i64 P2) :: (Z0, 0, .int .i64 P1) :: (Z0, 1, .int .i64 P2) :: [(SS, 0, .int .i64 route0), (SS, 1, .slice aw0 ws0.length cap0), (SS, 2, .int .i64 route), (SS, 3, .slice (some ⟨bw, ow, none⟩) ws.length cap), (SS, 4, .int .i64 route), (SS, 5, .slice (some ⟨bw, ow, none⟩) ws.length cap), (SS, 6, .int .i64 route), (SS, 7, .slice (some ⟨bw, ow, none⟩) ws.length cap), (LS, 0, .slice as0 st0.length cas0), (LS, 1, .slice (some ⟨bs, os, none⟩) st.length cv), (LS, 2, .slice (some ⟨bs, os, none⟩) st.length cv), (LS, 3, .slice (some ⟨bs, os, none⟩) st.length cv), (WI, 0, .int .i64 wing), (WI, 1, .int .i64 m), (WI, 2, .int .i64 m), (WI, 3, .int .i64 wing), (SE, 0, .int .i64 second), (SE, 1, .int .i64 t), (SE, 2, .int .i64 second), (SE, 3, .int .i64 second), (PL, 0, .int .i64 place), (PL, 1, .int .i64 x), (PL, 2, .int .i64 place), (PL, 3, .int .i64 place)]) [(.slice (some ⟨bs, os, none⟩) st.length cv, st), (.slice ax xs.length cx, xs), (.slice as0 st0.length cas0, st0)] [(.slice (some ⟨bw, ow, none⟩) ws.length cap, ws), (.slice aw0 ws0.length cap0, ws0)] w wx)
                  case first =>
                    go_region_held3 (fun w' => w'.cell? ⟨SS, k * 2, none⟩ = some (.int .i64 rt) ∧ w'.cell? ⟨SS, k * 2 + 1, none⟩ = some (.slice aq wq.length cq) ∧ w'.cell? ⟨LS, k, none⟩ = some (.slice ar sq.length cr) ∧ w'.cell? ⟨WI, k, none⟩ = some (.int .i64 gi) ∧ w'.cell? ⟨PL, k, none⟩ = some (.int .i64 pl))
                      (first | with_reducible exact ⟨K.out.drew.c m0, K.out.drew.c m1, K.out.drew.c m2, K.out.drew.c m3, K.out.drew.c m5⟩ | with_reducible exact ⟨K.out.c m0, K.out.c m1, K.out.c m2, K.out.c m3, K.out.c m5⟩ | with_reducible exact ⟨K.out.c (List.mem_cons_of_mem _ (List.mem_cons_of_mem _ m0)), K.out.c (List.mem_cons_of_mem _ (List.mem_cons_of_mem _ m1)), K.out.c (List.mem_cons_of_mem _ (List.mem_cons_of_mem _ m2)), K.out.c (List.mem_cons_of_mem _ (List.mem_cons_of_mem _ m3)), K.out.c (List.mem_cons_of_mem _ (List.mem_cons_of_mem _ m5))⟩ | with_reducible exact ⟨(K.out.alloc _).drew.c m0, (K.out.alloc _).drew.c m1, (K.out.alloc _).drew.c m2, (K.out.alloc _).drew.c m3, (K.out.alloc _).drew.c m5⟩ | with_reducible exact ⟨(K.out.alloc _).c m0, (K.out.alloc _).c m1, (K.out.alloc _).c m2, (K.out.alloc _).c m3, (K.out.alloc _).c m5⟩ | with_reducible exact ⟨(K.out.put2 Hneq.out).c (List.mem_cons_of_mem _ (List.mem_cons_of_mem _ m0)), (K.out.put2 Hneq.out).c (List.mem_cons_of_mem _ (List.mem_cons_of_mem _ m1)), (K.out.put2 Hneq.out).c (List.mem_cons_of_mem _ (List.mem_cons_of_mem _ m2)), (K.out.put2 Hneq.out).c (List.mem_cons_of_mem _ (List.mem_cons_of_mem _ m3)), (K.out.put2 Hneq.out).c (List.mem_cons_of_mem _ (List.mem_cons_of_mem _ m5))⟩) (first
                      | (go_at_call 47; refine (Hp3.out _ (by first | with_reducible exact (K.out.drew.g mW).any | exact ((K.out.alloc _).drew.g mW).any) (by first | with_reducible exact (K.out.drew.i mS).any | exact ((K.out.alloc _).drew.i mS).any)).mono ?_; rintro e w12 ⟨rfl, hb⟩; (first | (with_reducible have K := hid (K.out.drew.later hb)) | (have K := hid ((K.out.box2 (.int .i64 0) (.int .i64 0) 27).drew.later hb); have z0 := K.out.c (o := 0) (v := .int .i64 0) (List.Mem.head _); have z1 := K.out.c (o := 1) (v := .int .i64 0) (List.Mem.tail _ (List.Mem.head _)); have y0 := K.out.f (o := 0) (v := .int .i64 0) (List.Mem.head _); have y1 := K.out.f (o := 1) (v := .int .i64 0) (List.Mem.tail _ (List.Mem.head _)))); clear hb))
                    all_goals (
                      go_wp2_with fail
                      go_meet
                      refine ⟨_, rfl, rfl, ?_⟩
                      first
                        | with_reducible exact K.out.put2 Hneq.out
                        | exact K.out.box2 (.int .i64 Q1) (.int .i64 Q2) 27)
                  case rest =>
                    obtain ⟨Z3, rfl, rfl, KK⟩ := hcut
                    have K := hid KK
                    clear KK Hneq
                    obtain ⟨wp3, rfl⟩ : ∃ wp : World, wp = wc := ⟨_, rfl⟩
                    replace m0 := List.mem_cons_of_mem (Z3, 0, Value.int .i64 Q1) (List.mem_cons_of_mem (Z3, 1, Value.int .i64 Q2) m0)
                    replace m1 := List.mem_cons_of_mem (Z3, 0, Value.int .i64 Q1) (List.mem_cons_of_mem (Z3, 1, Value.int .i64 Q2) m1)
                    replace m2 := List.mem_cons_of_mem (Z3, 0, Value.int .i64 Q1) (List.mem_cons_of_mem (Z3, 1, Value.int .i64 Q2) m2)
                    replace m3 := List.mem_cons_of_mem (Z3, 0, Value.int .i64 Q1) (List.mem_cons_of_mem (Z3, 1, Value.int .i64 Q2) m3)
                    replace m4 := List.mem_cons_of_mem (Z3, 0, Value.int .i64 Q1) (List.mem_cons_of_mem (Z3, 1, Value.int .i64 Q2) m4)
                    replace m5 := List.mem_cons_of_mem (Z3, 0, Value.int .i64 Q1) (List.mem_cons_of_mem (Z3, 1, Value.int .i64 Q2) m5)
                    have x0 := K.out.c (b := Z0) (o := 0) (v := .int .i64 P1) (by simp)
                    have x1 := K.out.c (b := Z0) (o := 1) (v := .int .i64 P2) (by simp)
                    have x2 := K.out.c (b := Z1) (o := 0) (v := .int .i64 P1) (by simp)
                    have x3 := K.out.c (b := Z1) (o := 1) (v := .int .i64 P2) (by simp)
                    have x4 := K.out.c (b := Z2) (o := 0) (v := .int .i64 Q1) (by simp)
                    have x5 := K.out.c (b := Z2) (o := 1) (v := .int .i64 Q2) (by simp)
                    have x6 := K.out.c (b := Z3) (o := 0) (v := .int .i64 Q1) (by simp)
                    have x7 := K.out.c (b := Z3) (o := 1) (v := .int .i64 Q2) (by simp)
                    obtain ⟨l1, l2⟩ := eq_bool (a := P1) (b := P1) rfl
                    obtain ⟨l3, l4⟩ := eq_bool (a := P2) (b := P2) rfl
                    obtain ⟨l5, l6⟩ := eq_bool (a := E) (b := E) rfl
                    obtain ⟨l7, l8⟩ := eq_bool (a := Q1) (b := Q1) rfl
                    obtain ⟨l9, l10⟩ := eq_bool (a := Q2) (b := Q2) rfl
                    obtain ⟨l11, l12⟩ := eq_bool (a := G) (b := G) rfl
                    go_wp2
                    go_roundw
                    case rel => exact ⟨k + 1, by omega, by go_num, K.out.sub (fun x hx => List.mem_cons_of_mem _ (List.mem_cons_of_mem _ (List.mem_cons_of_mem _ (List.mem_cons_of_mem _ (List.mem_cons_of_mem _ (List.mem_cons_of_mem _ (List.mem_cons_of_mem _ (List.mem_cons_of_mem _ hx))))))))⟩
                    case measure => simp [intOf] <;> omega
          · go_wp2_with (go_at_call 18; refine (awake_any _).mono ?_; rintro e w10 ⟨rfl, hb10⟩)
            go_ret
            exact ⟨rfl, (KK.later hb10).below⟩
end Go.Proofs.YtgfipifgijohhaaDoor
