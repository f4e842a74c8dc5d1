/-
  WALKS: ParadeGaps.
-/
import Derived.Test.YtgfipifgijohhaaDoorLax
import Derived.Test.YtgfipifgijohhaaDoorLca
import Derived.Test.YtgfipifgijohhaaDoorGga
namespace Go.Proofs.YtgfipifgijohhaaDoor
open Go.RowKit

set_option linter.unusedSimpArgs false in
set_option maxHeartbeats 16000000 in
set_option maxRecDepth 100000 in
theorem gaps_any (ws0 : List Wing) (st0 xs : List Int) (route0 wing second a0 b0 c0 : Int) (vw0 vs0 v : Value) (w : World) (hW : WgAt none w vw0 ws0) (hS : IntsAt none w vs0 st0) (hX : IntsAt none w v xs) (hn : xs.length ≤ 9223372036854775807) :
    Calls Tryd.prog 13 #[.agg #[.int .i64 route0, vw0], vs0, .int .i64 wing, .int .i64 second, .agg #[.int .i64 a0, .int .i64 b0, .int .i64 c0], v] w fun e w' => e = .returned (.bool true) ∧ Below w.heap.size w w' := by
  have HX := hid hX
  have HW := hid hW
  have HS := hid hS
  obtain ⟨ax, cx, rfl, _⟩ := hX
  obtain ⟨aw0, cap0, rfl, _⟩ := hW
  obtain ⟨as0, cas0, rfl, _⟩ := hS
  have K := hid (((HK.start w).box2 (.int .i64 route0) (.slice aw0 ws0.length cap0) 24).box3n (n := w.heap.size + 1) (by simp) (.int .i64 a0) (.int .i64 b0) (.int .i64 c0) 50)
  go_enter Tryd.func13, Tryd.ntmps13
  go_wp2_with fail
  refine (long_any ws0 route0 _ _ (HW.out.below K.out.below)).mono ?_
  rintro e w1 ⟨b, rfl, hlong, hb1⟩
  have K := hid (K.out.later hb1)
  clear hb1
  cases b with
  | true =>
    clear hlong
    go_wp2_with (go_at_call 18; refine (awake_any _).mono ?_; rintro e w10 ⟨rfl, hb10⟩)
    go_ret
    exact ⟨rfl, (K.out.later hb10).below⟩
  | false =>
    obtain ⟨hl1, hl2⟩ := hlong rfl
    clear hlong
    by_cases hl3 : 20 < st0.length
    · go_wp2_with (go_at_call 18; refine (awake_any _).mono ?_; rintro e w10 ⟨rfl, hb10⟩)
      go_ret
      exact ⟨rfl, (K.out.later hb10).below⟩
    · go_wp2_with fail
      refine (drumOf_any xs _ _ (HX.out.below K.out.below) hn).mono ?_
      rintro e w2 ⟨rfl, hb2, hl2'⟩
      have hraw : ∀ v' xs', (v', xs') ∈ [(Value.slice ax xs.length cx, xs), (Value.slice as0 st0.length cas0, st0)] → IntsAt none w v' xs' := fun v' xs' h => by
        rcases List.mem_cons.1 h with h | h
        · cases h; exact HX.out
        · rcases List.mem_cons.1 h with h | h
          · cases h; exact HS.out
          · cases h
      have hraw2 : ∀ v' xs', (v', xs') ∈ [(Value.slice aw0 ws0.length cap0, ws0)] → WgAt none w v' xs' := fun v' xs' h => by
        rcases List.mem_cons.1 h with h | h
        · cases h; exact HW.out
        · cases h
      have K := hid (LK.ofHK (li := [(.slice ax xs.length cx, xs), (.slice as0 st0.length cas0, st0)]) (lw := [(.slice aw0 ws0.length cap0, ws0)]) K.out hl2' hb2 (Nat.le_refl _) hraw hraw2)
      clear hb2 hl2' hraw hraw2
      go_wp2_with fail
      refine (schoolOf_any _ 6 _ K.out.beat (by decide) (by decide)).mono ?_
      rintro e w3 ⟨route, vw, ws, rfl, hr1, hr2, h0, h6, hm, hown, hbt, hgb⟩
      obtain ⟨bw, ow, cap, rfl, _, _⟩ := (hown.at (d := none) (by simp)).slice h0
      have K := hid (K.out.addWgs (K.out.go hgb hbt) hown)
      clear hgb hbt hown
      have h8 : ws.length ≤ 8 := by omega
      have hc := hid (made_check hm hr1 hr2 h0 h8)
      have K := hid (K.out.box2 (.int .i64 route) (.slice (some ⟨bw, ow, none⟩) ws.length cap) 24)
      have q0 := K.out.c (o := 0) (v := .int .i64 route) (List.Mem.head _)
      have q1 := K.out.c (o := 1) (v := .slice (some ⟨bw, ow, none⟩) ws.length cap) (List.Mem.tail _ (List.Mem.head _))
      go_wp2_with fail
      refine (startsOf_any _ ws route _ _ K.out.beat (K.out.g (by simp)) hc.out hm).mono ?_
      rintro e w4 ⟨vs, st, rfl, hls, hms, hso, hbt, hgb⟩
      have K := hid (K.out.addInts (K.out.go hgb hbt) hso)
      clear hbt hgb hso
      have hcs := hid (made_starts hc.out hls h8 hms)
      have Hls := hid hls
      obtain ⟨bs, os, cv, rfl, _, _⟩ := (K.out.i (v := vs) (xs := st) (by simp)).slice (by omega)
      clear hls q0 q1
      obtain ⟨B, hB⟩ : ∃ B, w3.heap.size = B := ⟨_, rfl⟩
      rw [hB] at K ⊢
      clear hB
      go_wp2_with fail
      refine (rulesOf_any _ _ K.out.beat).mono ?_
      rintro e w5 ⟨ra, rb, rc, rfl, ha1, ha2, hab, hb2, hc1, hc2, hbt, hgb⟩
      have K := hid (K.out.go hgb hbt)
      clear hbt hgb
      have Hneq := hid (fun b o v h => Nat.ne_of_lt (K.out.clt (b := b) (o := o) (v := v) h))
      have K := hid (K.out.box3 (.int .i64 ra) (.int .i64 rb) (.int .i64 rc) 50)
      have q0 := K.out.c (b := B) (o := 0) (v := .int .i64 route) (by simp)
      have q1 := K.out.c (b := B) (o := 1) (v := .slice (some ⟨bw, ow, none⟩) ws.length cap) (by simp)
      go_wp2_with fail
      obtain ⟨Y, hY⟩ : ∃ Y, w5.heap.size = Y := ⟨_, rfl⟩
      rw [hY] at K Hneq ⊢
      clear hY
      refine (rWidest_any ws st route _ _ _ (K.out.g (by simp)).any (K.out.i (v := .slice (some ⟨bs, os, none⟩) st.length cv) (xs := st) (by simp)).any (by omega) (made_size hm h8) (by have := Hls.out; omega)).mono ?_
      rintro e w6 ⟨rfl, hb6⟩
      obtain ⟨W1, W2, W3, W4, hWr⟩ : ∃ W1 W2 W3 W4, widestRes route ws st = (W1, W2, W3, W4) := ⟨_, _, _, _, rfl⟩
      rw [hWr]
      have K := hid (K.out.later hb6)
      clear hb6 hWr q0 q1
      dsimp only
      go_wp2_with fail
      refine (rare_any _ _ _ K.out.beat (by decide)).mono ?_
      rintro e w7 ⟨r, rfl, hbt, hgb⟩
      have K := hid (K.out.go hgb hbt)
      clear hbt hgb
      go_upto_if 70 with fail
      go_cut [12] from 71 to 76 (fun s12 wx => s12 = .bool false ∧ ∃ G : Int, LK w1.heap.size [(Y, 0, .int .i64 ra), (Y, 1, .int .i64 rb), (Y, 2, .int .i64 G), (B, 0, .int .i64 route), (B, 1, .slice (some ⟨bw, ow, none⟩) ws.length cap), (w.heap.size + 1, 0, .int .i64 a0), (w.heap.size + 1, 1, .int .i64 b0), (w.heap.size + 1, 2, .int .i64 c0), (w.heap.size, 0, .int .i64 route0), (w.heap.size, 1, .slice aw0 ws0.length cap0)] [(.slice (some ⟨bs, os, none⟩) st.length cv, st), (.slice ax xs.length cx, xs), (.slice as0 st0.length cas0, st0)] [(.slice (some ⟨bw, ow, none⟩) ws.length cap, ws), (.slice aw0 ws0.length cap0, ws0)] w wx)
      case first =>
        cases r with
        | true =>
          have y2 := K.out.c (b := Y) (o := 2) (v := .int .i64 rc) (by simp)
          have f2 := K.out.f (b := Y) (o := 2) (v := .int .i64 rc) (by simp)
          go_wp2_with fail
          refine (roll_any _ 2 _ K.out.beat (by decide)).mono ?_
          rintro e w9 ⟨wi, rfl, hw1, hw2, hbt, hgb⟩
          have K := hid (K.out.go hgb hbt)
          clear hbt hgb y2 f2
          have y2 := K.out.c (b := Y) (o := 2) (v := .int .i64 rc) (by simp)
          have f2 := K.out.f (b := Y) (o := 2) (v := .int .i64 rc) (by simp)
          go_wp2_with fail
          go_meet
          exact ⟨rfl, _, K.out.put3_2 Hneq.out⟩
        | false =>
          go_wp2_with fail
          go_meet
          exact ⟨rfl, _, K.out⟩
      case rest =>
        obtain ⟨rfl, G, KK⟩ := hcut
        have K := hid KK
        clear KK
        have q1 := K.out.c (b := B) (o := 1) (v := .slice (some ⟨bw, ow, none⟩) ws.length cap) (by simp)
        go_wp2_with fail
        refine (roll_any _ _ _ K.out.beat (by omega)).mono ?_
        rintro e w9 ⟨wi, rfl, hw1, hw2, hbt, hgb⟩
        obtain ⟨m, rfl⟩ := Int.eq_ofNat_of_zero_le hw1
        have hmw : m < ws.length := by omega
        have hms1 : m < st.length := by have := Hls.out; omega
        have K := hid (K.out.go hgb hbt)
        clear hbt hgb q1
        go_wp2_with fail
        have i2 : (m : Int) < (st.length : Int) := by omega
        obtain ⟨wn, hwn, KN⟩ := K.out.name
        rw [hwn]
        clear hwn K
        obtain ⟨N, hN⟩ : ∃ N, wn.heap.size = N := ⟨_, rfl⟩
        have K := hid KN.drew
        have KS := hid KN
        clear KN
        have hdN : w1.heap.size < N := by have := KS.out.lt; omega
        have hSd := hid (show (fun w' : World => w'.cell? ⟨w.heap.size, 0, none⟩ = some (.int .i64 route0) ∧ w'.cell? ⟨w.heap.size, 1, none⟩ = some (.slice aw0 ws0.length cap0) ∧ w'.cell? ⟨B, 0, none⟩ = some (.int .i64 route) ∧ w'.cell? ⟨B, 1, none⟩ = some (.slice (some ⟨bw, ow, none⟩) ws.length cap) ∧ w'.cell? ⟨Y, 0, none⟩ = some (.int .i64 ra) ∧ w'.cell? ⟨Y, 1, none⟩ = some (.int .i64 rb) ∧ w'.cell? ⟨Y, 2, none⟩ = some (.int .i64 G) ∧ w'.cell? ⟨w.heap.size + 1, 0, none⟩ = some (.int .i64 a0) ∧ w'.cell? ⟨w.heap.size + 1, 1, none⟩ = some (.int .i64 b0) ∧ w'.cell? ⟨w.heap.size + 1, 2, none⟩ = some (.int .i64 c0) ∧ w'.cell? ⟨bs, os + m, none⟩ = some (.int .i64 (nm st m))) _ from ⟨K.out.c (by simp), K.out.c (by simp), K.out.c (by simp), K.out.c (by simp), K.out.c (by simp), K.out.c (by simp), K.out.c (by simp), K.out.c (by simp), K.out.c (by simp), K.out.c (by simp), (K.out.i (v := .slice (some ⟨bs, os, none⟩) st.length cv) (xs := st) (by simp)).cell hms1⟩)
        refine wp_region_noPanic ?_
        refine wp_region_held_drew (S := fun w' : World => w'.cell? ⟨w.heap.size, 0, none⟩ = some (.int .i64 route0) ∧ w'.cell? ⟨w.heap.size, 1, none⟩ = some (.slice aw0 ws0.length cap0) ∧ w'.cell? ⟨B, 0, none⟩ = some (.int .i64 route) ∧ w'.cell? ⟨B, 1, none⟩ = some (.slice (some ⟨bw, ow, none⟩) ws.length cap) ∧ w'.cell? ⟨Y, 0, none⟩ = some (.int .i64 ra) ∧ w'.cell? ⟨Y, 1, none⟩ = some (.int .i64 rb) ∧ w'.cell? ⟨Y, 2, none⟩ = some (.int .i64 G) ∧ w'.cell? ⟨w.heap.size + 1, 0, none⟩ = some (.int .i64 a0) ∧ w'.cell? ⟨w.heap.size + 1, 1, none⟩ = some (.int .i64 b0) ∧ w'.cell? ⟨w.heap.size + 1, 2, none⟩ = some (.int .i64 c0) ∧ w'.cell? ⟨bs, os + m, none⟩ = some (.int .i64 (nm st m))) (by kernel_rfl) hSd.out (fun hHeld => ?_)
        refine wpAnyH_take (i := 0) (oi := _) (v := ?_) rfl (by kernel_rfl) (by kernel_rfl) (by kernel_rfl) (fun _ _ _ h => h) (Or.inl ⟨by rfl, ?_⟩) hHeld ?_
        rotate_left
        · intro w hSw; (try dsimp only at hSw); obtain ⟨hSw0, hSw1, hSw2, hSw3, hSw4, hSw5, hSw6, hSw7, hSw8, hSw9, hSw10⟩ := hSw; go_simp; try with_reducible rfl
        try simp only [Act.put, List.setIfInBounds_toArray, List.set_cons_zero, List.set_cons_succ]
        refine wpAnyH_take (i := 1) (oi := _) (v := ?_) rfl (by kernel_rfl) (by kernel_rfl) (by kernel_rfl) (fun _ _ _ h => h) (Or.inl ⟨by rfl, ?_⟩) hHeld ?_
        rotate_left
        · intro w hSw; (try dsimp only at hSw); obtain ⟨hSw0, hSw1, hSw2, hSw3, hSw4, hSw5, hSw6, hSw7, hSw8, hSw9, hSw10⟩ := hSw; go_simp; try with_reducible rfl
        try simp only [Act.put, List.setIfInBounds_toArray, List.set_cons_zero, List.set_cons_succ]
        refine wpAnyH_take (i := 2) (oi := _) (v := ?_) rfl (by kernel_rfl) (by kernel_rfl) (by kernel_rfl) (fun _ _ _ h => h) (Or.inl ⟨by rfl, ?_⟩) hHeld ?_
        rotate_left
        · intro w hSw; (try dsimp only at hSw); obtain ⟨hSw0, hSw1, hSw2, hSw3, hSw4, hSw5, hSw6, hSw7, hSw8, hSw9, hSw10⟩ := hSw; go_simp; try with_reducible rfl
        try simp only [Act.put, List.setIfInBounds_toArray, List.set_cons_zero, List.set_cons_succ]
        refine wpAnyH_take (i := 4) (oi := _) (v := ?_) rfl (by kernel_rfl) (by kernel_rfl) (by kernel_rfl) (fun _ _ _ h => h) (Or.inl ⟨by rfl, ?_⟩) hHeld ?_
        rotate_left
        · intro w hSw; (try dsimp only at hSw); obtain ⟨hSw0, hSw1, hSw2, hSw3, hSw4, hSw5, hSw6, hSw7, hSw8, hSw9, hSw10⟩ := hSw; go_simp; try with_reducible rfl
        try simp only [Act.put, List.setIfInBounds_toArray, List.set_cons_zero, List.set_cons_succ]
        refine wpAnyH_take (i := 5) (oi := _) (v := ?_) rfl (by kernel_rfl) (by kernel_rfl) (by kernel_rfl) (fun _ _ _ h => h) (Or.inl ⟨by rfl, ?_⟩) hHeld ?_
        rotate_left
        · intro w hSw; (try dsimp only at hSw); obtain ⟨hSw0, hSw1, hSw2, hSw3, hSw4, hSw5, hSw6, hSw7, hSw8, hSw9, hSw10⟩ := hSw; go_simp; try with_reducible rfl
        try simp only [Act.put, List.setIfInBounds_toArray, List.set_cons_zero, List.set_cons_succ]
        refine wpAnyH_take (i := 6) (oi := _) (v := ?_) rfl (by kernel_rfl) (by kernel_rfl) (by kernel_rfl) (fun _ _ _ h => h) (Or.inl ⟨by rfl, ?_⟩) hHeld ?_
        rotate_left
        · intro w hSw; (try dsimp only at hSw); obtain ⟨hSw0, hSw1, hSw2, hSw3, hSw4, hSw5, hSw6, hSw7, hSw8, hSw9, hSw10⟩ := hSw; go_simp; try with_reducible rfl
        try simp only [Act.put, List.setIfInBounds_toArray, List.set_cons_zero, List.set_cons_succ]
        refine wpAnyH_take (i := 8) (oi := _) (v := ?_) rfl (by kernel_rfl) (by kernel_rfl) (by kernel_rfl) (fun _ _ _ h => h) (Or.inl ⟨by rfl, ?_⟩) hHeld ?_
        rotate_left
        · intro w hSw; (try dsimp only at hSw); obtain ⟨hSw0, hSw1, hSw2, hSw3, hSw4, hSw5, hSw6, hSw7, hSw8, hSw9, hSw10⟩ := hSw; go_simp; try with_reducible rfl
        try simp only [Act.put, List.setIfInBounds_toArray, List.set_cons_zero, List.set_cons_succ]
        refine wpAnyH_take (i := 9) (oi := _) (v := ?_) rfl (by kernel_rfl) (by kernel_rfl) (by kernel_rfl) (fun _ _ _ h => h) (Or.inl ⟨by rfl, ?_⟩) hHeld ?_
        rotate_left
        · intro w hSw; (try dsimp only at hSw); obtain ⟨hSw0, hSw1, hSw2, hSw3, hSw4, hSw5, hSw6, hSw7, hSw8, hSw9, hSw10⟩ := hSw; go_simp; try with_reducible rfl
        try simp only [Act.put, List.setIfInBounds_toArray, List.set_cons_zero, List.set_cons_succ]
        refine wpAnyH_take (i := 10) (oi := _) (v := ?_) rfl (by kernel_rfl) (by kernel_rfl) (by kernel_rfl) (fun _ _ _ h => h) (Or.inl ⟨by rfl, ?_⟩) hHeld ?_
        rotate_left
        · intro w hSw; (try dsimp only at hSw); obtain ⟨hSw0, hSw1, hSw2, hSw3, hSw4, hSw5, hSw6, hSw7, hSw8, hSw9, hSw10⟩ := hSw; go_simp; try with_reducible rfl
        try simp only [Act.put, List.setIfInBounds_toArray, List.set_cons_zero, List.set_cons_succ]
        refine wpAnyH_take (i := 12) (oi := _) (v := ?_) rfl (by kernel_rfl) (by kernel_rfl) (by kernel_rfl) (fun _ _ _ h => h) (Or.inl ⟨by rfl, ?_⟩) hHeld ?_
        rotate_left
        · intro w hSw; (try dsimp only at hSw); obtain ⟨hSw0, hSw1, hSw2, hSw3, hSw4, hSw5, hSw6, hSw7, hSw8, hSw9, hSw10⟩ := hSw; go_simp; try with_reducible rfl
        try simp only [Act.put, List.setIfInBounds_toArray, List.set_cons_zero, List.set_cons_succ]
        refine wpAnyH_take (i := 13) (oi := _) (v := ?_) rfl (by kernel_rfl) (by kernel_rfl) (by kernel_rfl) (fun _ _ _ h => h) (Or.inl ⟨by rfl, ?_⟩) hHeld ?_
        rotate_left
        · intro w hSw; (try dsimp only at hSw); obtain ⟨hSw0, hSw1, hSw2, hSw3, hSw4, hSw5, hSw6, hSw7, hSw8, hSw9, hSw10⟩ := hSw; go_simp; try with_reducible rfl
        try simp only [Act.put, List.setIfInBounds_toArray, List.set_cons_zero, List.set_cons_succ]
        refine wpAnyH_take (i := 14) (oi := _) (v := ?_) rfl (by kernel_rfl) (by kernel_rfl) (by kernel_rfl) (fun _ _ _ h => h) (Or.inl ⟨by rfl, ?_⟩) hHeld ?_
        rotate_left
        · intro w hSw; (try dsimp only at hSw); obtain ⟨hSw0, hSw1, hSw2, hSw3, hSw4, hSw5, hSw6, hSw7, hSw8, hSw9, hSw10⟩ := hSw; go_simp; try with_reducible rfl
        try simp only [Act.put, List.setIfInBounds_toArray, List.set_cons_zero, List.set_cons_succ]
        refine wpAnyH_take (i := 15) (oi := _) (v := ?_) rfl (by kernel_rfl) (by kernel_rfl) (by kernel_rfl) (fun _ _ _ h => h) (Or.inl ⟨by rfl, ?_⟩) hHeld ?_
        rotate_left
        · intro w hSw; (try dsimp only at hSw); obtain ⟨hSw0, hSw1, hSw2, hSw3, hSw4, hSw5, hSw6, hSw7, hSw8, hSw9, hSw10⟩ := hSw; go_simp; try with_reducible rfl
        try simp only [Act.put, List.setIfInBounds_toArray, List.set_cons_zero, List.set_cons_succ]
        refine wpAnyH_take (i := 16) (oi := _) (v := ?_) rfl (by kernel_rfl) (by kernel_rfl) (by kernel_rfl) (fun _ _ _ h => h) (Or.inl ⟨by rfl, ?_⟩) hHeld ?_
        rotate_left
        · intro w hSw; (try dsimp only at hSw); obtain ⟨hSw0, hSw1, hSw2, hSw3, hSw4, hSw5, hSw6, hSw7, hSw8, hSw9, hSw10⟩ := hSw; go_simp; try with_reducible rfl
        try simp only [Act.put, List.setIfInBounds_toArray, List.set_cons_zero, List.set_cons_succ]
        refine wpAnyH_take (i := 17) (oi := _) (v := ?_) rfl (by kernel_rfl) (by kernel_rfl) (by kernel_rfl) (fun _ _ _ h => h) (Or.inl ⟨by rfl, ?_⟩) hHeld ?_
        rotate_left
        · intro w hSw; (try dsimp only at hSw); obtain ⟨hSw0, hSw1, hSw2, hSw3, hSw4, hSw5, hSw6, hSw7, hSw8, hSw9, hSw10⟩ := hSw; go_simp; try with_reducible rfl
        try simp only [Act.put, List.setIfInBounds_toArray, List.set_cons_zero, List.set_cons_succ]
        refine wpAnyH_take (i := 20) (oi := _) (v := ?_) rfl (by kernel_rfl) (by kernel_rfl) (by kernel_rfl) (fun _ _ _ h => h) (Or.inl ⟨by rfl, ?_⟩) hHeld ?_
        rotate_left
        · intro w hSw; (try dsimp only at hSw); obtain ⟨hSw0, hSw1, hSw2, hSw3, hSw4, hSw5, hSw6, hSw7, hSw8, hSw9, hSw10⟩ := hSw; go_simp; try with_reducible rfl
        try simp only [Act.put, List.setIfInBounds_toArray, List.set_cons_zero, List.set_cons_succ]
        refine wpAnyH_take (i := 22) (oi := _) (v := ?_) rfl (by kernel_rfl) (by kernel_rfl) (by kernel_rfl) (fun _ _ _ h => h) (Or.inl ⟨by rfl, ?_⟩) hHeld ?_
        rotate_left
        · intro w hSw; (try dsimp only at hSw); obtain ⟨hSw0, hSw1, hSw2, hSw3, hSw4, hSw5, hSw6, hSw7, hSw8, hSw9, hSw10⟩ := hSw; go_simp; try with_reducible rfl
        try simp only [Act.put, List.setIfInBounds_toArray, List.set_cons_zero, List.set_cons_succ]
        refine wpAnyH_take (i := 23) (oi := _) (v := ?_) rfl (by kernel_rfl) (by kernel_rfl) (by kernel_rfl) (fun _ _ _ h => h) (Or.inl ⟨by rfl, ?_⟩) hHeld ?_
        rotate_left
        · intro w hSw; (try dsimp only at hSw); obtain ⟨hSw0, hSw1, hSw2, hSw3, hSw4, hSw5, hSw6, hSw7, hSw8, hSw9, hSw10⟩ := hSw; go_simp; try with_reducible rfl
        try simp only [Act.put, List.setIfInBounds_toArray, List.set_cons_zero, List.set_cons_succ]
        refine wpAnyH_take (i := 24) (oi := _) (v := ?_) rfl (by kernel_rfl) (by kernel_rfl) (by kernel_rfl) (fun _ _ _ h => h) (Or.inl ⟨by rfl, ?_⟩) hHeld ?_
        rotate_left
        · intro w hSw; (try dsimp only at hSw); obtain ⟨hSw0, hSw1, hSw2, hSw3, hSw4, hSw5, hSw6, hSw7, hSw8, hSw9, hSw10⟩ := hSw; go_simp; try with_reducible rfl
        try simp only [Act.put, List.setIfInBounds_toArray, List.set_cons_zero, List.set_cons_succ]
        refine wpAnyH_slots [85, 89, 93, 100, 101, 103, 107, 22, 23, 24, 25, 26] [0, 1, 2, 4, 5, 6, 8, 9, 10, 12, 13, 14, 15, 16, 17, 20, 22, 23, 24] [3, 7, 11, 18, 19, 21, 25, 26, 27, 28, 29, 30] (fun (l : Nat → Bool) (vs : Nat → Value) (w' : World) => N ≤ w'.heap.size ∧ LK w1.heap.size [(Y, 0, .int .i64 ra), (Y, 1, .int .i64 rb), (Y, 2, .int .i64 G), (B, 0, .int .i64 route), (B, 1, .slice (some ⟨bw, ow, none⟩) ws.length cap), (w.heap.size + 1, 0, .int .i64 a0), (w.heap.size + 1, 1, .int .i64 b0), (w.heap.size + 1, 2, .int .i64 c0), (w.heap.size, 0, .int .i64 route0), (w.heap.size, 1, .slice aw0 ws0.length cap0)] [(.slice (some ⟨bs, os, none⟩) st.length cv, st), (.slice ax xs.length cx, xs), (.slice as0 st0.length cas0, st0)] [(.slice (some ⟨bw, ow, none⟩) ws.length cap, ws), (.slice aw0 ws0.length cap0, ws0)] w w' ∧ (l 3 = true → LitAt N w' (vs 85) 3 [.int .i64 route0, .slice aw0 ws0.length cap0, .int .i64 route, .slice (some ⟨bw, ow, none⟩) ws.length cap, .int .i64 route, .slice (some ⟨bw, ow, none⟩) ws.length cap]) ∧ (l 7 = true → LitAt N w' (vs 89) 3 [.slice as0 st0.length cas0, .slice (some ⟨bs, os, none⟩) st.length cv, .slice (some ⟨bs, os, none⟩) st.length cv]) ∧ (l 11 = true → LitAt N w' (vs 93) 3 [.int .i64 wing, .int .i64 m, .int .i64 wing]) ∧ (l 18 = true → ∃ r, (vs 100) = .int .i64 r) ∧ (l 19 = true → ∃ r, (vs 101) = .int .i64 r) ∧ (l 21 = true → ∃ r, LitAt N w' (vs 103) 3 [.int .i64 second, .int .i64 r, .int .i64 second]) ∧ (l 25 = true → LitAt N w' (vs 107) 3 [.int .i64 a0, .int .i64 b0, .int .i64 c0, .int .i64 ra, .int .i64 rb, .int .i64 G, .int .i64 a0, .int .i64 b0, .int .i64 c0]) ∧ (l 26 = true → LitAt N w' (vs 22) 3 [.int .i64 route0, .slice aw0 ws0.length cap0, .int .i64 route, .slice (some ⟨bw, ow, none⟩) ws.length cap, .int .i64 route, .slice (some ⟨bw, ow, none⟩) ws.length cap]) ∧ (l 27 = true → LitAt N w' (vs 23) 3 [.slice as0 st0.length cas0, .slice (some ⟨bs, os, none⟩) st.length cv, .slice (some ⟨bs, os, none⟩) st.length cv]) ∧ (l 28 = true → LitAt N w' (vs 24) 3 [.int .i64 wing, .int .i64 m, .int .i64 wing]) ∧ (l 29 = true → ∃ r, LitAt N w' (vs 25) 3 [.int .i64 second, .int .i64 r, .int .i64 second]) ∧ (l 30 = true → LitAt N w' (vs 26) 3 [.int .i64 a0, .int .i64 b0, .int .i64 c0, .int .i64 ra, .int .i64 rb, .int .i64 G, .int .i64 a0, .int .i64 b0, .int .i64 c0])) (by kernel_rfl) (by kernel_rfl) (by kernel_rfl) (Nat.le_of_ble_eq_true (by kernel_rfl)) (by kernel_rfl) (by kernel_rfl) hHeld ?_ ?_ ?_
        · intro l vs hall
          exact ⟨Nat.le_of_eq hN.symm, K.out, fun h => absurd h (by rw [hall 3 (by simp)]; simp), fun h => absurd h (by rw [hall 7 (by simp)]; simp), fun h => absurd h (by rw [hall 11 (by simp)]; simp), fun h => absurd h (by rw [hall 18 (by simp)]; simp), fun h => absurd h (by rw [hall 19 (by simp)]; simp), fun h => absurd h (by rw [hall 21 (by simp)]; simp), fun h => absurd h (by rw [hall 25 (by simp)]; simp), fun h => absurd h (by rw [hall 26 (by simp)]; simp), fun h => absurd h (by rw [hall 27 (by simp)]; simp), fun h => absurd h (by rw [hall 28 (by simp)]; simp), fun h => absurd h (by rw [hall 29 (by simp)]; simp), fun h => absurd h (by rw [hall 30 (by simp)]; simp)⟩
        · skip
          refine StepS.cons (o := _) rfl (fun l vs wx hl haw hSw hF K' hK => ?_) ?_
          · have HF := hid hF
            have Haw := hid haw
            clear hF haw
            have KX := hid HF.out.2.1
            simp only [putAll, Act.put, List.setIfInBounds_toArray, List.set_cons_zero, List.set_cons_succ]
            go_simp
            have KY := hid (KX.out.alloc (.cells (List.toArray [.int .i64 route0, .slice aw0 ws0.length cap0, .int .i64 route, .slice (some ⟨bw, ow, none⟩) ws.length cap, .int .i64 route, .slice (some ⟨bw, ow, none⟩) ws.length cap]) 24))
            obtain ⟨hNx, _, E3, E7, E11, E18, E19, E21, E25, E26, E27, E28, E29, E30⟩ := HF.out
            refine putK (vs' := fun k => if k = 85 then .slice (some ⟨wx.heap.size, 0, none⟩) 3 3 else vs k) hK.out (by kernel_rfl) ⟨KY.out.c (by simp), KY.out.c (by simp), KY.out.c (by simp), KY.out.c (by simp), KY.out.c (by simp), KY.out.c (by simp), KY.out.c (by simp), KY.out.c (by simp), KY.out.c (by simp), KY.out.c (by simp), (KY.out.i (v := .slice (some ⟨bs, os, none⟩) st.length cv) (xs := st) (by simp)).cell hms1⟩ ⟨Nat.le_trans hNx (below_alloc wx _).size, KY.out, fun _ => LitAt.new hNx, fun h => (E7 h).later (gb_below (below_alloc wx _) (some w1.heap.size)) hdN, fun h => (E11 h).later (gb_below (below_alloc wx _) (some w1.heap.size)) hdN, fun h => E18 h, fun h => E19 h, fun h => by obtain ⟨r', h'⟩ := E21 h; exact ⟨r', h'.later (gb_below (below_alloc wx _) (some w1.heap.size)) hdN⟩, fun h => (E25 h).later (gb_below (below_alloc wx _) (some w1.heap.size)) hdN, fun h => (E26 h).later (gb_below (below_alloc wx _) (some w1.heap.size)) hdN, fun h => (E27 h).later (gb_below (below_alloc wx _) (some w1.heap.size)) hdN, fun h => (E28 h).later (gb_below (below_alloc wx _) (some w1.heap.size)) hdN, fun h => by obtain ⟨r', h'⟩ := E29 h; exact ⟨r', h'.later (gb_below (below_alloc wx _) (some w1.heap.size)) hdN⟩, fun h => (E30 h).later (gb_below (below_alloc wx _) (some w1.heap.size)) hdN⟩
          refine StepS.cons (o := _) rfl (fun l vs wx hl haw hSw hF K' hK => ?_) ?_
          · have HF := hid hF
            have Haw := hid haw
            clear hF haw
            have KX := hid HF.out.2.1
            simp only [putAll, Act.put, List.setIfInBounds_toArray, List.set_cons_zero, List.set_cons_succ]
            go_simp
            have KY := hid (KX.out.alloc (.cells (List.toArray [.slice as0 st0.length cas0, .slice (some ⟨bs, os, none⟩) st.length cv, .slice (some ⟨bs, os, none⟩) st.length cv]) 25))
            obtain ⟨hNx, _, E3, E7, E11, E18, E19, E21, E25, E26, E27, E28, E29, E30⟩ := HF.out
            refine putK (vs' := fun k => if k = 89 then .slice (some ⟨wx.heap.size, 0, none⟩) 3 3 else vs k) hK.out (by kernel_rfl) ⟨KY.out.c (by simp), KY.out.c (by simp), KY.out.c (by simp), KY.out.c (by simp), KY.out.c (by simp), KY.out.c (by simp), KY.out.c (by simp), KY.out.c (by simp), KY.out.c (by simp), KY.out.c (by simp), (KY.out.i (v := .slice (some ⟨bs, os, none⟩) st.length cv) (xs := st) (by simp)).cell hms1⟩ ⟨Nat.le_trans hNx (below_alloc wx _).size, KY.out, fun h => (E3 h).later (gb_below (below_alloc wx _) (some w1.heap.size)) hdN, fun _ => LitAt.new hNx, fun h => (E11 h).later (gb_below (below_alloc wx _) (some w1.heap.size)) hdN, fun h => E18 h, fun h => E19 h, fun h => by obtain ⟨r', h'⟩ := E21 h; exact ⟨r', h'.later (gb_below (below_alloc wx _) (some w1.heap.size)) hdN⟩, fun h => (E25 h).later (gb_below (below_alloc wx _) (some w1.heap.size)) hdN, fun h => (E26 h).later (gb_below (below_alloc wx _) (some w1.heap.size)) hdN, fun h => (E27 h).later (gb_below (below_alloc wx _) (some w1.heap.size)) hdN, fun h => (E28 h).later (gb_below (below_alloc wx _) (some w1.heap.size)) hdN, fun h => by obtain ⟨r', h'⟩ := E29 h; exact ⟨r', h'.later (gb_below (below_alloc wx _) (some w1.heap.size)) hdN⟩, fun h => (E30 h).later (gb_below (below_alloc wx _) (some w1.heap.size)) hdN⟩
          refine StepS.cons (o := _) rfl (fun l vs wx hl haw hSw hF K' hK => ?_) ?_
          · have HF := hid hF
            have Haw := hid haw
            clear hF haw
            have KX := hid HF.out.2.1
            simp only [putAll, Act.put, List.setIfInBounds_toArray, List.set_cons_zero, List.set_cons_succ]
            go_simp
            have KY := hid (KX.out.alloc (.cells (List.toArray [.int .i64 wing, .int .i64 m, .int .i64 wing]) 3))
            obtain ⟨hNx, _, E3, E7, E11, E18, E19, E21, E25, E26, E27, E28, E29, E30⟩ := HF.out
            refine putK (vs' := fun k => if k = 93 then .slice (some ⟨wx.heap.size, 0, none⟩) 3 3 else vs k) hK.out (by kernel_rfl) ⟨KY.out.c (by simp), KY.out.c (by simp), KY.out.c (by simp), KY.out.c (by simp), KY.out.c (by simp), KY.out.c (by simp), KY.out.c (by simp), KY.out.c (by simp), KY.out.c (by simp), KY.out.c (by simp), (KY.out.i (v := .slice (some ⟨bs, os, none⟩) st.length cv) (xs := st) (by simp)).cell hms1⟩ ⟨Nat.le_trans hNx (below_alloc wx _).size, KY.out, fun h => (E3 h).later (gb_below (below_alloc wx _) (some w1.heap.size)) hdN, fun h => (E7 h).later (gb_below (below_alloc wx _) (some w1.heap.size)) hdN, fun _ => LitAt.new hNx, fun h => E18 h, fun h => E19 h, fun h => by obtain ⟨r', h'⟩ := E21 h; exact ⟨r', h'.later (gb_below (below_alloc wx _) (some w1.heap.size)) hdN⟩, fun h => (E25 h).later (gb_below (below_alloc wx _) (some w1.heap.size)) hdN, fun h => (E26 h).later (gb_below (below_alloc wx _) (some w1.heap.size)) hdN, fun h => (E27 h).later (gb_below (below_alloc wx _) (some w1.heap.size)) hdN, fun h => (E28 h).later (gb_below (below_alloc wx _) (some w1.heap.size)) hdN, fun h => by obtain ⟨r', h'⟩ := E29 h; exact ⟨r', h'.later (gb_below (below_alloc wx _) (some w1.heap.size)) hdN⟩, fun h => (E30 h).later (gb_below (below_alloc wx _) (some w1.heap.size)) hdN⟩
          refine StepS.cons (o := _) rfl (fun l vs wx hl haw hSw hF K' hK => ?_) ?_
          · have HF := hid hF
            have Haw := hid haw
            clear hF haw
            have KX := hid HF.out.2.1
            simp only [putAll, Act.put, List.setIfInBounds_toArray, List.set_cons_zero, List.set_cons_succ]
            go_simp
            go_at_call 40; refine (roll_any _ 100 _ KX.out.beat (by omega)).mono ?_; rintro e wy ⟨r, rfl, hr1, hr2, hbt, hgb⟩
            have KY := hid (KX.out.go hgb hbt)
            obtain ⟨hNx, _, E3, E7, E11, E18, E19, E21, E25, E26, E27, E28, E29, E30⟩ := HF.out
            refine putK (vs' := fun k => if k = 100 then .int .i64 r else vs k) hK.out (by kernel_rfl) ⟨KY.out.c (by simp), KY.out.c (by simp), KY.out.c (by simp), KY.out.c (by simp), KY.out.c (by simp), KY.out.c (by simp), KY.out.c (by simp), KY.out.c (by simp), KY.out.c (by simp), KY.out.c (by simp), (KY.out.i (v := .slice (some ⟨bs, os, none⟩) st.length cv) (xs := st) (by simp)).cell hms1⟩ ⟨Nat.le_trans hNx hgb.size, KY.out, fun h => (E3 h).later hgb hdN, fun h => (E7 h).later hgb hdN, fun h => (E11 h).later hgb hdN, fun _ => ⟨r, rfl⟩, fun h => E19 h, fun h => by obtain ⟨r', h'⟩ := E21 h; exact ⟨r', h'.later hgb hdN⟩, fun h => (E25 h).later hgb hdN, fun h => (E26 h).later hgb hdN, fun h => (E27 h).later hgb hdN, fun h => (E28 h).later hgb hdN, fun h => by obtain ⟨r', h'⟩ := E29 h; exact ⟨r', h'.later hgb hdN⟩, fun h => (E30 h).later hgb hdN⟩
          refine StepS.cons (o := _) rfl (fun l vs wx hl haw hSw hF K' hK => ?_) ?_
          · have HF := hid hF
            have Haw := hid haw
            clear hF haw
            have KX := hid HF.out.2.1
            have hmk := Haw.out 18 (by kernel_rfl)
            have hex := HF.out.2.2.2.2.2.1 hmk
            clear hmk
            apply Exists.elim hex
            intro r hr
            clear hex
            simp only [putAll, Act.put, List.setIfInBounds_toArray, List.set_cons_zero, List.set_cons_succ]
            simp only [hr]
            go_simp
            have KY := KX
            obtain ⟨hNx, _, E3, E7, E11, E18, E19, E21, E25, E26, E27, E28, E29, E30⟩ := HF.out
            refine putK (vs' := fun k => if k = 101 then .int .i64 (IntKind.i64.wrap (nm st m + r)) else if k = 100 then .int .i64 r else vs k) hK.out (by kernel_rfl) ⟨KY.out.c (by simp), KY.out.c (by simp), KY.out.c (by simp), KY.out.c (by simp), KY.out.c (by simp), KY.out.c (by simp), KY.out.c (by simp), KY.out.c (by simp), KY.out.c (by simp), KY.out.c (by simp), (KY.out.i (v := .slice (some ⟨bs, os, none⟩) st.length cv) (xs := st) (by simp)).cell hms1⟩ ⟨hNx, KY.out, fun h => E3 h, fun h => E7 h, fun h => E11 h, fun _ => ⟨r, rfl⟩, fun _ => ⟨_, rfl⟩, fun h => E21 h, fun h => E25 h, fun h => E26 h, fun h => E27 h, fun h => E28 h, fun h => E29 h, fun h => E30 h⟩
          refine StepS.cons (o := _) rfl (fun l vs wx hl haw hSw hF K' hK => ?_) ?_
          · have HF := hid hF
            have Haw := hid haw
            clear hF haw
            have KX := hid HF.out.2.1
            have hmk := Haw.out 19 (by kernel_rfl)
            have hex := HF.out.2.2.2.2.2.2.1 hmk
            clear hmk
            apply Exists.elim hex
            intro r hr
            clear hex
            simp only [putAll, Act.put, List.setIfInBounds_toArray, List.set_cons_zero, List.set_cons_succ]
            simp only [hr]
            go_simp
            have KY := hid (KX.out.alloc (.cells (List.toArray [.int .i64 second, .int .i64 r, .int .i64 second]) 3))
            obtain ⟨hNx, _, E3, E7, E11, E18, E19, E21, E25, E26, E27, E28, E29, E30⟩ := HF.out
            refine putK (vs' := fun k => if k = 103 then .slice (some ⟨wx.heap.size, 0, none⟩) 3 3 else if k = 101 then .int .i64 r else vs k) hK.out (by kernel_rfl) ⟨KY.out.c (by simp), KY.out.c (by simp), KY.out.c (by simp), KY.out.c (by simp), KY.out.c (by simp), KY.out.c (by simp), KY.out.c (by simp), KY.out.c (by simp), KY.out.c (by simp), KY.out.c (by simp), (KY.out.i (v := .slice (some ⟨bs, os, none⟩) st.length cv) (xs := st) (by simp)).cell hms1⟩ ⟨Nat.le_trans hNx (below_alloc wx _).size, KY.out, fun h => (E3 h).later (gb_below (below_alloc wx _) (some w1.heap.size)) hdN, fun h => (E7 h).later (gb_below (below_alloc wx _) (some w1.heap.size)) hdN, fun h => (E11 h).later (gb_below (below_alloc wx _) (some w1.heap.size)) hdN, fun h => E18 h, fun _ => ⟨r, rfl⟩, fun _ => ⟨r, LitAt.new hNx⟩, fun h => (E25 h).later (gb_below (below_alloc wx _) (some w1.heap.size)) hdN, fun h => (E26 h).later (gb_below (below_alloc wx _) (some w1.heap.size)) hdN, fun h => (E27 h).later (gb_below (below_alloc wx _) (some w1.heap.size)) hdN, fun h => (E28 h).later (gb_below (below_alloc wx _) (some w1.heap.size)) hdN, fun h => by obtain ⟨r', h'⟩ := E29 h; exact ⟨r', h'.later (gb_below (below_alloc wx _) (some w1.heap.size)) hdN⟩, fun h => (E30 h).later (gb_below (below_alloc wx _) (some w1.heap.size)) hdN⟩
          refine StepS.cons (o := _) rfl (fun l vs wx hl haw hSw hF K' hK => ?_) ?_
          · have HF := hid hF
            have Haw := hid haw
            clear hF haw
            have KX := hid HF.out.2.1
            simp only [putAll, Act.put, List.setIfInBounds_toArray, List.set_cons_zero, List.set_cons_succ]
            go_simp
            have KY := hid (KX.out.alloc (.cells (List.toArray [.int .i64 a0, .int .i64 b0, .int .i64 c0, .int .i64 ra, .int .i64 rb, .int .i64 G, .int .i64 a0, .int .i64 b0, .int .i64 c0]) 50))
            obtain ⟨hNx, _, E3, E7, E11, E18, E19, E21, E25, E26, E27, E28, E29, E30⟩ := HF.out
            refine putK (vs' := fun k => if k = 107 then .slice (some ⟨wx.heap.size, 0, none⟩) 3 3 else vs k) hK.out (by kernel_rfl) ⟨KY.out.c (by simp), KY.out.c (by simp), KY.out.c (by simp), KY.out.c (by simp), KY.out.c (by simp), KY.out.c (by simp), KY.out.c (by simp), KY.out.c (by simp), KY.out.c (by simp), KY.out.c (by simp), (KY.out.i (v := .slice (some ⟨bs, os, none⟩) st.length cv) (xs := st) (by simp)).cell hms1⟩ ⟨Nat.le_trans hNx (below_alloc wx _).size, KY.out, fun h => (E3 h).later (gb_below (below_alloc wx _) (some w1.heap.size)) hdN, fun h => (E7 h).later (gb_below (below_alloc wx _) (some w1.heap.size)) hdN, fun h => (E11 h).later (gb_below (below_alloc wx _) (some w1.heap.size)) hdN, fun h => E18 h, fun h => E19 h, fun h => by obtain ⟨r', h'⟩ := E21 h; exact ⟨r', h'.later (gb_below (below_alloc wx _) (some w1.heap.size)) hdN⟩, fun _ => LitAt.new hNx, fun h => (E26 h).later (gb_below (below_alloc wx _) (some w1.heap.size)) hdN, fun h => (E27 h).later (gb_below (below_alloc wx _) (some w1.heap.size)) hdN, fun h => (E28 h).later (gb_below (below_alloc wx _) (some w1.heap.size)) hdN, fun h => by obtain ⟨r', h'⟩ := E29 h; exact ⟨r', h'.later (gb_below (below_alloc wx _) (some w1.heap.size)) hdN⟩, fun h => (E30 h).later (gb_below (below_alloc wx _) (some w1.heap.size)) hdN⟩
          refine StepS.cons (o := _) rfl (fun l vs wx hl haw hSw hF K' hK => ?_) ?_
          · have HF := hid hF
            have Haw := hid haw
            clear hF haw
            have KX := hid HF.out.2.1
            simp only [putAll, Act.put, List.setIfInBounds_toArray, List.set_cons_zero, List.set_cons_succ]
            go_simp
            have KY := KX
            have hmk := Haw.out 3 (by kernel_rfl)
            obtain ⟨hNx, _, E3, E7, E11, E18, E19, E21, E25, E26, E27, E28, E29, E30⟩ := HF.out
            refine putK (vs' := fun k => if k = 22 then vs 85 else vs k) hK.out (by kernel_rfl) ⟨KY.out.c (by simp), KY.out.c (by simp), KY.out.c (by simp), KY.out.c (by simp), KY.out.c (by simp), KY.out.c (by simp), KY.out.c (by simp), KY.out.c (by simp), KY.out.c (by simp), KY.out.c (by simp), (KY.out.i (v := .slice (some ⟨bs, os, none⟩) st.length cv) (xs := st) (by simp)).cell hms1⟩ ⟨hNx, KY.out, fun h => E3 h, fun h => E7 h, fun h => E11 h, fun h => E18 h, fun h => E19 h, fun h => E21 h, fun h => E25 h, fun _ => E3 hmk, fun h => E27 h, fun h => E28 h, fun h => E29 h, fun h => E30 h⟩
          refine StepS.cons (o := _) rfl (fun l vs wx hl haw hSw hF K' hK => ?_) ?_
          · have HF := hid hF
            have Haw := hid haw
            clear hF haw
            have KX := hid HF.out.2.1
            simp only [putAll, Act.put, List.setIfInBounds_toArray, List.set_cons_zero, List.set_cons_succ]
            go_simp
            have KY := KX
            have hmk := Haw.out 7 (by kernel_rfl)
            obtain ⟨hNx, _, E3, E7, E11, E18, E19, E21, E25, E26, E27, E28, E29, E30⟩ := HF.out
            refine putK (vs' := fun k => if k = 23 then vs 89 else vs k) hK.out (by kernel_rfl) ⟨KY.out.c (by simp), KY.out.c (by simp), KY.out.c (by simp), KY.out.c (by simp), KY.out.c (by simp), KY.out.c (by simp), KY.out.c (by simp), KY.out.c (by simp), KY.out.c (by simp), KY.out.c (by simp), (KY.out.i (v := .slice (some ⟨bs, os, none⟩) st.length cv) (xs := st) (by simp)).cell hms1⟩ ⟨hNx, KY.out, fun h => E3 h, fun h => E7 h, fun h => E11 h, fun h => E18 h, fun h => E19 h, fun h => E21 h, fun h => E25 h, fun h => E26 h, fun _ => E7 hmk, fun h => E28 h, fun h => E29 h, fun h => E30 h⟩
          refine StepS.cons (o := _) rfl (fun l vs wx hl haw hSw hF K' hK => ?_) ?_
          · have HF := hid hF
            have Haw := hid haw
            clear hF haw
            have KX := hid HF.out.2.1
            simp only [putAll, Act.put, List.setIfInBounds_toArray, List.set_cons_zero, List.set_cons_succ]
            go_simp
            have KY := KX
            have hmk := Haw.out 11 (by kernel_rfl)
            obtain ⟨hNx, _, E3, E7, E11, E18, E19, E21, E25, E26, E27, E28, E29, E30⟩ := HF.out
            refine putK (vs' := fun k => if k = 24 then vs 93 else vs k) hK.out (by kernel_rfl) ⟨KY.out.c (by simp), KY.out.c (by simp), KY.out.c (by simp), KY.out.c (by simp), KY.out.c (by simp), KY.out.c (by simp), KY.out.c (by simp), KY.out.c (by simp), KY.out.c (by simp), KY.out.c (by simp), (KY.out.i (v := .slice (some ⟨bs, os, none⟩) st.length cv) (xs := st) (by simp)).cell hms1⟩ ⟨hNx, KY.out, fun h => E3 h, fun h => E7 h, fun h => E11 h, fun h => E18 h, fun h => E19 h, fun h => E21 h, fun h => E25 h, fun h => E26 h, fun h => E27 h, fun _ => E11 hmk, fun h => E29 h, fun h => E30 h⟩
          refine StepS.cons (o := _) rfl (fun l vs wx hl haw hSw hF K' hK => ?_) ?_
          · have HF := hid hF
            have Haw := hid haw
            clear hF haw
            have KX := hid HF.out.2.1
            simp only [putAll, Act.put, List.setIfInBounds_toArray, List.set_cons_zero, List.set_cons_succ]
            go_simp
            have KY := KX
            have hmk := Haw.out 21 (by kernel_rfl)
            obtain ⟨hNx, _, E3, E7, E11, E18, E19, E21, E25, E26, E27, E28, E29, E30⟩ := HF.out
            refine putK (vs' := fun k => if k = 25 then vs 103 else vs k) hK.out (by kernel_rfl) ⟨KY.out.c (by simp), KY.out.c (by simp), KY.out.c (by simp), KY.out.c (by simp), KY.out.c (by simp), KY.out.c (by simp), KY.out.c (by simp), KY.out.c (by simp), KY.out.c (by simp), KY.out.c (by simp), (KY.out.i (v := .slice (some ⟨bs, os, none⟩) st.length cv) (xs := st) (by simp)).cell hms1⟩ ⟨hNx, KY.out, fun h => E3 h, fun h => E7 h, fun h => E11 h, fun h => E18 h, fun h => E19 h, fun h => E21 h, fun h => E25 h, fun h => E26 h, fun h => E27 h, fun h => E28 h, fun _ => E21 hmk, fun h => E30 h⟩
          refine StepS.cons (o := _) rfl (fun l vs wx hl haw hSw hF K' hK => ?_) ?_
          · have HF := hid hF
            have Haw := hid haw
            clear hF haw
            have KX := hid HF.out.2.1
            simp only [putAll, Act.put, List.setIfInBounds_toArray, List.set_cons_zero, List.set_cons_succ]
            go_simp
            have KY := KX
            have hmk := Haw.out 25 (by kernel_rfl)
            obtain ⟨hNx, _, E3, E7, E11, E18, E19, E21, E25, E26, E27, E28, E29, E30⟩ := HF.out
            refine putK (vs' := fun k => if k = 26 then vs 107 else vs k) hK.out (by kernel_rfl) ⟨KY.out.c (by simp), KY.out.c (by simp), KY.out.c (by simp), KY.out.c (by simp), KY.out.c (by simp), KY.out.c (by simp), KY.out.c (by simp), KY.out.c (by simp), KY.out.c (by simp), KY.out.c (by simp), (KY.out.i (v := .slice (some ⟨bs, os, none⟩) st.length cv) (xs := st) (by simp)).cell hms1⟩ ⟨hNx, KY.out, fun h => E3 h, fun h => E7 h, fun h => E11 h, fun h => E18 h, fun h => E19 h, fun h => E21 h, fun h => E25 h, fun h => E26 h, fun h => E27 h, fun h => E28 h, fun h => E29 h, fun _ => E25 hmk⟩
          exact StepS.nil
        · intro l vs wx hall hSw hF
          obtain ⟨hNx, KX, E3, E7, E11, E18, E19, E21, E25, E26, E27, E28, E29, E30⟩ := hF
          have h26 := E26 (hall 26 (by simp))
          obtain ⟨SS, es, bs1, _, cs1⟩ := h26
          have h27 := E27 (hall 27 (by simp))
          obtain ⟨LS, el, bs2, _, cs2⟩ := h27
          have h28 := E28 (hall 28 (by simp))
          obtain ⟨WI, ew, bs3, _, cs3⟩ := h28
          have h29 := E29 (hall 29 (by simp))
          obtain ⟨t, SE, et, bs4, _, cs4⟩ := h29
          have h30 := E30 (hall 30 (by simp))
          obtain ⟨RS, ep, bs5, _, cs5⟩ := h30
          clear E3 E7 E11 E18 E19 E21 E25 E26 E27 E28 E29 E30 hall
          simp only [putAll, Act.put, List.setIfInBounds_toArray, List.set_cons_zero, List.set_cons_succ]
          simp only [es, el, ew, et, ep]
          apply NoPanic.normal
          have K : Hid (LK w1.heap.size [(SS, 0, .int .i64 route0), (SS, 1, .slice aw0 ws0.length cap0), (SS, 2, .int .i64 route), (SS, 3, .slice (some ⟨bw, ow, none⟩) ws.length cap), (SS, 4, .int .i64 route), (SS, 5, .slice (some ⟨bw, ow, none⟩) ws.length cap), (LS, 0, .slice as0 st0.length cas0), (LS, 1, .slice (some ⟨bs, os, none⟩) st.length cv), (LS, 2, .slice (some ⟨bs, os, none⟩) st.length cv), (WI, 0, .int .i64 wing), (WI, 1, .int .i64 m), (WI, 2, .int .i64 wing), (SE, 0, .int .i64 second), (SE, 1, .int .i64 t), (SE, 2, .int .i64 second), (RS, 0, .int .i64 a0), (RS, 1, .int .i64 b0), (RS, 2, .int .i64 c0), (RS, 3, .int .i64 ra), (RS, 4, .int .i64 rb), (RS, 5, .int .i64 G), (RS, 6, .int .i64 a0), (RS, 7, .int .i64 b0), (RS, 8, .int .i64 c0)] [(.slice (some ⟨bs, os, none⟩) st.length cv, st), (.slice ax xs.length cx, xs), (.slice as0 st0.length cas0, st0)] [(.slice (some ⟨bw, ow, none⟩) ws.length cap, ws), (.slice aw0 ws0.length cap0, ws0)] w wx) := hid (KS.out.addLit (KS.out.addLit (KS.out.addLit (KS.out.addLit (KS.out.addLit (KX.sub (cs2 := []) (fun _ h => by cases h)) (hN ▸ bs5) cs5) (hN ▸ bs4) cs4) (hN ▸ bs3) cs3) (hN ▸ bs2) cs2) (hN ▸ bs1) cs1)
          clear KX KS cs1 cs2 cs3 cs4 cs5 bs1 bs2 bs3 bs4 bs5 es el ew et ep hSw hNx hHeld hSd
          go_wp2_with fail
          go_loopw [27] (fun i wr => ∃ k : Nat, k ≤ 3 ∧ i = .int .i64 k ∧ LK w1.heap.size [(SS, 0, .int .i64 route0), (SS, 1, .slice aw0 ws0.length cap0), (SS, 2, .int .i64 route), (SS, 3, .slice (some ⟨bw, ow, none⟩) ws.length cap), (SS, 4, .int .i64 route), (SS, 5, .slice (some ⟨bw, ow, none⟩) ws.length cap), (LS, 0, .slice as0 st0.length cas0), (LS, 1, .slice (some ⟨bs, os, none⟩) st.length cv), (LS, 2, .slice (some ⟨bs, os, none⟩) st.length cv), (WI, 0, .int .i64 wing), (WI, 1, .int .i64 m), (WI, 2, .int .i64 wing), (SE, 0, .int .i64 second), (SE, 1, .int .i64 t), (SE, 2, .int .i64 second), (RS, 0, .int .i64 a0), (RS, 1, .int .i64 b0), (RS, 2, .int .i64 c0), (RS, 3, .int .i64 ra), (RS, 4, .int .i64 rb), (RS, 5, .int .i64 G), (RS, 6, .int .i64 a0), (RS, 7, .int .i64 b0), (RS, 8, .int .i64 c0)] [(.slice (some ⟨bs, os, none⟩) st.length cv, st), (.slice ax xs.length cx, xs), (.slice as0 st0.length cas0, st0)] [(.slice (some ⟨bw, ow, none⟩) ws.length cap, ws), (.slice aw0 ws0.length cap0, ws0)] w wr)
            (fun i _ => 3 - (intOf i).toNat)
          case atStart => exact ⟨0, by omega, rfl, K.out⟩
          case round =>
            as_aux_lemma =>
            obtain ⟨k, hk, rfl, KK⟩ := hrel
            by_cases hlt : k < 3
            · obtain ⟨rt, vq, wq, vr, sq, gi, sc, ra', rb', rc', m0, m1, m2, m3, m4, m5, m6, m7, mW, mS, gn, gnm, gns⟩ : ∃ (rt : Int) (vq : Value) (wq : List Wing) (vr : Value) (sq : List Int) (gi sc ra' rb' rc' : Int), (SS, k * 2, Value.int .i64 rt) ∈ ([(SS, 0, .int .i64 route0), (SS, 1, .slice aw0 ws0.length cap0), (SS, 2, .int .i64 route), (SS, 3, .slice (some ⟨bw, ow, none⟩) ws.length cap), (SS, 4, .int .i64 route), (SS, 5, .slice (some ⟨bw, ow, none⟩) ws.length cap), (LS, 0, .slice as0 st0.length cas0), (LS, 1, .slice (some ⟨bs, os, none⟩) st.length cv), (LS, 2, .slice (some ⟨bs, os, none⟩) st.length cv), (WI, 0, .int .i64 wing), (WI, 1, .int .i64 m), (WI, 2, .int .i64 wing), (SE, 0, .int .i64 second), (SE, 1, .int .i64 t), (SE, 2, .int .i64 second), (RS, 0, .int .i64 a0), (RS, 1, .int .i64 b0), (RS, 2, .int .i64 c0), (RS, 3, .int .i64 ra), (RS, 4, .int .i64 rb), (RS, 5, .int .i64 G), (RS, 6, .int .i64 a0), (RS, 7, .int .i64 b0), (RS, 8, .int .i64 c0)] : Cells) ∧ (SS, k * 2 + 1, vq) ∈ ([(SS, 0, .int .i64 route0), (SS, 1, .slice aw0 ws0.length cap0), (SS, 2, .int .i64 route), (SS, 3, .slice (some ⟨bw, ow, none⟩) ws.length cap), (SS, 4, .int .i64 route), (SS, 5, .slice (some ⟨bw, ow, none⟩) ws.length cap), (LS, 0, .slice as0 st0.length cas0), (LS, 1, .slice (some ⟨bs, os, none⟩) st.length cv), (LS, 2, .slice (some ⟨bs, os, none⟩) st.length cv), (WI, 0, .int .i64 wing), (WI, 1, .int .i64 m), (WI, 2, .int .i64 wing), (SE, 0, .int .i64 second), (SE, 1, .int .i64 t), (SE, 2, .int .i64 second), (RS, 0, .int .i64 a0), (RS, 1, .int .i64 b0), (RS, 2, .int .i64 c0), (RS, 3, .int .i64 ra), (RS, 4, .int .i64 rb), (RS, 5, .int .i64 G), (RS, 6, .int .i64 a0), (RS, 7, .int .i64 b0), (RS, 8, .int .i64 c0)] : Cells) ∧ (LS, k, vr) ∈ ([(SS, 0, .int .i64 route0), (SS, 1, .slice aw0 ws0.length cap0), (SS, 2, .int .i64 route), (SS, 3, .slice (some ⟨bw, ow, none⟩) ws.length cap), (SS, 4, .int .i64 route), (SS, 5, .slice (some ⟨bw, ow, none⟩) ws.length cap), (LS, 0, .slice as0 st0.length cas0), (LS, 1, .slice (some ⟨bs, os, none⟩) st.length cv), (LS, 2, .slice (some ⟨bs, os, none⟩) st.length cv), (WI, 0, .int .i64 wing), (WI, 1, .int .i64 m), (WI, 2, .int .i64 wing), (SE, 0, .int .i64 second), (SE, 1, .int .i64 t), (SE, 2, .int .i64 second), (RS, 0, .int .i64 a0), (RS, 1, .int .i64 b0), (RS, 2, .int .i64 c0), (RS, 3, .int .i64 ra), (RS, 4, .int .i64 rb), (RS, 5, .int .i64 G), (RS, 6, .int .i64 a0), (RS, 7, .int .i64 b0), (RS, 8, .int .i64 c0)] : Cells) ∧ (WI, k, Value.int .i64 gi) ∈ ([(SS, 0, .int .i64 route0), (SS, 1, .slice aw0 ws0.length cap0), (SS, 2, .int .i64 route), (SS, 3, .slice (some ⟨bw, ow, none⟩) ws.length cap), (SS, 4, .int .i64 route), (SS, 5, .slice (some ⟨bw, ow, none⟩) ws.length cap), (LS, 0, .slice as0 st0.length cas0), (LS, 1, .slice (some ⟨bs, os, none⟩) st.length cv), (LS, 2, .slice (some ⟨bs, os, none⟩) st.length cv), (WI, 0, .int .i64 wing), (WI, 1, .int .i64 m), (WI, 2, .int .i64 wing), (SE, 0, .int .i64 second), (SE, 1, .int .i64 t), (SE, 2, .int .i64 second), (RS, 0, .int .i64 a0), (RS, 1, .int .i64 b0), (RS, 2, .int .i64 c0), (RS, 3, .int .i64 ra), (RS, 4, .int .i64 rb), (RS, 5, .int .i64 G), (RS, 6, .int .i64 a0), (RS, 7, .int .i64 b0), (RS, 8, .int .i64 c0)] : Cells) ∧ (SE, k, Value.int .i64 sc) ∈ ([(SS, 0, .int .i64 route0), (SS, 1, .slice aw0 ws0.length cap0), (SS, 2, .int .i64 route), (SS, 3, .slice (some ⟨bw, ow, none⟩) ws.length cap), (SS, 4, .int .i64 route), (SS, 5, .slice (some ⟨bw, ow, none⟩) ws.length cap), (LS, 0, .slice as0 st0.length cas0), (LS, 1, .slice (some ⟨bs, os, none⟩) st.length cv), (LS, 2, .slice (some ⟨bs, os, none⟩) st.length cv), (WI, 0, .int .i64 wing), (WI, 1, .int .i64 m), (WI, 2, .int .i64 wing), (SE, 0, .int .i64 second), (SE, 1, .int .i64 t), (SE, 2, .int .i64 second), (RS, 0, .int .i64 a0), (RS, 1, .int .i64 b0), (RS, 2, .int .i64 c0), (RS, 3, .int .i64 ra), (RS, 4, .int .i64 rb), (RS, 5, .int .i64 G), (RS, 6, .int .i64 a0), (RS, 7, .int .i64 b0), (RS, 8, .int .i64 c0)] : Cells) ∧ (RS, k * 3, Value.int .i64 ra') ∈ ([(SS, 0, .int .i64 route0), (SS, 1, .slice aw0 ws0.length cap0), (SS, 2, .int .i64 route), (SS, 3, .slice (some ⟨bw, ow, none⟩) ws.length cap), (SS, 4, .int .i64 route), (SS, 5, .slice (some ⟨bw, ow, none⟩) ws.length cap), (LS, 0, .slice as0 st0.length cas0), (LS, 1, .slice (some ⟨bs, os, none⟩) st.length cv), (LS, 2, .slice (some ⟨bs, os, none⟩) st.length cv), (WI, 0, .int .i64 wing), (WI, 1, .int .i64 m), (WI, 2, .int .i64 wing), (SE, 0, .int .i64 second), (SE, 1, .int .i64 t), (SE, 2, .int .i64 second), (RS, 0, .int .i64 a0), (RS, 1, .int .i64 b0), (RS, 2, .int .i64 c0), (RS, 3, .int .i64 ra), (RS, 4, .int .i64 rb), (RS, 5, .int .i64 G), (RS, 6, .int .i64 a0), (RS, 7, .int .i64 b0), (RS, 8, .int .i64 c0)] : Cells) ∧ (RS, k * 3 + 1, Value.int .i64 rb') ∈ ([(SS, 0, .int .i64 route0), (SS, 1, .slice aw0 ws0.length cap0), (SS, 2, .int .i64 route), (SS, 3, .slice (some ⟨bw, ow, none⟩) ws.length cap), (SS, 4, .int .i64 route), (SS, 5, .slice (some ⟨bw, ow, none⟩) ws.length cap), (LS, 0, .slice as0 st0.length cas0), (LS, 1, .slice (some ⟨bs, os, none⟩) st.length cv), (LS, 2, .slice (some ⟨bs, os, none⟩) st.length cv), (WI, 0, .int .i64 wing), (WI, 1, .int .i64 m), (WI, 2, .int .i64 wing), (SE, 0, .int .i64 second), (SE, 1, .int .i64 t), (SE, 2, .int .i64 second), (RS, 0, .int .i64 a0), (RS, 1, .int .i64 b0), (RS, 2, .int .i64 c0), (RS, 3, .int .i64 ra), (RS, 4, .int .i64 rb), (RS, 5, .int .i64 G), (RS, 6, .int .i64 a0), (RS, 7, .int .i64 b0), (RS, 8, .int .i64 c0)] : Cells) ∧ (RS, k * 3 + 2, Value.int .i64 rc') ∈ ([(SS, 0, .int .i64 route0), (SS, 1, .slice aw0 ws0.length cap0), (SS, 2, .int .i64 route), (SS, 3, .slice (some ⟨bw, ow, none⟩) ws.length cap), (SS, 4, .int .i64 route), (SS, 5, .slice (some ⟨bw, ow, none⟩) ws.length cap), (LS, 0, .slice as0 st0.length cas0), (LS, 1, .slice (some ⟨bs, os, none⟩) st.length cv), (LS, 2, .slice (some ⟨bs, os, none⟩) st.length cv), (WI, 0, .int .i64 wing), (WI, 1, .int .i64 m), (WI, 2, .int .i64 wing), (SE, 0, .int .i64 second), (SE, 1, .int .i64 t), (SE, 2, .int .i64 second), (RS, 0, .int .i64 a0), (RS, 1, .int .i64 b0), (RS, 2, .int .i64 c0), (RS, 3, .int .i64 ra), (RS, 4, .int .i64 rb), (RS, 5, .int .i64 G), (RS, 6, .int .i64 a0), (RS, 7, .int .i64 b0), (RS, 8, .int .i64 c0)] : Cells) ∧ (vq, wq) ∈ ([(.slice (some ⟨bw, ow, none⟩) ws.length cap, ws), (.slice aw0 ws0.length cap0, ws0)] : List (Value × List Wing)) ∧ (vr, sq) ∈ ([(.slice (some ⟨bs, os, none⟩) st.length cv, st), (.slice ax xs.length cx, xs), (.slice as0 st0.length cas0, st0)] : List (Value × List Int)) ∧
                  wq.length ≤ 100 ∧ (∀ i, i < wq.length → (wg wq i).name.size ≤ 1000000) ∧ sq.length ≤ 1000000 := by
                have hx0 : ∀ i, i < ws0.length → (wg ws0 i).name.size ≤ 1000000 := fun i hi => by have := hl2 i hi; omega
                have hx1 := made_size hm h8
                have hx2 : st.length ≤ 1000000 := by have := Hls.out; omega
                rcases (by omega : k = 0 ∨ k = 1 ∨ k = 2) with rfl | rfl | rfl
                · exact ⟨route0, .slice aw0 ws0.length cap0, ws0, .slice as0 st0.length cas0, st0, wing, second, a0, b0, c0, by simp, by simp, by simp, by simp, by simp, by simp, by simp, by simp, by simp, by simp, by omega, hx0, by omega⟩
                · exact ⟨route, .slice (some ⟨bw, ow, none⟩) ws.length cap, ws, .slice (some ⟨bs, os, none⟩) st.length cv, st, m, t, ra, rb, G, by simp, by simp, by simp, by simp, by simp, by simp, by simp, by simp, by simp, by simp, by omega, hx1, hx2⟩
                · exact ⟨route, .slice (some ⟨bw, ow, none⟩) ws.length cap, ws, .slice (some ⟨bs, os, none⟩) st.length cv, st, wing, second, a0, b0, c0, by simp, by simp, by simp, by simp, by simp, by simp, by simp, by simp, by simp, by simp, by omega, hx1, hx2⟩
              obtain ⟨aq, cq, rfl, _⟩ := KK.g mW
              obtain ⟨ar, cr, rfl, _⟩ := KK.i mS
              have K := hid KK
              clear KK
              obtain ⟨P1, P2, hP⟩ : ∃ P1 P2, gapSpan rt wq sq gi sc = (P1, P2) := ⟨_, _, rfl⟩
              obtain ⟨E, hE⟩ : ∃ E, gapErr rt wq sq gi sc = E := ⟨_, rfl⟩
              obtain ⟨OL, OE, hO⟩ : ∃ OL OE, opensRes rt wq sq ra' rb' rc' = (OL, OE) := ⟨_, _, rfl⟩
              obtain ⟨X1, X2, X3, X4, hX'⟩ : ∃ X1 X2 X3 X4, widestRes rt wq sq = (X1, X2, X3, X4) := ⟨_, _, _, _, rfl⟩
              have hOl : OL.length ≤ 1000000 := opens_len hO gn
              clear hc hcs hm hms hl2 Hls
              have hp0 : ∀ W', WgAt none W' (.slice aq wq.length cq) wq → IntsAt none W' (.slice ar sq.length cr) sq → Calls Tryd.prog 49 #[.agg #[.int .i64 rt, .slice aq wq.length cq], .slice ar sq.length cr, .int .i64 gi, .int .i64 sc] W' (fun e w' => e = .returned (.tuple #[.agg #[.int .i64 P1, .int .i64 P2], .int .i64 E]) ∧ Below W'.heap.size W' w') := fun W' h1 h2 => by
                have h := Gap_any wq sq rt gi sc _ _ W' h1 h2 gn gnm gns
                rw [hP, hE] at h
                exact h
              have Hp0 := hid hp0
              clear hp0
              have hp1 : ∀ W', WgAt none W' (.slice aq wq.length cq) wq → IntsAt none W' (.slice ar sq.length cr) sq → Calls Tryd.prog 60 #[.agg #[.int .i64 rt, .slice aq wq.length cq], .slice ar sq.length cr, .int .i64 gi, .int .i64 sc] W' (fun e w' => e = .returned (.tuple #[.agg #[.int .i64 P1, .int .i64 P2], .int .i64 E]) ∧ Below W'.heap.size W' w') := fun W' h1 h2 => by
                have h := rGap_any wq sq rt gi sc _ _ W' h1 h2 gn gnm gns
                rw [hP, hE] at h
                exact h
              have Hp1 := hid hp1
              clear hp1
              have hp2 : ∀ W', WgAt none W' (.slice aq wq.length cq) wq → IntsAt none W' (.slice ar sq.length cr) sq → Calls Tryd.prog 55 #[.agg #[.int .i64 rt, .slice aq wq.length cq], .slice ar sq.length cr, .agg #[.int .i64 ra', .int .i64 rb', .int .i64 rc']] W' (fun e w' => ∃ v, e = .returned (.tuple #[v, .int .i64 OE]) ∧ OwnInts W'.heap.size w' v OL ∧ Below W'.heap.size W' w') := fun W' h1 h2 => by
                have h := Opens_any wq sq rt ra' rb' rc' _ _ W' h1 h2 gn gnm gns
                rw [hO] at h
                exact h
              have Hp2 := hid hp2
              clear hp2
              have hp3 : ∀ W', WgAt none W' (.slice aq wq.length cq) wq → IntsAt none W' (.slice ar sq.length cr) sq → Calls Tryd.prog 61 #[.agg #[.int .i64 rt, .slice aq wq.length cq], .slice ar sq.length cr, .agg #[.int .i64 ra', .int .i64 rb', .int .i64 rc']] W' (fun e w' => ∃ v, e = .returned (.tuple #[v, .int .i64 OE]) ∧ OwnInts W'.heap.size w' v OL ∧ Below W'.heap.size W' w') := fun W' h1 h2 => by
                have h := rOpens_any wq sq rt ra' rb' rc' _ _ W' h1 h2 gn gnm gns
                rw [hO] at h
                exact h
              have Hp3 := hid hp3
              clear hp3
              have hp4 : ∀ W', WgAt none W' (.slice aq wq.length cq) wq → IntsAt none W' (.slice ar sq.length cr) sq → Calls Tryd.prog 56 #[.agg #[.int .i64 rt, .slice aq wq.length cq], .slice ar sq.length cr] W' (fun e w' => e = .returned (.tuple #[.int .i64 X1, .int .i64 X2, .int .i64 X3, .int .i64 X4]) ∧ Below W'.heap.size W' w') := fun W' h1 h2 => by
                have h := Widest_any wq sq rt _ _ W' h1 h2 gn gnm gns
                rw [hX'] at h
                exact h
              have Hp4 := hid hp4
              clear hp4
              have hp5 : ∀ W', WgAt none W' (.slice aq wq.length cq) wq → IntsAt none W' (.slice ar sq.length cr) sq → Calls Tryd.prog 59 #[.agg #[.int .i64 rt, .slice aq wq.length cq], .slice ar sq.length cr] W' (fun e w' => e = .returned (.tuple #[.int .i64 X1, .int .i64 X2, .int .i64 X3, .int .i64 X4]) ∧ Below W'.heap.size W' w') := fun W' h1 h2 => by
                have h := rWidest_any wq sq rt _ _ W' h1 h2 gn gnm gns
                rw [hX'] at h
                exact h
              have Hp5 := hid hp5
              clear hp5
              have hlt3 : (k : Int) < 3 := by omega
              clear hP hE hO hX'
              obtain ⟨wo, rfl⟩ : ∃ wo : World, wo = wr := ⟨_, rfl⟩
              have hneq := fun b o v h => Nat.ne_of_lt (K.out.clt (b := b) (o := o) (v := v) h)
              have Hneq := hid hneq
              clear hneq
              go_wp2_with fail
              go_cut [28, 29] from 114 to 252 (fun sz se wx => ∃ Z : Nat, sz = .pointer (some ⟨Z, 0, none⟩) ∧ se = .int .i64 E ∧ LK w1.heap.size ((Z, 0, .int .i64 P1) :: (Z, 1, .int .i64 P2) :: [(SS, 0, .int .i64 route0), (SS, 1, .slice aw0 ws0.length cap0), (SS, 2, .int .i64 route), (SS, 3, .slice (some ⟨bw, ow, none⟩) ws.length cap), (SS, 4, .int .i64 route), (SS, 5, .slice (some ⟨bw, ow, none⟩) ws.length cap), (LS, 0, .slice as0 st0.length cas0), (LS, 1, .slice (some ⟨bs, os, none⟩) st.length cv), (LS, 2, .slice (some ⟨bs, os, none⟩) st.length cv), (WI, 0, .int .i64 wing), (WI, 1, .int .i64 m), (WI, 2, .int .i64 wing), (SE, 0, .int .i64 second), (SE, 1, .int .i64 t), (SE, 2, .int .i64 second), (RS, 0, .int .i64 a0), (RS, 1, .int .i64 b0), (RS, 2, .int .i64 c0), (RS, 3, .int .i64 ra), (RS, 4, .int .i64 rb), (RS, 5, .int .i64 G), (RS, 6, .int .i64 a0), (RS, 7, .int .i64 b0), (RS, 8, .int .i64 c0)]) [(.slice (some ⟨bs, os, none⟩) st.length cv, st), (.slice ax xs.length cx, xs), (.slice as0 st0.length cas0, st0)] [(.slice (some ⟨bw, ow, none⟩) ws.length cap, ws), (.slice aw0 ws0.length cap0, ws0)] w wx)
              case first =>
                go_region_held3 (fun w' => w'.cell? ⟨SS, k * 2, none⟩ = some (.int .i64 rt) ∧ w'.cell? ⟨SS, k * 2 + 1, none⟩ = some (.slice aq wq.length cq) ∧ w'.cell? ⟨LS, k, none⟩ = some (.slice ar sq.length cr) ∧ w'.cell? ⟨WI, k, none⟩ = some (.int .i64 gi) ∧ w'.cell? ⟨SE, k, none⟩ = some (.int .i64 sc))
                  (first | with_reducible exact ⟨K.out.drew.c m0, K.out.drew.c m1, K.out.drew.c m2, K.out.drew.c m3, K.out.drew.c m4⟩ | with_reducible exact ⟨K.out.c m0, K.out.c m1, K.out.c m2, K.out.c m3, K.out.c m4⟩ | with_reducible exact ⟨K.out.c (List.mem_cons_of_mem _ (List.mem_cons_of_mem _ m0)), K.out.c (List.mem_cons_of_mem _ (List.mem_cons_of_mem _ m1)), K.out.c (List.mem_cons_of_mem _ (List.mem_cons_of_mem _ m2)), K.out.c (List.mem_cons_of_mem _ (List.mem_cons_of_mem _ m3)), K.out.c (List.mem_cons_of_mem _ (List.mem_cons_of_mem _ m4))⟩ | with_reducible exact ⟨(K.out.alloc _).drew.c m0, (K.out.alloc _).drew.c m1, (K.out.alloc _).drew.c m2, (K.out.alloc _).drew.c m3, (K.out.alloc _).drew.c m4⟩ | with_reducible exact ⟨(K.out.alloc _).c m0, (K.out.alloc _).c m1, (K.out.alloc _).c m2, (K.out.alloc _).c m3, (K.out.alloc _).c m4⟩ | with_reducible exact ⟨(K.out.put2 Hneq.out).c (List.mem_cons_of_mem _ (List.mem_cons_of_mem _ m0)), (K.out.put2 Hneq.out).c (List.mem_cons_of_mem _ (List.mem_cons_of_mem _ m1)), (K.out.put2 Hneq.out).c (List.mem_cons_of_mem _ (List.mem_cons_of_mem _ m2)), (K.out.put2 Hneq.out).c (List.mem_cons_of_mem _ (List.mem_cons_of_mem _ m3)), (K.out.put2 Hneq.out).c (List.mem_cons_of_mem _ (List.mem_cons_of_mem _ m4))⟩) (first
                  | (go_at_call 49; refine (Hp0.out _ (by first | with_reducible exact (K.out.drew.g mW).any | exact ((K.out.alloc _).drew.g mW).any) (by first | with_reducible exact (K.out.drew.i mS).any | exact ((K.out.alloc _).drew.i mS).any)).mono ?_; rintro e w12 ⟨rfl, hb⟩; (first | (with_reducible have K := hid (K.out.drew.later hb)) | (have K := hid ((K.out.box2 (.int .i64 0) (.int .i64 0) 27).drew.later hb); have z0 := K.out.c (o := 0) (v := .int .i64 0) (List.Mem.head _); have z1 := K.out.c (o := 1) (v := .int .i64 0) (List.Mem.tail _ (List.Mem.head _)); have y0 := K.out.f (o := 0) (v := .int .i64 0) (List.Mem.head _); have y1 := K.out.f (o := 1) (v := .int .i64 0) (List.Mem.tail _ (List.Mem.head _)))); clear hb))
                all_goals (
                  go_wp2_with fail
                  go_meet
                  refine ⟨_, rfl, rfl, ?_⟩
                  first
                    | with_reducible exact K.out.put2 Hneq.out
                    | exact K.out.box2 (.int .i64 P1) (.int .i64 P2) 27)
              case rest =>
                as_aux_lemma =>
                obtain ⟨Z0, rfl, rfl, KK⟩ := hcut
                have K := hid KK
                clear KK Hneq
                obtain ⟨wp0, rfl⟩ : ∃ wp : World, wp = wc := ⟨_, rfl⟩
                replace m0 := List.mem_cons_of_mem (Z0, 0, Value.int .i64 P1) (List.mem_cons_of_mem (Z0, 1, Value.int .i64 P2) m0)
                replace m1 := List.mem_cons_of_mem (Z0, 0, Value.int .i64 P1) (List.mem_cons_of_mem (Z0, 1, Value.int .i64 P2) m1)
                replace m2 := List.mem_cons_of_mem (Z0, 0, Value.int .i64 P1) (List.mem_cons_of_mem (Z0, 1, Value.int .i64 P2) m2)
                replace m3 := List.mem_cons_of_mem (Z0, 0, Value.int .i64 P1) (List.mem_cons_of_mem (Z0, 1, Value.int .i64 P2) m3)
                replace m4 := List.mem_cons_of_mem (Z0, 0, Value.int .i64 P1) (List.mem_cons_of_mem (Z0, 1, Value.int .i64 P2) m4)
                replace m5 := List.mem_cons_of_mem (Z0, 0, Value.int .i64 P1) (List.mem_cons_of_mem (Z0, 1, Value.int .i64 P2) m5)
                replace m6 := List.mem_cons_of_mem (Z0, 0, Value.int .i64 P1) (List.mem_cons_of_mem (Z0, 1, Value.int .i64 P2) m6)
                replace m7 := List.mem_cons_of_mem (Z0, 0, Value.int .i64 P1) (List.mem_cons_of_mem (Z0, 1, Value.int .i64 P2) m7)
                have hneq := fun b o v h => Nat.ne_of_lt (K.out.clt (b := b) (o := o) (v := v) h)
                have Hneq := hid hneq
                clear hneq
                go_wp2_with fail
                go_cut [30, 31] from 114 to 252 (fun sz se wx => ∃ Z : Nat, sz = .pointer (some ⟨Z, 0, none⟩) ∧ se = .int .i64 E ∧ LK w1.heap.size ((Z, 0, .int .i64 P1) :: (Z, 1, .int .i64 P2) :: (Z0, 0, .int .i64 P1) :: (Z0, 1, .int .i64 P2) :: [(SS, 0, .int .i64 route0), (SS, 1, .slice aw0 ws0.length cap0), (SS, 2, .int .i64 route), (SS, 3, .slice (some ⟨bw, ow, none⟩) ws.length cap), (SS, 4, .int .i64 route), (SS, 5, .slice (some ⟨bw, ow, none⟩) ws.length cap), (LS, 0, .slice as0 st0.length cas0), (LS, 1, .slice (some ⟨bs, os, none⟩) st.length cv), (LS, 2, .slice (some ⟨bs, os, none⟩) st.length cv), (WI, 0, .int .i64 wing), (WI, 1, .int .i64 m), (WI, 2, .int .i64 wing), (SE, 0, .int .i64 second), (SE, 1, .int .i64 t), (SE, 2, .int .i64 second), (RS, 0, .int .i64 a0), (RS, 1, .int .i64 b0), (RS, 2, .int .i64 c0), (RS, 3, .int .i64 ra), (RS, 4, .int .i64 rb), (RS, 5, .int .i64 G), (RS, 6, .int .i64 a0), (RS, 7, .int .i64 b0), (RS, 8, .int .i64 c0)]) [(.slice (some ⟨bs, os, none⟩) st.length cv, st), (.slice ax xs.length cx, xs), (.slice as0 st0.length cas0, st0)] [(.slice (some ⟨bw, ow, none⟩) ws.length cap, ws), (.slice aw0 ws0.length cap0, ws0)] w wx)
                case first =>
                  go_region_held3 (fun w' => w'.cell? ⟨SS, k * 2, none⟩ = some (.int .i64 rt) ∧ w'.cell? ⟨SS, k * 2 + 1, none⟩ = some (.slice aq wq.length cq) ∧ w'.cell? ⟨LS, k, none⟩ = some (.slice ar sq.length cr) ∧ w'.cell? ⟨WI, k, none⟩ = some (.int .i64 gi) ∧ w'.cell? ⟨SE, k, none⟩ = some (.int .i64 sc))
                    (first | with_reducible exact ⟨K.out.drew.c m0, K.out.drew.c m1, K.out.drew.c m2, K.out.drew.c m3, K.out.drew.c m4⟩ | with_reducible exact ⟨K.out.c m0, K.out.c m1, K.out.c m2, K.out.c m3, K.out.c m4⟩ | with_reducible exact ⟨K.out.c (List.mem_cons_of_mem _ (List.mem_cons_of_mem _ m0)), K.out.c (List.mem_cons_of_mem _ (List.mem_cons_of_mem _ m1)), K.out.c (List.mem_cons_of_mem _ (List.mem_cons_of_mem _ m2)), K.out.c (List.mem_cons_of_mem _ (List.mem_cons_of_mem _ m3)), K.out.c (List.mem_cons_of_mem _ (List.mem_cons_of_mem _ m4))⟩ | with_reducible exact ⟨(K.out.alloc _).drew.c m0, (K.out.alloc _).drew.c m1, (K.out.alloc _).drew.c m2, (K.out.alloc _).drew.c m3, (K.out.alloc _).drew.c m4⟩ | with_reducible exact ⟨(K.out.alloc _).c m0, (K.out.alloc _).c m1, (K.out.alloc _).c m2, (K.out.alloc _).c m3, (K.out.alloc _).c m4⟩ | with_reducible exact ⟨(K.out.put2 Hneq.out).c (List.mem_cons_of_mem _ (List.mem_cons_of_mem _ m0)), (K.out.put2 Hneq.out).c (List.mem_cons_of_mem _ (List.mem_cons_of_mem _ m1)), (K.out.put2 Hneq.out).c (List.mem_cons_of_mem _ (List.mem_cons_of_mem _ m2)), (K.out.put2 Hneq.out).c (List.mem_cons_of_mem _ (List.mem_cons_of_mem _ m3)), (K.out.put2 Hneq.out).c (List.mem_cons_of_mem _ (List.mem_cons_of_mem _ m4))⟩) (first
                    | (go_at_call 60; refine (Hp1.out _ (by first | with_reducible exact (K.out.drew.g mW).any | exact ((K.out.alloc _).drew.g mW).any) (by first | with_reducible exact (K.out.drew.i mS).any | exact ((K.out.alloc _).drew.i mS).any)).mono ?_; rintro e w12 ⟨rfl, hb⟩; (first | (with_reducible have K := hid (K.out.drew.later hb)) | (have K := hid ((K.out.box2 (.int .i64 0) (.int .i64 0) 27).drew.later hb); have z0 := K.out.c (o := 0) (v := .int .i64 0) (List.Mem.head _); have z1 := K.out.c (o := 1) (v := .int .i64 0) (List.Mem.tail _ (List.Mem.head _)); have y0 := K.out.f (o := 0) (v := .int .i64 0) (List.Mem.head _); have y1 := K.out.f (o := 1) (v := .int .i64 0) (List.Mem.tail _ (List.Mem.head _)))); clear hb))
                  all_goals (
                    go_wp2_with fail
                    go_meet
                    refine ⟨_, rfl, rfl, ?_⟩
                    first
                      | with_reducible exact K.out.put2 Hneq.out
                      | exact K.out.box2 (.int .i64 P1) (.int .i64 P2) 27)
                case rest =>
                  as_aux_lemma =>
                  obtain ⟨Z1, rfl, rfl, KK⟩ := hcut
                  have K := hid KK
                  clear KK Hneq
                  obtain ⟨wp1, rfl⟩ : ∃ wp : World, wp = wc := ⟨_, rfl⟩
                  replace m0 := List.mem_cons_of_mem (Z1, 0, Value.int .i64 P1) (List.mem_cons_of_mem (Z1, 1, Value.int .i64 P2) m0)
                  replace m1 := List.mem_cons_of_mem (Z1, 0, Value.int .i64 P1) (List.mem_cons_of_mem (Z1, 1, Value.int .i64 P2) m1)
                  replace m2 := List.mem_cons_of_mem (Z1, 0, Value.int .i64 P1) (List.mem_cons_of_mem (Z1, 1, Value.int .i64 P2) m2)
                  replace m3 := List.mem_cons_of_mem (Z1, 0, Value.int .i64 P1) (List.mem_cons_of_mem (Z1, 1, Value.int .i64 P2) m3)
                  replace m4 := List.mem_cons_of_mem (Z1, 0, Value.int .i64 P1) (List.mem_cons_of_mem (Z1, 1, Value.int .i64 P2) m4)
                  replace m5 := List.mem_cons_of_mem (Z1, 0, Value.int .i64 P1) (List.mem_cons_of_mem (Z1, 1, Value.int .i64 P2) m5)
                  replace m6 := List.mem_cons_of_mem (Z1, 0, Value.int .i64 P1) (List.mem_cons_of_mem (Z1, 1, Value.int .i64 P2) m6)
                  replace m7 := List.mem_cons_of_mem (Z1, 0, Value.int .i64 P1) (List.mem_cons_of_mem (Z1, 1, Value.int .i64 P2) m7)
                  go_wp2_with fail
                  have K := hid K.out.drew
                  go_region_held3 (fun w' => w'.cell? ⟨SS, k * 2, none⟩ = some (.int .i64 rt) ∧ w'.cell? ⟨SS, k * 2 + 1, none⟩ = some (.slice aq wq.length cq) ∧ w'.cell? ⟨LS, k, none⟩ = some (.slice ar sq.length cr) ∧ w'.cell? ⟨RS, k * 3, none⟩ = some (.int .i64 ra') ∧ w'.cell? ⟨RS, k * 3 + 1, none⟩ = some (.int .i64 rb') ∧ w'.cell? ⟨RS, k * 3 + 2, none⟩ = some (.int .i64 rc'))
                    (first | with_reducible exact ⟨K.out.c m0, K.out.c m1, K.out.c m2, K.out.c m5, K.out.c m6, K.out.c m7⟩) (first
                    | (go_at_call 55; refine (Hp2.out _ (K.out.g mW).any (K.out.i mS).any).mono ?_; rintro e w12 ⟨va, rfl, how, hb⟩; obtain ⟨o2a, o2c, rfl⟩ := how.form; have K := hid (K.out.addInts (K.out.later hb) how); clear how; clear hb))
                  replace mS := List.mem_cons_of_mem (Value.slice o2a OL.length o2c, OL) mS
                  go_wp2_with fail
                  have K := hid K.out.drew
                  go_region_held3 (fun w' => w'.cell? ⟨SS, k * 2, none⟩ = some (.int .i64 rt) ∧ w'.cell? ⟨SS, k * 2 + 1, none⟩ = some (.slice aq wq.length cq) ∧ w'.cell? ⟨LS, k, none⟩ = some (.slice ar sq.length cr) ∧ w'.cell? ⟨RS, k * 3, none⟩ = some (.int .i64 ra') ∧ w'.cell? ⟨RS, k * 3 + 1, none⟩ = some (.int .i64 rb') ∧ w'.cell? ⟨RS, k * 3 + 2, none⟩ = some (.int .i64 rc'))
                    (first | with_reducible exact ⟨K.out.c m0, K.out.c m1, K.out.c m2, K.out.c m5, K.out.c m6, K.out.c m7⟩) (first
                    | (go_at_call 61; refine (Hp3.out _ (K.out.g mW).any (K.out.i mS).any).mono ?_; rintro e w12 ⟨vb, rfl, how, hb⟩; obtain ⟨o3a, o3c, rfl⟩ := how.form; have K := hid (K.out.addInts (K.out.later hb) how); clear how; clear hb))
                  replace mS := List.mem_cons_of_mem (Value.slice o3a OL.length o3c, OL) mS
                  go_wp2_with fail
                  have K := hid K.out.drew
                  go_region_held3 (fun w' => w'.cell? ⟨SS, k * 2, none⟩ = some (.int .i64 rt) ∧ w'.cell? ⟨SS, k * 2 + 1, none⟩ = some (.slice aq wq.length cq) ∧ w'.cell? ⟨LS, k, none⟩ = some (.slice ar sq.length cr))
                    (first | with_reducible exact ⟨K.out.c m0, K.out.c m1, K.out.c m2⟩) (first
                    | (go_at_call 56; refine (Hp4.out _ (K.out.g mW).any (K.out.i mS).any).mono ?_; rintro e w12 ⟨rfl, hb⟩; have K := hid (K.out.later hb); clear hb))
                  go_wp2_with fail
                  have K := hid K.out.drew
                  go_region_held3 (fun w' => w'.cell? ⟨SS, k * 2, none⟩ = some (.int .i64 rt) ∧ w'.cell? ⟨SS, k * 2 + 1, none⟩ = some (.slice aq wq.length cq) ∧ w'.cell? ⟨LS, k, none⟩ = some (.slice ar sq.length cr))
                    (first | with_reducible exact ⟨K.out.c m0, K.out.c m1, K.out.c m2⟩) (first
                    | (go_at_call 59; refine (Hp5.out _ (K.out.g mW).any (K.out.i mS).any).mono ?_; rintro e w12 ⟨rfl, hb⟩; have K := hid (K.out.later hb); clear hb))
                  have x0 := K.out.c (b := Z0) (o := 0) (v := .int .i64 P1) (by simp)
                  have x1 := K.out.c (b := Z0) (o := 1) (v := .int .i64 P2) (by simp)
                  have x2 := K.out.c (b := Z1) (o := 0) (v := .int .i64 P1) (by simp)
                  have x3 := K.out.c (b := Z1) (o := 1) (v := .int .i64 P2) (by simp)
                  obtain ⟨l1, l2⟩ := eq_bool (a := P1) (b := P1) rfl
                  obtain ⟨l3, l4⟩ := eq_bool (a := P2) (b := P2) rfl
                  obtain ⟨l5, l6⟩ := eq_bool (a := E) (b := E) rfl
                  obtain ⟨l7, l8⟩ := eq_bool (a := OE) (b := OE) rfl
                  obtain ⟨l9, l10⟩ := eq_bool (a := X1) (b := X1) rfl
                  obtain ⟨l11, l12⟩ := eq_bool (a := X2) (b := X2) rfl
                  obtain ⟨l13, l14⟩ := eq_bool (a := X3) (b := X3) rfl
                  obtain ⟨l15, l16⟩ := eq_bool (a := X4) (b := X4) rfl
                  go_wp2_with fail
                  refine (eqInts_same OL _ _ none none _ (K.out.i (v := .slice o2a OL.length o2c) (List.Mem.tail _ (List.Mem.head _))).any (K.out.i (v := .slice o3a OL.length o3c) (List.Mem.head _)).any hOl).mono ?_
                  rintro e w13 ⟨rfl, hb⟩
                  have K := hid (K.out.later hb)
                  clear hb
                  go_wp2
                  go_roundw
                  case rel => exact ⟨k + 1, by omega, by go_num, K.out.dropI.dropI.sub (fun x hx => List.mem_cons_of_mem _ (List.mem_cons_of_mem _ (List.mem_cons_of_mem _ (List.mem_cons_of_mem _ hx))))⟩
                  case measure => simp [intOf] <;> omega
            · go_wp2_with (go_at_call 18; refine (awake_any _).mono ?_; rintro e w10 ⟨rfl, hb10⟩)
              go_ret
              exact ⟨rfl, (KK.later hb10).below⟩
end Go.Proofs.YtgfipifgijohhaaDoor
