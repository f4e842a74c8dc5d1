/-
  WALKS: ParadeOn.
-/
import Derived.Test.YtgfipifgijohhaaDoorOnp
import Derived.Deep.CutRange
namespace Go.Proofs.YtgfipifgijohhaaDoor
open Go.RowKit

set_option maxHeartbeats 4000000 in
set_option maxRecDepth 100000 in
theorem on_any (xs : List Int) (v : Value) (w : World) (hX : IntsAt none w v xs) (hn : xs.length ≤ 9223372036854775807) :
    Calls Tryd.prog 8 #[v] w fun e w' => e = .returned (.bool true) ∧ Below w.heap.size w w' := by
  have HX := hid hX
  obtain ⟨ax, cx, rfl, _⟩ := hX
  go_enter Tryd.func8, Tryd.ntmps8
  go_wp2_with fail
  refine (drumOf_any xs _ w HX.out hn).mono ?_
  rintro e w1 ⟨rfl, hb1, hl1⟩
  have K := hid (LK.start hb1 hl1 (Nat.le_refl _))
  clear hb1 hl1 HX
  go_wp2_with fail
  refine (schoolOf_any _ 6 _ K.out.beat (by decide) (by decide)).mono ?_
  rintro e w2 ⟨route, vw, ws, rfl, hr1, hr2, h0, h6, hm, hown, hbt, hgb⟩
  obtain ⟨bw, ow, cap, rfl, _, _⟩ := (hown.at (d := none) (by simp)).slice h0
  have K := hid (K.out.addWgs (K.out.go hgb hbt) hown)
  clear hgb hbt hown
  have h8 : ws.length ≤ 8 := by omega
  have hc := hid (made_check hm hr1 hr2 h0 h8)
  have K := hid (K.out.box2 (.int .i64 route) (.slice (some ⟨bw, ow, none⟩) ws.length cap) 24)
  have b0 := K.out.c (o := 0) (v := .int .i64 route) (List.Mem.head _)
  have b1 := K.out.c (o := 1) (v := .slice (some ⟨bw, ow, none⟩) ws.length cap) (List.Mem.tail _ (List.Mem.head _))
  go_wp2_with fail
  refine (startsOf_any _ ws route _ _ K.out.beat (K.out.g (by simp)) hc.out hm).mono ?_
  rintro e w4 ⟨vs, st, rfl, hls, hms, hso, hbt, hgb⟩
  have K := hid (K.out.addInts (K.out.go hgb hbt) hso)
  clear hbt hgb hso
  have hcs := hid (made_starts hc.out hls h8 hms)
  have Hls := hid hls
  obtain ⟨bs, os, cv, rfl, _, _⟩ := (K.out.i (v := vs) (xs := st) (by simp)).slice (by omega)
  clear hls
  have b0 := K.out.c (o := 0) (v := .int .i64 route) (List.Mem.head _)
  have b1 := K.out.c (o := 1) (v := .slice (some ⟨bw, ow, none⟩) ws.length cap) (List.Mem.tail _ (List.Mem.head _))
  go_wp2_with fail
  refine (roll_any _ _ _ K.out.beat (by omega)).mono ?_
  rintro e w5 ⟨wi, rfl, hw1, hw2, hbt, hgb⟩
  obtain ⟨m, rfl⟩ := Int.eq_ofNat_of_zero_le hw1
  have hmw : m < ws.length := by omega
  have hms1 : m < st.length := by have := Hls.out; omega
  have K := hid (K.out.go hgb hbt)
  clear hbt hgb
  go_wp2_with fail
  have K := hid K.out.drew
  have hsb := hms.bound m hms1
  have i2 : (m : Int) < (st.length : Int) := by omega
  have hlen8 : st.length ≤ 8 := by have := Hls.out; omega
  go_region_held3 (fun w' => w'.cell? ⟨bs, os + m, none⟩ = some (.int .i64 (nm st m)))
    (first | exact (K.out.i (v := .slice (some ⟨bs, os, none⟩) st.length cv) (xs := st) (by simp)).cell hms1) (first
    | (go_at_call 40; refine (roll_any _ _ _ K.out.beat (by omega)).mono ?_; rintro e w6 ⟨r, rfl, hr3, hr4, hbt, hgb⟩; have K := hid (K.out.go hgb hbt); clear hgb hbt; have zw : IntKind.i64.wrap (nm st m + r) = nm st m + r := IntWalk.i64_in _ (by omega)))
  obtain ⟨t, ht⟩ : ∃ t, nm st m + r = t := ⟨_, rfl⟩
  rw [ht]
  have ht1 : nm st m ≤ t := by omega
  have ht2 : t ≤ 10000 := by omega
  have ht3 : 0 ≤ t := by omega
  clear zw ht
  have A0 := hid (asked_fine (second := t) hcs.out hmw ht1 (by omega))
  have W0 := hid (where_fine A0.out)
  have A1 := hid (asked_fine (second := t + 1) hcs.out hmw (by omega) (by omega))
  have W1 := hid (where_fine A1.out)
  have hlo : ∀ i, i < ws.length → 1 ≤ Lo ws i ∧ 1 ≤ Hi ws i := fun i hi => by have := hm i hi; unfold Lo Hi; omega
  have f0 := front_mono_t (L := Ln ws) (S := nm st) (P := Lo ws) (k := m) (t := t) (u := t + 1) (fun i hi => by have := hlo i (by omega); omega) (by omega)
  have f1 := front_mono_t (L := Ln ws) (S := nm st) (P := Hi ws) (k := m) (t := t) (u := t + 1) (fun i hi => by have := hlo i (by omega); omega) (by omega)
  obtain ⟨X0, hX0⟩ : ∃ x, front (Ln ws) (nm st) (Lo ws) m t = x := ⟨_, rfl⟩
  obtain ⟨X1, hX1⟩ : ∃ x, front (Ln ws) (nm st) (Hi ws) m t = x := ⟨_, rfl⟩
  obtain ⟨Y0, hY0⟩ : ∃ x, front (Ln ws) (nm st) (Lo ws) m (t + 1) = x := ⟨_, rfl⟩
  obtain ⟨Y1, hY1⟩ : ∃ x, front (Ln ws) (nm st) (Hi ws) m (t + 1) = x := ⟨_, rfl⟩
  rw [hX0, hY0] at f0
  rw [hX1, hY1] at f1
  rw [hX0, hX1] at W0
  rw [hY0, hY1] at W1
  clear hX0 hX1 hY0 hY1
  have hns : st.length ≤ 1000000 := by omega
  have b0 := K.out.c (b := w2.heap.size) (o := 0) (v := .int .i64 route) (by simp)
  have b1 := K.out.c (b := w2.heap.size) (o := 1) (v := .slice (some ⟨bw, ow, none⟩) ws.length cap) (by simp)
  go_wp2_with fail
  refine (where_any ws st route _ _ _ _ _ (K.out.g (by simp)).any (K.out.i (by simp)).any (by omega) (made_size hm h8) hns).mono ?_
  rintro e w7 ⟨rfl, hb7⟩
  rw [A0.out, W0.out]
  dsimp only
  have K := hid (K.out.later hb7)
  clear hb7
  have K := hid (K.out.box2 (.int .i64 X0) (.int .i64 X1) 27)
  have b0 := K.out.c (b := w2.heap.size) (o := 0) (v := .int .i64 route) (by simp)
  have b1 := K.out.c (b := w2.heap.size) (o := 1) (v := .slice (some ⟨bw, ow, none⟩) ws.length cap) (by simp)
  go_wp2_with fail
  refine (where_any ws st route _ _ _ _ _ (K.out.g (by simp)).any (K.out.i (by simp)).any (by omega) (made_size hm h8) hns).mono ?_
  rintro e w8 ⟨rfl, hb8⟩
  rw [A1.out, W1.out]
  dsimp only
  have K := hid (K.out.later hb8)
  clear hb8
  have K := hid (K.out.box2 (.int .i64 Y0) (.int .i64 Y1) 27)
  have b0 := K.out.c (b := w2.heap.size) (o := 0) (v := .int .i64 route) (by simp)
  have b1 := K.out.c (b := w2.heap.size) (o := 1) (v := .slice (some ⟨bw, ow, none⟩) ws.length cap) (by simp)
  go_wp2_with fail
  refine (roll_any _ _ _ K.out.beat (by omega)).mono ?_
  rintro e w9 ⟨x, rfl, hx1, hx2, hbt, hgb⟩
  have hx3 : x ≤ 2000 := by omega
  have K := hid (K.out.go hgb hbt)
  clear hbt hgb
  obtain ⟨P1, P2⟩ := pass_fine (route := route) hcs.out hmw hx1 (show x ≤ 100000 by omega)
  have HP1 := hid P1
  have HP2 := hid P2
  clear P1 P2
  have O0 := on_plain hcs.out hm hms h8 hmw (P := Hi ws) (fun i hi => (hlo i hi).2) hx1 hx3
  have O1 := on_plain hcs.out hm hms h8 hmw (P := Lo ws) (fun i hi => (hlo i hi).1) hx1 hx3
  obtain ⟨p0, hp0⟩ : ∃ p, passed (Ln ws) (nm st) (Hi ws) m x = p := ⟨_, rfl⟩
  obtain ⟨p1, hp1⟩ : ∃ p, passed (Ln ws) (nm st) (Lo ws) m x = p := ⟨_, rfl⟩
  have mono : ∀ y, x ≤ y → p0 ≤ passed (Ln ws) (nm st) (Hi ws) m y ∧ p1 ≤ passed (Ln ws) (nm st) (Lo ws) m y := fun y hy => by
    rw [← hp0, ← hp1]
    exact ⟨passed_mono_x (fun i hi => by have := hlo i (by omega); omega) hy, passed_mono_x (fun i hi => by have := hlo i (by omega); omega) hy⟩
  rw [hp0] at O0
  rw [hp1] at O1
  rw [hp0, hp1] at HP2
  have Mono := hid mono
  clear mono hp0 hp1
  have b0 := K.out.c (b := w2.heap.size) (o := 0) (v := .int .i64 route) (by simp)
  have b1 := K.out.c (b := w2.heap.size) (o := 1) (v := .slice (some ⟨bw, ow, none⟩) ws.length cap) (by simp)
  go_wp2_with fail
  refine (ppasses_any ws st route _ _ _ _ _ (K.out.g (by simp)).any (K.out.i (by simp)).any (by omega) (made_size hm h8) hns).mono ?_
  rintro e w10 ⟨rfl, hb10⟩
  rw [HP1.out, HP2.out]
  dsimp only
  have K := hid (K.out.later hb10)
  clear hb10
  have K := hid (K.out.box2 (.int .i64 p0) (.int .i64 p1) 27)
  have b0 := K.out.c (b := w2.heap.size) (o := 0) (v := .int .i64 route) (by simp)
  have b1 := K.out.c (b := w2.heap.size) (o := 1) (v := .slice (some ⟨bw, ow, none⟩) ws.length cap) (by simp)
  go_wp2_with fail
  have Hpa : Hid (∀ y W', x ≤ y → y ≤ 2000 → WgAt none W' (.slice (some ⟨bw, ow, none⟩) ws.length cap) ws → IntsAt none W' (.slice (some ⟨bs, os, none⟩) st.length cv) st → Calls Tryd.prog 41 #[.agg #[.int .i64 route, .slice (some ⟨bw, ow, none⟩) ws.length cap], .slice (some ⟨bs, os, none⟩) st.length cv, .int .i64 (m : Int), .int .i64 y] W' (fun e w' => e = .returned (.tuple #[.agg #[.int .i64 (passed (Ln ws) (nm st) (Hi ws) m y), .int .i64 (passed (Ln ws) (nm st) (Lo ws) m y)], .int .i64 0]) ∧ Below W'.heap.size W' w')) := hid (fun y W' h1 h2 h3 h4 => by
    have h := ppasses_any ws st route (m : Int) y _ _ W' h3 h4 (by omega) (made_size hm h8) hns
    obtain ⟨e1, e2⟩ := pass_fine (route := route) (place := y) hcs.out hmw (by omega) (by omega)
    rw [e1, e2] at h
    exact h)
  obtain ⟨W, hWe, K1⟩ := K.out.name
  rw [hWe]
  clear hWe K b0 b1
  have K := hid K1
  clear K1
  generalize w10.heap.size = E10 at *
  generalize w8.heap.size = E8 at *
  generalize w7.heap.size = E7 at *
  generalize w2.heap.size = B at *
  go_cut [15, 16] from 71 to 82 (fun sz se wx => ∃ (Z : Nat) (q0 q1 : Int), sz = .pointer (some ⟨Z, 0, none⟩) ∧ se = .int .i64 0 ∧ p0 ≤ q0 ∧ p1 ≤ q1 ∧
    LK w.heap.size [(Z, 0, .int .i64 q0), (Z, 1, .int .i64 q1), (E10, 0, .int .i64 p0), (E10, 1, .int .i64 p1), (E8, 0, .int .i64 Y0), (E8, 1, .int .i64 Y1), (E7, 0, .int .i64 X0), (E7, 1, .int .i64 X1), (B, 0, .int .i64 route), (B, 1, .slice (some ⟨bw, ow, none⟩) ws.length cap)]
      [(.slice (some ⟨bs, os, none⟩) st.length cv, st)] [(.slice (some ⟨bw, ow, none⟩) ws.length cap, ws)] w wx)
  case first =>
    go_region_held3 (fun w' => w'.cell? ⟨B, 0, none⟩ = some (.int .i64 route) ∧ w'.cell? ⟨B, 1, none⟩ = some (.slice (some ⟨bw, ow, none⟩) ws.length cap))
      (first | with_reducible exact ⟨K.out.c (by simp), K.out.c (by simp)⟩ | with_reducible exact ⟨K.out.drew.c (by simp), K.out.drew.c (by simp)⟩ | with_reducible exact ⟨(K.out.alloc _).drew.c (by simp), (K.out.alloc _).drew.c (by simp)⟩ | with_reducible exact ⟨(K.out.alloc _).c (by simp), (K.out.alloc _).c (by simp)⟩ | with_reducible exact ⟨(K.out.put2 Hnq.out).c (by simp), (K.out.put2 Hnq.out).c (by simp)⟩) (first
      | (go_at_call 48; refine (mid_any _ _ _ _ (by first | with_reducible exact K.out.beat | with_reducible exact K.out.drew.beat | with_reducible exact (K.out.alloc _).drew.beat | exact (K.out.alloc _).beat) (by omega) (by omega) (by omega) (by omega)).mono ?_; rintro e w11 ⟨y, rfl, hy1, hy2, hbt, hgb⟩; (first
          | (with_reducible have K := hid (K.out.go hgb hbt))
          | (with_reducible have K := hid (K.out.drew.go hgb hbt))
          | (have Hnq := hid (fun b o v h => Nat.ne_of_lt (K.out.clt (b := b) (o := o) (v := v) h)); have K := hid ((K.out.box2 (.int .i64 0) (.int .i64 0) 27).drew.go hgb hbt))); (try (have z0 := K.out.c (o := 0) (v := .int .i64 0) (List.Mem.head _); have z1 := K.out.c (o := 1) (v := .int .i64 0) (List.Mem.tail _ (List.Mem.head _)); have y0 := K.out.f (o := 0) (v := .int .i64 0) (List.Mem.head _); have y1 := K.out.f (o := 1) (v := .int .i64 0) (List.Mem.tail _ (List.Mem.head _)))); clear hbt hgb)
      | (go_at_call 41; refine (Hpa.out _ _ hy1 (by omega) (by first | with_reducible exact (K.out.g (by simp)).any | exact ((K.out.alloc _).g (by simp)).any) (by first | with_reducible exact (K.out.i (by simp)).any | exact ((K.out.alloc _).i (by simp)).any)).mono ?_; rintro e w12 ⟨rfl, hb⟩; (first
          | (with_reducible have K := hid (K.out.later hb))
          | (have Hnq := hid (fun b o v h => Nat.ne_of_lt (K.out.clt (b := b) (o := o) (v := v) h)); have K := hid ((K.out.box2 (.int .i64 0) (.int .i64 0) 27).later hb))); (try (have z0 := K.out.c (o := 0) (v := .int .i64 0) (List.Mem.head _); have z1 := K.out.c (o := 1) (v := .int .i64 0) (List.Mem.tail _ (List.Mem.head _)); have y0 := K.out.f (o := 0) (v := .int .i64 0) (List.Mem.head _); have y1 := K.out.f (o := 1) (v := .int .i64 0) (List.Mem.tail _ (List.Mem.head _)))); clear hb))
    all_goals (
      go_wp2_with fail
      go_meet
      refine ⟨_, _, _, rfl, rfl, (Mono.out _ hy1).1, (Mono.out _ hy1).2, ?_⟩
      first
        | with_reducible exact K.out.put2 Hnq.out
        | exact K.out.box2 _ _ 27)
  case rest =>
    obtain ⟨E12, q0, q1, rfl, rfl, hq0, hq1, KK⟩ := hcut
    have K := hid KK
    clear KK
    have x0 := K.out.c (b := E7) (o := 0) (v := .int .i64 X0) (by simp)
    have x1 := K.out.c (b := E7) (o := 1) (v := .int .i64 X1) (by simp)
    have y0 := K.out.c (b := E8) (o := 0) (v := .int .i64 Y0) (by simp)
    have y1 := K.out.c (b := E8) (o := 1) (v := .int .i64 Y1) (by simp)
    have u0 := K.out.c (b := E10) (o := 0) (v := .int .i64 p0) (by simp)
    have u1 := K.out.c (b := E10) (o := 1) (v := .int .i64 p1) (by simp)
    have v0 := K.out.c (b := E12) (o := 0) (v := .int .i64 q0) (by simp)
    have v1 := K.out.c (b := E12) (o := 1) (v := .int .i64 q1) (by simp)
    go_wp2_with fail
    have Hwh : Hid (∀ q W', nm st m ≤ q → q ≤ 20000 → WgAt none W' (.slice (some ⟨bw, ow, none⟩) ws.length cap) ws → IntsAt none W' (.slice (some ⟨bs, os, none⟩) st.length cv) st → Calls Tryd.prog 45 #[.agg #[.int .i64 route, .slice (some ⟨bw, ow, none⟩) ws.length cap], .slice (some ⟨bs, os, none⟩) st.length cv, .int .i64 (m : Int), .int .i64 q] W' (fun e w' => e = .returned (.tuple #[.agg #[.int .i64 (front (Ln ws) (nm st) (Lo ws) m q), .int .i64 (front (Ln ws) (nm st) (Hi ws) m q)], .int .i64 0]) ∧ Below W'.heap.size W' w')) := hid (fun q W' h1 h2 h3 h4 => by
      have h := where_any ws st route (m : Int) q _ _ W' h3 h4 (by omega) (made_size hm h8) hns
      have e1 := asked_fine (route := route) (second := q) hcs.out hmw h1 (by omega)
      rw [e1, where_fine e1] at h
      exact h)
    have K := hid (K.out.box2 (.int .i64 p0) (.int .i64 p1) 3)
    obtain ⟨W2, hW2, K2⟩ := K.out.name
    rw [hW2]
    clear hW2 K x0 x1 y0 y1 u0 u1 v0 v1
    generalize wc.heap.size = EN at *
    have K : Hid (LK w.heap.size [(EN, 0, .int .i64 p0), (EN, 1, .int .i64 p1), (B, 0, .int .i64 route), (B, 1, .slice (some ⟨bw, ow, none⟩) ws.length cap)] [(.slice (some ⟨bs, os, none⟩) st.length cv, st)] [(.slice (some ⟨bw, ow, none⟩) ws.length cap, ws)] w W2) := hid (K2.less (fun x h => by simp only [List.mem_cons, List.not_mem_nil, or_false] at h ⊢; rcases h with h | h | h | h <;> simp [h]))
    clear K2
    go_loopw [18] (fun i wr => ∃ k : Nat, k ≤ 2 ∧ i = .int .i64 k ∧ LK w.heap.size [(EN, 0, .int .i64 p0), (EN, 1, .int .i64 p1), (B, 0, .int .i64 route), (B, 1, .slice (some ⟨bw, ow, none⟩) ws.length cap)] [(.slice (some ⟨bs, os, none⟩) st.length cv, st)] [(.slice (some ⟨bw, ow, none⟩) ws.length cap, ws)] w wr) (fun i _ => 2 - (intOf i).toNat)
    case atStart => exact ⟨0, by omega, rfl, K.out⟩
    case round =>
      obtain ⟨k, hk, rfl, KK⟩ := hrel
      have K := hid KK
      clear KK
      obtain ⟨wo, rfl⟩ : ∃ wo : World, wo = wr := ⟨_, rfl⟩
      by_cases hlt : k < 2
      · rcases (by omega : k = 0 ∨ k = 1) with rfl | rfl
        · have O := O0
          obtain ⟨zl, hzl⟩ : ∃ z, front (Ln ws) (nm st) (Lo ws) m p0 = z := ⟨_, rfl⟩
          obtain ⟨zh, hzh⟩ : ∃ z, front (Ln ws) (nm st) (Hi ws) m p0 = z := ⟨_, rfl⟩
          obtain ⟨yl, hyl⟩ : ∃ z, front (Ln ws) (nm st) (Lo ws) m (p0 - 1) = z := ⟨_, rfl⟩
          obtain ⟨yh, hyh⟩ : ∃ z, front (Ln ws) (nm st) (Hi ws) m (p0 - 1) = z := ⟨_, rfl⟩
          rw [hzh, hyh] at O
          have Hz := hid (Hwh.out p0)
          have Hy := hid (Hwh.out (p0 - 1))
          rw [hzl, hzh] at Hz
          rw [hyl, hyh] at Hy
          clear hzl hzh hyl hyh
          obtain ⟨o1, o2, o3, o4⟩ := O
          have wm : IntKind.i64.wrap (p0 - 1) = p0 - 1 := IntWalk.i64_in _ (by omega)
          go_wp2_with fail
          go_cut [19, 20] from 130 to 197 (fun sz se wx => ∃ Z : Nat, sz = .pointer (some ⟨Z, 0, none⟩) ∧ se = .int .i64 0 ∧ (∀ b o v, (b, o, v) ∈ ([(EN, 0, .int .i64 p0), (EN, 1, .int .i64 p1), (B, 0, .int .i64 route), (B, 1, .slice (some ⟨bw, ow, none⟩) ws.length cap)] : Cells) → b ≠ Z) ∧ LK w.heap.size ((Z, 0, .int .i64 zl) :: (Z, 1, .int .i64 zh) :: [(EN, 0, .int .i64 p0), (EN, 1, .int .i64 p1), (B, 0, .int .i64 route), (B, 1, .slice (some ⟨bw, ow, none⟩) ws.length cap)]) [(.slice (some ⟨bs, os, none⟩) st.length cv, st)] [(.slice (some ⟨bw, ow, none⟩) ws.length cap, ws)] w wx)
          case first =>
            go_region_held3 (fun w' => w'.cell? ⟨B, 0, none⟩ = some (.int .i64 route) ∧ w'.cell? ⟨B, 1, none⟩ = some (.slice (some ⟨bw, ow, none⟩) ws.length cap) ∧ w'.cell? ⟨EN, 0, none⟩ = some (.int .i64 p0))
              (first | with_reducible exact ⟨K.out.c (by simp), K.out.c (by simp), K.out.c (by simp)⟩ | with_reducible exact ⟨K.out.drew.c (by simp), K.out.drew.c (by simp), K.out.drew.c (by simp)⟩ | with_reducible exact ⟨(K.out.alloc _).drew.c (by simp), (K.out.alloc _).drew.c (by simp), (K.out.alloc _).drew.c (by simp)⟩ | with_reducible exact ⟨(K.out.alloc _).c (by simp), (K.out.alloc _).c (by simp), (K.out.alloc _).c (by simp)⟩ | with_reducible exact ⟨(K.out.put2 Hnq.out).c (by simp), (K.out.put2 Hnq.out).c (by simp), (K.out.put2 Hnq.out).c (by simp)⟩) (first
              | (go_at_call 45; refine (Hz.out _ (by omega) (by omega) (by first | with_reducible exact (K.out.drew.g (by simp)).any | exact ((K.out.alloc _).drew.g (by simp)).any) (by first | with_reducible exact (K.out.drew.i (by simp)).any | exact ((K.out.alloc _).drew.i (by simp)).any)).mono ?_; rintro e w13 ⟨rfl, hb⟩; (first
                  | (with_reducible have K := hid (K.out.drew.later hb))
                  | (have Hnq := hid (fun b o v h => Nat.ne_of_lt (K.out.clt (b := b) (o := o) (v := v) h)); have K := hid ((K.out.box2 (.int .i64 0) (.int .i64 0) 27).drew.later hb))); (try (have z0 := K.out.c (o := 0) (v := .int .i64 0) (List.Mem.head _); have z1 := K.out.c (o := 1) (v := .int .i64 0) (List.Mem.tail _ (List.Mem.head _)); have y0 := K.out.f (o := 0) (v := .int .i64 0) (List.Mem.head _); have y1 := K.out.f (o := 1) (v := .int .i64 0) (List.Mem.tail _ (List.Mem.head _)))); clear hb))
            all_goals (
              go_wp2_with fail
              go_meet
              first
                | (refine ⟨_, rfl, rfl, Hnq.out, ?_⟩; with_reducible exact K.out.put2 Hnq.out)
                | (refine ⟨_, rfl, rfl, (fun b o v h => Nat.ne_of_lt (K.out.clt (b := b) (o := o) (v := v) h)), ?_⟩; exact K.out.box2 _ _ 27))
          case rest =>
            obtain ⟨Z, rfl, rfl, Hnz, KK⟩ := hcut
            have K := hid KK
            have Hnq := hid Hnz
            clear KK Hnz
            obtain ⟨wp, rfl⟩ : ∃ wp : World, wp = wc := ⟨_, rfl⟩
            have c0 := K.out.c (b := Z) (o := 0) (v := .int .i64 zl) (by simp)
            have c1 := K.out.c (b := Z) (o := 1) (v := .int .i64 zh) (by simp)
            have g0 := K.out.f (b := Z) (o := 0) (v := .int .i64 zl) (by simp)
            have g1 := K.out.f (b := Z) (o := 1) (v := .int .i64 zh) (by simp)
            have K := hid (K.out.alloc (.cells #[.int .i64 zh, .int .i64 zl] 3))
            have c2 := K.out.c (b := EN) (o := 0) (v := .int .i64 p0) (by simp)
            have c3 := (K.out.i (v := .slice (some ⟨bs, os, none⟩) st.length cv) (xs := st) (by simp)).cell hms1
            by_cases hq : p0 = nm st m
            · obtain ⟨d1, d2⟩ := eq_bool hq
              clear hq
              go_wp2
              go_quiet (fail)
              go_wp2
              go_roundw
              case rel => exact ⟨1, by omega, rfl, (K.out.drewN nq).less (fun x hx => List.mem_cons_of_mem _ (List.mem_cons_of_mem _ hx))⟩
              case measure => simp [intOf]
            · obtain ⟨d1, d2⟩ := ne_bool hq
              have hq2 : nm st m ≤ p0 - 1 := by omega
              clear hq
              go_wp2
              go_quiet (fail)
              have K := hid (K.out.drewN nq)
              go_wp2_with fail
              obtain ⟨wn, hwn, Kn⟩ := K.out.name
              rw [hwn]
              clear hwn K c0 c1 c2 c3 g0 g1
              have K := hid Kn.drew
              clear Kn
              go_region_held3 (fun w' => w'.cell? ⟨B, 0, none⟩ = some (.int .i64 route) ∧ w'.cell? ⟨B, 1, none⟩ = some (.slice (some ⟨bw, ow, none⟩) ws.length cap) ∧ w'.cell? ⟨EN, 0, none⟩ = some (.int .i64 p0))
                (first | with_reducible exact ⟨K.out.c (by simp), K.out.c (by simp), K.out.c (by simp)⟩ | with_reducible exact ⟨(K.out.put2 Hnq.out).c (by simp), (K.out.put2 Hnq.out).c (by simp), (K.out.put2 Hnq.out).c (by simp)⟩) (first
                | (go_at_call 45; refine (Hy.out _ (by omega) (by omega) (K.out.g (by simp)).any (K.out.i (by simp)).any).mono ?_; rintro e w14 ⟨rfl, hb⟩; have K := hid (K.out.later hb); clear hb; have c0 := K.out.c (b := Z) (o := 0) (v := .int .i64 zl) (by simp); have c1 := K.out.c (b := Z) (o := 1) (v := .int .i64 zh) (by simp); have g0 := K.out.f (b := Z) (o := 0) (v := .int .i64 zl) (by simp); have g1 := K.out.f (b := Z) (o := 1) (v := .int .i64 zh) (by simp)))
              all_goals (
                have K := hid (K.out.put2 (x' := .int .i64 yl) (y' := .int .i64 yh) Hnq.out)
                obtain ⟨wz, hwz, Kz⟩ := K.out.name
                rw [hwz]
                clear hwz K c0 c1 g0 g1
                have K := hid Kz
                clear Kz
                have c0 := K.out.c (b := Z) (o := 0) (v := .int .i64 yl) (by simp)
                have c1 := K.out.c (b := Z) (o := 1) (v := .int .i64 yh) (by simp)
                go_wp2
                go_roundw
                case rel => exact ⟨1, by omega, rfl, (K.out.alloc _).less (fun x hx => List.mem_cons_of_mem _ (List.mem_cons_of_mem _ hx))⟩
                case measure => simp [intOf])
        · have O := O1
          obtain ⟨zl, hzl⟩ : ∃ z, front (Ln ws) (nm st) (Lo ws) m p1 = z := ⟨_, rfl⟩
          obtain ⟨zh, hzh⟩ : ∃ z, front (Ln ws) (nm st) (Hi ws) m p1 = z := ⟨_, rfl⟩
          obtain ⟨yl, hyl⟩ : ∃ z, front (Ln ws) (nm st) (Lo ws) m (p1 - 1) = z := ⟨_, rfl⟩
          obtain ⟨yh, hyh⟩ : ∃ z, front (Ln ws) (nm st) (Hi ws) m (p1 - 1) = z := ⟨_, rfl⟩
          rw [hzl, hyl] at O
          have Hz := hid (Hwh.out p1)
          have Hy := hid (Hwh.out (p1 - 1))
          rw [hzl, hzh] at Hz
          rw [hyl, hyh] at Hy
          clear hzl hzh hyl hyh
          obtain ⟨o1, o2, o3, o4⟩ := O
          have wm : IntKind.i64.wrap (p1 - 1) = p1 - 1 := IntWalk.i64_in _ (by omega)
          go_wp2_with fail
          go_cut [19, 20] from 130 to 197 (fun sz se wx => ∃ Z : Nat, sz = .pointer (some ⟨Z, 0, none⟩) ∧ se = .int .i64 0 ∧ (∀ b o v, (b, o, v) ∈ ([(EN, 0, .int .i64 p0), (EN, 1, .int .i64 p1), (B, 0, .int .i64 route), (B, 1, .slice (some ⟨bw, ow, none⟩) ws.length cap)] : Cells) → b ≠ Z) ∧ LK w.heap.size ((Z, 0, .int .i64 zl) :: (Z, 1, .int .i64 zh) :: [(EN, 0, .int .i64 p0), (EN, 1, .int .i64 p1), (B, 0, .int .i64 route), (B, 1, .slice (some ⟨bw, ow, none⟩) ws.length cap)]) [(.slice (some ⟨bs, os, none⟩) st.length cv, st)] [(.slice (some ⟨bw, ow, none⟩) ws.length cap, ws)] w wx)
          case first =>
            go_region_held3 (fun w' => w'.cell? ⟨B, 0, none⟩ = some (.int .i64 route) ∧ w'.cell? ⟨B, 1, none⟩ = some (.slice (some ⟨bw, ow, none⟩) ws.length cap) ∧ w'.cell? ⟨EN, 1, none⟩ = some (.int .i64 p1))
              (first | with_reducible exact ⟨K.out.c (by simp), K.out.c (by simp), K.out.c (by simp)⟩ | with_reducible exact ⟨K.out.drew.c (by simp), K.out.drew.c (by simp), K.out.drew.c (by simp)⟩ | with_reducible exact ⟨(K.out.alloc _).drew.c (by simp), (K.out.alloc _).drew.c (by simp), (K.out.alloc _).drew.c (by simp)⟩ | with_reducible exact ⟨(K.out.alloc _).c (by simp), (K.out.alloc _).c (by simp), (K.out.alloc _).c (by simp)⟩ | with_reducible exact ⟨(K.out.put2 Hnq.out).c (by simp), (K.out.put2 Hnq.out).c (by simp), (K.out.put2 Hnq.out).c (by simp)⟩) (first
              | (go_at_call 45; refine (Hz.out _ (by omega) (by omega) (by first | with_reducible exact (K.out.drew.g (by simp)).any | exact ((K.out.alloc _).drew.g (by simp)).any) (by first | with_reducible exact (K.out.drew.i (by simp)).any | exact ((K.out.alloc _).drew.i (by simp)).any)).mono ?_; rintro e w13 ⟨rfl, hb⟩; (first
                  | (with_reducible have K := hid (K.out.drew.later hb))
                  | (have Hnq := hid (fun b o v h => Nat.ne_of_lt (K.out.clt (b := b) (o := o) (v := v) h)); have K := hid ((K.out.box2 (.int .i64 0) (.int .i64 0) 27).drew.later hb))); (try (have z0 := K.out.c (o := 0) (v := .int .i64 0) (List.Mem.head _); have z1 := K.out.c (o := 1) (v := .int .i64 0) (List.Mem.tail _ (List.Mem.head _)); have y0 := K.out.f (o := 0) (v := .int .i64 0) (List.Mem.head _); have y1 := K.out.f (o := 1) (v := .int .i64 0) (List.Mem.tail _ (List.Mem.head _)))); clear hb))
            all_goals (
              go_wp2_with fail
              go_meet
              first
                | (refine ⟨_, rfl, rfl, Hnq.out, ?_⟩; with_reducible exact K.out.put2 Hnq.out)
                | (refine ⟨_, rfl, rfl, (fun b o v h => Nat.ne_of_lt (K.out.clt (b := b) (o := o) (v := v) h)), ?_⟩; exact K.out.box2 _ _ 27))
          case rest =>
            obtain ⟨Z, rfl, rfl, Hnz, KK⟩ := hcut
            have K := hid KK
            have Hnq := hid Hnz
            clear KK Hnz
            obtain ⟨wp, rfl⟩ : ∃ wp : World, wp = wc := ⟨_, rfl⟩
            have c0 := K.out.c (b := Z) (o := 0) (v := .int .i64 zl) (by simp)
            have c1 := K.out.c (b := Z) (o := 1) (v := .int .i64 zh) (by simp)
            have g0 := K.out.f (b := Z) (o := 0) (v := .int .i64 zl) (by simp)
            have g1 := K.out.f (b := Z) (o := 1) (v := .int .i64 zh) (by simp)
            have K := hid (K.out.alloc (.cells #[.int .i64 zh, .int .i64 zl] 3))
            have c2 := K.out.c (b := EN) (o := 1) (v := .int .i64 p1) (by simp)
            have c3 := (K.out.i (v := .slice (some ⟨bs, os, none⟩) st.length cv) (xs := st) (by simp)).cell hms1
            by_cases hq : p1 = nm st m
            · obtain ⟨d1, d2⟩ := eq_bool hq
              clear hq
              go_wp2
              go_quiet (fail)
              go_wp2
              go_roundw
              case rel => exact ⟨2, by omega, rfl, (K.out.drewN nq).less (fun x hx => List.mem_cons_of_mem _ (List.mem_cons_of_mem _ hx))⟩
              case measure => simp [intOf]
            · obtain ⟨d1, d2⟩ := ne_bool hq
              have hq2 : nm st m ≤ p1 - 1 := by omega
              clear hq
              go_wp2
              go_quiet (fail)
              have K := hid (K.out.drewN nq)
              go_wp2_with fail
              obtain ⟨wn, hwn, Kn⟩ := K.out.name
              rw [hwn]
              clear hwn K c0 c1 c2 c3 g0 g1
              have K := hid Kn.drew
              clear Kn
              go_region_held3 (fun w' => w'.cell? ⟨B, 0, none⟩ = some (.int .i64 route) ∧ w'.cell? ⟨B, 1, none⟩ = some (.slice (some ⟨bw, ow, none⟩) ws.length cap) ∧ w'.cell? ⟨EN, 1, none⟩ = some (.int .i64 p1))
                (first | with_reducible exact ⟨K.out.c (by simp), K.out.c (by simp), K.out.c (by simp)⟩ | with_reducible exact ⟨(K.out.put2 Hnq.out).c (by simp), (K.out.put2 Hnq.out).c (by simp), (K.out.put2 Hnq.out).c (by simp)⟩) (first
                | (go_at_call 45; refine (Hy.out _ (by omega) (by omega) (K.out.g (by simp)).any (K.out.i (by simp)).any).mono ?_; rintro e w14 ⟨rfl, hb⟩; have K := hid (K.out.later hb); clear hb; have c0 := K.out.c (b := Z) (o := 0) (v := .int .i64 zl) (by simp); have c1 := K.out.c (b := Z) (o := 1) (v := .int .i64 zh) (by simp); have g0 := K.out.f (b := Z) (o := 0) (v := .int .i64 zl) (by simp); have g1 := K.out.f (b := Z) (o := 1) (v := .int .i64 zh) (by simp)))
              all_goals (
                have K := hid (K.out.put2 (x' := .int .i64 yl) (y' := .int .i64 yh) Hnq.out)
                obtain ⟨wz, hwz, Kz⟩ := K.out.name
                rw [hwz]
                clear hwz K c0 c1 g0 g1
                have K := hid Kz
                clear Kz
                have c0 := K.out.c (b := Z) (o := 0) (v := .int .i64 yl) (by simp)
                have c1 := K.out.c (b := Z) (o := 1) (v := .int .i64 yh) (by simp)
                go_wp2
                go_roundw
                case rel => exact ⟨2, by omega, rfl, (K.out.alloc _).less (fun x hx => List.mem_cons_of_mem _ (List.mem_cons_of_mem _ hx))⟩
                case measure => simp [intOf])
      · go_wp2_with (go_at_call 18; refine (awake_any _).mono ?_; rintro e w10 ⟨rfl, hb10⟩)
        go_ret
        exact ⟨rfl, (K.out.later hb10).below⟩
end Go.Proofs.YtgfipifgijohhaaDoor
