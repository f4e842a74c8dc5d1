/-
  WALKS: ParadePlans.
-/
import Derived.Test.YtgfipifgijohhaaDoorLca
import Derived.Test.YtgfipifgijohhaaDoorPls
import Derived.Test.YtgfipifgijohhaaDoorPlp
import Derived.Test.YtgfipifgijohhaaDoorPln
namespace Go.Proofs.YtgfipifgijohhaaDoor
open Go.RowKit

theorem LK.twoLits {d : Nat} {cs : Cells} {li : List (Value × List Int)} {lw : List (Value × List Wing)} {w0 w : World} (k : LK d cs li lw w0 w) (c1 c2 : List Value) {t1 t2 : TypeId} :
    LK d (litCells w.heap.size c1 ++ litCells (w.heap.size + 1) c2) li lw w0 (((w.alloc (.cells c1.toArray t1)).alloc (.cells c2.toArray t2)).drew) := by
  have k' := ((k.alloc (.cells c1.toArray t1)).alloc (.cells c2.toArray t2)).drew
  have e := k.addLit (k'.sub (cs2 := []) (fun _ h => by cases h)) (A := w.heap.size + 1) (cells := c2) (by omega) (fun o u h => ⟨cell_at (by simp) (by simpa using h), frozen_at (by simp)⟩)
  have e2 := k.addLit e (A := w.heap.size) (cells := c1) (Nat.le_refl _) (fun o u h => ⟨cell_up (cell_at rfl (by simpa using h)), frozen_up (by simp) (frozen_at rfl)⟩)
  rw [List.append_nil] at e2
  exact e2

set_option linter.unusedSimpArgs false in
set_option maxHeartbeats 16000000 in
set_option maxRecDepth 100000 in
theorem plans_any (ws0 : List Wing) (xs : List Int) (route0 a0 b0 c0 : Int) (vw0 v : Value) (w : World) (hW : WgAt none w vw0 ws0) (hX : IntsAt none w v xs) (hn : xs.length ≤ 9223372036854775807) (hsW : Sound vw0) :
    Calls Tryd.prog 14 #[.agg #[.int .i64 route0, vw0], .agg #[.int .i64 a0, .int .i64 b0, .int .i64 c0], v] w fun e w' => e = .returned (.bool true) ∧ Below w.heap.size w w' := by
  have HX := hid hX
  have HW := hid hW
  have SW := hid hsW
  obtain ⟨ax, cx, rfl, _⟩ := hX
  obtain ⟨aw0, cap0, rfl, _⟩ := hW
  clear hsW
  have K := hid (((HK.start w).box2 (.int .i64 route0) (.slice aw0 ws0.length cap0) 24).box3n (n := w.heap.size + 1) (by simp) (.int .i64 a0) (.int .i64 b0) (.int .i64 c0) 50)
  go_enter Tryd.func14, Tryd.ntmps14
  go_wp2_with fail
  refine (long_any ws0 route0 _ _ (HW.out.below K.out.below)).mono ?_
  rintro e w1 ⟨b, rfl, hlong, hb1⟩
  have K := hid (K.out.later hb1)
  clear hb1
  cases b with
  | true =>
    clear hlong
    go_wp2_with (go_at_call 18; refine (awake_any _).mono ?_; rintro e w10 ⟨rfl, hb10⟩)
    go_ret
    exact ⟨rfl, (K.out.later hb10).below⟩
  | false =>
    obtain ⟨hl1, hl2⟩ := hlong rfl
    clear hlong
    go_wp2_with fail
    refine (drumOf_any xs _ _ (HX.out.below K.out.below) hn).mono ?_
    rintro e w2 ⟨rfl, hb2, hl2'⟩
    have hraw : ∀ v' xs', (v', xs') ∈ [(Value.slice ax xs.length cx, xs)] → IntsAt none w v' xs' := fun v' xs' h => by
      rcases List.mem_cons.1 h with h | h
      · cases h; exact HX.out
      · cases h
    have hraw2 : ∀ v' xs', (v', xs') ∈ [(Value.slice aw0 ws0.length cap0, ws0)] → WgAt none w v' xs' := fun v' xs' h => by
      rcases List.mem_cons.1 h with h | h
      · cases h; exact HW.out
      · cases h
    have K := hid (LK.ofHK (li := [(.slice ax xs.length cx, xs)]) (lw := [(.slice aw0 ws0.length cap0, ws0)]) K.out hl2' hb2 (Nat.le_refl _) hraw hraw2)
    clear hb2 hl2' hraw hraw2
    go_wp2_with fail
    refine (schoolOf_any _ 4 _ K.out.beat (by decide) (by decide)).mono ?_
    rintro e w3 ⟨route, vw, ws, rfl, hr1, hr2, h0, h6, hm, hown, hbt, hgb⟩
    obtain ⟨bw, ow, cap, rfl, _, _⟩ := (hown.at (d := none) (by simp)).slice h0
    have K := hid (K.out.addWgs (K.out.go hgb hbt) hown)
    clear hgb hbt hown
    have h8 : ws.length ≤ 8 := by omega
    have hc := hid (made_check hm hr1 hr2 h0 h8)
    have K := hid (K.out.box2 (.int .i64 route) (.slice (some ⟨bw, ow, none⟩) ws.length cap) 24)
    go_wp2_with fail
    obtain ⟨B, hB⟩ : ∃ B, w3.heap.size = B := ⟨_, rfl⟩
    rw [hB] at K ⊢
    clear hB
    refine (rulesOf_any _ _ K.out.beat).mono ?_
    rintro e w5 ⟨ra, rb, rc, rfl, ha1, ha2, hab, hb2, hc1, hc2, hbt, hgb⟩
    have K := hid (K.out.go hgb hbt)
    clear hbt hgb
    have Hneq := hid (fun b o v h => Nat.ne_of_lt (K.out.clt (b := b) (o := o) (v := v) h))
    have K := hid (K.out.box3 (.int .i64 ra) (.int .i64 rb) (.int .i64 rc) 50)
    have q0 := K.out.c (b := B) (o := 0) (v := .int .i64 route) (by simp)
    have q1 := K.out.c (b := B) (o := 1) (v := .slice (some ⟨bw, ow, none⟩) ws.length cap) (by simp)
    go_wp2_with fail
    obtain ⟨Y, hY⟩ : ∃ Y, w5.heap.size = Y := ⟨_, rfl⟩
    rw [hY] at K Hneq ⊢
    clear hY
    refine (rleast_any ws route _ _ (K.out.g (by simp)).any (by omega) (made_size hm h8)).mono ?_
    rintro e w6 ⟨vl, rfl, hol, hb6⟩
    obtain ⟨LE, hLE⟩ : ∃ LE, leastErr route ws = LE := ⟨_, rfl⟩
    rw [hLE]
    clear hLE
    obtain ⟨al, cl, rfl⟩ := hol.form
    have hRl : (leastRes route ws).length ≤ 1000000 := leastRes_len route ws (by omega)
    have K := hid (K.out.addInts (K.out.later hb6) hol)
    clear hb6 hol q0 q1
    obtain ⟨R, hR⟩ : ∃ R, leastRes route ws = R := ⟨_, rfl⟩
    rw [hR] at K hRl ⊢
    clear hR
    have q0 := K.out.c (b := B) (o := 0) (v := .int .i64 route) (by simp)
    have q1 := K.out.c (b := B) (o := 1) (v := .slice (some ⟨bw, ow, none⟩) ws.length cap) (by simp)
    have y0 := K.out.c (b := Y) (o := 0) (v := .int .i64 ra) (by simp)
    have y1 := K.out.c (b := Y) (o := 1) (v := .int .i64 rb) (by simp)
    have y2 := K.out.c (b := Y) (o := 2) (v := .int .i64 rc) (by simp)
    go_wp2_with fail
    refine (rLasts_any ws R route ra rb rc _ _ _ (K.out.g (by simp)).any (K.out.i (v := .slice al R.length cl) (xs := R) (by simp)).any (by omega) (made_size hm h8) hRl).mono ?_
    rintro e w7 ⟨rfl, hb7⟩
    obtain ⟨BE, hBE⟩ : ∃ BE, bothErr route ws R ra rb rc = BE := ⟨_, rfl⟩
    rw [hBE]
    clear hBE
    obtain ⟨V, P, Q, hL⟩ : ∃ V P Q, lastsRes route ws R ra rb rc = (V, P, Q) := ⟨_, _, _, rfl⟩
    rw [hL]
    have K := hid (K.out.dropI.later hb7)
    clear hb7 hL hRl q0 q1 y0 y1 y2
    dsimp only
    have Hneq2 := hid (fun b o v h => Nat.ne_of_lt (K.out.clt (b := b) (o := o) (v := v) h))
    have K := hid (K.out.box2 (.int .i64 P) (.int .i64 Q) 27)
    go_wp2_with fail
    obtain ⟨Z, hZ⟩ : ∃ Z, w7.heap.size = Z := ⟨_, rfl⟩
    rw [hZ] at K Hneq2 ⊢
    clear hZ
    refine (rare_any _ _ _ K.out.beat (by decide)).mono ?_
    rintro e w8 ⟨r, rfl, hbt, hgb⟩
    have K := hid (K.out.go hgb hbt)
    clear hbt hgb
    have hneq3 : ∀ b' o' v', (b', o', v') ∈ ([(Z, 0, .int .i64 P), (Z, 1, .int .i64 Q), (B, 0, .int .i64 route), (B, 1, .slice (some ⟨bw, ow, none⟩) ws.length cap), (w.heap.size + 1, 0, .int .i64 a0), (w.heap.size + 1, 1, .int .i64 b0), (w.heap.size + 1, 2, .int .i64 c0), (w.heap.size, 0, .int .i64 route0), (w.heap.size, 1, .slice aw0 ws0.length cap0)] : Cells) → b' ≠ Y := fun b' o' v' h => by
      have h1 := Hneq2.out Y 0 (.int .i64 ra) (by simp)
      have h2 := Hneq.out B 0 (.int .i64 route) (by simp)
      have h3 := Hneq.out (w.heap.size + 1) 0 (.int .i64 a0) (by simp)
      have h4 := Hneq.out w.heap.size 0 (.int .i64 route0) (by simp)
      simp only [List.mem_cons, Prod.mk.injEq, List.not_mem_nil, or_false] at h
      omega
    have Hneq3 := hid hneq3
    clear hneq3 Hneq Hneq2
    have K : Hid (LK w1.heap.size [(Y, 0, .int .i64 ra), (Y, 1, .int .i64 rb), (Y, 2, .int .i64 rc), (Z, 0, .int .i64 P), (Z, 1, .int .i64 Q), (B, 0, .int .i64 route), (B, 1, .slice (some ⟨bw, ow, none⟩) ws.length cap), (w.heap.size + 1, 0, .int .i64 a0), (w.heap.size + 1, 1, .int .i64 b0), (w.heap.size + 1, 2, .int .i64 c0), (w.heap.size, 0, .int .i64 route0), (w.heap.size, 1, .slice aw0 ws0.length cap0)] [(.slice ax xs.length cx, xs)] [(.slice (some ⟨bw, ow, none⟩) ws.length cap, ws), (.slice aw0 ws0.length cap0, ws0)] w w8) := hid (K.out.sub (fun x hx => by simp only [List.mem_cons, List.not_mem_nil, or_false] at hx ⊢; rcases hx with h | h | h | h | h | h | h | h | h | h | h | h <;> simp [h]))
    go_upto_if 49 with fail
    go_cut [6] from 50 to 65 (fun s6 wx => s6 = .bool false ∧ ∃ M0 M1 : Int, LK w1.heap.size [(Y, 0, .int .i64 M0), (Y, 1, .int .i64 M1), (Y, 2, .int .i64 rc), (Z, 0, .int .i64 P), (Z, 1, .int .i64 Q), (B, 0, .int .i64 route), (B, 1, .slice (some ⟨bw, ow, none⟩) ws.length cap), (w.heap.size + 1, 0, .int .i64 a0), (w.heap.size + 1, 1, .int .i64 b0), (w.heap.size + 1, 2, .int .i64 c0), (w.heap.size, 0, .int .i64 route0), (w.heap.size, 1, .slice aw0 ws0.length cap0)] [(.slice ax xs.length cx, xs)] [(.slice (some ⟨bw, ow, none⟩) ws.length cap, ws), (.slice aw0 ws0.length cap0, ws0)] w wx)
    case first =>
      cases r with
      | true =>
        go_wp2_with fail
        go_meet
        exact ⟨rfl, _, _, K.out⟩
      | false =>
        go_upto_region 9 with fail
        have K := hid K.out.drew
        have y0 := K.out.c (b := Y) (o := 0) (v := .int .i64 ra) (by simp)
        have f0 := K.out.f (b := Y) (o := 0) (v := .int .i64 ra) (by simp)
        go_region_held3 (fun w' => w'.cell? ⟨Z, 0, none⟩ = some (.int .i64 P))
          (first | with_reducible exact K.out.c (by simp) | with_reducible exact (K.out.put3_0 Hneq3.out).c (by simp)) (first
          | (go_at_call 48; refine (mid_any _ _ _ _ K.out.beat (by decide) (by decide) (by decide) (by decide)).mono ?_; rintro e w9 ⟨z, rfl, hz1, hz2, hbt, hgb⟩; have K := hid (K.out.go hgb hbt); clear hbt hgb; have y0 := K.out.c (b := Y) (o := 0) (v := .int .i64 ra) (by simp); have f0 := K.out.f (b := Y) (o := 0) (v := .int .i64 ra) (by simp)))
        all_goals (
          have K := hid (K.out.put3_0 Hneq3.out (x' := .int .i64 (max 0 (IntKind.i64.wrap (P + z)))))
          obtain ⟨wx, hwx, Kx⟩ := K.out.name
          rw [hwx]
          clear hwx K y0 f0
          have K := hid Kx
          clear Kx
          obtain ⟨M0, hM0⟩ : ∃ M0, max 0 (IntKind.i64.wrap (P + z)) = M0 := ⟨_, rfl⟩
          rw [hM0] at K
          clear hM0
          go_upto_region 10 with fail
          have K := hid K.out.drew
          have y1 := K.out.c (b := Y) (o := 1) (v := .int .i64 rb) (by simp)
          have f1 := K.out.f (b := Y) (o := 1) (v := .int .i64 rb) (by simp)
          go_region_held3 (fun w' => w'.cell? ⟨Y, 0, none⟩ = some (.int .i64 M0) ∧ w'.cell? ⟨Z, 1, none⟩ = some (.int .i64 Q))
            (first | with_reducible exact ⟨K.out.c (by simp), K.out.c (by simp)⟩ | with_reducible exact ⟨(K.out.put3_1 Hneq3.out).c (by simp), (K.out.put3_1 Hneq3.out).c (by simp)⟩) (first
            | (go_at_call 48; refine (mid_any _ _ _ _ K.out.beat (by decide) (by decide) (by decide) (by decide)).mono ?_; rintro e w11 ⟨z', rfl, hz1', hz2', hbt, hgb⟩; have K := hid (K.out.go hgb hbt); clear hbt hgb; have y1 := K.out.c (b := Y) (o := 1) (v := .int .i64 rb) (by simp); have f1 := K.out.f (b := Y) (o := 1) (v := .int .i64 rb) (by simp)))
          all_goals (
            go_wp2_with fail
            go_meet
            exact ⟨rfl, _, _, K.out.put3_1 Hneq3.out⟩))
    case rest =>
      obtain ⟨rfl, M0, M1, KK⟩ := hcut
      have K := hid KK
      clear KK
      go_upto_region 11 with fail
      obtain ⟨wn, hwn, KN⟩ := K.out.name
      rw [hwn]
      clear hwn K
      have K := hid KN
      clear KN
      go_cut [15, 16] from 66 to 73 (fun s15 s16 wx => ∃ SS RS : Nat, s15 = .slice (some ⟨SS, 0, none⟩) 3 3 ∧ s16 = .slice (some ⟨RS, 0, none⟩) 3 3 ∧ LK w1.heap.size [(SS, 0, .int .i64 route0), (SS, 1, .slice aw0 ws0.length cap0), (SS, 2, .int .i64 route), (SS, 3, .slice (some ⟨bw, ow, none⟩) ws.length cap), (SS, 4, .int .i64 route), (SS, 5, .slice (some ⟨bw, ow, none⟩) ws.length cap), (RS, 0, .int .i64 a0), (RS, 1, .int .i64 b0), (RS, 2, .int .i64 c0), (RS, 3, .int .i64 M0), (RS, 4, .int .i64 M1), (RS, 5, .int .i64 rc), (RS, 6, .int .i64 a0), (RS, 7, .int .i64 b0), (RS, 8, .int .i64 c0)] [(.slice ax xs.length cx, xs)] [(.slice (some ⟨bw, ow, none⟩) ws.length cap, ws), (.slice aw0 ws0.length cap0, ws0)] w wx)
      case first =>
        have n0 := K.out.c (b := w.heap.size) (o := 0) (v := .int .i64 route0) (by simp)
        have n1 := K.out.c (b := w.heap.size) (o := 1) (v := .slice aw0 ws0.length cap0) (by simp)
        have n2 := K.out.c (b := B) (o := 0) (v := .int .i64 route) (by simp)
        have n3 := K.out.c (b := B) (o := 1) (v := .slice (some ⟨bw, ow, none⟩) ws.length cap) (by simp)
        have n4 := K.out.c (b := Y) (o := 0) (v := .int .i64 M0) (by simp)
        have n5 := K.out.c (b := Y) (o := 1) (v := .int .i64 M1) (by simp)
        have n6 := K.out.c (b := Y) (o := 2) (v := .int .i64 rc) (by simp)
        have n7 := K.out.c (b := w.heap.size + 1) (o := 0) (v := .int .i64 a0) (by simp)
        have n8 := K.out.c (b := w.heap.size + 1) (o := 1) (v := .int .i64 b0) (by simp)
        have n9 := K.out.c (b := w.heap.size + 1) (o := 2) (v := .int .i64 c0) (by simp)
        have KA := hid (K.out.alloc (.cells #[.int .i64 route0, .slice aw0 ws0.length cap0, .int .i64 route, .slice (some ⟨bw, ow, none⟩) ws.length cap, .int .i64 route, .slice (some ⟨bw, ow, none⟩) ws.length cap] 24))
        have KB := hid (K.out.alloc (.cells #[.int .i64 a0, .int .i64 b0, .int .i64 c0, .int .i64 M0, .int .i64 M1, .int .i64 rc, .int .i64 a0, .int .i64 b0, .int .i64 c0] 50))
        have na0 := KA.out.c (b := w.heap.size) (o := 0) (v := .int .i64 route0) (by simp)
        have na1 := KA.out.c (b := w.heap.size) (o := 1) (v := .slice aw0 ws0.length cap0) (by simp)
        have na2 := KA.out.c (b := B) (o := 0) (v := .int .i64 route) (by simp)
        have na3 := KA.out.c (b := B) (o := 1) (v := .slice (some ⟨bw, ow, none⟩) ws.length cap) (by simp)
        have na4 := KA.out.c (b := Y) (o := 0) (v := .int .i64 M0) (by simp)
        have na5 := KA.out.c (b := Y) (o := 1) (v := .int .i64 M1) (by simp)
        have na6 := KA.out.c (b := Y) (o := 2) (v := .int .i64 rc) (by simp)
        have na7 := KA.out.c (b := w.heap.size + 1) (o := 0) (v := .int .i64 a0) (by simp)
        have na8 := KA.out.c (b := w.heap.size + 1) (o := 1) (v := .int .i64 b0) (by simp)
        have na9 := KA.out.c (b := w.heap.size + 1) (o := 2) (v := .int .i64 c0) (by simp)
        have nb0 := KB.out.c (b := w.heap.size) (o := 0) (v := .int .i64 route0) (by simp)
        have nb1 := KB.out.c (b := w.heap.size) (o := 1) (v := .slice aw0 ws0.length cap0) (by simp)
        have nb2 := KB.out.c (b := B) (o := 0) (v := .int .i64 route) (by simp)
        have nb3 := KB.out.c (b := B) (o := 1) (v := .slice (some ⟨bw, ow, none⟩) ws.length cap) (by simp)
        have nb4 := KB.out.c (b := Y) (o := 0) (v := .int .i64 M0) (by simp)
        have nb5 := KB.out.c (b := Y) (o := 1) (v := .int .i64 M1) (by simp)
        have nb6 := KB.out.c (b := Y) (o := 2) (v := .int .i64 rc) (by simp)
        have nb7 := KB.out.c (b := w.heap.size + 1) (o := 0) (v := .int .i64 a0) (by simp)
        have nb8 := KB.out.c (b := w.heap.size + 1) (o := 1) (v := .int .i64 b0) (by simp)
        have nb9 := KB.out.c (b := w.heap.size + 1) (o := 2) (v := .int .i64 c0) (by simp)
        go_region
        all_goals (
          go_wp2_with fail
          go_meet
          first
            | exact ⟨wn.heap.size, wn.heap.size + 1, rfl, rfl, K.out.twoLits [.int .i64 route0, .slice aw0 ws0.length cap0, .int .i64 route, .slice (some ⟨bw, ow, none⟩) ws.length cap, .int .i64 route, .slice (some ⟨bw, ow, none⟩) ws.length cap] [.int .i64 a0, .int .i64 b0, .int .i64 c0, .int .i64 M0, .int .i64 M1, .int .i64 rc, .int .i64 a0, .int .i64 b0, .int .i64 c0]⟩
            | exact ⟨wn.heap.size + 1, wn.heap.size, rfl, rfl, (K.out.twoLits [.int .i64 a0, .int .i64 b0, .int .i64 c0, .int .i64 M0, .int .i64 M1, .int .i64 rc, .int .i64 a0, .int .i64 b0, .int .i64 c0] [.int .i64 route0, .slice aw0 ws0.length cap0, .int .i64 route, .slice (some ⟨bw, ow, none⟩) ws.length cap, .int .i64 route, .slice (some ⟨bw, ow, none⟩) ws.length cap]).sub (fun x hx => by simp only [List.mem_cons, List.not_mem_nil, or_false, litCells, List.zipIdx, List.map] at hx ⊢; rcases hx with h | h | h | h | h | h | h | h | h | h | h | h | h | h | h <;> simp [h])⟩)
      case rest =>
        obtain ⟨SS, RS, rfl, rfl, KK⟩ := hcut
        have K := hid KK
        clear KK
        obtain ⟨wx, rfl⟩ : ∃ wx : World, wx = wc := ⟨_, rfl⟩
        go_wp2_with fail
        go_loopw [17] (fun i wr => ∃ k : Nat, k ≤ 3 ∧ i = .int .i64 k ∧ LK w1.heap.size [(SS, 0, .int .i64 route0), (SS, 1, .slice aw0 ws0.length cap0), (SS, 2, .int .i64 route), (SS, 3, .slice (some ⟨bw, ow, none⟩) ws.length cap), (SS, 4, .int .i64 route), (SS, 5, .slice (some ⟨bw, ow, none⟩) ws.length cap), (RS, 0, .int .i64 a0), (RS, 1, .int .i64 b0), (RS, 2, .int .i64 c0), (RS, 3, .int .i64 M0), (RS, 4, .int .i64 M1), (RS, 5, .int .i64 rc), (RS, 6, .int .i64 a0), (RS, 7, .int .i64 b0), (RS, 8, .int .i64 c0)] [(.slice ax xs.length cx, xs)] [(.slice (some ⟨bw, ow, none⟩) ws.length cap, ws), (.slice aw0 ws0.length cap0, ws0)] w wr)
          (fun i _ => 3 - (intOf i).toNat)
        case atStart => exact ⟨0, by omega, rfl, K.out⟩
        case round =>
          as_aux_lemma =>
          obtain ⟨k, hk, rfl, KK⟩ := hrel
          by_cases hlt : k < 3
          · obtain ⟨rt, vq, wq, ra', rb', rc', m0, m1, m5, m6, m7, mW, gn, gnm, gv⟩ : ∃ (rt : Int) (vq : Value) (wq : List Wing) (ra' rb' rc' : Int), (SS, k * 2, Value.int .i64 rt) ∈ ([(SS, 0, .int .i64 route0), (SS, 1, .slice aw0 ws0.length cap0), (SS, 2, .int .i64 route), (SS, 3, .slice (some ⟨bw, ow, none⟩) ws.length cap), (SS, 4, .int .i64 route), (SS, 5, .slice (some ⟨bw, ow, none⟩) ws.length cap), (RS, 0, .int .i64 a0), (RS, 1, .int .i64 b0), (RS, 2, .int .i64 c0), (RS, 3, .int .i64 M0), (RS, 4, .int .i64 M1), (RS, 5, .int .i64 rc), (RS, 6, .int .i64 a0), (RS, 7, .int .i64 b0), (RS, 8, .int .i64 c0)] : Cells) ∧ (SS, k * 2 + 1, vq) ∈ ([(SS, 0, .int .i64 route0), (SS, 1, .slice aw0 ws0.length cap0), (SS, 2, .int .i64 route), (SS, 3, .slice (some ⟨bw, ow, none⟩) ws.length cap), (SS, 4, .int .i64 route), (SS, 5, .slice (some ⟨bw, ow, none⟩) ws.length cap), (RS, 0, .int .i64 a0), (RS, 1, .int .i64 b0), (RS, 2, .int .i64 c0), (RS, 3, .int .i64 M0), (RS, 4, .int .i64 M1), (RS, 5, .int .i64 rc), (RS, 6, .int .i64 a0), (RS, 7, .int .i64 b0), (RS, 8, .int .i64 c0)] : Cells) ∧ (RS, k * 3, Value.int .i64 ra') ∈ ([(SS, 0, .int .i64 route0), (SS, 1, .slice aw0 ws0.length cap0), (SS, 2, .int .i64 route), (SS, 3, .slice (some ⟨bw, ow, none⟩) ws.length cap), (SS, 4, .int .i64 route), (SS, 5, .slice (some ⟨bw, ow, none⟩) ws.length cap), (RS, 0, .int .i64 a0), (RS, 1, .int .i64 b0), (RS, 2, .int .i64 c0), (RS, 3, .int .i64 M0), (RS, 4, .int .i64 M1), (RS, 5, .int .i64 rc), (RS, 6, .int .i64 a0), (RS, 7, .int .i64 b0), (RS, 8, .int .i64 c0)] : Cells) ∧ (RS, k * 3 + 1, Value.int .i64 rb') ∈ ([(SS, 0, .int .i64 route0), (SS, 1, .slice aw0 ws0.length cap0), (SS, 2, .int .i64 route), (SS, 3, .slice (some ⟨bw, ow, none⟩) ws.length cap), (SS, 4, .int .i64 route), (SS, 5, .slice (some ⟨bw, ow, none⟩) ws.length cap), (RS, 0, .int .i64 a0), (RS, 1, .int .i64 b0), (RS, 2, .int .i64 c0), (RS, 3, .int .i64 M0), (RS, 4, .int .i64 M1), (RS, 5, .int .i64 rc), (RS, 6, .int .i64 a0), (RS, 7, .int .i64 b0), (RS, 8, .int .i64 c0)] : Cells) ∧ (RS, k * 3 + 2, Value.int .i64 rc') ∈ ([(SS, 0, .int .i64 route0), (SS, 1, .slice aw0 ws0.length cap0), (SS, 2, .int .i64 route), (SS, 3, .slice (some ⟨bw, ow, none⟩) ws.length cap), (SS, 4, .int .i64 route), (SS, 5, .slice (some ⟨bw, ow, none⟩) ws.length cap), (RS, 0, .int .i64 a0), (RS, 1, .int .i64 b0), (RS, 2, .int .i64 c0), (RS, 3, .int .i64 M0), (RS, 4, .int .i64 M1), (RS, 5, .int .i64 rc), (RS, 6, .int .i64 a0), (RS, 7, .int .i64 b0), (RS, 8, .int .i64 c0)] : Cells) ∧ (vq, wq) ∈ ([(.slice (some ⟨bw, ow, none⟩) ws.length cap, ws), (.slice aw0 ws0.length cap0, ws0)] : List (Value × List Wing)) ∧
                wq.length ≤ 100 ∧ (∀ i, i < wq.length → (wg wq i).name.size ≤ 1000000) ∧ Sound vq := by
              have hx0 : ∀ i, i < ws0.length → (wg ws0 i).name.size ≤ 1000000 := fun i hi => by have := hl2 i hi; omega
              have hx1 := made_size hm h8
              rcases (by omega : k = 0 ∨ k = 1 ∨ k = 2) with rfl | rfl | rfl
              · exact ⟨route0, .slice aw0 ws0.length cap0, ws0, a0, b0, c0, by simp, by simp, by simp, by simp, by simp, by simp, by omega, hx0, SW.out⟩
              · exact ⟨route, .slice (some ⟨bw, ow, none⟩) ws.length cap, ws, M0, M1, rc, by simp, by simp, by simp, by simp, by simp, by simp, by omega, hx1, (by intro n c e; cases e)⟩
              · exact ⟨route, .slice (some ⟨bw, ow, none⟩) ws.length cap, ws, a0, b0, c0, by simp, by simp, by simp, by simp, by simp, by simp, by omega, hx1, (by intro n c e; cases e)⟩
            have hKg := KK.g mW
            obtain ⟨aq, cq, rfl, _⟩ := hKg
            have K := hid KK
            clear KK
            obtain ⟨OL, OG, hO⟩ : ∃ OL OG, planRes rt wq ra' rb' rc' = (OL, OG) := ⟨_, _, rfl⟩
            obtain ⟨OE, hE⟩ : ∃ OE, planErr rt wq ra' rb' rc' = OE := ⟨_, rfl⟩
            have hOl : OL.length ≤ 1000000 := planRes_len hO gn
            have Hos := hid (show ∀ W', WgAt none W' (.slice aq wq.length cq) wq → Calls Tryd.prog 22 #[.agg #[.int .i64 rt, .slice aq wq.length cq]] W' (fun e w' => ∃ vx, e = .returned (.agg #[.int .i64 rt, vx]) ∧ OwnWg W'.heap.size w' vx wq ∧ Below W'.heap.size W' w') from fun W' h1 => ownSchool_any wq rt _ none W' h1 gv (by omega))
            have Hp0 := hid (show ∀ v' W', WgAt none W' v' wq → Calls Tryd.prog 62 #[.agg #[.int .i64 rt, v'], .agg #[.int .i64 ra', .int .i64 rb', .int .i64 rc']] W' (fun e w' => ∃ v, e = .returned (.tuple #[v, .int .i64 OG, .int .i64 OE]) ∧ OwnInts W'.heap.size w' v OL ∧ Below W'.heap.size W' w') from fun v' W' h1 => by
              have h := pPlan_any wq rt ra' rb' rc' v' W' h1 gn gnm
              rw [hO, hE] at h
              exact h)
            have Hp1 := hid (show ∀ v' W', WgAt none W' v' wq → Calls Tryd.prog 63 #[.agg #[.int .i64 rt, v'], .agg #[.int .i64 ra', .int .i64 rb', .int .i64 rc']] W' (fun e w' => ∃ v, e = .returned (.tuple #[v, .int .i64 OG, .int .i64 OE]) ∧ OwnInts W'.heap.size w' v OL ∧ Below W'.heap.size W' w') from fun v' W' h1 => by
              have h := rPlan_any wq rt ra' rb' rc' v' W' h1 gn gnm
              rw [hO, hE] at h
              exact h)
            have hlt3 : (k : Int) < 3 := by omega
            clear hc hm hl2 hO hE
            obtain ⟨wo, rfl⟩ : ∃ wo : World, wo = wr := ⟨_, rfl⟩
            have n0 := K.out.c m0
            have n1 := K.out.c m1
            go_wp2_with fail
            refine (Hos.out _ (K.out.g mW).any).mono ?_
            rintro e w12 ⟨vx, rfl, how, hb⟩
            obtain ⟨xa, xc, rfl⟩ := how.form
            have K := hid ((K.out.addWgs (K.out.later hb) how).box2 (.int .i64 rt) (.slice xa wq.length xc) 24)
            clear how hb n0 n1
            go_wp2_with fail
            obtain ⟨X, hX2⟩ : ∃ X, w12.heap.size = X := ⟨_, rfl⟩
            rw [hX2] at K ⊢
            clear hX2
            have K := hid K.out.drew
            have x0 : (X, 0, Value.int .i64 rt) ∈ ((X, 0, Value.int .i64 rt) :: (X, 1, Value.slice xa wq.length xc) :: [(SS, 0, .int .i64 route0), (SS, 1, .slice aw0 ws0.length cap0), (SS, 2, .int .i64 route), (SS, 3, .slice (some ⟨bw, ow, none⟩) ws.length cap), (SS, 4, .int .i64 route), (SS, 5, .slice (some ⟨bw, ow, none⟩) ws.length cap), (RS, 0, .int .i64 a0), (RS, 1, .int .i64 b0), (RS, 2, .int .i64 c0), (RS, 3, .int .i64 M0), (RS, 4, .int .i64 M1), (RS, 5, .int .i64 rc), (RS, 6, .int .i64 a0), (RS, 7, .int .i64 b0), (RS, 8, .int .i64 c0)] : Cells) := List.Mem.head _
            have x1 : (X, 1, Value.slice xa wq.length xc) ∈ ((X, 0, Value.int .i64 rt) :: (X, 1, Value.slice xa wq.length xc) :: [(SS, 0, .int .i64 route0), (SS, 1, .slice aw0 ws0.length cap0), (SS, 2, .int .i64 route), (SS, 3, .slice (some ⟨bw, ow, none⟩) ws.length cap), (SS, 4, .int .i64 route), (SS, 5, .slice (some ⟨bw, ow, none⟩) ws.length cap), (RS, 0, .int .i64 a0), (RS, 1, .int .i64 b0), (RS, 2, .int .i64 c0), (RS, 3, .int .i64 M0), (RS, 4, .int .i64 M1), (RS, 5, .int .i64 rc), (RS, 6, .int .i64 a0), (RS, 7, .int .i64 b0), (RS, 8, .int .i64 c0)] : Cells) := List.Mem.tail _ (List.Mem.head _)
            replace m0 := List.mem_cons_of_mem (X, 0, Value.int .i64 rt) (List.mem_cons_of_mem (X, 1, Value.slice xa wq.length xc) m0)
            replace m1 := List.mem_cons_of_mem (X, 0, Value.int .i64 rt) (List.mem_cons_of_mem (X, 1, Value.slice xa wq.length xc) m1)
            replace m5 := List.mem_cons_of_mem (X, 0, Value.int .i64 rt) (List.mem_cons_of_mem (X, 1, Value.slice xa wq.length xc) m5)
            replace m6 := List.mem_cons_of_mem (X, 0, Value.int .i64 rt) (List.mem_cons_of_mem (X, 1, Value.slice xa wq.length xc) m6)
            replace m7 := List.mem_cons_of_mem (X, 0, Value.int .i64 rt) (List.mem_cons_of_mem (X, 1, Value.slice xa wq.length xc) m7)
            have gx : (Value.slice xa wq.length xc, wq) ∈ ((Value.slice xa wq.length xc, wq) :: [(.slice (some ⟨bw, ow, none⟩) ws.length cap, ws), (.slice aw0 ws0.length cap0, ws0)] : List (Value × List Wing)) := List.Mem.head _
            replace mW := List.mem_cons_of_mem (Value.slice xa wq.length xc, wq) mW
            go_region_held3 (fun w' => w'.cell? ⟨X, 0, none⟩ = some (.int .i64 rt) ∧ w'.cell? ⟨X, 1, none⟩ = some (.slice xa wq.length xc) ∧ w'.cell? ⟨RS, k * 3, none⟩ = some (.int .i64 ra') ∧ w'.cell? ⟨RS, k * 3 + 1, none⟩ = some (.int .i64 rb') ∧ w'.cell? ⟨RS, k * 3 + 2, none⟩ = some (.int .i64 rc'))
              (first | with_reducible exact ⟨K.out.c x0, K.out.c x1, K.out.c m5, K.out.c m6, K.out.c m7⟩) (first
              | (go_at_call 62; refine (Hp0.out _ _ (K.out.g gx).any).mono ?_; rintro e w13 ⟨va, rfl, how, hb⟩; obtain ⟨aa, ac, rfl⟩ := how.form; have K := hid (K.out.addInts (K.out.later hb) how); clear how hb))
            go_wp2_with fail
            have K := hid K.out.drew
            go_region_held3 (fun w' => w'.cell? ⟨SS, k * 2, none⟩ = some (.int .i64 rt) ∧ w'.cell? ⟨SS, k * 2 + 1, none⟩ = some (.slice aq wq.length cq) ∧ w'.cell? ⟨RS, k * 3, none⟩ = some (.int .i64 ra') ∧ w'.cell? ⟨RS, k * 3 + 1, none⟩ = some (.int .i64 rb') ∧ w'.cell? ⟨RS, k * 3 + 2, none⟩ = some (.int .i64 rc'))
              (first | with_reducible exact ⟨K.out.c m0, K.out.c m1, K.out.c m5, K.out.c m6, K.out.c m7⟩) (first
              | (go_at_call 63; refine (Hp1.out _ _ (K.out.g mW).any).mono ?_; rintro e w14 ⟨vb, rfl, how, hb⟩; obtain ⟨ba, bc, rfl⟩ := how.form; have K := hid (K.out.addInts (K.out.later hb) how); clear how hb))
            obtain ⟨l1, l2⟩ := eq_bool (a := OG) (b := OG) rfl
            obtain ⟨l3, l4⟩ := eq_bool (a := OE) (b := OE) rfl
            have ib : (Value.slice ba OL.length bc, OL) ∈ ((Value.slice ba OL.length bc, OL) :: (Value.slice aa OL.length ac, OL) :: [(.slice ax xs.length cx, xs)] : List (Value × List Int)) := List.Mem.head _
            have ia : (Value.slice aa OL.length ac, OL) ∈ ((Value.slice ba OL.length bc, OL) :: (Value.slice aa OL.length ac, OL) :: [(.slice ax xs.length cx, xs)] : List (Value × List Int)) := List.Mem.tail _ (List.Mem.head _)
            go_wp2_with fail
            have K := hid K.out.drew
            go_region_held3 (fun w' => w'.cell? ⟨X, 0, none⟩ = some (.int .i64 rt) ∧ w'.cell? ⟨X, 1, none⟩ = some (.slice xa wq.length xc) ∧ w'.cell? ⟨SS, k * 2, none⟩ = some (.int .i64 rt) ∧ w'.cell? ⟨SS, k * 2 + 1, none⟩ = some (.slice aq wq.length cq))
              (first | with_reducible exact ⟨K.out.c x0, K.out.c x1, K.out.c m0, K.out.c m1⟩) (first
              | (go_at_call 31; refine (eqInts_same OL _ _ none none _ (K.out.i ia).any (K.out.i ib).any hOl).mono ?_; rintro e w15 ⟨rfl, hb⟩; have K := hid (K.out.later hb); clear hb)
              | (go_at_call 32; refine (eqSchools_same wq rt _ _ none none _ (K.out.g gx).any (K.out.g mW).any (by omega)).mono ?_; rintro e w16 ⟨rfl, hb⟩; have K := hid (K.out.later hb); clear hb))
            all_goals (
              go_wp2
              go_roundw
              case rel => exact ⟨k + 1, by omega, by go_num, (K.out.dropI.dropI.dropW).sub (fun x hx => List.mem_cons_of_mem _ (List.mem_cons_of_mem _ hx))⟩
              case measure => simp [intOf] <;> omega)
          · go_wp2_with (go_at_call 18; refine (awake_any _).mono ?_; rintro e w10 ⟨rfl, hb10⟩)
            go_ret
            exact ⟨rfl, (KK.later hb10).below⟩
end Go.Proofs.YtgfipifgijohhaaDoor
