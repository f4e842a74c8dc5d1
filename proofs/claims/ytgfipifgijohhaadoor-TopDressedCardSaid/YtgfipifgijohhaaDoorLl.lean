/-
  WALKS: ParadeLasts.
-/
import Derived.Test.YtgfipifgijohhaaDoorLo
import Derived.Deep.CutRange
namespace Go.Proofs.YtgfipifgijohhaaDoor
open Go.RowKit

/-- the drum comes into play where cells are held already -/
theorem LK.ofHK {d : Nat} {cs : Cells} {li : List (Value × List Int)} {lw : List (Value × List Wing)} {w0 w w' : World} (k : HK cs w0 w) (hB : Below w.heap.size w w') (hb : Beat d w') (hd : w.heap.size ≤ d)
    (hi : ∀ v xs, (v, xs) ∈ li → IntsAt none w0 v xs) (hw : ∀ v ws, (v, ws) ∈ lw → WgAt none w0 v ws) : LK d cs li lw w0 w' := by
  have k' := k.later hB
  have hs := k.below.size
  refine ⟨k'.below, by omega, hb, fun b o v h => ⟨by have := k.clt h; omega, (k'.cell b o v h).1, (k'.cell b o v h).2.1, (k'.cell b o v h).2.2⟩, fun v xs h => ⟨?_, fun h0 b o u hm e => ?_⟩, fun v xs h => ⟨?_, fun h0 b o u hm e => ?_⟩⟩
  · have h1 := hi v xs h
    have h2 := h1.below k'.below
    obtain ⟨a, cap, rfl, hh⟩ := h1
    obtain ⟨a', cap', e, hh'⟩ := h2
    cases e
    refine ⟨_, _, rfl, fun hp => ?_⟩
    obtain ⟨b, off, e1, q1, q2, _, q4, q5⟩ := hh' hp
    obtain ⟨b', off', e1', _, _, _, q4', _⟩ := hh hp
    rw [e1] at e1'; cases e1'
    exact ⟨b, off, e1, q1, q2, by intro e; cases e; omega, q4, q5⟩
  · obtain ⟨b', e', hb', _⟩ := (hi v xs h).block h0
    rw [e'] at e; cases e
    have := (k.cell b o u hm).1
    omega
  · have h1 := hw v xs h
    have h2 := h1.below k'.below
    obtain ⟨a, cap, rfl, hh⟩ := h1
    obtain ⟨a', cap', e, hh'⟩ := h2
    cases e
    refine ⟨_, _, rfl, fun hp => ?_⟩
    obtain ⟨b, off, e1, q1, q2, _, q4, q5⟩ := hh' hp
    obtain ⟨b', off', e1', _, _, _, q4', _⟩ := hh hp
    rw [e1] at e1'; cases e1'
    exact ⟨b, off, e1, q1, q2, by intro e; cases e; omega, q4, q5⟩
  · obtain ⟨b', e', hb', _⟩ := (hw v xs h).block h0
    rw [e'] at e; cases e
    have := (k.cell b o u hm).1
    omega

theorem LK.sub {d : Nat} {cs cs2 : Cells} {li : List (Value × List Int)} {lw : List (Value × List Wing)} {w0 w : World} (k : LK d cs li lw w0 w) (h : ∀ x, x ∈ cs2 → x ∈ cs) : LK d cs2 li lw w0 w :=
  ⟨k.below, k.d0, k.beat, fun b o v hm => k.cell b o v (h _ hm), fun v xs hm => ⟨k.i hm, fun h0 b o u hb => (k.ints v xs hm).2 h0 b o u (h _ hb)⟩, fun v xs hm => ⟨k.g hm, fun h0 b o u hb => (k.wgs v xs hm).2 h0 b o u (h _ hb)⟩⟩
theorem LK.put3_0 {d : Nat} {cs : Cells} {li : List (Value × List Int)} {lw : List (Value × List Wing)} {w0 w : World} {Z : Nat} {x y z x' : Value} (k : LK d ((Z, 0, x) :: (Z, 1, y) :: (Z, 2, z) :: cs) li lw w0 w) (h : ∀ b o v, (b, o, v) ∈ cs → b ≠ Z) :
    LK d ((Z, 0, x') :: (Z, 1, y) :: (Z, 2, z) :: cs) li lw w0 (w.setCell ⟨Z, 0, none⟩ x') := by
  have k1 := k.put (List.Mem.head _) x'
  have e1 : upd ((Z, 0, x) :: (Z, 1, y) :: (Z, 2, z) :: cs) Z 0 x' = (Z, 0, x') :: (Z, 1, y) :: (Z, 2, z) :: cs := by
    have := upd_far (o := 0) (u := x') h
    unfold upd at *
    simp [this]
  rw [e1] at k1
  exact k1
theorem LK.put3_1 {d : Nat} {cs : Cells} {li : List (Value × List Int)} {lw : List (Value × List Wing)} {w0 w : World} {Z : Nat} {x y z x' : Value} (k : LK d ((Z, 0, x) :: (Z, 1, y) :: (Z, 2, z) :: cs) li lw w0 w) (h : ∀ b o v, (b, o, v) ∈ cs → b ≠ Z) :
    LK d ((Z, 0, x) :: (Z, 1, x') :: (Z, 2, z) :: cs) li lw w0 (w.setCell ⟨Z, 1, none⟩ x') := by
  have k1 := k.put (o := 1) (v := y) (List.Mem.tail _ (List.Mem.head _)) x'
  have e1 : upd ((Z, 0, x) :: (Z, 1, y) :: (Z, 2, z) :: cs) Z 1 x' = (Z, 0, x) :: (Z, 1, x') :: (Z, 2, z) :: cs := by
    have := upd_far (o := 1) (u := x') h
    unfold upd at *
    simp [this]
  rw [e1] at k1
  exact k1

/-- cells of a block that is new, all at once -/
theorem LK.addAll {d : Nat} {cs cs' : Cells} {li : List (Value × List Int)} {lw : List (Value × List Wing)} {w0 w : World} {x : Array Value} {t : TypeId} (k : LK d cs li lw w0 w) (k' : LK d cs' li lw w0 (w.alloc (.cells x t))) :
    ∀ news : Cells, (∀ b o v, (b, o, v) ∈ news → b = w.heap.size ∧ x[o]? = some v) → LK d (news ++ cs') li lw w0 (w.alloc (.cells x t))
  | [], _ => k'
  | (b, o, v) :: news, h => by
    obtain ⟨rfl, hv⟩ := h b o v (List.mem_cons_self ..)
    exact k.addNew (LK.addAll k k' news fun b' o' v' hm => h b' o' v' (List.mem_cons_of_mem _ hm)) (cell_at rfl hv) (frozen_at rfl)

theorem LK.alloc3 {d : Nat} {cs : Cells} {li : List (Value × List Int)} {lw : List (Value × List Wing)} {w0 w : World} {x y z : Array Value} {t1 t2 t3 : TypeId} (k : LK d cs li lw w0 w) (news : Cells)
    (h : ∀ b o v, (b, o, v) ∈ news → (b = w.heap.size ∧ x[o]? = some v) ∨ (b = w.heap.size + 1 ∧ y[o]? = some v) ∨ (b = w.heap.size + 2 ∧ z[o]? = some v)) :
    LK d news li lw w0 (((w.alloc (.cells x t1)).alloc (.cells y t2)).alloc (.cells z t3)) := by
  have k1 := k.alloc (.cells x t1)
  have k2 := k1.alloc (.cells y t2)
  have k3 := k2.alloc (.cells z t3)
  -- one cell at a time
  have hsub : ∀ l : Cells, (∀ b o v, (b, o, v) ∈ l → (b, o, v) ∈ news) → LK d l li lw w0 (((w.alloc (.cells x t1)).alloc (.cells y t2)).alloc (.cells z t3)) := by
    have hb : ∀ b o v, (b, o, v) ∈ news → w.heap.size ≤ b ∧ (((w.alloc (.cells x t1)).alloc (.cells y t2)).alloc (.cells z t3)).cell? ⟨b, o, none⟩ = some v ∧ (((w.alloc (.cells x t1)).alloc (.cells y t2)).alloc (.cells z t3)).frozen? ⟨b, o, none⟩ = false := fun b o v hm => by
      rcases h b o v hm with ⟨rfl, hv⟩ | ⟨rfl, hv⟩ | ⟨rfl, hv⟩
      · exact ⟨Nat.le_refl _, cell_up (cell_up (cell_at rfl hv)), frozen_up (by simp; omega) (frozen_up (by simp) (frozen_at rfl))⟩
      · exact ⟨by omega, cell_up (cell_at (by simp) hv), frozen_up (by simp) (frozen_at (by simp))⟩
      · exact ⟨by omega, cell_at (by simp) hv, frozen_at (by simp)⟩
    intro l hl
    refine ⟨k3.below, k3.d0, k3.beat, fun b o v hm => ?_, fun v xs hm => ⟨k3.i hm, fun h0 b o u hb' e => ?_⟩, fun v xs hm => ⟨k3.g hm, fun h0 b o u hb' e => ?_⟩⟩
    · obtain ⟨q1, q2, q3⟩ := hb b o v (hl _ _ _ hm)
      exact ⟨by have := k.lt; omega, by have := k.below.size; omega, q2, q3⟩
    · obtain ⟨b', e', hb2, _⟩ := (k.i hm).block h0
      rw [e'] at e; cases e
      have := (hb b o u (hl _ _ _ hb')).1
      omega
    · obtain ⟨b', e', hb2, _⟩ := (k.g hm).block h0
      rw [e'] at e; cases e
      have := (hb b o u (hl _ _ _ hb')).1
      omega
  exact hsub news fun _ _ _ h => h
theorem cell_drew {w : World} {b o : Nat} {v : Value} (h : w.cell? ⟨b, o, none⟩ = some v) : w.drew.cell? ⟨b, o, none⟩ = some v := h
theorem ints_four (d : Nat) (w : World) (x y z u : Int) (hd : d < w.heap.size) : IntsAt (some d) (w.alloc (.cells #[.int .i64 x, .int .i64 y, .int .i64 z, .int .i64 u] 3)) (.slice (some ⟨w.heap.size, 0, none⟩) 4 4) [x, y, z, u] :=
  ⟨_, _, rfl, fun _ => ⟨_, _, rfl, by simp, by unfold maxLen; omega, by simp; omega, by simp, fun i hi => by
    match i, hi with
    | 0, _ => exact cell_at rfl rfl
    | 1, _ => exact cell_at rfl rfl
    | 2, _ => exact cell_at rfl rfl
    | 3, _ => exact cell_at rfl rfl⟩⟩

theorem ints_four' (d : Nat) (w : World) (x y z u : Int) (n : Nat) (hn : n = w.heap.size) (hd : d < w.heap.size) : IntsAt (some d) (w.alloc (.cells #[.int .i64 x, .int .i64 y, .int .i64 z, .int .i64 u] 3)) (.slice (some ⟨n, 0, none⟩) 4 4) [x, y, z, u] := by subst hn; exact ints_four d w x y z u hd
theorem long_bound {route : Int} {ws : List Wing} {st : List Int} (hcs : checkStarts route ws st = 0) (hm : MadeW ws) (hms : MadeS ws st) (h0 : 0 < ws.length) (h8 : ws.length ≤ 8) (hr1 : 1 ≤ route) (hr2 : route ≤ 2000) :
    0 ≤ longOf route ws st (Hi ws) ∧ longOf route ws st (Hi ws) ≤ 10000 ∧ 0 ≤ longOf route ws st (Lo ws) ∧ longOf route ws st (Lo ws) ≤ 10000 := by
  have hmp : MadeP ws (ws.map Wing.lo) := fun i hi => by
    rw [nm_lo]
    have := hm i (by simpa using hi)
    unfold Lo Hi
    omega
  have h := time_plain hcs hm hms hmp (by simp) h0 h8 hr1 hr2
  rw [long_over, long_over]
  omega

set_option maxHeartbeats 4000000 in
set_option maxRecDepth 100000 in
theorem lasts_any (ws0 : List Wing) (st0 xs : List Int) (route0 a0 b0 c0 : Int) (vw0 vs0 v : Value) (w : World) (hW : WgAt none w vw0 ws0) (hS : IntsAt none w vs0 st0) (hX : IntsAt none w v xs) (hn : xs.length ≤ 9223372036854775807) :
    Calls Tryd.prog 4 #[.agg #[.int .i64 route0, vw0], vs0, .agg #[.int .i64 a0, .int .i64 b0, .int .i64 c0], v] w fun e w' => e = .returned (.bool true) ∧ Below w.heap.size w w' := by
  have HX := hid hX
  have HW := hid hW
  have HS := hid hS
  obtain ⟨ax, cx, rfl, _⟩ := hX
  obtain ⟨aw0, cap0, rfl, _⟩ := hW
  obtain ⟨as0, cas0, rfl, _⟩ := hS
  have K := hid (((HK.start w).box2 (.int .i64 route0) (.slice aw0 ws0.length cap0) 24).box3 (.int .i64 a0) (.int .i64 b0) (.int .i64 c0) 50)
  simp only [World.size_alloc] at K
  go_enter Tryd.func4, Tryd.ntmps4
  go_wp2_with fail
  refine (long_any ws0 route0 _ _ (HW.out.below K.out.below)).mono ?_
  rintro e w1 ⟨b, rfl, hlong, hb1⟩
  have K := hid (K.out.later hb1)
  clear hb1
  cases b with
  | true =>
    go_wp2_with (go_at_call 18; refine (awake_any _).mono ?_; rintro e w10 ⟨rfl, hb10⟩)
    go_ret
    exact ⟨rfl, (K.out.later hb10).below⟩
  | false =>
    obtain ⟨hl1, hl2⟩ := hlong rfl
    by_cases hl3 : 20 < st0.length
    · go_wp2_with (go_at_call 18; refine (awake_any _).mono ?_; rintro e w10 ⟨rfl, hb10⟩)
      go_ret
      exact ⟨rfl, (K.out.later hb10).below⟩
    · go_wp2_with fail
      refine (drumOf_any xs _ _ (HX.out.below K.out.below) hn).mono ?_
      rintro e w2 ⟨rfl, hb2, hl2'⟩
      have hraw : ∀ v' xs', (v', xs') ∈ [(Value.slice ax xs.length cx, xs), (Value.slice as0 st0.length cas0, st0)] → IntsAt none w v' xs' := fun v' xs' h => by
        rcases List.mem_cons.1 h with h | h
        · cases h; exact HX.out
        · rcases List.mem_cons.1 h with h | h
          · cases h; exact HS.out
          · cases h
      have hraw2 : ∀ v' xs', (v', xs') ∈ [(Value.slice aw0 ws0.length cap0, ws0)] → WgAt none w v' xs' := fun v' xs' h => by
        rcases List.mem_cons.1 h with h | h
        · cases h; exact HW.out
        · cases h
      have K := hid (LK.ofHK (li := [(.slice ax xs.length cx, xs), (.slice as0 st0.length cas0, st0)]) (lw := [(.slice aw0 ws0.length cap0, ws0)]) K.out hl2' hb2 (Nat.le_refl _) hraw hraw2)
      clear hb2 hl2'
      go_wp2_with fail
      refine (schoolOf_any _ 6 _ K.out.beat (by decide) (by decide)).mono ?_
      rintro e w3 ⟨route, vw, ws, rfl, hr1, hr2, h0, h6, hm, hown, hbt, hgb⟩
      obtain ⟨bw, ow, cap, rfl, _, _⟩ := (hown.at (d := none) (by simp)).slice h0
      have K := hid (K.out.addWgs (K.out.go hgb hbt) hown)
      clear hgb hbt hown
      have h8 : ws.length ≤ 8 := by omega
      have hc := hid (made_check hm hr1 hr2 h0 h8)
      have K := hid (K.out.box2 (.int .i64 route) (.slice (some ⟨bw, ow, none⟩) ws.length cap) 24)
      have q0 := K.out.c (o := 0) (v := .int .i64 route) (List.Mem.head _)
      have q1 := K.out.c (o := 1) (v := .slice (some ⟨bw, ow, none⟩) ws.length cap) (List.Mem.tail _ (List.Mem.head _))
      go_wp2_with fail
      refine (startsOf_any _ ws route _ _ K.out.beat (K.out.g (by simp)) hc.out hm).mono ?_
      rintro e w4 ⟨vs, st, rfl, hls, hms, hso, hbt, hgb⟩
      have K := hid (K.out.addInts (K.out.go hgb hbt) hso)
      clear hbt hgb hso
      have hcs := hid (made_starts hc.out hls h8 hms)
      have Hls := hid hls
      obtain ⟨bs, os, cv, rfl, _, _⟩ := (K.out.i (v := vs) (xs := st) (by simp)).slice (by omega)
      clear hls
      have q0 := K.out.c (b := w3.heap.size) (o := 0) (v := .int .i64 route) (by simp)
      have q1 := K.out.c (b := w3.heap.size) (o := 1) (v := .slice (some ⟨bw, ow, none⟩) ws.length cap) (by simp)
      go_wp2_with fail
      refine (rulesOf_any _ _ K.out.beat).mono ?_
      rintro e w5 ⟨ra, rb, rc, rfl, ha1, ha2, hab, hb2, hc1, hc2, hbt, hgb⟩
      have K := hid (K.out.go hgb hbt)
      clear hbt hgb
      have hlt5 := hid (fun b o v h => K.out.clt (b := b) (o := o) (v := v) h)
      have K := hid (K.out.box3 (.int .i64 ra) (.int .i64 rb) (.int .i64 rc) 50)
      have q0 := K.out.c (b := w3.heap.size) (o := 0) (v := .int .i64 route) (by simp)
      have q1 := K.out.c (b := w3.heap.size) (o := 1) (v := .slice (some ⟨bw, ow, none⟩) ws.length cap) (by simp)
      have e0 := K.out.c (b := w5.heap.size) (o := 0) (v := .int .i64 ra) (by simp)
      have e1 := K.out.c (b := w5.heap.size) (o := 1) (v := .int .i64 rb) (by simp)
      have e2 := K.out.c (b := w5.heap.size) (o := 2) (v := .int .i64 rc) (by simp)
      go_wp2_with fail
      refine (rLasts_any ws st route ra rb rc _ _ _ (K.out.g (by simp)).any (K.out.i (v := .slice (some ⟨bs, os, none⟩) st.length cv) (xs := st) (by simp)).any (by omega) (made_size hm h8) (by have := Hls.out; omega)).mono ?_
      rintro e w6 ⟨rfl, hb6⟩
      have hbe := both_rules hcs.out (rules_fine (a := ra) (b := rb) (c := rc) (by omega) (by omega) (by omega) (by omega) (by omega))
      rw [hbe, lasts_fine hbe]
      dsimp only
      have hlb := long_bound hcs.out hm hms h0 h8 hr1 hr2
      generalize longOf route ws st (Hi ws) = A at *
      generalize longOf route ws st (Lo ws) = B at *
      generalize verdictOf ra rb A B = vd at *
      clear hbe
      have K := hid (K.out.later hb6)
      clear hb6
      have hlt6 := hid (fun b o v h => K.out.clt (b := b) (o := o) (v := v) h)
      have K := hid (K.out.box2 (.int .i64 A) (.int .i64 B) 27)
      go_wp2_with fail
      refine (rare_any _ _ _ K.out.beat (by decide)).mono ?_
      rintro e w7 ⟨r, rfl, hbt, hgb⟩
      have K := hid (K.out.go hgb hbt)
      clear hbt hgb
      have K : Hid (LK w1.heap.size [(w5.heap.size, 0, .int .i64 (ra)), (w5.heap.size, 1, .int .i64 (rb)), (w5.heap.size, 2, .int .i64 rc), (w6.heap.size, 0, .int .i64 A), (w6.heap.size, 1, .int .i64 B), (w3.heap.size, 0, .int .i64 route), (w3.heap.size, 1, .slice (some ⟨bw, ow, none⟩) ws.length cap), (w.heap.size + 1, 0, .int .i64 a0), (w.heap.size + 1, 1, .int .i64 b0), (w.heap.size + 1, 2, .int .i64 c0), (w.heap.size, 0, .int .i64 route0), (w.heap.size, 1, .slice aw0 ws0.length cap0)] [(.slice (some ⟨bs, os, none⟩) st.length cv, st), (.slice ax xs.length cx, xs), (.slice as0 st0.length cas0, st0)] [(.slice (some ⟨bw, ow, none⟩) ws.length cap, ws), (.slice aw0 ws0.length cap0, ws0)] w w7) := hid (K.out.sub (fun x h => by simp only [List.mem_cons, List.not_mem_nil, or_false] at h ⊢; rcases h with h | h | h | h | h | h | h | h | h | h | h | h <;> simp [h]))
      have hne : Hid (∀ b o u, (b, o, u) ∈ ([(w6.heap.size, 0, .int .i64 A), (w6.heap.size, 1, .int .i64 B), (w3.heap.size, 0, .int .i64 route), (w3.heap.size, 1, .slice (some ⟨bw, ow, none⟩) ws.length cap), (w.heap.size + 1, 0, .int .i64 a0), (w.heap.size + 1, 1, .int .i64 b0), (w.heap.size + 1, 2, .int .i64 c0), (w.heap.size, 0, .int .i64 route0), (w.heap.size, 1, .slice aw0 ws0.length cap0)] : Cells) → b ≠ w5.heap.size) := hid (fun b o u h => by
        have h1 := hlt6.out w5.heap.size 0 (.int .i64 ra) (by simp)
        have h2 := hlt5.out w3.heap.size 0 (.int .i64 route) (by simp)
        have h3 := hlt5.out (w.heap.size + 1) 0 (.int .i64 a0) (by simp)
        have h4 := hlt5.out w.heap.size 0 (.int .i64 route0) (by simp)
        simp only [List.mem_cons, Prod.mk.injEq, List.not_mem_nil, or_false] at h
        omega)
      clear hlt5 hlt6 q0 q1 e0 e1 e2
      cases r with
      | true =>
        have x0 := K.out.c (b := w6.heap.size) (o := 0) (v := .int .i64 A) (by simp)
        have x1 := K.out.c (b := w6.heap.size) (o := 1) (v := .int .i64 B) (by simp)
        go_wp2_with fail
        refine (any_any _ _ _ _ (K.out.alloc _).beat (ints_four _ _ _ _ _ _ K.out.lt) (by simp) (by simp)).mono ?_
        rintro e w8 ⟨j, hj, rfl, hbt, hgb⟩
        have K := hid ((K.out.alloc _).go hgb hbt)
        clear hbt hgb x0 x1
        generalize nm [A, A - 1, B, B + 1] j = z at *
        have e0 := K.out.c (b := w5.heap.size) (o := 0) (v := .int .i64 ra) (by simp)
        have f0 := K.out.f (b := w5.heap.size) (o := 0) (v := .int .i64 ra) (by simp)
        go_wp2_with fail
        have K : Hid (LK w1.heap.size [(w5.heap.size, 0, .int .i64 (max 0 z)), (w5.heap.size, 1, .int .i64 (rb)), (w5.heap.size, 2, .int .i64 rc), (w6.heap.size, 0, .int .i64 A), (w6.heap.size, 1, .int .i64 B), (w3.heap.size, 0, .int .i64 route), (w3.heap.size, 1, .slice (some ⟨bw, ow, none⟩) ws.length cap), (w.heap.size + 1, 0, .int .i64 a0), (w.heap.size + 1, 1, .int .i64 b0), (w.heap.size + 1, 2, .int .i64 c0), (w.heap.size, 0, .int .i64 route0), (w.heap.size, 1, .slice aw0 ws0.length cap0)] [(.slice (some ⟨bs, os, none⟩) st.length cv, st), (.slice ax xs.length cx, xs), (.slice as0 st0.length cas0, st0)] [(.slice (some ⟨bw, ow, none⟩) ws.length cap, ws), (.slice aw0 ws0.length cap0, ws0)] w (w8.setCell ⟨w5.heap.size, 0, none⟩ (.int .i64 (max 0 z)))) := hid (K.out.put3_0 hne.out)
        obtain ⟨w9, hw9, K9⟩ := K.out.name
        rw [hw9]
        clear hw9 K e0 f0
        have K := hid K9.drew
        clear K9
        generalize max 0 z = M0 at *
        have wa : IntKind.i64.wrap (A - 1) = A - 1 := IntWalk.i64_in _ (by omega)
        have wb : IntKind.i64.wrap (B - 1) = B - 1 := IntWalk.i64_in _ (by omega)
        have e1 := K.out.c (b := w5.heap.size) (o := 1) (v := .int .i64 rb) (by simp)
        have f1 := K.out.f (b := w5.heap.size) (o := 1) (v := .int .i64 rb) (by simp)
        go_region_held3 (fun w' => w'.cell? ⟨w5.heap.size, 0, none⟩ = some (.int .i64 M0) ∧ w'.cell? ⟨w6.heap.size, 0, none⟩ = some (.int .i64 A) ∧ w'.cell? ⟨w6.heap.size, 1, none⟩ = some (.int .i64 B))
          (first | with_reducible exact ⟨K.out.c (by simp), K.out.c (by simp), K.out.c (by simp)⟩ | with_reducible exact ⟨(K.out.put3_1 hne.out).c (by simp), (K.out.put3_1 hne.out).c (by simp), (K.out.put3_1 hne.out).c (by simp)⟩ | exact ⟨(K.out.alloc _).c (by simp), (K.out.alloc _).c (by simp), (K.out.alloc _).c (by simp)⟩) (first
          | (go_at_call 36; refine (any_any _ _ _ _ (K.out.alloc _).beat (ints_four' _ _ _ _ _ _ _ (by simp) K.out.lt) (by simp) (by simp)).mono ?_; rintro e w10 ⟨j2, hj2, rfl, hbt, hgb⟩; have K := hid ((K.out.alloc _).go hgb hbt); clear hbt hgb; generalize nm [A, A - 1, B, B - 1] j2 = z2 at *; have e1 := K.out.c (b := w5.heap.size) (o := 1) (v := .int .i64 rb) (by simp); have f1 := K.out.f (b := w5.heap.size) (o := 1) (v := .int .i64 rb) (by simp)))
        all_goals (
          have K : Hid (LK w1.heap.size [(w5.heap.size, 0, .int .i64 (M0)), (w5.heap.size, 1, .int .i64 (max M0 z2)), (w5.heap.size, 2, .int .i64 rc), (w6.heap.size, 0, .int .i64 A), (w6.heap.size, 1, .int .i64 B), (w3.heap.size, 0, .int .i64 route), (w3.heap.size, 1, .slice (some ⟨bw, ow, none⟩) ws.length cap), (w.heap.size + 1, 0, .int .i64 a0), (w.heap.size + 1, 1, .int .i64 b0), (w.heap.size + 1, 2, .int .i64 c0), (w.heap.size, 0, .int .i64 route0), (w.heap.size, 1, .slice aw0 ws0.length cap0)] [(.slice (some ⟨bs, os, none⟩) st.length cv, st), (.slice ax xs.length cx, xs), (.slice as0 st0.length cas0, st0)] [(.slice (some ⟨bw, ow, none⟩) ws.length cap, ws), (.slice aw0 ws0.length cap0, ws0)] w (w10.setCell ⟨w5.heap.size, 1, none⟩ (.int .i64 (max M0 z2)))) := hid (K.out.put3_1 hne.out)
          obtain ⟨w11, hw11, K11⟩ := K.out.name
          rw [hw11]
          clear hw11 K e1 f1 wa wb
          have K := hid K11
          clear K11
          generalize max M0 z2 = M1 at *
          go_wp2_with fail
          go_cut [16, 17, 18] from 85 to 96 (fun s16 s17 s18 wx => ∃ SS LS RS : Nat, s16 = .slice (some ⟨SS, 0, none⟩) 3 3 ∧ s17 = .slice (some ⟨LS, 0, none⟩) 3 3 ∧ s18 = .slice (some ⟨RS, 0, none⟩) 3 3 ∧
            LK w1.heap.size [(SS, 0, .int .i64 route0), (SS, 1, .slice aw0 ws0.length cap0), (SS, 2, .int .i64 route), (SS, 3, .slice (some ⟨bw, ow, none⟩) ws.length cap), (SS, 4, .int .i64 route), (SS, 5, .slice (some ⟨bw, ow, none⟩) ws.length cap), (LS, 0, .slice as0 st0.length cas0), (LS, 1, .slice (some ⟨bs, os, none⟩) st.length cv), (LS, 2, .slice (some ⟨bs, os, none⟩) st.length cv), (RS, 0, .int .i64 a0), (RS, 1, .int .i64 b0), (RS, 2, .int .i64 c0), (RS, 3, .int .i64 M0), (RS, 4, .int .i64 M1), (RS, 5, .int .i64 rc), (RS, 6, .int .i64 a0), (RS, 7, .int .i64 b0), (RS, 8, .int .i64 c0)] [(.slice (some ⟨bs, os, none⟩) st.length cv, st), (.slice ax xs.length cx, xs), (.slice as0 st0.length cas0, st0)] [(.slice (some ⟨bw, ow, none⟩) ws.length cap, ws), (.slice aw0 ws0.length cap0, ws0)] w wx)
          case first =>
            have p0 := K.out.c (b := w.heap.size) (o := 0) (v := .int .i64 route0) (by simp)
            have p1 := K.out.c (b := w.heap.size) (o := 1) (v := .slice aw0 ws0.length cap0) (by simp)
            have q0 := K.out.c (b := w3.heap.size) (o := 0) (v := .int .i64 route) (by simp)
            have q1 := K.out.c (b := w3.heap.size) (o := 1) (v := .slice (some ⟨bw, ow, none⟩) ws.length cap) (by simp)
            have t0 := K.out.c (b := w.heap.size + 1) (o := 0) (v := .int .i64 a0) (by simp)
            have t1 := K.out.c (b := w.heap.size + 1) (o := 1) (v := .int .i64 b0) (by simp)
            have t2 := K.out.c (b := w.heap.size + 1) (o := 2) (v := .int .i64 c0) (by simp)
            have e0 := K.out.c (b := w5.heap.size) (o := 0) (v := .int .i64 M0) (by simp)
            have e1 := K.out.c (b := w5.heap.size) (o := 1) (v := .int .i64 M1) (by simp)
            have e2 := K.out.c (b := w5.heap.size) (o := 2) (v := .int .i64 rc) (by simp)
            go_region_held3 (fun w' => w'.cell? ⟨w.heap.size, 0, none⟩ = some (.int .i64 route0) ∧ w'.cell? ⟨w.heap.size, 1, none⟩ = some (.slice aw0 ws0.length cap0) ∧ w'.cell? ⟨w3.heap.size, 0, none⟩ = some (.int .i64 route) ∧ w'.cell? ⟨w3.heap.size, 1, none⟩ = some (.slice (some ⟨bw, ow, none⟩) ws.length cap) ∧
                w'.cell? ⟨w.heap.size + 1, 0, none⟩ = some (.int .i64 a0) ∧ w'.cell? ⟨w.heap.size + 1, 1, none⟩ = some (.int .i64 b0) ∧ w'.cell? ⟨w.heap.size + 1, 2, none⟩ = some (.int .i64 c0) ∧
                w'.cell? ⟨w5.heap.size, 0, none⟩ = some (.int .i64 M0) ∧ w'.cell? ⟨w5.heap.size, 1, none⟩ = some (.int .i64 M1) ∧ w'.cell? ⟨w5.heap.size, 2, none⟩ = some (.int .i64 rc))
              (first | with_reducible exact ⟨(cell_drew p0), (cell_drew p1), (cell_drew q0), (cell_drew q1), (cell_drew t0), (cell_drew t1), (cell_drew t2), (cell_drew e0), (cell_drew e1), (cell_drew e2)⟩ | with_reducible exact ⟨(cell_drew (cell_up p0)), (cell_drew (cell_up p1)), (cell_drew (cell_up q0)), (cell_drew (cell_up q1)), (cell_drew (cell_up t0)), (cell_drew (cell_up t1)), (cell_drew (cell_up t2)), (cell_drew (cell_up e0)), (cell_drew (cell_up e1)), (cell_drew (cell_up e2))⟩ | with_reducible exact ⟨(cell_drew (cell_up (cell_up p0))), (cell_drew (cell_up (cell_up p1))), (cell_drew (cell_up (cell_up q0))), (cell_drew (cell_up (cell_up q1))), (cell_drew (cell_up (cell_up t0))), (cell_drew (cell_up (cell_up t1))), (cell_drew (cell_up (cell_up t2))), (cell_drew (cell_up (cell_up e0))), (cell_drew (cell_up (cell_up e1))), (cell_drew (cell_up (cell_up e2)))⟩ | with_reducible exact ⟨(cell_drew (cell_up (cell_up (cell_up p0)))), (cell_drew (cell_up (cell_up (cell_up p1)))), (cell_drew (cell_up (cell_up (cell_up q0)))), (cell_drew (cell_up (cell_up (cell_up q1)))), (cell_drew (cell_up (cell_up (cell_up t0)))), (cell_drew (cell_up (cell_up (cell_up t1)))), (cell_drew (cell_up (cell_up (cell_up t2)))), (cell_drew (cell_up (cell_up (cell_up e0)))), (cell_drew (cell_up (cell_up (cell_up e1)))), (cell_drew (cell_up (cell_up (cell_up e2))))⟩) (fail)
            all_goals (
              go_wp2_with fail
              go_meet
              refine ⟨_, _, _, rfl, rfl, rfl, (K.out.alloc3 _ (fun b o v h => ?_)).drew⟩
              simp only [List.mem_cons, Prod.mk.injEq, List.not_mem_nil, or_false] at h
              rcases h with ⟨rfl, rfl, rfl⟩ | ⟨rfl, rfl, rfl⟩ | ⟨rfl, rfl, rfl⟩ | ⟨rfl, rfl, rfl⟩ | ⟨rfl, rfl, rfl⟩ | ⟨rfl, rfl, rfl⟩ | ⟨rfl, rfl, rfl⟩ | ⟨rfl, rfl, rfl⟩ | ⟨rfl, rfl, rfl⟩ | ⟨rfl, rfl, rfl⟩ | ⟨rfl, rfl, rfl⟩ | ⟨rfl, rfl, rfl⟩ | ⟨rfl, rfl, rfl⟩ | ⟨rfl, rfl, rfl⟩ | ⟨rfl, rfl, rfl⟩ | ⟨rfl, rfl, rfl⟩ | ⟨rfl, rfl, rfl⟩ | ⟨rfl, rfl, rfl⟩ <;>
                first | exact .inl ⟨rfl, rfl⟩ | exact .inr (.inl ⟨rfl, rfl⟩) | exact .inr (.inr ⟨rfl, rfl⟩))
          case rest =>
            obtain ⟨SS, LS, RS, rfl, rfl, rfl, KK⟩ := hcut
            have K := hid KK
            clear KK
            go_wp2_with fail
            go_loopw [19] (fun i wr => ∃ k : Nat, k ≤ 3 ∧ i = .int .i64 k ∧ LK w1.heap.size [(SS, 0, .int .i64 route0), (SS, 1, .slice aw0 ws0.length cap0), (SS, 2, .int .i64 route), (SS, 3, .slice (some ⟨bw, ow, none⟩) ws.length cap), (SS, 4, .int .i64 route), (SS, 5, .slice (some ⟨bw, ow, none⟩) ws.length cap), (LS, 0, .slice as0 st0.length cas0), (LS, 1, .slice (some ⟨bs, os, none⟩) st.length cv), (LS, 2, .slice (some ⟨bs, os, none⟩) st.length cv), (RS, 0, .int .i64 a0), (RS, 1, .int .i64 b0), (RS, 2, .int .i64 c0), (RS, 3, .int .i64 M0), (RS, 4, .int .i64 M1), (RS, 5, .int .i64 rc), (RS, 6, .int .i64 a0), (RS, 7, .int .i64 b0), (RS, 8, .int .i64 c0)] [(.slice (some ⟨bs, os, none⟩) st.length cv, st), (.slice ax xs.length cx, xs), (.slice as0 st0.length cas0, st0)] [(.slice (some ⟨bw, ow, none⟩) ws.length cap, ws), (.slice aw0 ws0.length cap0, ws0)] w wr) (fun i _ => 3 - (intOf i).toNat)
            case atStart => exact ⟨0, by omega, rfl, K.out⟩
            case round =>
              obtain ⟨k, hk, rfl, KK⟩ := hrel
              by_cases hlt : k < 3
              · obtain ⟨rt, vq, wq, vr, sq, ra', rb', rc', m0, m1, m2, m3, m4, m5, mW, mS, gn, gnm, gns⟩ : ∃ (rt : Int) (vq : Value) (wq : List Wing) (vr : Value) (sq : List Int) (ra' rb' rc' : Int), (SS, k * 2, Value.int .i64 rt) ∈ [(SS, 0, .int .i64 route0), (SS, 1, .slice aw0 ws0.length cap0), (SS, 2, .int .i64 route), (SS, 3, .slice (some ⟨bw, ow, none⟩) ws.length cap), (SS, 4, .int .i64 route), (SS, 5, .slice (some ⟨bw, ow, none⟩) ws.length cap), (LS, 0, .slice as0 st0.length cas0), (LS, 1, .slice (some ⟨bs, os, none⟩) st.length cv), (LS, 2, .slice (some ⟨bs, os, none⟩) st.length cv), (RS, 0, .int .i64 a0), (RS, 1, .int .i64 b0), (RS, 2, .int .i64 c0), (RS, 3, .int .i64 M0), (RS, 4, .int .i64 M1), (RS, 5, .int .i64 rc), (RS, 6, .int .i64 a0), (RS, 7, .int .i64 b0), (RS, 8, .int .i64 c0)] ∧ (SS, k * 2 + 1, vq) ∈ [(SS, 0, .int .i64 route0), (SS, 1, .slice aw0 ws0.length cap0), (SS, 2, .int .i64 route), (SS, 3, .slice (some ⟨bw, ow, none⟩) ws.length cap), (SS, 4, .int .i64 route), (SS, 5, .slice (some ⟨bw, ow, none⟩) ws.length cap), (LS, 0, .slice as0 st0.length cas0), (LS, 1, .slice (some ⟨bs, os, none⟩) st.length cv), (LS, 2, .slice (some ⟨bs, os, none⟩) st.length cv), (RS, 0, .int .i64 a0), (RS, 1, .int .i64 b0), (RS, 2, .int .i64 c0), (RS, 3, .int .i64 M0), (RS, 4, .int .i64 M1), (RS, 5, .int .i64 rc), (RS, 6, .int .i64 a0), (RS, 7, .int .i64 b0), (RS, 8, .int .i64 c0)] ∧ (LS, k, vr) ∈ [(SS, 0, .int .i64 route0), (SS, 1, .slice aw0 ws0.length cap0), (SS, 2, .int .i64 route), (SS, 3, .slice (some ⟨bw, ow, none⟩) ws.length cap), (SS, 4, .int .i64 route), (SS, 5, .slice (some ⟨bw, ow, none⟩) ws.length cap), (LS, 0, .slice as0 st0.length cas0), (LS, 1, .slice (some ⟨bs, os, none⟩) st.length cv), (LS, 2, .slice (some ⟨bs, os, none⟩) st.length cv), (RS, 0, .int .i64 a0), (RS, 1, .int .i64 b0), (RS, 2, .int .i64 c0), (RS, 3, .int .i64 M0), (RS, 4, .int .i64 M1), (RS, 5, .int .i64 rc), (RS, 6, .int .i64 a0), (RS, 7, .int .i64 b0), (RS, 8, .int .i64 c0)] ∧ (RS, k * 3, Value.int .i64 ra') ∈ [(SS, 0, .int .i64 route0), (SS, 1, .slice aw0 ws0.length cap0), (SS, 2, .int .i64 route), (SS, 3, .slice (some ⟨bw, ow, none⟩) ws.length cap), (SS, 4, .int .i64 route), (SS, 5, .slice (some ⟨bw, ow, none⟩) ws.length cap), (LS, 0, .slice as0 st0.length cas0), (LS, 1, .slice (some ⟨bs, os, none⟩) st.length cv), (LS, 2, .slice (some ⟨bs, os, none⟩) st.length cv), (RS, 0, .int .i64 a0), (RS, 1, .int .i64 b0), (RS, 2, .int .i64 c0), (RS, 3, .int .i64 M0), (RS, 4, .int .i64 M1), (RS, 5, .int .i64 rc), (RS, 6, .int .i64 a0), (RS, 7, .int .i64 b0), (RS, 8, .int .i64 c0)] ∧ (RS, k * 3 + 1, Value.int .i64 rb') ∈ [(SS, 0, .int .i64 route0), (SS, 1, .slice aw0 ws0.length cap0), (SS, 2, .int .i64 route), (SS, 3, .slice (some ⟨bw, ow, none⟩) ws.length cap), (SS, 4, .int .i64 route), (SS, 5, .slice (some ⟨bw, ow, none⟩) ws.length cap), (LS, 0, .slice as0 st0.length cas0), (LS, 1, .slice (some ⟨bs, os, none⟩) st.length cv), (LS, 2, .slice (some ⟨bs, os, none⟩) st.length cv), (RS, 0, .int .i64 a0), (RS, 1, .int .i64 b0), (RS, 2, .int .i64 c0), (RS, 3, .int .i64 M0), (RS, 4, .int .i64 M1), (RS, 5, .int .i64 rc), (RS, 6, .int .i64 a0), (RS, 7, .int .i64 b0), (RS, 8, .int .i64 c0)] ∧ (RS, k * 3 + 2, Value.int .i64 rc') ∈ [(SS, 0, .int .i64 route0), (SS, 1, .slice aw0 ws0.length cap0), (SS, 2, .int .i64 route), (SS, 3, .slice (some ⟨bw, ow, none⟩) ws.length cap), (SS, 4, .int .i64 route), (SS, 5, .slice (some ⟨bw, ow, none⟩) ws.length cap), (LS, 0, .slice as0 st0.length cas0), (LS, 1, .slice (some ⟨bs, os, none⟩) st.length cv), (LS, 2, .slice (some ⟨bs, os, none⟩) st.length cv), (RS, 0, .int .i64 a0), (RS, 1, .int .i64 b0), (RS, 2, .int .i64 c0), (RS, 3, .int .i64 M0), (RS, 4, .int .i64 M1), (RS, 5, .int .i64 rc), (RS, 6, .int .i64 a0), (RS, 7, .int .i64 b0), (RS, 8, .int .i64 c0)] ∧ (vq, wq) ∈ [(.slice (some ⟨bw, ow, none⟩) ws.length cap, ws), (.slice aw0 ws0.length cap0, ws0)] ∧ (vr, sq) ∈ [(.slice (some ⟨bs, os, none⟩) st.length cv, st), (.slice ax xs.length cx, xs), (.slice as0 st0.length cas0, st0)] ∧
                    wq.length ≤ 100 ∧ (∀ i, i < wq.length → (wg wq i).name.size ≤ 1000000) ∧ sq.length ≤ 1000000 := by
                  have hx0 : ∀ i, i < ws0.length → (wg ws0 i).name.size ≤ 1000000 := fun i hi => by have := hl2 i hi; omega
                  have hx1 := made_size hm h8
                  have hx2 : st.length ≤ 1000000 := by have := Hls.out; omega
                  rcases (by omega : k = 0 ∨ k = 1 ∨ k = 2) with rfl | rfl | rfl
                  · exact ⟨route0, .slice aw0 ws0.length cap0, ws0, .slice as0 st0.length cas0, st0, a0, b0, c0, by simp, by simp, by simp, by simp, by simp, by simp, by simp, by simp, by omega, hx0, by omega⟩
                  · exact ⟨route, .slice (some ⟨bw, ow, none⟩) ws.length cap, ws, .slice (some ⟨bs, os, none⟩) st.length cv, st, M0, M1, rc, by simp, by simp, by simp, by simp, by simp, by simp, by simp, by simp, by omega, hx1, hx2⟩
                  · exact ⟨route, .slice (some ⟨bw, ow, none⟩) ws.length cap, ws, .slice (some ⟨bs, os, none⟩) st.length cv, st, a0, b0, c0, by simp, by simp, by simp, by simp, by simp, by simp, by simp, by simp, by omega, hx1, hx2⟩
                obtain ⟨aq, cq, rfl, _⟩ := KK.g mW
                obtain ⟨ar, cr, rfl, _⟩ := KK.i mS
                have K := hid KK
                clear KK
                obtain ⟨V, P, Q, hL⟩ : ∃ V P Q, lastsRes rt wq sq ra' rb' rc' = (V, P, Q) := ⟨_, _, _, rfl⟩
                obtain ⟨E, hE⟩ : ∃ E, bothErr rt wq sq ra' rb' rc' = E := ⟨_, rfl⟩
                have hp : ∀ W', WgAt none W' (.slice aq wq.length cq) wq → IntsAt none W' (.slice ar sq.length cr) sq → Calls Tryd.prog 37 #[.agg #[.int .i64 rt, .slice aq wq.length cq], .slice ar sq.length cr, .agg #[.int .i64 ra', .int .i64 rb', .int .i64 rc']] W' (fun e w' => e = .returned (.tuple #[.int .i64 V, .agg #[.int .i64 P, .int .i64 Q], .int .i64 E]) ∧ Below W'.heap.size W' w') := fun W' h1 h2 => by
                  have h := pLasts_any wq sq rt ra' rb' rc' _ _ W' h1 h2 gn gnm gns
                  rw [hL, hE] at h
                  exact h
                have hr : ∀ W', WgAt none W' (.slice aq wq.length cq) wq → IntsAt none W' (.slice ar sq.length cr) sq → Calls Tryd.prog 34 #[.agg #[.int .i64 rt, .slice aq wq.length cq], .slice ar sq.length cr, .agg #[.int .i64 ra', .int .i64 rb', .int .i64 rc']] W' (fun e w' => e = .returned (.tuple #[.int .i64 V, .agg #[.int .i64 P, .int .i64 Q], .int .i64 E]) ∧ Below W'.heap.size W' w') := fun W' h1 h2 => by
                  have h := rLasts_any wq sq rt ra' rb' rc' _ _ W' h1 h2 gn gnm gns
                  rw [hL, hE] at h
                  exact h
                have Hp := hid hp
                have Hr := hid hr
                have hlt3 : (k : Int) < 3 := by omega
                clear hp hr hL hE
                obtain ⟨wo, rfl⟩ : ∃ wo : World, wo = wr := ⟨_, rfl⟩
                have hneq := fun b o v h => Nat.ne_of_lt (K.out.clt (b := b) (o := o) (v := v) h)
                have Hneq := hid hneq
                go_wp2_with fail
                go_cut [20, 21, 22] from 97 to 149 (fun sv sz se wx => ∃ Z : Nat, sv = .int .i64 V ∧ sz = .pointer (some ⟨Z, 0, none⟩) ∧ se = .int .i64 E ∧ LK w1.heap.size ((Z, 0, .int .i64 P) :: (Z, 1, .int .i64 Q) :: [(SS, 0, .int .i64 route0), (SS, 1, .slice aw0 ws0.length cap0), (SS, 2, .int .i64 route), (SS, 3, .slice (some ⟨bw, ow, none⟩) ws.length cap), (SS, 4, .int .i64 route), (SS, 5, .slice (some ⟨bw, ow, none⟩) ws.length cap), (LS, 0, .slice as0 st0.length cas0), (LS, 1, .slice (some ⟨bs, os, none⟩) st.length cv), (LS, 2, .slice (some ⟨bs, os, none⟩) st.length cv), (RS, 0, .int .i64 a0), (RS, 1, .int .i64 b0), (RS, 2, .int .i64 c0), (RS, 3, .int .i64 M0), (RS, 4, .int .i64 M1), (RS, 5, .int .i64 rc), (RS, 6, .int .i64 a0), (RS, 7, .int .i64 b0), (RS, 8, .int .i64 c0)]) [(.slice (some ⟨bs, os, none⟩) st.length cv, st), (.slice ax xs.length cx, xs), (.slice as0 st0.length cas0, st0)] [(.slice (some ⟨bw, ow, none⟩) ws.length cap, ws), (.slice aw0 ws0.length cap0, ws0)] w wx)
                case first =>
                  go_region_held3 (fun w' => w'.cell? ⟨SS, k * 2, none⟩ = some (.int .i64 rt) ∧ w'.cell? ⟨SS, k * 2 + 1, none⟩ = some (.slice aq wq.length cq) ∧ w'.cell? ⟨LS, k, none⟩ = some (.slice ar sq.length cr) ∧ w'.cell? ⟨RS, k * 3, none⟩ = some (.int .i64 ra') ∧ w'.cell? ⟨RS, k * 3 + 1, none⟩ = some (.int .i64 rb') ∧ w'.cell? ⟨RS, k * 3 + 2, none⟩ = some (.int .i64 rc'))
                    (first | with_reducible exact ⟨K.out.drew.c m0, K.out.drew.c m1, K.out.drew.c m2, K.out.drew.c m3, K.out.drew.c m4, K.out.drew.c m5⟩ | with_reducible exact ⟨K.out.c m0, K.out.c m1, K.out.c m2, K.out.c m3, K.out.c m4, K.out.c m5⟩ | with_reducible exact ⟨K.out.c (List.mem_cons_of_mem _ (List.mem_cons_of_mem _ m0)), K.out.c (List.mem_cons_of_mem _ (List.mem_cons_of_mem _ m1)), K.out.c (List.mem_cons_of_mem _ (List.mem_cons_of_mem _ m2)), K.out.c (List.mem_cons_of_mem _ (List.mem_cons_of_mem _ m3)), K.out.c (List.mem_cons_of_mem _ (List.mem_cons_of_mem _ m4)), K.out.c (List.mem_cons_of_mem _ (List.mem_cons_of_mem _ m5))⟩ | with_reducible exact ⟨(K.out.alloc _).drew.c m0, (K.out.alloc _).drew.c m1, (K.out.alloc _).drew.c m2, (K.out.alloc _).drew.c m3, (K.out.alloc _).drew.c m4, (K.out.alloc _).drew.c m5⟩ | with_reducible exact ⟨(K.out.alloc _).c m0, (K.out.alloc _).c m1, (K.out.alloc _).c m2, (K.out.alloc _).c m3, (K.out.alloc _).c m4, (K.out.alloc _).c m5⟩ | with_reducible exact ⟨(K.out.put2 Hneq.out).c (List.mem_cons_of_mem _ (List.mem_cons_of_mem _ m0)), (K.out.put2 Hneq.out).c (List.mem_cons_of_mem _ (List.mem_cons_of_mem _ m1)), (K.out.put2 Hneq.out).c (List.mem_cons_of_mem _ (List.mem_cons_of_mem _ m2)), (K.out.put2 Hneq.out).c (List.mem_cons_of_mem _ (List.mem_cons_of_mem _ m3)), (K.out.put2 Hneq.out).c (List.mem_cons_of_mem _ (List.mem_cons_of_mem _ m4)), (K.out.put2 Hneq.out).c (List.mem_cons_of_mem _ (List.mem_cons_of_mem _ m5))⟩) (first
                    | (go_at_call 37; refine (Hp.out _ (by first | with_reducible exact (K.out.drew.g mW).any | exact ((K.out.alloc _).drew.g mW).any) (by first | with_reducible exact (K.out.drew.i mS).any | exact ((K.out.alloc _).drew.i mS).any)).mono ?_; rintro e w12 ⟨rfl, hb⟩; (first
                        | (with_reducible have K := hid (K.out.drew.later hb))
                        | (have K := hid ((K.out.box2 (.int .i64 0) (.int .i64 0) 27).drew.later hb); have z0 := K.out.c (o := 0) (v := .int .i64 0) (List.Mem.head _); have z1 := K.out.c (o := 1) (v := .int .i64 0) (List.Mem.tail _ (List.Mem.head _)); have y0 := K.out.f (o := 0) (v := .int .i64 0) (List.Mem.head _); have y1 := K.out.f (o := 1) (v := .int .i64 0) (List.Mem.tail _ (List.Mem.head _)))); clear hb))
                  all_goals (
                    go_wp2_with fail
                    go_meet
                    refine ⟨_, rfl, rfl, rfl, ?_⟩
                    first
                      | with_reducible exact K.out.put2 Hneq.out
                      | exact K.out.box2 (.int .i64 P) (.int .i64 Q) 27)
                case rest =>
                  obtain ⟨Z1, rfl, rfl, rfl, KK⟩ := hcut
                  have K := hid KK
                  clear KK
                  obtain ⟨wp, rfl⟩ : ∃ wp : World, wp = wc := ⟨_, rfl⟩
                  have hneq2 := fun b o v h => Nat.ne_of_lt (K.out.clt (b := b) (o := o) (v := v) h)
                  have Hneq2 := hid hneq2
                  clear hneq2
                  go_wp2_with fail
                  go_cut [23, 24, 25] from 97 to 149 (fun sv sz se wx => ∃ Z : Nat, sv = .int .i64 V ∧ sz = .pointer (some ⟨Z, 0, none⟩) ∧ se = .int .i64 E ∧ LK w1.heap.size ((Z, 0, .int .i64 P) :: (Z, 1, .int .i64 Q) :: (Z1, 0, .int .i64 P) :: (Z1, 1, .int .i64 Q) :: [(SS, 0, .int .i64 route0), (SS, 1, .slice aw0 ws0.length cap0), (SS, 2, .int .i64 route), (SS, 3, .slice (some ⟨bw, ow, none⟩) ws.length cap), (SS, 4, .int .i64 route), (SS, 5, .slice (some ⟨bw, ow, none⟩) ws.length cap), (LS, 0, .slice as0 st0.length cas0), (LS, 1, .slice (some ⟨bs, os, none⟩) st.length cv), (LS, 2, .slice (some ⟨bs, os, none⟩) st.length cv), (RS, 0, .int .i64 a0), (RS, 1, .int .i64 b0), (RS, 2, .int .i64 c0), (RS, 3, .int .i64 M0), (RS, 4, .int .i64 M1), (RS, 5, .int .i64 rc), (RS, 6, .int .i64 a0), (RS, 7, .int .i64 b0), (RS, 8, .int .i64 c0)]) [(.slice (some ⟨bs, os, none⟩) st.length cv, st), (.slice ax xs.length cx, xs), (.slice as0 st0.length cas0, st0)] [(.slice (some ⟨bw, ow, none⟩) ws.length cap, ws), (.slice aw0 ws0.length cap0, ws0)] w wx)
                  case first =>
                    go_region_held3 (fun w' => w'.cell? ⟨SS, k * 2, none⟩ = some (.int .i64 rt) ∧ w'.cell? ⟨SS, k * 2 + 1, none⟩ = some (.slice aq wq.length cq) ∧ w'.cell? ⟨LS, k, none⟩ = some (.slice ar sq.length cr) ∧ w'.cell? ⟨RS, k * 3, none⟩ = some (.int .i64 ra') ∧ w'.cell? ⟨RS, k * 3 + 1, none⟩ = some (.int .i64 rb') ∧ w'.cell? ⟨RS, k * 3 + 2, none⟩ = some (.int .i64 rc'))
                      (first | with_reducible exact ⟨K.out.drew.c (List.mem_cons_of_mem _ (List.mem_cons_of_mem _ m0)), K.out.drew.c (List.mem_cons_of_mem _ (List.mem_cons_of_mem _ m1)), K.out.drew.c (List.mem_cons_of_mem _ (List.mem_cons_of_mem _ m2)), K.out.drew.c (List.mem_cons_of_mem _ (List.mem_cons_of_mem _ m3)), K.out.drew.c (List.mem_cons_of_mem _ (List.mem_cons_of_mem _ m4)), K.out.drew.c (List.mem_cons_of_mem _ (List.mem_cons_of_mem _ m5))⟩ | with_reducible exact ⟨K.out.c (List.mem_cons_of_mem _ (List.mem_cons_of_mem _ m0)), K.out.c (List.mem_cons_of_mem _ (List.mem_cons_of_mem _ m1)), K.out.c (List.mem_cons_of_mem _ (List.mem_cons_of_mem _ m2)), K.out.c (List.mem_cons_of_mem _ (List.mem_cons_of_mem _ m3)), K.out.c (List.mem_cons_of_mem _ (List.mem_cons_of_mem _ m4)), K.out.c (List.mem_cons_of_mem _ (List.mem_cons_of_mem _ m5))⟩ | with_reducible exact ⟨K.out.c (List.mem_cons_of_mem _ (List.mem_cons_of_mem _ (List.mem_cons_of_mem _ (List.mem_cons_of_mem _ m0)))), K.out.c (List.mem_cons_of_mem _ (List.mem_cons_of_mem _ (List.mem_cons_of_mem _ (List.mem_cons_of_mem _ m1)))), K.out.c (List.mem_cons_of_mem _ (List.mem_cons_of_mem _ (List.mem_cons_of_mem _ (List.mem_cons_of_mem _ m2)))), K.out.c (List.mem_cons_of_mem _ (List.mem_cons_of_mem _ (List.mem_cons_of_mem _ (List.mem_cons_of_mem _ m3)))), K.out.c (List.mem_cons_of_mem _ (List.mem_cons_of_mem _ (List.mem_cons_of_mem _ (List.mem_cons_of_mem _ m4)))), K.out.c (List.mem_cons_of_mem _ (List.mem_cons_of_mem _ (List.mem_cons_of_mem _ (List.mem_cons_of_mem _ m5))))⟩ | with_reducible exact ⟨(K.out.alloc _).drew.c (List.mem_cons_of_mem _ (List.mem_cons_of_mem _ m0)), (K.out.alloc _).drew.c (List.mem_cons_of_mem _ (List.mem_cons_of_mem _ m1)), (K.out.alloc _).drew.c (List.mem_cons_of_mem _ (List.mem_cons_of_mem _ m2)), (K.out.alloc _).drew.c (List.mem_cons_of_mem _ (List.mem_cons_of_mem _ m3)), (K.out.alloc _).drew.c (List.mem_cons_of_mem _ (List.mem_cons_of_mem _ m4)), (K.out.alloc _).drew.c (List.mem_cons_of_mem _ (List.mem_cons_of_mem _ m5))⟩ | with_reducible exact ⟨(K.out.alloc _).c (List.mem_cons_of_mem _ (List.mem_cons_of_mem _ m0)), (K.out.alloc _).c (List.mem_cons_of_mem _ (List.mem_cons_of_mem _ m1)), (K.out.alloc _).c (List.mem_cons_of_mem _ (List.mem_cons_of_mem _ m2)), (K.out.alloc _).c (List.mem_cons_of_mem _ (List.mem_cons_of_mem _ m3)), (K.out.alloc _).c (List.mem_cons_of_mem _ (List.mem_cons_of_mem _ m4)), (K.out.alloc _).c (List.mem_cons_of_mem _ (List.mem_cons_of_mem _ m5))⟩ | with_reducible exact ⟨(K.out.put2 Hneq2.out).c (List.mem_cons_of_mem _ (List.mem_cons_of_mem _ (List.mem_cons_of_mem _ (List.mem_cons_of_mem _ m0)))), (K.out.put2 Hneq2.out).c (List.mem_cons_of_mem _ (List.mem_cons_of_mem _ (List.mem_cons_of_mem _ (List.mem_cons_of_mem _ m1)))), (K.out.put2 Hneq2.out).c (List.mem_cons_of_mem _ (List.mem_cons_of_mem _ (List.mem_cons_of_mem _ (List.mem_cons_of_mem _ m2)))), (K.out.put2 Hneq2.out).c (List.mem_cons_of_mem _ (List.mem_cons_of_mem _ (List.mem_cons_of_mem _ (List.mem_cons_of_mem _ m3)))), (K.out.put2 Hneq2.out).c (List.mem_cons_of_mem _ (List.mem_cons_of_mem _ (List.mem_cons_of_mem _ (List.mem_cons_of_mem _ m4)))), (K.out.put2 Hneq2.out).c (List.mem_cons_of_mem _ (List.mem_cons_of_mem _ (List.mem_cons_of_mem _ (List.mem_cons_of_mem _ m5))))⟩) (first
                      | (go_at_call 34; refine (Hr.out _ (by first | with_reducible exact (K.out.drew.g mW).any | exact ((K.out.alloc _).drew.g mW).any) (by first | with_reducible exact (K.out.drew.i mS).any | exact ((K.out.alloc _).drew.i mS).any)).mono ?_; rintro e w13 ⟨rfl, hb⟩; (first
                          | (with_reducible have K := hid (K.out.drew.later hb))
                          | (have K := hid ((K.out.box2 (.int .i64 0) (.int .i64 0) 27).drew.later hb); have z0 := K.out.c (o := 0) (v := .int .i64 0) (List.Mem.head _); have z1 := K.out.c (o := 1) (v := .int .i64 0) (List.Mem.tail _ (List.Mem.head _)); have y0 := K.out.f (o := 0) (v := .int .i64 0) (List.Mem.head _); have y1 := K.out.f (o := 1) (v := .int .i64 0) (List.Mem.tail _ (List.Mem.head _)))); clear hb))
                    all_goals (
                      go_wp2_with fail
                      go_meet
                      refine ⟨_, rfl, rfl, rfl, ?_⟩
                      first
                        | with_reducible exact K.out.put2 Hneq2.out
                        | exact K.out.box2 (.int .i64 P) (.int .i64 Q) 27)
                  case rest =>
                    obtain ⟨Z2, rfl, rfl, rfl, KK⟩ := hcut
                    have K := hid KK
                    clear KK
                    have x0 := K.out.c (b := Z1) (o := 0) (v := .int .i64 P) (by simp)
                    have x1 := K.out.c (b := Z1) (o := 1) (v := .int .i64 Q) (by simp)
                    have x2 := K.out.c (b := Z2) (o := 0) (v := .int .i64 P) (by simp)
                    have x3 := K.out.c (b := Z2) (o := 1) (v := .int .i64 Q) (by simp)
                    obtain ⟨l1, l2⟩ := eq_bool (a := V) (b := V) rfl
                    obtain ⟨l3, l4⟩ := eq_bool (a := P) (b := P) rfl
                    obtain ⟨l5, l6⟩ := eq_bool (a := Q) (b := Q) rfl
                    obtain ⟨l7, l8⟩ := eq_bool (a := E) (b := E) rfl
                    go_wp2
                    go_roundw
                    case rel => exact ⟨k + 1, by omega, by go_num, K.out.sub (fun x hx => List.mem_cons_of_mem _ (List.mem_cons_of_mem _ (List.mem_cons_of_mem _ (List.mem_cons_of_mem _ hx))))⟩
                    case measure => simp [intOf] <;> omega
              · go_wp2_with (go_at_call 18; refine (awake_any _).mono ?_; rintro e w10 ⟨rfl, hb10⟩)
                go_ret
                exact ⟨rfl, (KK.later hb10).below⟩)
      | false =>
        obtain ⟨w11, hw11, K11⟩ := K.out.name
        rw [hw11]
        clear hw11 K
        have K := hid K11
        clear K11
        generalize ra = M0 at *
        generalize rb = M1 at *
        go_wp2_with fail
        go_cut [16, 17, 18] from 85 to 96 (fun s16 s17 s18 wx => ∃ SS LS RS : Nat, s16 = .slice (some ⟨SS, 0, none⟩) 3 3 ∧ s17 = .slice (some ⟨LS, 0, none⟩) 3 3 ∧ s18 = .slice (some ⟨RS, 0, none⟩) 3 3 ∧
          LK w1.heap.size [(SS, 0, .int .i64 route0), (SS, 1, .slice aw0 ws0.length cap0), (SS, 2, .int .i64 route), (SS, 3, .slice (some ⟨bw, ow, none⟩) ws.length cap), (SS, 4, .int .i64 route), (SS, 5, .slice (some ⟨bw, ow, none⟩) ws.length cap), (LS, 0, .slice as0 st0.length cas0), (LS, 1, .slice (some ⟨bs, os, none⟩) st.length cv), (LS, 2, .slice (some ⟨bs, os, none⟩) st.length cv), (RS, 0, .int .i64 a0), (RS, 1, .int .i64 b0), (RS, 2, .int .i64 c0), (RS, 3, .int .i64 M0), (RS, 4, .int .i64 M1), (RS, 5, .int .i64 rc), (RS, 6, .int .i64 a0), (RS, 7, .int .i64 b0), (RS, 8, .int .i64 c0)] [(.slice (some ⟨bs, os, none⟩) st.length cv, st), (.slice ax xs.length cx, xs), (.slice as0 st0.length cas0, st0)] [(.slice (some ⟨bw, ow, none⟩) ws.length cap, ws), (.slice aw0 ws0.length cap0, ws0)] w wx)
        case first =>
          have p0 := K.out.c (b := w.heap.size) (o := 0) (v := .int .i64 route0) (by simp)
          have p1 := K.out.c (b := w.heap.size) (o := 1) (v := .slice aw0 ws0.length cap0) (by simp)
          have q0 := K.out.c (b := w3.heap.size) (o := 0) (v := .int .i64 route) (by simp)
          have q1 := K.out.c (b := w3.heap.size) (o := 1) (v := .slice (some ⟨bw, ow, none⟩) ws.length cap) (by simp)
          have t0 := K.out.c (b := w.heap.size + 1) (o := 0) (v := .int .i64 a0) (by simp)
          have t1 := K.out.c (b := w.heap.size + 1) (o := 1) (v := .int .i64 b0) (by simp)
          have t2 := K.out.c (b := w.heap.size + 1) (o := 2) (v := .int .i64 c0) (by simp)
          have e0 := K.out.c (b := w5.heap.size) (o := 0) (v := .int .i64 M0) (by simp)
          have e1 := K.out.c (b := w5.heap.size) (o := 1) (v := .int .i64 M1) (by simp)
          have e2 := K.out.c (b := w5.heap.size) (o := 2) (v := .int .i64 rc) (by simp)
          go_region_held3 (fun w' => w'.cell? ⟨w.heap.size, 0, none⟩ = some (.int .i64 route0) ∧ w'.cell? ⟨w.heap.size, 1, none⟩ = some (.slice aw0 ws0.length cap0) ∧ w'.cell? ⟨w3.heap.size, 0, none⟩ = some (.int .i64 route) ∧ w'.cell? ⟨w3.heap.size, 1, none⟩ = some (.slice (some ⟨bw, ow, none⟩) ws.length cap) ∧
              w'.cell? ⟨w.heap.size + 1, 0, none⟩ = some (.int .i64 a0) ∧ w'.cell? ⟨w.heap.size + 1, 1, none⟩ = some (.int .i64 b0) ∧ w'.cell? ⟨w.heap.size + 1, 2, none⟩ = some (.int .i64 c0) ∧
              w'.cell? ⟨w5.heap.size, 0, none⟩ = some (.int .i64 M0) ∧ w'.cell? ⟨w5.heap.size, 1, none⟩ = some (.int .i64 M1) ∧ w'.cell? ⟨w5.heap.size, 2, none⟩ = some (.int .i64 rc))
            (first | with_reducible exact ⟨(cell_drew p0), (cell_drew p1), (cell_drew q0), (cell_drew q1), (cell_drew t0), (cell_drew t1), (cell_drew t2), (cell_drew e0), (cell_drew e1), (cell_drew e2)⟩ | with_reducible exact ⟨(cell_drew (cell_up p0)), (cell_drew (cell_up p1)), (cell_drew (cell_up q0)), (cell_drew (cell_up q1)), (cell_drew (cell_up t0)), (cell_drew (cell_up t1)), (cell_drew (cell_up t2)), (cell_drew (cell_up e0)), (cell_drew (cell_up e1)), (cell_drew (cell_up e2))⟩ | with_reducible exact ⟨(cell_drew (cell_up (cell_up p0))), (cell_drew (cell_up (cell_up p1))), (cell_drew (cell_up (cell_up q0))), (cell_drew (cell_up (cell_up q1))), (cell_drew (cell_up (cell_up t0))), (cell_drew (cell_up (cell_up t1))), (cell_drew (cell_up (cell_up t2))), (cell_drew (cell_up (cell_up e0))), (cell_drew (cell_up (cell_up e1))), (cell_drew (cell_up (cell_up e2)))⟩ | with_reducible exact ⟨(cell_drew (cell_up (cell_up (cell_up p0)))), (cell_drew (cell_up (cell_up (cell_up p1)))), (cell_drew (cell_up (cell_up (cell_up q0)))), (cell_drew (cell_up (cell_up (cell_up q1)))), (cell_drew (cell_up (cell_up (cell_up t0)))), (cell_drew (cell_up (cell_up (cell_up t1)))), (cell_drew (cell_up (cell_up (cell_up t2)))), (cell_drew (cell_up (cell_up (cell_up e0)))), (cell_drew (cell_up (cell_up (cell_up e1)))), (cell_drew (cell_up (cell_up (cell_up e2))))⟩) (fail)
          all_goals (
            go_wp2_with fail
            go_meet
            refine ⟨_, _, _, rfl, rfl, rfl, (K.out.alloc3 _ (fun b o v h => ?_)).drew⟩
            simp only [List.mem_cons, Prod.mk.injEq, List.not_mem_nil, or_false] at h
            rcases h with ⟨rfl, rfl, rfl⟩ | ⟨rfl, rfl, rfl⟩ | ⟨rfl, rfl, rfl⟩ | ⟨rfl, rfl, rfl⟩ | ⟨rfl, rfl, rfl⟩ | ⟨rfl, rfl, rfl⟩ | ⟨rfl, rfl, rfl⟩ | ⟨rfl, rfl, rfl⟩ | ⟨rfl, rfl, rfl⟩ | ⟨rfl, rfl, rfl⟩ | ⟨rfl, rfl, rfl⟩ | ⟨rfl, rfl, rfl⟩ | ⟨rfl, rfl, rfl⟩ | ⟨rfl, rfl, rfl⟩ | ⟨rfl, rfl, rfl⟩ | ⟨rfl, rfl, rfl⟩ | ⟨rfl, rfl, rfl⟩ | ⟨rfl, rfl, rfl⟩ <;>
              first | exact .inl ⟨rfl, rfl⟩ | exact .inr (.inl ⟨rfl, rfl⟩) | exact .inr (.inr ⟨rfl, rfl⟩))
        case rest =>
          obtain ⟨SS, LS, RS, rfl, rfl, rfl, KK⟩ := hcut
          have K := hid KK
          clear KK
          go_wp2_with fail
          go_loopw [19] (fun i wr => ∃ k : Nat, k ≤ 3 ∧ i = .int .i64 k ∧ LK w1.heap.size [(SS, 0, .int .i64 route0), (SS, 1, .slice aw0 ws0.length cap0), (SS, 2, .int .i64 route), (SS, 3, .slice (some ⟨bw, ow, none⟩) ws.length cap), (SS, 4, .int .i64 route), (SS, 5, .slice (some ⟨bw, ow, none⟩) ws.length cap), (LS, 0, .slice as0 st0.length cas0), (LS, 1, .slice (some ⟨bs, os, none⟩) st.length cv), (LS, 2, .slice (some ⟨bs, os, none⟩) st.length cv), (RS, 0, .int .i64 a0), (RS, 1, .int .i64 b0), (RS, 2, .int .i64 c0), (RS, 3, .int .i64 M0), (RS, 4, .int .i64 M1), (RS, 5, .int .i64 rc), (RS, 6, .int .i64 a0), (RS, 7, .int .i64 b0), (RS, 8, .int .i64 c0)] [(.slice (some ⟨bs, os, none⟩) st.length cv, st), (.slice ax xs.length cx, xs), (.slice as0 st0.length cas0, st0)] [(.slice (some ⟨bw, ow, none⟩) ws.length cap, ws), (.slice aw0 ws0.length cap0, ws0)] w wr) (fun i _ => 3 - (intOf i).toNat)
          case atStart => exact ⟨0, by omega, rfl, K.out⟩
          case round =>
            obtain ⟨k, hk, rfl, KK⟩ := hrel
            by_cases hlt : k < 3
            · obtain ⟨rt, vq, wq, vr, sq, ra', rb', rc', m0, m1, m2, m3, m4, m5, mW, mS, gn, gnm, gns⟩ : ∃ (rt : Int) (vq : Value) (wq : List Wing) (vr : Value) (sq : List Int) (ra' rb' rc' : Int), (SS, k * 2, Value.int .i64 rt) ∈ [(SS, 0, .int .i64 route0), (SS, 1, .slice aw0 ws0.length cap0), (SS, 2, .int .i64 route), (SS, 3, .slice (some ⟨bw, ow, none⟩) ws.length cap), (SS, 4, .int .i64 route), (SS, 5, .slice (some ⟨bw, ow, none⟩) ws.length cap), (LS, 0, .slice as0 st0.length cas0), (LS, 1, .slice (some ⟨bs, os, none⟩) st.length cv), (LS, 2, .slice (some ⟨bs, os, none⟩) st.length cv), (RS, 0, .int .i64 a0), (RS, 1, .int .i64 b0), (RS, 2, .int .i64 c0), (RS, 3, .int .i64 M0), (RS, 4, .int .i64 M1), (RS, 5, .int .i64 rc), (RS, 6, .int .i64 a0), (RS, 7, .int .i64 b0), (RS, 8, .int .i64 c0)] ∧ (SS, k * 2 + 1, vq) ∈ [(SS, 0, .int .i64 route0), (SS, 1, .slice aw0 ws0.length cap0), (SS, 2, .int .i64 route), (SS, 3, .slice (some ⟨bw, ow, none⟩) ws.length cap), (SS, 4, .int .i64 route), (SS, 5, .slice (some ⟨bw, ow, none⟩) ws.length cap), (LS, 0, .slice as0 st0.length cas0), (LS, 1, .slice (some ⟨bs, os, none⟩) st.length cv), (LS, 2, .slice (some ⟨bs, os, none⟩) st.length cv), (RS, 0, .int .i64 a0), (RS, 1, .int .i64 b0), (RS, 2, .int .i64 c0), (RS, 3, .int .i64 M0), (RS, 4, .int .i64 M1), (RS, 5, .int .i64 rc), (RS, 6, .int .i64 a0), (RS, 7, .int .i64 b0), (RS, 8, .int .i64 c0)] ∧ (LS, k, vr) ∈ [(SS, 0, .int .i64 route0), (SS, 1, .slice aw0 ws0.length cap0), (SS, 2, .int .i64 route), (SS, 3, .slice (some ⟨bw, ow, none⟩) ws.length cap), (SS, 4, .int .i64 route), (SS, 5, .slice (some ⟨bw, ow, none⟩) ws.length cap), (LS, 0, .slice as0 st0.length cas0), (LS, 1, .slice (some ⟨bs, os, none⟩) st.length cv), (LS, 2, .slice (some ⟨bs, os, none⟩) st.length cv), (RS, 0, .int .i64 a0), (RS, 1, .int .i64 b0), (RS, 2, .int .i64 c0), (RS, 3, .int .i64 M0), (RS, 4, .int .i64 M1), (RS, 5, .int .i64 rc), (RS, 6, .int .i64 a0), (RS, 7, .int .i64 b0), (RS, 8, .int .i64 c0)] ∧ (RS, k * 3, Value.int .i64 ra') ∈ [(SS, 0, .int .i64 route0), (SS, 1, .slice aw0 ws0.length cap0), (SS, 2, .int .i64 route), (SS, 3, .slice (some ⟨bw, ow, none⟩) ws.length cap), (SS, 4, .int .i64 route), (SS, 5, .slice (some ⟨bw, ow, none⟩) ws.length cap), (LS, 0, .slice as0 st0.length cas0), (LS, 1, .slice (some ⟨bs, os, none⟩) st.length cv), (LS, 2, .slice (some ⟨bs, os, none⟩) st.length cv), (RS, 0, .int .i64 a0), (RS, 1, .int .i64 b0), (RS, 2, .int .i64 c0), (RS, 3, .int .i64 M0), (RS, 4, .int .i64 M1), (RS, 5, .int .i64 rc), (RS, 6, .int .i64 a0), (RS, 7, .int .i64 b0), (RS, 8, .int .i64 c0)] ∧ (RS, k * 3 + 1, Value.int .i64 rb') ∈ [(SS, 0, .int .i64 route0), (SS, 1, .slice aw0 ws0.length cap0), (SS, 2, .int .i64 route), (SS, 3, .slice (some ⟨bw, ow, none⟩) ws.length cap), (SS, 4, .int .i64 route), (SS, 5, .slice (some ⟨bw, ow, none⟩) ws.length cap), (LS, 0, .slice as0 st0.length cas0), (LS, 1, .slice (some ⟨bs, os, none⟩) st.length cv), (LS, 2, .slice (some ⟨bs, os, none⟩) st.length cv), (RS, 0, .int .i64 a0), (RS, 1, .int .i64 b0), (RS, 2, .int .i64 c0), (RS, 3, .int .i64 M0), (RS, 4, .int .i64 M1), (RS, 5, .int .i64 rc), (RS, 6, .int .i64 a0), (RS, 7, .int .i64 b0), (RS, 8, .int .i64 c0)] ∧ (RS, k * 3 + 2, Value.int .i64 rc') ∈ [(SS, 0, .int .i64 route0), (SS, 1, .slice aw0 ws0.length cap0), (SS, 2, .int .i64 route), (SS, 3, .slice (some ⟨bw, ow, none⟩) ws.length cap), (SS, 4, .int .i64 route), (SS, 5, .slice (some ⟨bw, ow, none⟩) ws.length cap), (LS, 0, .slice as0 st0.length cas0), (LS, 1, .slice (some ⟨bs, os, none⟩) st.length cv), (LS, 2, .slice (some ⟨bs, os, none⟩) st.length cv), (RS, 0, .int .i64 a0), (RS, 1, .int .i64 b0), (RS, 2, .int .i64 c0), (RS, 3, .int .i64 M0), (RS, 4, .int .i64 M1), (RS, 5, .int .i64 rc), (RS, 6, .int .i64 a0), (RS, 7, .int .i64 b0), (RS, 8, .int .i64 c0)] ∧ (vq, wq) ∈ [(.slice (some ⟨bw, ow, none⟩) ws.length cap, ws), (.slice aw0 ws0.length cap0, ws0)] ∧ (vr, sq) ∈ [(.slice (some ⟨bs, os, none⟩) st.length cv, st), (.slice ax xs.length cx, xs), (.slice as0 st0.length cas0, st0)] ∧
                  wq.length ≤ 100 ∧ (∀ i, i < wq.length → (wg wq i).name.size ≤ 1000000) ∧ sq.length ≤ 1000000 := by
                have hx0 : ∀ i, i < ws0.length → (wg ws0 i).name.size ≤ 1000000 := fun i hi => by have := hl2 i hi; omega
                have hx1 := made_size hm h8
                have hx2 : st.length ≤ 1000000 := by have := Hls.out; omega
                rcases (by omega : k = 0 ∨ k = 1 ∨ k = 2) with rfl | rfl | rfl
                · exact ⟨route0, .slice aw0 ws0.length cap0, ws0, .slice as0 st0.length cas0, st0, a0, b0, c0, by simp, by simp, by simp, by simp, by simp, by simp, by simp, by simp, by omega, hx0, by omega⟩
                · exact ⟨route, .slice (some ⟨bw, ow, none⟩) ws.length cap, ws, .slice (some ⟨bs, os, none⟩) st.length cv, st, M0, M1, rc, by simp, by simp, by simp, by simp, by simp, by simp, by simp, by simp, by omega, hx1, hx2⟩
                · exact ⟨route, .slice (some ⟨bw, ow, none⟩) ws.length cap, ws, .slice (some ⟨bs, os, none⟩) st.length cv, st, a0, b0, c0, by simp, by simp, by simp, by simp, by simp, by simp, by simp, by simp, by omega, hx1, hx2⟩
              obtain ⟨aq, cq, rfl, _⟩ := KK.g mW
              obtain ⟨ar, cr, rfl, _⟩ := KK.i mS
              have K := hid KK
              clear KK
              obtain ⟨V, P, Q, hL⟩ : ∃ V P Q, lastsRes rt wq sq ra' rb' rc' = (V, P, Q) := ⟨_, _, _, rfl⟩
              obtain ⟨E, hE⟩ : ∃ E, bothErr rt wq sq ra' rb' rc' = E := ⟨_, rfl⟩
              have hp : ∀ W', WgAt none W' (.slice aq wq.length cq) wq → IntsAt none W' (.slice ar sq.length cr) sq → Calls Tryd.prog 37 #[.agg #[.int .i64 rt, .slice aq wq.length cq], .slice ar sq.length cr, .agg #[.int .i64 ra', .int .i64 rb', .int .i64 rc']] W' (fun e w' => e = .returned (.tuple #[.int .i64 V, .agg #[.int .i64 P, .int .i64 Q], .int .i64 E]) ∧ Below W'.heap.size W' w') := fun W' h1 h2 => by
                have h := pLasts_any wq sq rt ra' rb' rc' _ _ W' h1 h2 gn gnm gns
                rw [hL, hE] at h
                exact h
              have hr : ∀ W', WgAt none W' (.slice aq wq.length cq) wq → IntsAt none W' (.slice ar sq.length cr) sq → Calls Tryd.prog 34 #[.agg #[.int .i64 rt, .slice aq wq.length cq], .slice ar sq.length cr, .agg #[.int .i64 ra', .int .i64 rb', .int .i64 rc']] W' (fun e w' => e = .returned (.tuple #[.int .i64 V, .agg #[.int .i64 P, .int .i64 Q], .int .i64 E]) ∧ Below W'.heap.size W' w') := fun W' h1 h2 => by
                have h := rLasts_any wq sq rt ra' rb' rc' _ _ W' h1 h2 gn gnm gns
                rw [hL, hE] at h
                exact h
              have Hp := hid hp
              have Hr := hid hr
              have hlt3 : (k : Int) < 3 := by omega
              clear hp hr hL hE
              obtain ⟨wo, rfl⟩ : ∃ wo : World, wo = wr := ⟨_, rfl⟩
              have hneq := fun b o v h => Nat.ne_of_lt (K.out.clt (b := b) (o := o) (v := v) h)
              have Hneq := hid hneq
              go_wp2_with fail
              go_cut [20, 21, 22] from 97 to 149 (fun sv sz se wx => ∃ Z : Nat, sv = .int .i64 V ∧ sz = .pointer (some ⟨Z, 0, none⟩) ∧ se = .int .i64 E ∧ LK w1.heap.size ((Z, 0, .int .i64 P) :: (Z, 1, .int .i64 Q) :: [(SS, 0, .int .i64 route0), (SS, 1, .slice aw0 ws0.length cap0), (SS, 2, .int .i64 route), (SS, 3, .slice (some ⟨bw, ow, none⟩) ws.length cap), (SS, 4, .int .i64 route), (SS, 5, .slice (some ⟨bw, ow, none⟩) ws.length cap), (LS, 0, .slice as0 st0.length cas0), (LS, 1, .slice (some ⟨bs, os, none⟩) st.length cv), (LS, 2, .slice (some ⟨bs, os, none⟩) st.length cv), (RS, 0, .int .i64 a0), (RS, 1, .int .i64 b0), (RS, 2, .int .i64 c0), (RS, 3, .int .i64 M0), (RS, 4, .int .i64 M1), (RS, 5, .int .i64 rc), (RS, 6, .int .i64 a0), (RS, 7, .int .i64 b0), (RS, 8, .int .i64 c0)]) [(.slice (some ⟨bs, os, none⟩) st.length cv, st), (.slice ax xs.length cx, xs), (.slice as0 st0.length cas0, st0)] [(.slice (some ⟨bw, ow, none⟩) ws.length cap, ws), (.slice aw0 ws0.length cap0, ws0)] w wx)
              case first =>
                go_region_held3 (fun w' => w'.cell? ⟨SS, k * 2, none⟩ = some (.int .i64 rt) ∧ w'.cell? ⟨SS, k * 2 + 1, none⟩ = some (.slice aq wq.length cq) ∧ w'.cell? ⟨LS, k, none⟩ = some (.slice ar sq.length cr) ∧ w'.cell? ⟨RS, k * 3, none⟩ = some (.int .i64 ra') ∧ w'.cell? ⟨RS, k * 3 + 1, none⟩ = some (.int .i64 rb') ∧ w'.cell? ⟨RS, k * 3 + 2, none⟩ = some (.int .i64 rc'))
                  (first | with_reducible exact ⟨K.out.drew.c m0, K.out.drew.c m1, K.out.drew.c m2, K.out.drew.c m3, K.out.drew.c m4, K.out.drew.c m5⟩ | with_reducible exact ⟨K.out.c m0, K.out.c m1, K.out.c m2, K.out.c m3, K.out.c m4, K.out.c m5⟩ | with_reducible exact ⟨K.out.c (List.mem_cons_of_mem _ (List.mem_cons_of_mem _ m0)), K.out.c (List.mem_cons_of_mem _ (List.mem_cons_of_mem _ m1)), K.out.c (List.mem_cons_of_mem _ (List.mem_cons_of_mem _ m2)), K.out.c (List.mem_cons_of_mem _ (List.mem_cons_of_mem _ m3)), K.out.c (List.mem_cons_of_mem _ (List.mem_cons_of_mem _ m4)), K.out.c (List.mem_cons_of_mem _ (List.mem_cons_of_mem _ m5))⟩ | with_reducible exact ⟨(K.out.alloc _).drew.c m0, (K.out.alloc _).drew.c m1, (K.out.alloc _).drew.c m2, (K.out.alloc _).drew.c m3, (K.out.alloc _).drew.c m4, (K.out.alloc _).drew.c m5⟩ | with_reducible exact ⟨(K.out.alloc _).c m0, (K.out.alloc _).c m1, (K.out.alloc _).c m2, (K.out.alloc _).c m3, (K.out.alloc _).c m4, (K.out.alloc _).c m5⟩ | with_reducible exact ⟨(K.out.put2 Hneq.out).c (List.mem_cons_of_mem _ (List.mem_cons_of_mem _ m0)), (K.out.put2 Hneq.out).c (List.mem_cons_of_mem _ (List.mem_cons_of_mem _ m1)), (K.out.put2 Hneq.out).c (List.mem_cons_of_mem _ (List.mem_cons_of_mem _ m2)), (K.out.put2 Hneq.out).c (List.mem_cons_of_mem _ (List.mem_cons_of_mem _ m3)), (K.out.put2 Hneq.out).c (List.mem_cons_of_mem _ (List.mem_cons_of_mem _ m4)), (K.out.put2 Hneq.out).c (List.mem_cons_of_mem _ (List.mem_cons_of_mem _ m5))⟩) (first
                  | (go_at_call 37; refine (Hp.out _ (by first | with_reducible exact (K.out.drew.g mW).any | exact ((K.out.alloc _).drew.g mW).any) (by first | with_reducible exact (K.out.drew.i mS).any | exact ((K.out.alloc _).drew.i mS).any)).mono ?_; rintro e w12 ⟨rfl, hb⟩; (first
                      | (with_reducible have K := hid (K.out.drew.later hb))
                      | (have K := hid ((K.out.box2 (.int .i64 0) (.int .i64 0) 27).drew.later hb); have z0 := K.out.c (o := 0) (v := .int .i64 0) (List.Mem.head _); have z1 := K.out.c (o := 1) (v := .int .i64 0) (List.Mem.tail _ (List.Mem.head _)); have y0 := K.out.f (o := 0) (v := .int .i64 0) (List.Mem.head _); have y1 := K.out.f (o := 1) (v := .int .i64 0) (List.Mem.tail _ (List.Mem.head _)))); clear hb))
                all_goals (
                  go_wp2_with fail
                  go_meet
                  refine ⟨_, rfl, rfl, rfl, ?_⟩
                  first
                    | with_reducible exact K.out.put2 Hneq.out
                    | exact K.out.box2 (.int .i64 P) (.int .i64 Q) 27)
              case rest =>
                obtain ⟨Z1, rfl, rfl, rfl, KK⟩ := hcut
                have K := hid KK
                clear KK
                obtain ⟨wp, rfl⟩ : ∃ wp : World, wp = wc := ⟨_, rfl⟩
                have hneq2 := fun b o v h => Nat.ne_of_lt (K.out.clt (b := b) (o := o) (v := v) h)
                have Hneq2 := hid hneq2
                clear hneq2
                go_wp2_with fail
                go_cut [23, 24, 25] from 97 to 149 (fun sv sz se wx => ∃ Z : Nat, sv = .int .i64 V ∧ sz = .pointer (some ⟨Z, 0, none⟩) ∧ se = .int .i64 E ∧ LK w1.heap.size ((Z, 0, .int .i64 P) :: (Z, 1, .int .i64 Q) :: (Z1, 0, .int .i64 P) :: (Z1, 1, .int .i64 Q) :: [(SS, 0, .int .i64 route0), (SS, 1, .slice aw0 ws0.length cap0), (SS, 2, .int .i64 route), (SS, 3, .slice (some ⟨bw, ow, none⟩) ws.length cap), (SS, 4, .int .i64 route), (SS, 5, .slice (some ⟨bw, ow, none⟩) ws.length cap), (LS, 0, .slice as0 st0.length cas0), (LS, 1, .slice (some ⟨bs, os, none⟩) st.length cv), (LS, 2, .slice (some ⟨bs, os, none⟩) st.length cv), (RS, 0, .int .i64 a0), (RS, 1, .int .i64 b0), (RS, 2, .int .i64 c0), (RS, 3, .int .i64 M0), (RS, 4, .int .i64 M1), (RS, 5, .int .i64 rc), (RS, 6, .int .i64 a0), (RS, 7, .int .i64 b0), (RS, 8, .int .i64 c0)]) [(.slice (some ⟨bs, os, none⟩) st.length cv, st), (.slice ax xs.length cx, xs), (.slice as0 st0.length cas0, st0)] [(.slice (some ⟨bw, ow, none⟩) ws.length cap, ws), (.slice aw0 ws0.length cap0, ws0)] w wx)
                case first =>
                  go_region_held3 (fun w' => w'.cell? ⟨SS, k * 2, none⟩ = some (.int .i64 rt) ∧ w'.cell? ⟨SS, k * 2 + 1, none⟩ = some (.slice aq wq.length cq) ∧ w'.cell? ⟨LS, k, none⟩ = some (.slice ar sq.length cr) ∧ w'.cell? ⟨RS, k * 3, none⟩ = some (.int .i64 ra') ∧ w'.cell? ⟨RS, k * 3 + 1, none⟩ = some (.int .i64 rb') ∧ w'.cell? ⟨RS, k * 3 + 2, none⟩ = some (.int .i64 rc'))
                    (first | with_reducible exact ⟨K.out.drew.c (List.mem_cons_of_mem _ (List.mem_cons_of_mem _ m0)), K.out.drew.c (List.mem_cons_of_mem _ (List.mem_cons_of_mem _ m1)), K.out.drew.c (List.mem_cons_of_mem _ (List.mem_cons_of_mem _ m2)), K.out.drew.c (List.mem_cons_of_mem _ (List.mem_cons_of_mem _ m3)), K.out.drew.c (List.mem_cons_of_mem _ (List.mem_cons_of_mem _ m4)), K.out.drew.c (List.mem_cons_of_mem _ (List.mem_cons_of_mem _ m5))⟩ | with_reducible exact ⟨K.out.c (List.mem_cons_of_mem _ (List.mem_cons_of_mem _ m0)), K.out.c (List.mem_cons_of_mem _ (List.mem_cons_of_mem _ m1)), K.out.c (List.mem_cons_of_mem _ (List.mem_cons_of_mem _ m2)), K.out.c (List.mem_cons_of_mem _ (List.mem_cons_of_mem _ m3)), K.out.c (List.mem_cons_of_mem _ (List.mem_cons_of_mem _ m4)), K.out.c (List.mem_cons_of_mem _ (List.mem_cons_of_mem _ m5))⟩ | with_reducible exact ⟨K.out.c (List.mem_cons_of_mem _ (List.mem_cons_of_mem _ (List.mem_cons_of_mem _ (List.mem_cons_of_mem _ m0)))), K.out.c (List.mem_cons_of_mem _ (List.mem_cons_of_mem _ (List.mem_cons_of_mem _ (List.mem_cons_of_mem _ m1)))), K.out.c (List.mem_cons_of_mem _ (List.mem_cons_of_mem _ (List.mem_cons_of_mem _ (List.mem_cons_of_mem _ m2)))), K.out.c (List.mem_cons_of_mem _ (List.mem_cons_of_mem _ (List.mem_cons_of_mem _ (List.mem_cons_of_mem _ m3)))), K.out.c (List.mem_cons_of_mem _ (List.mem_cons_of_mem _ (List.mem_cons_of_mem _ (List.mem_cons_of_mem _ m4)))), K.out.c (List.mem_cons_of_mem _ (List.mem_cons_of_mem _ (List.mem_cons_of_mem _ (List.mem_cons_of_mem _ m5))))⟩ | with_reducible exact ⟨(K.out.alloc _).drew.c (List.mem_cons_of_mem _ (List.mem_cons_of_mem _ m0)), (K.out.alloc _).drew.c (List.mem_cons_of_mem _ (List.mem_cons_of_mem _ m1)), (K.out.alloc _).drew.c (List.mem_cons_of_mem _ (List.mem_cons_of_mem _ m2)), (K.out.alloc _).drew.c (List.mem_cons_of_mem _ (List.mem_cons_of_mem _ m3)), (K.out.alloc _).drew.c (List.mem_cons_of_mem _ (List.mem_cons_of_mem _ m4)), (K.out.alloc _).drew.c (List.mem_cons_of_mem _ (List.mem_cons_of_mem _ m5))⟩ | with_reducible exact ⟨(K.out.alloc _).c (List.mem_cons_of_mem _ (List.mem_cons_of_mem _ m0)), (K.out.alloc _).c (List.mem_cons_of_mem _ (List.mem_cons_of_mem _ m1)), (K.out.alloc _).c (List.mem_cons_of_mem _ (List.mem_cons_of_mem _ m2)), (K.out.alloc _).c (List.mem_cons_of_mem _ (List.mem_cons_of_mem _ m3)), (K.out.alloc _).c (List.mem_cons_of_mem _ (List.mem_cons_of_mem _ m4)), (K.out.alloc _).c (List.mem_cons_of_mem _ (List.mem_cons_of_mem _ m5))⟩ | with_reducible exact ⟨(K.out.put2 Hneq2.out).c (List.mem_cons_of_mem _ (List.mem_cons_of_mem _ (List.mem_cons_of_mem _ (List.mem_cons_of_mem _ m0)))), (K.out.put2 Hneq2.out).c (List.mem_cons_of_mem _ (List.mem_cons_of_mem _ (List.mem_cons_of_mem _ (List.mem_cons_of_mem _ m1)))), (K.out.put2 Hneq2.out).c (List.mem_cons_of_mem _ (List.mem_cons_of_mem _ (List.mem_cons_of_mem _ (List.mem_cons_of_mem _ m2)))), (K.out.put2 Hneq2.out).c (List.mem_cons_of_mem _ (List.mem_cons_of_mem _ (List.mem_cons_of_mem _ (List.mem_cons_of_mem _ m3)))), (K.out.put2 Hneq2.out).c (List.mem_cons_of_mem _ (List.mem_cons_of_mem _ (List.mem_cons_of_mem _ (List.mem_cons_of_mem _ m4)))), (K.out.put2 Hneq2.out).c (List.mem_cons_of_mem _ (List.mem_cons_of_mem _ (List.mem_cons_of_mem _ (List.mem_cons_of_mem _ m5))))⟩) (first
                    | (go_at_call 34; refine (Hr.out _ (by first | with_reducible exact (K.out.drew.g mW).any | exact ((K.out.alloc _).drew.g mW).any) (by first | with_reducible exact (K.out.drew.i mS).any | exact ((K.out.alloc _).drew.i mS).any)).mono ?_; rintro e w13 ⟨rfl, hb⟩; (first
                        | (with_reducible have K := hid (K.out.drew.later hb))
                        | (have K := hid ((K.out.box2 (.int .i64 0) (.int .i64 0) 27).drew.later hb); have z0 := K.out.c (o := 0) (v := .int .i64 0) (List.Mem.head _); have z1 := K.out.c (o := 1) (v := .int .i64 0) (List.Mem.tail _ (List.Mem.head _)); have y0 := K.out.f (o := 0) (v := .int .i64 0) (List.Mem.head _); have y1 := K.out.f (o := 1) (v := .int .i64 0) (List.Mem.tail _ (List.Mem.head _)))); clear hb))
                  all_goals (
                    go_wp2_with fail
                    go_meet
                    refine ⟨_, rfl, rfl, rfl, ?_⟩
                    first
                      | with_reducible exact K.out.put2 Hneq2.out
                      | exact K.out.box2 (.int .i64 P) (.int .i64 Q) 27)
                case rest =>
                  obtain ⟨Z2, rfl, rfl, rfl, KK⟩ := hcut
                  have K := hid KK
                  clear KK
                  have x0 := K.out.c (b := Z1) (o := 0) (v := .int .i64 P) (by simp)
                  have x1 := K.out.c (b := Z1) (o := 1) (v := .int .i64 Q) (by simp)
                  have x2 := K.out.c (b := Z2) (o := 0) (v := .int .i64 P) (by simp)
                  have x3 := K.out.c (b := Z2) (o := 1) (v := .int .i64 Q) (by simp)
                  obtain ⟨l1, l2⟩ := eq_bool (a := V) (b := V) rfl
                  obtain ⟨l3, l4⟩ := eq_bool (a := P) (b := P) rfl
                  obtain ⟨l5, l6⟩ := eq_bool (a := Q) (b := Q) rfl
                  obtain ⟨l7, l8⟩ := eq_bool (a := E) (b := E) rfl
                  go_wp2
                  go_roundw
                  case rel => exact ⟨k + 1, by omega, by go_num, K.out.sub (fun x hx => List.mem_cons_of_mem _ (List.mem_cons_of_mem _ (List.mem_cons_of_mem _ (List.mem_cons_of_mem _ hx))))⟩
                  case measure => simp [intOf] <;> omega
            · go_wp2_with (go_at_call 18; refine (awake_any _).mono ?_; rintro e w10 ⟨rfl, hb10⟩)
              go_ret
              exact ⟨rfl, (KK.later hb10).below⟩
end Go.Proofs.YtgfipifgijohhaaDoor
