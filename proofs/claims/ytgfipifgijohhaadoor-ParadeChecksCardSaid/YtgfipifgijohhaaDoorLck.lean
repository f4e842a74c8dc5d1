/-
  WALKS: ParadeChecks.
-/
import Derived.Test.YtgfipifgijohhaaDoorLca
namespace Go.Proofs.YtgfipifgijohhaaDoor
open Go.RowKit

set_option linter.unusedSimpArgs false in
set_option maxHeartbeats 16000000 in
set_option maxRecDepth 100000 in
theorem checks_any (ws0 : List Wing) (st0 xs : List Int) (route0 pos second : Int) (y : Wing) (vw0 vs0 v : Value) (w : World) (hW : WgAt none w vw0 ws0) (hS : IntsAt none w vs0 st0) (hX : IntsAt none w v xs) (hn : xs.length ≤ 9223372036854775807)
    (hsW : Sound vw0) (hsS : Sound vs0) (hpos : -9223372036854775808 ≤ pos ∧ pos ≤ 9223372036854775807) :
    Calls Tryd.prog 3 #[.agg #[.int .i64 route0, vw0], vs0, .agg #[.string y.name, .int .i64 y.len, .int .i64 y.lo, .int .i64 y.hi], .int .i64 pos, .int .i64 second, v] w fun e w' => e = .returned (.bool true) ∧ Below w.heap.size w w' := by
  have HX := hid hX
  have HW := hid hW
  have HS := hid hS
  have SW := hid hsW
  have SS0 := hid hsS
  have HP := hid hpos
  clear hpos
  obtain ⟨ax, cx, rfl, _⟩ := hX
  obtain ⟨aw0, cap0, rfl, _⟩ := hW
  obtain ⟨as0, cas0, rfl, _⟩ := hS
  clear hsW hsS
  have K := hid (((HK.start w).box2 (.int .i64 route0) (.slice aw0 ws0.length cap0) 24).box4 (.string y.name) (.int .i64 y.len) (.int .i64 y.lo) (.int .i64 y.hi) 29)
  have e1 : (w.alloc (.cells #[.int .i64 route0, .slice aw0 ws0.length cap0] 24)).heap.size = w.heap.size + 1 := by simp
  rw [e1] at K
  clear e1
  go_enter Tryd.func3, Tryd.ntmps3
  go_wp2_with fail
  refine (long_any ws0 route0 _ _ (HW.out.below K.out.below)).mono ?_
  rintro e w1 ⟨b, rfl, hlong, hb1⟩
  have K := hid (K.out.later hb1)
  clear hb1
  have x0 := K.out.c (b := w.heap.size + 1) (o := 0) (v := .string y.name) (by simp)
  cases b with
  | true =>
    clear hlong
    go_wp2_with (go_at_call 18; refine (awake_any _).mono ?_; rintro e w10 ⟨rfl, hb10⟩)
    go_ret
    exact ⟨rfl, (K.out.later hb10).below⟩
  | false =>
    obtain ⟨hl1, hl2⟩ := hlong rfl
    clear hlong
    by_cases hl3 : 20 < st0.length
    · go_wp2_with (go_at_call 18; refine (awake_any _).mono ?_; rintro e w10 ⟨rfl, hb10⟩)
      go_ret
      exact ⟨rfl, (K.out.later hb10).below⟩
    · by_cases hl4 : 30 < y.name.size
      · go_wp2_with (go_at_call 18; refine (awake_any _).mono ?_; rintro e w10 ⟨rfl, hb10⟩)
        go_ret
        exact ⟨rfl, (K.out.later hb10).below⟩
      · go_wp2_with fail
        refine (drumOf_any xs _ _ (HX.out.below K.out.below) hn).mono ?_
        rintro e w2 ⟨rfl, hb2, hl2'⟩
        have hraw : ∀ v' xs', (v', xs') ∈ [(Value.slice ax xs.length cx, xs), (Value.slice as0 st0.length cas0, st0)] → IntsAt none w v' xs' := fun v' xs' h => by
          rcases List.mem_cons.1 h with h | h
          · cases h; exact HX.out
          · rcases List.mem_cons.1 h with h | h
            · cases h; exact HS.out
            · cases h
        have hraw2 : ∀ v' xs', (v', xs') ∈ [(Value.slice aw0 ws0.length cap0, ws0)] → WgAt none w v' xs' := fun v' xs' h => by
          rcases List.mem_cons.1 h with h | h
          · cases h; exact HW.out
          · cases h
        have K := hid (LK.ofHK (li := [(.slice ax xs.length cx, xs), (.slice as0 st0.length cas0, st0)]) (lw := [(.slice aw0 ws0.length cap0, ws0)]) K.out hl2' hb2 (Nat.le_refl _) hraw hraw2)
        clear hb2 hl2' hraw hraw2 x0
        go_wp2_with fail
        refine (schoolOf_any _ 8 _ K.out.beat (by decide) (by decide)).mono ?_
        rintro e w3 ⟨route, vw, ws, rfl, hr1, hr2, h0, h6, hm, hown, hbt, hgb⟩
        obtain ⟨bw, ow, cap, rfl, _, _⟩ := (hown.at (d := none) (by simp)).slice h0
        have K := hid (K.out.addWgs (K.out.go hgb hbt) hown)
        clear hgb hbt hown
        have h8 : ws.length ≤ 8 := by omega
        have hc := hid (made_check hm hr1 hr2 h0 h8)
        have K := hid (K.out.box2 (.int .i64 route) (.slice (some ⟨bw, ow, none⟩) ws.length cap) 24)
        have q0 := K.out.c (o := 0) (v := .int .i64 route) (List.Mem.head _)
        have q1 := K.out.c (o := 1) (v := .slice (some ⟨bw, ow, none⟩) ws.length cap) (List.Mem.tail _ (List.Mem.head _))
        go_wp2_with fail
        refine (startsOf_any _ ws route _ _ K.out.beat (K.out.g (by simp)) hc.out hm).mono ?_
        rintro e w4 ⟨vs, st, rfl, hls, hms, hso, hbt, hgb⟩
        have K := hid (K.out.addInts (K.out.go hgb hbt) hso)
        clear hbt hgb hso
        have Hls := hid hls
        have hls8 : 0 < st.length ∧ st.length ≤ 8 := by omega
        obtain ⟨bs, os, cv, rfl, _, _⟩ := (K.out.i (v := vs) (xs := st) (by simp)).slice (by omega)
        clear hls q0 q1
        obtain ⟨B, hB⟩ : ∃ B, w3.heap.size = B := ⟨_, rfl⟩
        rw [hB] at K ⊢
        clear hB
        have q0 := K.out.c (b := B) (o := 0) (v := .int .i64 route) (by simp)
        have q1 := K.out.c (b := B) (o := 1) (v := .slice (some ⟨bw, ow, none⟩) ws.length cap) (by simp)
        go_wp2_with fail
        refine (ownSchool_any ws route _ none _ (K.out.g (by simp)).any (by intro n c e; cases e) (by omega)).mono ?_
        rintro e w5 ⟨vl, rfl, hol, hb5⟩
        obtain ⟨bl, ol, cl, rfl, _, _⟩ := (hol.at (d := none) (by simp)).slice h0
        have Fl := hid (K.out.fresh (World.ownsRow.lt hol bl rfl).1)
        have Tl := own_thawed hol rfl
        have Wl := hid (OwnWg.at hol (d := some w1.heap.size) (by intro j hj; cases hj; exact K.out.lt))
        have lb1 := (World.ownsRow.lt hol bl rfl).2
        have K := hid (K.out.later hb5)
        clear hol q0 q1 hb5
        go_wp2_with fail
        refine (ints_any st _ none _ (K.out.i (v := .slice (some ⟨bs, os, none⟩) st.length cv) (xs := st) (by simp)).any (by intro n c e; cases e) (by omega)).mono ?_
        rintro e w6 ⟨vo, rfl, hoo, hb6⟩
        obtain ⟨bo, oo, co, rfl, _, _⟩ := (hoo.at (d := none) (by simp)).slice (by omega)
        have Fo := hid (K.out.fresh (World.ownsRow.lt hoo bo rfl).1)
        have To := ints_thawed' hoo
        have Wo := hid (OwnInts.at hoo (d := some w1.heap.size) (by intro j hj; cases hj; exact K.out.lt))
        have lb2 := World.ownsRow.lt hoo bo rfl
        have hlo : bl ≠ bo := by omega
        have Wl := hid (Wl.out.kept (gb_below hb6 _))
        have Tl := fun o => (hb6.frozen (p := ⟨bl, o, none⟩) lb1).trans (Tl o)
        have hsz := hb6.size
        have K := hid (K.out.later hb6)
        have K := hid (K.out.box2 (.int .i64 route) (.slice (some ⟨bl, ol, none⟩) ws.length cl) 24)
        have hPl : w6.heap.size ≠ bl := by omega
        have hPo : w6.heap.size ≠ bo := by omega
        have Wl := hid (Wl.out.kept (gb_below (below_alloc w6 (.cells #[.int .i64 route, .slice (some ⟨bl, ol, none⟩) ws.length cl] 24)) _))
        have Wo := hid (Wo.out.kept (gb_below (below_alloc w6 (.cells #[.int .i64 route, .slice (some ⟨bl, ol, none⟩) ws.length cl] 24)) _))
        have Tl : ∀ o, (w6.alloc (.cells #[.int .i64 route, .slice (some ⟨bl, ol, none⟩) ws.length cl] 24)).frozen? ⟨bl, o, none⟩ = false := fun o => frozen_up (by omega) (Tl o)
        have To : ∀ o, (w6.alloc (.cells #[.int .i64 route, .slice (some ⟨bl, ol, none⟩) ws.length cl] 24)).frozen? ⟨bo, o, none⟩ = false := fun o => frozen_up (by omega) (To o)
        have HTl := hid Tl
        have HTo := hid To
        clear Tl To hoo lb1 lb2 hb6 hsz
        go_wp2_with fail
        obtain ⟨P, hP⟩ : ∃ P, w6.heap.size = P := ⟨_, rfl⟩
        rw [hP] at hPl hPo
        obtain ⟨wn, hwn, KN⟩ := K.out.name
        rw [hP] at KN
        rw [hwn] at Wl Wo HTl HTo
        rw [hwn, hP]
        clear hwn hP K
        have K := hid KN.drew
        have KN := hid KN
        have Hneq := hid (show ∀ b o u, (b, o, u) ∈ ([(P, 0, .int .i64 route), (P, 1, .slice (some ⟨bl, ol, none⟩) ws.length cl), (B, 0, .int .i64 route), (B, 1, .slice (some ⟨bw, ow, none⟩) ws.length cap), (w.heap.size + 1, 0, .string y.name), (w.heap.size + 1, 1, .int .i64 y.len), (w.heap.size + 1, 2, .int .i64 y.lo), (w.heap.size + 1, 3, .int .i64 y.hi), (w.heap.size, 0, .int .i64 route0), (w.heap.size, 1, .slice aw0 ws0.length cap0)] : Cells) → b ≠ bl ∧ b ≠ bo from fun b o u h => by
          rcases List.mem_cons.1 h with h | h
          · cases h; exact ⟨hPl, hPo⟩
          · rcases List.mem_cons.1 h with h | h
            · cases h; exact ⟨hPl, hPo⟩
            · exact ⟨Fl.out.2.2.1 _ _ _ h, Fo.out.2.2.1 _ _ _ h⟩)
        have hS0 := hid (show wn.drew.cell? ⟨P, 1, none⟩ = some (.slice (some ⟨bl, ol, none⟩) ws.length cl) ∧ wn.drew.cell? ⟨w.heap.size + 1, 0, none⟩ = some (.string y.name) ∧ wn.drew.cell? ⟨w.heap.size + 1, 1, none⟩ = some (.int .i64 y.len) ∧ wn.drew.cell? ⟨w.heap.size + 1, 2, none⟩ = some (.int .i64 y.lo) ∧ wn.drew.cell? ⟨w.heap.size + 1, 3, none⟩ = some (.int .i64 y.hi) from
          ⟨K.out.c (by simp), K.out.c (by simp), K.out.c (by simp), K.out.c (by simp), K.out.c (by simp)⟩)
        have nP : P ≠ bl := hPl
        have nW := (Hneq.out (w.heap.size + 1) 0 (.string y.name) (by simp)).1
        go_region_held3 (fun w' => w'.cell? ⟨P, 1, none⟩ = some (.slice (some ⟨bl, ol, none⟩) ws.length cl) ∧ w'.cell? ⟨w.heap.size + 1, 0, none⟩ = some (.string y.name) ∧ w'.cell? ⟨w.heap.size + 1, 1, none⟩ = some (.int .i64 y.len) ∧ w'.cell? ⟨w.heap.size + 1, 2, none⟩ = some (.int .i64 y.lo) ∧ w'.cell? ⟨w.heap.size + 1, 3, none⟩ = some (.int .i64 y.hi))
          (first | exact hS0.out | (obtain ⟨g1, g2, g3, g4, g5⟩ := hS0.out; exact ⟨cell_set_far (Ne.symm nP) (cell_set_far (Ne.symm nP) (cell_set_far (Ne.symm nP) (cell_set_far (Ne.symm nP) g1))), cell_set_far (Ne.symm nW) (cell_set_far (Ne.symm nW) (cell_set_far (Ne.symm nW) (cell_set_far (Ne.symm nW) g2))), cell_set_far (Ne.symm nW) (cell_set_far (Ne.symm nW) (cell_set_far (Ne.symm nW) (cell_set_far (Ne.symm nW) g3))), cell_set_far (Ne.symm nW) (cell_set_far (Ne.symm nW) (cell_set_far (Ne.symm nW) (cell_set_far (Ne.symm nW) g4))), cell_set_far (Ne.symm nW) (cell_set_far (Ne.symm nW) (cell_set_far (Ne.symm nW) (cell_set_far (Ne.symm nW) g5)))⟩)) (first
          | (go_at_call 24; refine (fit_any pos _ _ HP.out (by omega)).mono ?_; rintro e w7 ⟨r, rfl, hr1', hr2', rfl⟩; obtain ⟨m, rfl⟩ := Int.eq_ofNat_of_zero_le hr1'; have hmw : m < ws.length := (by omega); have i1 : (m : Int) < (ws.length : Int) := (by omega); have cW := Wl.out.cells hmw; obtain ⟨c0, c1, c2, c3⟩ := cW; have f0 := HTl.out (ol + m * 4); have f1 := HTl.out (ol + m * 4 + 1); have f2 := HTl.out (ol + m * 4 + 2); have f3 := HTl.out (ol + m * 4 + 2 + 1)))
        have kS := hid ((((KN.out.store1 (b := bl) (o := ol + m * 4) (.string y.name) Fl.out.1 Fl.out.2.1 (fun b o v h => (Hneq.out b o v h).1) Fl.out.2.2.2.1 Fl.out.2.2.2.2).store1 (b := bl) (o := ol + m * 4 + 1) (.int .i64 y.len) Fl.out.1 Fl.out.2.1 (fun b o v h => (Hneq.out b o v h).1) Fl.out.2.2.2.1 Fl.out.2.2.2.2).store1 (b := bl) (o := ol + m * 4 + 2) (.int .i64 y.lo) Fl.out.1 Fl.out.2.1 (fun b o v h => (Hneq.out b o v h).1) Fl.out.2.2.2.1 Fl.out.2.2.2.2).store1 (b := bl) (o := ol + m * 4 + 3) (.int .i64 y.hi) Fl.out.1 Fl.out.2.1 (fun b o v h => (Hneq.out b o v h).1) Fl.out.2.2.2.1 Fl.out.2.2.2.2)
        have WlS := Wl.out.set hmw y
        have K := hid (kS.out.addW WlS (fun _ b o u hb e => (Hneq.out _ _ _ hb).1 (by injection e with e; exact e.symm))).drew
        have WoS := hid (((((Wo.out.put (b := bl) (o := ol + m * 4) (u := .string y.name) (fun _ e => hlo (by injection e with e; exact e.symm))).put (b := bl) (o := ol + m * 4 + 1) (u := .int .i64 y.len) (fun _ e => hlo (by injection e with e; exact e.symm))).put (b := bl) (o := ol + m * 4 + 2) (u := .int .i64 y.lo) (fun _ e => hlo (by injection e with e; exact e.symm))).put (b := bl) (o := ol + m * 4 + 3) (u := .int .i64 y.hi) (fun _ e => hlo (by injection e with e; exact e.symm))).kept (gb_below (Below.refl _ _).drew _))
        have HTo2 := hid (show ∀ o, (((((wn.setCell ⟨bl, ol + m * 4, none⟩ (.string y.name)).setCell ⟨bl, ol + m * 4 + 1, none⟩ (.int .i64 y.len)).setCell ⟨bl, ol + m * 4 + 2, none⟩ (.int .i64 y.lo)).setCell ⟨bl, ol + m * 4 + 3, none⟩ (.int .i64 y.hi)).drew).frozen? ⟨bo, o, none⟩ = false from fun o => (World.frozen?_setCell _ _ _ _).trans ((World.frozen?_setCell _ _ _ _).trans ((World.frozen?_setCell _ _ _ _).trans ((World.frozen?_setCell _ _ _ _).trans (HTo.out o)))))
        obtain ⟨wm, hwm, KM⟩ := K.out.name
        rw [hwm] at WoS HTo2
        rw [hwm]
        have K := hid KM
        clear hwm KM kS WlS Wl Wo HTl HTo c0 c1 c2 c3 f0 f1 f2 f3 hS0 KN i1
        have Fl := Fl
        go_wp2_with fail
        refine (fit_any pos _ _ HP.out (by omega)).mono ?_
        rintro e w8 ⟨r, rfl, hr1', hr2', rfl⟩
        obtain ⟨m2, rfl⟩ := Int.eq_ofNat_of_zero_le hr1'
        have hm2 : m2 < st.length := by omega
        have i1 : (m2 : Int) < (st.length : Int) := by omega
        have c0 := WoS.out.cell hm2
        have f0 := HTo2.out (oo + m2)
        have kT := hid (K.out.dropW.store1 (b := bo) (o := oo + m2) (.int .i64 second) Fo.out.1 Fo.out.2.1 (fun b o v h => (Hneq.out b o v h).2) Fo.out.2.2.2.1 Fo.out.2.2.2.2)
        have wT := ((K.out.g (v := .slice (some ⟨bl, ol, none⟩) ws.length cl) (ws := ws.set m y) (by simp)).put (b := bo) (o := oo + m2) (u := .int .i64 second) (fun _ e => hlo (by injection e)))
        have iT := WoS.out.set hm2 second
        have K2 : Hid (LK w1.heap.size [(P, 0, .int .i64 route), (P, 1, .slice (some ⟨bl, ol, none⟩) ws.length cl), (B, 0, .int .i64 route), (B, 1, .slice (some ⟨bw, ow, none⟩) ws.length cap), (w.heap.size + 1, 0, .string y.name), (w.heap.size + 1, 1, .int .i64 y.len), (w.heap.size + 1, 2, .int .i64 y.lo), (w.heap.size + 1, 3, .int .i64 y.hi), (w.heap.size, 0, .int .i64 route0), (w.heap.size, 1, .slice aw0 ws0.length cap0)] [(.slice (some ⟨bo, oo, none⟩) st.length co, st.set m2 second), (.slice (some ⟨bs, os, none⟩) st.length cv, st), (.slice ax xs.length cx, xs), (.slice as0 st0.length cas0, st0)] [(.slice (some ⟨bl, ol, none⟩) ws.length cl, ws.set m y), (.slice (some ⟨bw, ow, none⟩) ws.length cap, ws), (.slice aw0 ws0.length cap0, ws0)] w (wm.setCell ⟨bo, oo + m2, none⟩ (.int .i64 second))) := hid ((kT.out.addW wT (fun _ b o u hb e => (Hneq.out _ _ _ hb).1 (by injection e with e; exact e.symm))).addI iT (fun _ b o u hb e => (Hneq.out _ _ _ hb).2 (by injection e with e; exact e.symm)))
        clear kT wT iT WoS HTo2
        obtain ⟨N1, hN1, K3⟩ := K2.out.name
        have t0 := K3.c (b := w.heap.size) (o := 0) (v := .int .i64 route0) (by simp)
        have t1 := K3.c (b := w.heap.size) (o := 1) (v := .slice aw0 ws0.length cap0) (by simp)
        have t2 := K3.c (b := B) (o := 0) (v := .int .i64 route) (by simp)
        have t3 := K3.c (b := B) (o := 1) (v := .slice (some ⟨bw, ow, none⟩) ws.length cap) (by simp)
        have t4 := K3.c (b := P) (o := 0) (v := .int .i64 route) (by simp)
        have t5 := K3.c (b := P) (o := 1) (v := .slice (some ⟨bl, ol, none⟩) ws.length cl) (by simp)
        go_wp2_with fail
        have kA := hid ((K3.alloc (.cells (List.toArray [.int .i64 route0, .slice aw0 ws0.length cap0, .int .i64 route, .slice (some ⟨bw, ow, none⟩) ws.length cap, .int .i64 route, .slice (some ⟨bl, ol, none⟩) ws.length cl, .int .i64 route, .slice (some ⟨bw, ow, none⟩) ws.length cap, .int .i64 route, .slice (some ⟨bw, ow, none⟩) ws.length cap]) 24)).alloc (.cells (List.toArray [.slice as0 st0.length cas0, .slice (some ⟨bs, os, none⟩) st.length cv, .slice (some ⟨bs, os, none⟩) st.length cv, .slice (some ⟨bo, oo, none⟩) st.length co, .slice as0 st0.length cas0]) 25))
        have kB := hid (K3.addLit (kA.out.sub (cs2 := []) (fun _ h => by cases h)) (A := N1.heap.size + 1) (cells := [.slice as0 st0.length cas0, .slice (some ⟨bs, os, none⟩) st.length cv, .slice (some ⟨bs, os, none⟩) st.length cv, .slice (some ⟨bo, oo, none⟩) st.length co, .slice as0 st0.length cas0]) (by omega) (lit_new (by simp)))
        have kC := hid (K3.addLit kB.out (A := N1.heap.size) (cells := [.int .i64 route0, .slice aw0 ws0.length cap0, .int .i64 route, .slice (some ⟨bw, ow, none⟩) ws.length cap, .int .i64 route, .slice (some ⟨bl, ol, none⟩) ws.length cl, .int .i64 route, .slice (some ⟨bw, ow, none⟩) ws.length cap, .int .i64 route, .slice (some ⟨bw, ow, none⟩) ws.length cap]) (Nat.le_refl _) (fun o u h => ⟨cell_up (lit_new rfl o u h).1, frozen_up (by simp) (lit_new rfl o u h).2⟩))
        obtain ⟨A, hA⟩ : ∃ A, N1.heap.size = A := ⟨_, rfl⟩
        obtain ⟨N2, hN2, K4⟩ := kC.out.name
        rw [hA] at K4 ⊢
        have K : Hid (LK w1.heap.size [(A, 0, .int .i64 route0), (A, 1, .slice aw0 ws0.length cap0), (A, 2, .int .i64 route), (A, 3, .slice (some ⟨bw, ow, none⟩) ws.length cap), (A, 4, .int .i64 route), (A, 5, .slice (some ⟨bl, ol, none⟩) ws.length cl), (A, 6, .int .i64 route), (A, 7, .slice (some ⟨bw, ow, none⟩) ws.length cap), (A, 8, .int .i64 route), (A, 9, .slice (some ⟨bw, ow, none⟩) ws.length cap), ((A + 1), 0, .slice as0 st0.length cas0), ((A + 1), 1, .slice (some ⟨bs, os, none⟩) st.length cv), ((A + 1), 2, .slice (some ⟨bs, os, none⟩) st.length cv), ((A + 1), 3, .slice (some ⟨bo, oo, none⟩) st.length co), ((A + 1), 4, .slice as0 st0.length cas0)] [(.slice (some ⟨bo, oo, none⟩) st.length co, st.set m2 second), (.slice (some ⟨bs, os, none⟩) st.length cv, st), (.slice ax xs.length cx, xs), (.slice as0 st0.length cas0, st0)] [(.slice (some ⟨bl, ol, none⟩) ws.length cl, ws.set m y), (.slice (some ⟨bw, ow, none⟩) ws.length cap, ws), (.slice aw0 ws0.length cap0, ws0)] w N2) := hid K4
        have e2 := hN2
        clear K4 kA kB kC t0 t1 t2 t3 t4 t5 K3 K2 hA
        rw [e2]
        clear e2 hN2
        have hlw : (ws.set m y).length = ws.length := List.length_set ..
        have hlo2 : (st.set m2 second).length = st.length := List.length_set ..
        have hnw : ∀ i, i < (ws.set m y).length → (wg (ws.set m y) i).name.size ≤ 1000000 := fun i hi => by
          rw [wg_set _ _ _ _ hmw]
          split
          · omega
          · exact made_size hm h8 i (by omega)
        have Hlw := hid hlw
        have Hlo2 := hid hlo2
        have Hnw := hid hnw
        clear hlw hlo2 hnw c0 f0 i1
        go_loopw [20] (fun i wr => ∃ k : Nat, k ≤ 5 ∧ i = .int .i64 k ∧ LK w1.heap.size [(A, 0, .int .i64 route0), (A, 1, .slice aw0 ws0.length cap0), (A, 2, .int .i64 route), (A, 3, .slice (some ⟨bw, ow, none⟩) ws.length cap), (A, 4, .int .i64 route), (A, 5, .slice (some ⟨bl, ol, none⟩) ws.length cl), (A, 6, .int .i64 route), (A, 7, .slice (some ⟨bw, ow, none⟩) ws.length cap), (A, 8, .int .i64 route), (A, 9, .slice (some ⟨bw, ow, none⟩) ws.length cap), ((A + 1), 0, .slice as0 st0.length cas0), ((A + 1), 1, .slice (some ⟨bs, os, none⟩) st.length cv), ((A + 1), 2, .slice (some ⟨bs, os, none⟩) st.length cv), ((A + 1), 3, .slice (some ⟨bo, oo, none⟩) st.length co), ((A + 1), 4, .slice as0 st0.length cas0)] [(.slice (some ⟨bo, oo, none⟩) st.length co, st.set m2 second), (.slice (some ⟨bs, os, none⟩) st.length cv, st), (.slice ax xs.length cx, xs), (.slice as0 st0.length cas0, st0)] [(.slice (some ⟨bl, ol, none⟩) ws.length cl, ws.set m y), (.slice (some ⟨bw, ow, none⟩) ws.length cap, ws), (.slice aw0 ws0.length cap0, ws0)] w wr)
          (fun i _ => 5 - (intOf i).toNat)
        case atStart => exact ⟨0, by omega, rfl, K.out⟩
        case round =>
          as_aux_lemma =>
          obtain ⟨k, hk, rfl, KK⟩ := hrel
          by_cases hlt : k < 5
          · obtain ⟨rt, vq, wq, vr, sq, n0, n1, n2, mW, mS, gn, gnm, gns, gv, gr⟩ : ∃ (rt : Int) (vq : Value) (wq : List Wing) (vr : Value) (sq : List Int), (A, k * 2, Value.int .i64 rt) ∈ ([(A, 0, .int .i64 route0), (A, 1, .slice aw0 ws0.length cap0), (A, 2, .int .i64 route), (A, 3, .slice (some ⟨bw, ow, none⟩) ws.length cap), (A, 4, .int .i64 route), (A, 5, .slice (some ⟨bl, ol, none⟩) ws.length cl), (A, 6, .int .i64 route), (A, 7, .slice (some ⟨bw, ow, none⟩) ws.length cap), (A, 8, .int .i64 route), (A, 9, .slice (some ⟨bw, ow, none⟩) ws.length cap), ((A + 1), 0, .slice as0 st0.length cas0), ((A + 1), 1, .slice (some ⟨bs, os, none⟩) st.length cv), ((A + 1), 2, .slice (some ⟨bs, os, none⟩) st.length cv), ((A + 1), 3, .slice (some ⟨bo, oo, none⟩) st.length co), ((A + 1), 4, .slice as0 st0.length cas0)] : Cells) ∧ (A, k * 2 + 1, vq) ∈ ([(A, 0, .int .i64 route0), (A, 1, .slice aw0 ws0.length cap0), (A, 2, .int .i64 route), (A, 3, .slice (some ⟨bw, ow, none⟩) ws.length cap), (A, 4, .int .i64 route), (A, 5, .slice (some ⟨bl, ol, none⟩) ws.length cl), (A, 6, .int .i64 route), (A, 7, .slice (some ⟨bw, ow, none⟩) ws.length cap), (A, 8, .int .i64 route), (A, 9, .slice (some ⟨bw, ow, none⟩) ws.length cap), ((A + 1), 0, .slice as0 st0.length cas0), ((A + 1), 1, .slice (some ⟨bs, os, none⟩) st.length cv), ((A + 1), 2, .slice (some ⟨bs, os, none⟩) st.length cv), ((A + 1), 3, .slice (some ⟨bo, oo, none⟩) st.length co), ((A + 1), 4, .slice as0 st0.length cas0)] : Cells) ∧ (A + 1, k, vr) ∈ ([(A, 0, .int .i64 route0), (A, 1, .slice aw0 ws0.length cap0), (A, 2, .int .i64 route), (A, 3, .slice (some ⟨bw, ow, none⟩) ws.length cap), (A, 4, .int .i64 route), (A, 5, .slice (some ⟨bl, ol, none⟩) ws.length cl), (A, 6, .int .i64 route), (A, 7, .slice (some ⟨bw, ow, none⟩) ws.length cap), (A, 8, .int .i64 route), (A, 9, .slice (some ⟨bw, ow, none⟩) ws.length cap), ((A + 1), 0, .slice as0 st0.length cas0), ((A + 1), 1, .slice (some ⟨bs, os, none⟩) st.length cv), ((A + 1), 2, .slice (some ⟨bs, os, none⟩) st.length cv), ((A + 1), 3, .slice (some ⟨bo, oo, none⟩) st.length co), ((A + 1), 4, .slice as0 st0.length cas0)] : Cells) ∧ (vq, wq) ∈ ([(.slice (some ⟨bl, ol, none⟩) ws.length cl, ws.set m y), (.slice (some ⟨bw, ow, none⟩) ws.length cap, ws), (.slice aw0 ws0.length cap0, ws0)] : List (Value × List Wing)) ∧ (vr, sq) ∈ ([(.slice (some ⟨bo, oo, none⟩) st.length co, st.set m2 second), (.slice (some ⟨bs, os, none⟩) st.length cv, st), (.slice ax xs.length cx, xs), (.slice as0 st0.length cas0, st0)] : List (Value × List Int)) ∧
                wq.length ≤ 100 ∧ (∀ i, i < wq.length → (wg wq i).name.size ≤ 1000000) ∧ sq.length ≤ 1000000 ∧ Sound vq ∧ Sound vr := by
              have hx0 : ∀ i, i < ws0.length → (wg ws0 i).name.size ≤ 1000000 := fun i hi => by have := hl2 i hi; omega
              have hx1 := made_size hm h8
              have hx2 : st.length ≤ 1000000 := by have := Hls.out; omega
              have hx3 := Hlw.out
              have hx4 := Hlo2.out
              rcases (by omega : k = 0 ∨ k = 1 ∨ k = 2 ∨ k = 3 ∨ k = 4) with rfl | rfl | rfl | rfl | rfl
              · exact ⟨route0, .slice aw0 ws0.length cap0, ws0, .slice as0 st0.length cas0, st0, by simp, by simp, by simp, by simp, by simp, by omega, hx0, by omega, SW.out, SS0.out⟩
              · exact ⟨route, .slice (some ⟨bw, ow, none⟩) ws.length cap, ws, .slice (some ⟨bs, os, none⟩) st.length cv, st, by simp, by simp, by simp, by simp, by simp, by omega, hx1, hx2, (by intro n c e; cases e), (by intro n c e; cases e)⟩
              · exact ⟨route, .slice (some ⟨bl, ol, none⟩) ws.length cl, ws.set m y, .slice (some ⟨bs, os, none⟩) st.length cv, st, by simp, by simp, by simp, by simp, by simp, by omega, Hnw.out, hx2, (by intro n c e; cases e), (by intro n c e; cases e)⟩
              · exact ⟨route, .slice (some ⟨bw, ow, none⟩) ws.length cap, ws, .slice (some ⟨bo, oo, none⟩) st.length co, st.set m2 second, by simp, by simp, by simp, by simp, by simp, by omega, hx1, by omega, (by intro n c e; cases e), (by intro n c e; cases e)⟩
              · exact ⟨route, .slice (some ⟨bw, ow, none⟩) ws.length cap, ws, .slice as0 st0.length cas0, st0, by simp, by simp, by simp, by simp, by simp, by omega, hx1, by omega, (by intro n c e; cases e), SS0.out⟩
            obtain ⟨aq, cq, rfl, _⟩ := KK.g mW
            obtain ⟨ar, cr, rfl, _⟩ := KK.i mS
            have K := hid KK
            clear KK
            have Hos := hid (show ∀ W', WgAt none W' (.slice aq wq.length cq) wq → Calls Tryd.prog 22 #[.agg #[.int .i64 rt, .slice aq wq.length cq]] W' (fun e w' => ∃ vx, e = .returned (.agg #[.int .i64 rt, vx]) ∧ OwnWg W'.heap.size w' vx wq ∧ Below W'.heap.size W' w') from fun W' h1 => ownSchool_any wq rt _ none W' h1 gv (by omega))
            have Hin := hid (show ∀ W', IntsAt none W' (.slice ar sq.length cr) sq → Calls Tryd.prog 23 #[.slice ar sq.length cr] W' (fun e w' => ∃ vy, e = .returned vy ∧ OwnInts W'.heap.size w' vy sq ∧ Below W'.heap.size W' w') from fun W' h1 => ints_any sq _ none W' h1 gr gns)
            have hlt5 : (k : Int) < 5 := by omega
            obtain ⟨wo, rfl⟩ : ∃ wo : World, wo = wr := ⟨_, rfl⟩
            go_wp2_with fail
            go_cut [21, 22] from 86 to 160 (fun sx sl wx => ∃ (Z : Nat) (vx : Value) (ya : Option Addr) (yc : Nat), sx = .pointer (some ⟨Z, 0, none⟩) ∧ sl = .slice ya sq.length yc ∧ LK w1.heap.size ((Z, 0, .int .i64 rt) :: (Z, 1, vx) :: [(A, 0, .int .i64 route0), (A, 1, .slice aw0 ws0.length cap0), (A, 2, .int .i64 route), (A, 3, .slice (some ⟨bw, ow, none⟩) ws.length cap), (A, 4, .int .i64 route), (A, 5, .slice (some ⟨bl, ol, none⟩) ws.length cl), (A, 6, .int .i64 route), (A, 7, .slice (some ⟨bw, ow, none⟩) ws.length cap), (A, 8, .int .i64 route), (A, 9, .slice (some ⟨bw, ow, none⟩) ws.length cap), ((A + 1), 0, .slice as0 st0.length cas0), ((A + 1), 1, .slice (some ⟨bs, os, none⟩) st.length cv), ((A + 1), 2, .slice (some ⟨bs, os, none⟩) st.length cv), ((A + 1), 3, .slice (some ⟨bo, oo, none⟩) st.length co), ((A + 1), 4, .slice as0 st0.length cas0)]) ((.slice ya sq.length yc, sq) :: [(.slice (some ⟨bo, oo, none⟩) st.length co, st.set m2 second), (.slice (some ⟨bs, os, none⟩) st.length cv, st), (.slice ax xs.length cx, xs), (.slice as0 st0.length cas0, st0)]) ((vx, wq) :: [(.slice (some ⟨bl, ol, none⟩) ws.length cl, ws.set m y), (.slice (some ⟨bw, ow, none⟩) ws.length cap, ws), (.slice aw0 ws0.length cap0, ws0)]) w wx)
            case first =>
              go_region_held3 (fun w' => w'.cell? ⟨A, k * 2, none⟩ = some (.int .i64 rt) ∧ w'.cell? ⟨A, k * 2 + 1, none⟩ = some (.slice aq wq.length cq) ∧ w'.cell? ⟨A + 1, k, none⟩ = some (.slice ar sq.length cr))
                (first | with_reducible exact ⟨K.out.drew.c n0, K.out.drew.c n1, K.out.drew.c n2⟩ | with_reducible exact ⟨K.out.c n0, K.out.c n1, K.out.c n2⟩ | with_reducible exact ⟨K.out.c (List.mem_cons_of_mem _ (List.mem_cons_of_mem _ n0)), K.out.c (List.mem_cons_of_mem _ (List.mem_cons_of_mem _ n1)), K.out.c (List.mem_cons_of_mem _ (List.mem_cons_of_mem _ n2))⟩ | with_reducible exact ⟨(K.out.alloc _).drew.c n0, (K.out.alloc _).drew.c n1, (K.out.alloc _).drew.c n2⟩ | with_reducible exact ⟨(K.out.alloc _).c n0, (K.out.alloc _).c n1, (K.out.alloc _).c n2⟩ | with_reducible exact ⟨(K.out.put2 Hneq.out).c (List.mem_cons_of_mem _ (List.mem_cons_of_mem _ n0)), (K.out.put2 Hneq.out).c (List.mem_cons_of_mem _ (List.mem_cons_of_mem _ n1)), (K.out.put2 Hneq.out).c (List.mem_cons_of_mem _ (List.mem_cons_of_mem _ n2))⟩) (first
                | (go_at_call 22; refine (Hos.out _ (by first | with_reducible exact (K.out.drew.g mW).any | with_reducible exact (K.out.g mW).any | with_reducible exact ((K.out.alloc _).drew.g mW).any | with_reducible exact ((K.out.alloc _).g mW).any)).mono ?_; rintro e w12 ⟨vx, rfl, how, hb⟩; obtain ⟨xa, xc, rfl⟩ := how.form; (first | (with_reducible have K := hid (K.out.drew.addWgs (K.out.drew.later hb) how)) | (with_reducible have K := hid (K.out.addWgs (K.out.later hb) how)) | (have Hneq := hid (fun b o v h => Nat.ne_of_lt (K.out.clt (b := b) (o := o) (v := v) h)); with_reducible have K := hid ((K.out.box2 (.int .i64 0) (.slice none 0 0) 24).drew.addWgs ((K.out.box2 (.int .i64 0) (.slice none 0 0) 24).drew.later hb) how)) | (have Hneq := hid (fun b o v h => Nat.ne_of_lt (K.out.clt (b := b) (o := o) (v := v) h)); with_reducible have K := hid ((K.out.box2 (.int .i64 0) (.slice none 0 0) 24).addWgs ((K.out.box2 (.int .i64 0) (.slice none 0 0) 24).later hb) how))); replace mW := List.mem_cons_of_mem (Value.slice xa wq.length xc, wq) mW; clear hb how; have z0 := K.out.c (List.Mem.head _); have z1 := K.out.c (List.Mem.tail _ (List.Mem.head _)); have y0 := K.out.f (List.Mem.head _); have y1 := K.out.f (List.Mem.tail _ (List.Mem.head _)))
                | (go_at_call 23; refine (Hin.out _ (by first | with_reducible exact (K.out.drew.i mS).any | with_reducible exact (K.out.i mS).any | with_reducible exact ((K.out.alloc _).drew.i mS).any | with_reducible exact ((K.out.alloc _).i mS).any | with_reducible exact ((K.out.put2 Hneq.out).i mS).any)).mono ?_; rintro e w13 ⟨vy, rfl, how, hb⟩; obtain ⟨ya, yc, rfl⟩ := how.form; (first | (with_reducible have K := hid (K.out.drew.addInts (K.out.drew.later hb) how)) | (with_reducible have K := hid (K.out.addInts (K.out.later hb) how)) | (with_reducible have K := hid ((K.out.put2 (x' := .int .i64 rt) (y' := .slice xa wq.length xc) Hneq.out).addInts ((K.out.put2 (x' := .int .i64 rt) (y' := .slice xa wq.length xc) Hneq.out).later hb) how)) | (have Hneq := hid (fun b o v h => Nat.ne_of_lt (K.out.clt (b := b) (o := o) (v := v) h)); with_reducible have K := hid ((K.out.box2 (.int .i64 0) (.slice none 0 0) 24).drew.addInts ((K.out.box2 (.int .i64 0) (.slice none 0 0) 24).drew.later hb) how)) | (have Hneq := hid (fun b o v h => Nat.ne_of_lt (K.out.clt (b := b) (o := o) (v := v) h)); with_reducible have K := hid ((K.out.box2 (.int .i64 0) (.slice none 0 0) 24).addInts ((K.out.box2 (.int .i64 0) (.slice none 0 0) 24).later hb) how)) | (with_reducible have K := hid ((K.out.box2 (.int .i64 rt) (.slice xa wq.length xc) 24).addInts ((K.out.box2 (.int .i64 rt) (.slice xa wq.length xc) 24).later hb) how))); replace mS := List.mem_cons_of_mem (Value.slice ya sq.length yc, sq) mS; clear hb how; have z0 := K.out.c (List.Mem.head _); have z1 := K.out.c (List.Mem.tail _ (List.Mem.head _)); have y0 := K.out.f (List.Mem.head _); have y1 := K.out.f (List.Mem.tail _ (List.Mem.head _))))
              all_goals (
                go_wp2_with fail
                go_meet
                refine ⟨_, .slice xa wq.length xc, _, _, rfl, rfl, ?_⟩
                first
                  | with_reducible exact K.out
                  | with_reducible exact K.out.put2 Hneq.out
                  | exact K.out.box2 (.int .i64 rt) (.slice xa wq.length xc) 24
                  | with_reducible exact K.out)
            case rest =>
              as_aux_lemma =>
              obtain ⟨Z, vx, ya, yc, rfl, rfl, KK⟩ := hcut
              have K := hid KK
              clear KK Hos Hin
              obtain ⟨wp, rfl⟩ : ∃ wp : World, wp = wc := ⟨_, rfl⟩
              obtain ⟨xa, xc, rfl, _⟩ := K.out.g (v := vx) (ws := wq) (List.Mem.head _)
              have x0 := K.out.c (b := Z) (o := 0) (v := .int .i64 rt) (List.Mem.head _)
              have x1 := K.out.c (b := Z) (o := 1) (v := .slice xa wq.length xc) (List.Mem.tail _ (List.Mem.head _))
              obtain ⟨E, hE⟩ : ∃ E, leastErr rt wq = E := ⟨_, rfl⟩
              obtain ⟨R, hR⟩ : ∃ R, leastRes rt wq = R := ⟨_, rfl⟩
              have hRl : R.length ≤ 1000000 := by rw [← hR]; exact leastRes_len rt wq gn
              have Hpl := hid (show ∀ v' W', WgAt none W' v' wq → Calls Tryd.prog 25 #[.agg #[.int .i64 rt, v']] W' (fun e w' => ∃ v, e = .returned (.tuple #[v, .int .i64 E]) ∧ OwnInts W'.heap.size w' v R ∧ Below W'.heap.size W' w') from fun v' W' h => by rw [← hE, ← hR]; exact pleasts_any wq rt v' W' h gn gnm)
              have Hrl := hid (show ∀ v' W', WgAt none W' v' wq → Calls Tryd.prog 26 #[.agg #[.int .i64 rt, v']] W' (fun e w' => ∃ v, e = .returned (.tuple #[v, .int .i64 E]) ∧ OwnInts W'.heap.size w' v R ∧ Below W'.heap.size W' w') from fun v' W' h => by rw [← hE, ← hR]; exact rleast_any wq rt v' W' h gn gnm)
              clear hE hR
              go_wp2_with fail
              refine (Hpl.out _ _ (K.out.g (v := .slice xa wq.length xc) (ws := wq) (List.Mem.head _)).any).mono ?_
              rintro e w14 ⟨va, rfl, hoa, hb⟩
              obtain ⟨aa, ac, rfl⟩ := hoa.form
              have K := hid (K.out.addInts (K.out.later hb) hoa)
              clear hb hoa x0 x1
              have x0 := K.out.c (List.mem_cons_of_mem _ (List.mem_cons_of_mem _ n0))
              have x1 := K.out.c (List.mem_cons_of_mem _ (List.mem_cons_of_mem _ n1))
              go_wp2_with fail
              refine (Hrl.out _ _ (K.out.g (List.mem_cons_of_mem _ mW)).any).mono ?_
              rintro e w15 ⟨vb, rfl, hob, hb⟩
              obtain ⟨ba, bc, rfl⟩ := hob.form
              have K := hid (K.out.addInts (K.out.later hb) hob)
              clear hb hob x0 x1
              go_wp2_with fail
              have K := hid K.out.drew
              have H27 := hid (fun v' W' h => pcheck_any wq rt v' none W' h gn gnm)
              have H28 := hid (fun v' W' h => rcheck_any wq rt v' none W' h gn gnm)
              have H29 := hid (fun v' u' W' h h' => pstarts_any wq sq rt v' u' W' h h' gn gnm gns)
              have H30 := hid (fun v' u' W' h h' => rstarts_any wq sq rt v' u' W' h h' gn gnm gns)
              obtain ⟨C, hC⟩ : ∃ C, check rt wq = C := ⟨_, rfl⟩
              obtain ⟨D, hD⟩ : ∃ D, checkStarts rt wq sq = D := ⟨_, rfl⟩
              rw [hC] at H27 H28
              rw [hD] at H29 H30
              clear hC hD
              obtain ⟨l1, l2⟩ := eq_bool (a := C) (b := C) rfl
              obtain ⟨l3, l4⟩ := eq_bool (a := D) (b := D) rfl
              obtain ⟨l5, l6⟩ := eq_bool (a := E) (b := E) rfl
              have gx : (Value.slice xa wq.length xc, wq) ∈ ((Value.slice xa wq.length xc, wq) :: [(.slice (some ⟨bl, ol, none⟩) ws.length cl, ws.set m y), (.slice (some ⟨bw, ow, none⟩) ws.length cap, ws), (.slice aw0 ws0.length cap0, ws0)] : List (Value × List Wing)) := List.Mem.head _
              have gq := List.mem_cons_of_mem (Value.slice xa wq.length xc, wq) mW
              have ib : (Value.slice ba R.length bc, R) ∈ ((Value.slice ba R.length bc, R) :: (Value.slice aa R.length ac, R) :: (Value.slice ya sq.length yc, sq) :: [(.slice (some ⟨bo, oo, none⟩) st.length co, st.set m2 second), (.slice (some ⟨bs, os, none⟩) st.length cv, st), (.slice ax xs.length cx, xs), (.slice as0 st0.length cas0, st0)] : List (Value × List Int)) := List.Mem.head _
              have ia : (Value.slice aa R.length ac, R) ∈ ((Value.slice ba R.length bc, R) :: (Value.slice aa R.length ac, R) :: (Value.slice ya sq.length yc, sq) :: [(.slice (some ⟨bo, oo, none⟩) st.length co, st.set m2 second), (.slice (some ⟨bs, os, none⟩) st.length cv, st), (.slice ax xs.length cx, xs), (.slice as0 st0.length cas0, st0)] : List (Value × List Int)) := List.Mem.tail _ (List.Mem.head _)
              have iy : (Value.slice ya sq.length yc, sq) ∈ ((Value.slice ba R.length bc, R) :: (Value.slice aa R.length ac, R) :: (Value.slice ya sq.length yc, sq) :: [(.slice (some ⟨bo, oo, none⟩) st.length co, st.set m2 second), (.slice (some ⟨bs, os, none⟩) st.length cv, st), (.slice ax xs.length cx, xs), (.slice as0 st0.length cas0, st0)] : List (Value × List Int)) := List.Mem.tail _ (List.Mem.tail _ (List.Mem.head _))
              have ir := List.mem_cons_of_mem (Value.slice ba R.length bc, R) (List.mem_cons_of_mem (Value.slice aa R.length ac, R) (List.mem_cons_of_mem (Value.slice ya sq.length yc, sq) mS))
              have a0 := List.mem_cons_of_mem (Z, 0, Value.int .i64 rt) (List.mem_cons_of_mem (Z, 1, Value.slice xa wq.length xc) n0)
              have a1 := List.mem_cons_of_mem (Z, 0, Value.int .i64 rt) (List.mem_cons_of_mem (Z, 1, Value.slice xa wq.length xc) n1)
              have a2 := List.mem_cons_of_mem (Z, 0, Value.int .i64 rt) (List.mem_cons_of_mem (Z, 1, Value.slice xa wq.length xc) n2)
              go_region_held3 (fun w' => w'.cell? ⟨Z, 0, none⟩ = some (.int .i64 rt) ∧ w'.cell? ⟨Z, 1, none⟩ = some (.slice xa wq.length xc) ∧ w'.cell? ⟨A, k * 2, none⟩ = some (.int .i64 rt) ∧ w'.cell? ⟨A, k * 2 + 1, none⟩ = some (.slice aq wq.length cq) ∧ w'.cell? ⟨A + 1, k, none⟩ = some (.slice ar sq.length cr))
                (first | with_reducible exact ⟨K.out.c (List.Mem.head _), K.out.c (List.Mem.tail _ (List.Mem.head _)), K.out.c a0, K.out.c a1, K.out.c a2⟩) (first
                | (go_at_call 27; refine (H27.out _ _ (K.out.g gx).any).mono ?_; rintro e w16 ⟨rfl, hb⟩; have K := hid (K.out.later hb); clear hb)
                | (go_at_call 28; refine (H28.out _ _ (K.out.g gq).any).mono ?_; rintro e w16 ⟨rfl, hb⟩; have K := hid (K.out.later hb); clear hb)
                | (go_at_call 29; refine (H29.out _ _ _ (K.out.g gx).any (K.out.i iy).any).mono ?_; rintro e w16 ⟨rfl, hb⟩; have K := hid (K.out.later hb); clear hb)
                | (go_at_call 30; refine (H30.out _ _ _ (K.out.g gq).any (K.out.i ir).any).mono ?_; rintro e w16 ⟨rfl, hb⟩; have K := hid (K.out.later hb); clear hb)
                | (go_at_call 31; (first | with_reducible refine (eqInts_same R _ _ none none _ (K.out.i ia).any (K.out.i ib).any hRl).mono ?_ | with_reducible refine (eqInts_same sq _ _ none none _ (K.out.i iy).any (K.out.i ir).any gns).mono ?_); rintro e w16 ⟨rfl, hb⟩; have K := hid (K.out.later hb); clear hb)
                | (go_at_call 32; refine (eqSchools_same wq rt _ _ none none _ (K.out.g gx).any (K.out.g gq).any (by omega)).mono ?_; rintro e w16 ⟨rfl, hb⟩; have K := hid (K.out.later hb); clear hb))
              all_goals (
                go_wp2
                go_roundw
                case rel => exact ⟨k + 1, by omega, by go_num, (K.out.dropI.dropI.dropI.dropW).sub (fun x hx => List.mem_cons_of_mem _ (List.mem_cons_of_mem _ hx))⟩
                case measure => simp [intOf] <;> omega)
          · go_wp2_with (go_at_call 18; refine (awake_any _).mono ?_; rintro e w10 ⟨rfl, hb10⟩)
            go_ret
            exact ⟨rfl, (KK.later hb10).below⟩
end Go.Proofs.YtgfipifgijohhaaDoor
