/-
  WALKS: the program's seconds: passes, clear, least.
-/
import Derived.Test.YtgfipifgijohhaaDoorPTr
import Derived.RangeFuncFrom
import Derived.Shelf.Abstract
namespace Go.Proofs.YtgfipifgijohhaaDoor
open Go.RowKit
attribute [local go_sem] Oper.semAt_some

theorem accP_snoc (L S P : Nat → Int) (k : Nat) (x y : Int) (l : List Nat) (i : Nat) : accP L S P k x y (l ++ [i]) = max (accP L S P k x y l) (S i + cdiv (x + dist L k i) (P i)) := by simp [accP]
theorem accF_snoc (L S P : Nat → Int) (k : Nat) (t y : Int) (l : List Nat) (i : Nat) : accF L S P k t y (l ++ [i]) = min (accF L S P k t y l) (P i * (t - S i) - dist L k i) := by simp [accF]

/-- the pace of an end: 0 the slow one, 1 the fast one -/
def endOf (ws : List Wing) (e : Int) : Nat → Int := if e = 0 then Lo ws else Hi ws

/-- a truth's numbers are small -/
structure Tr (ws : List Wing) (st : List Int) (k : Nat) (e : Int) : Prop where
  small : Small ws
  kw : k < ws.length
  ks : k < st.length
  start : ∀ i, i ≤ k → 0 ≤ nm st i ∧ nm st i ≤ 1000000
  e : e = 0 ∨ e = 1

set_option maxHeartbeats 2000000 in
set_option maxRecDepth 100000 in
theorem passes_any (ws : List Wing) (st : List Int) (kk place e : Int) (vw vs : Value) (w : World) (hW : WgAt none w vw ws) (hS : IntsAt none w vs st)
    (h0 : 0 ≤ kk) (ht : Tr ws st kk.toNat e) (hpl : 0 ≤ place) (hpl2 : place ≤ 10000000) :
    Calls Tryd.prog 88 #[.agg #[vw, vs, .int .i64 e], .int .i64 kk, .int .i64 place] w
     fun e' w' => e' = .returned (.int .i64 (passed (Ln ws) (nm st) (endOf ws e) kk.toNat place)) ∧ Below w.heap.size w w' := by
  obtain ⟨k, rfl⟩ := Int.eq_ofNat_of_zero_le h0
  rw [Int.toNat_natCast] at *
  obtain ⟨aw, cap, rfl, hh⟩ := hW
  obtain ⟨b, off, rfl, _, _, _, hb, hL⟩ := hh (by have := ht.kw; omega)
  obtain ⟨ags, caps, rfl, hh2⟩ := hS
  obtain ⟨bs, offs, rfl, _, _, _, hbs, hS⟩ := hh2 (by have := ht.ks; omega)
  clear hh hh2
  have hk := ht.kw
  have hks := ht.ks
  have hn := ht.small.n
  have h1 := hS k hks
  have HL := hid hL
  have HS := hid hS
  clear hL hS
  refine (callsIn_wide (n := 3)).1 ?_
  refine callsIn_of_wp_marks Tryd.func88 rfl trivial ?_ rfl
  simp only [Tryd.ntmps88, List.size_toArray, List.length_cons, List.length_nil, Nat.reduceAdd, Nat.reduceSub, Array.replicate_succ, Array.replicate_zero, List.push_toArray, List.append_toArray, List.nil_append, List.cons_append]
  gi_wp2_with (refine ⟨trivial, ?_⟩; gi_at_call 123; refine (callsIn_wide.2 (ahead_any _ _ _ _ _ _ _ _ _)).mono ?_; rintro e' w' ⟨rfl, rfl⟩)
  obtain ⟨w5, hw5⟩ : ∃ w5, (((((w.alloc (.cells #[.slice (some ⟨b, off, none⟩) ws.length cap, .slice (some ⟨bs, offs, none⟩) st.length caps, .int .i64 e] 109)).alloc (.cells #[.int .i64 place] 3)).alloc (.cells #[.int .i64 (nm st k)] 3)).alloc
      (.cells #[.slice (some ⟨b, off, none⟩) ws.length cap, .slice (some ⟨bs, offs, none⟩) st.length caps, .int .i64 e] 109)).alloc (.cells #[.int .i64 (k : Int)] 3)) = w5 := ⟨_, rfl⟩
  have hsz : w5.heap.size = w.heap.size + 5 := by rw [← hw5]; simp
  have hB0 : Below w.heap.size w w5 := by rw [← hw5]; exact (((((Below.refl _ w).alloc (Nat.le_refl _) _).alloc (by simp) _).alloc (by simp; omega) _).alloc (by simp; omega) _).alloc (by simp; omega) _
  have c0 : w5.cell? ⟨w.heap.size, 0, none⟩ = some (.slice (some ⟨b, off, none⟩) ws.length cap) := by rw [← hw5]; exact cell_up (cell_up (cell_up (cell_up (cell_at rfl rfl))))
  have c1 : w5.cell? ⟨w.heap.size, 1, none⟩ = some (.slice (some ⟨bs, offs, none⟩) st.length caps) := by rw [← hw5]; exact cell_up (cell_up (cell_up (cell_up (cell_at rfl rfl))))
  have c2 : w5.cell? ⟨w.heap.size, 2, none⟩ = some (.int .i64 e) := by rw [← hw5]; exact cell_up (cell_up (cell_up (cell_up (cell_at rfl rfl))))
  have c3 : w5.cell? ⟨w.heap.size + 1, 0, none⟩ = some (.int .i64 place) := by rw [← hw5]; exact cell_up (cell_up (cell_up (cell_at (by simp) rfl)))
  have c4 : w5.cell? ⟨w.heap.size + 1 + 1, 0, none⟩ = some (.int .i64 (nm st k)) := by rw [← hw5]; exact cell_up (cell_up (cell_at (by simp) rfl))
  have c4f : w5.frozen? ⟨w.heap.size + 1 + 1, 0, none⟩ = false := by rw [← hw5]; exact frozen_up (by simp) (frozen_up (by simp) (frozen_at (by simp)))
  have c5 : w5.cell? ⟨w.heap.size + 1 + 1 + 1, 0, none⟩ = some (.slice (some ⟨b, off, none⟩) ws.length cap) := by rw [← hw5]; exact cell_up (cell_at (by simp) rfl)
  have c6 : w5.cell? ⟨w.heap.size + 1 + 1 + 1 + 1, 0, none⟩ = some (.int .i64 (k : Int)) := by rw [← hw5]; exact cell_at (by simp) rfl
  rw [hw5]
  clear hw5
  refine wpIn_rangeFunc_ownF (F := Fence.wide) (n := 3) rfl (by omega) (gf := 146) (lb := #[.pointer (some ⟨w.heap.size + 1 + 1 + 1 + 1, 0, none⟩), .pointer (some ⟨w.heap.size + 1 + 1 + 1, 0, none⟩)]) rfl trivial (enters_of Tryd.func146 (by kernel_rfl) rfl)
    (ahead_stops 2 (by omega) ws k b off cap (w.heap.size + 1 + 1 + 1) (w.heap.size + 1 + 1 + 1 + 1) (w.heap.size + 5) (w.heap.size + 1 + 1) w5 hk (by omega) (fun i hi => ht.small.len i (by omega)) (by omega) (by omega) (by omega) (by omega) (by omega) (by omega) (by omega)
      (fun i hi => cell_back hB0 hb (HL.out i hi).2.1) c5 c6)
    KeepB.trans (fun W l o o' hl _ _ _ => ⟨by simp, fun i hi _ => World.putObj_heap_other (by omega)⟩) (Below.refl _ _) (fun _ => rfl)
    (fun pre W => (W.cell? ⟨w.heap.size, 0, none⟩ = some (.slice (some ⟨b, off, none⟩) ws.length cap) ∧ W.cell? ⟨w.heap.size, 1, none⟩ = some (.slice (some ⟨bs, offs, none⟩) st.length caps) ∧ W.cell? ⟨w.heap.size, 2, none⟩ = some (.int .i64 e) ∧
      W.cell? ⟨w.heap.size + 1, 0, none⟩ = some (.int .i64 place) ∧ W.cell? ⟨w.heap.size + 1 + 1, 0, none⟩ = some (.int .i64 (accP (Ln ws) (nm st) (endOf ws e) k place (nm st k) (pre.map Fin.val))) ∧ W.frozen? ⟨w.heap.size + 1 + 1, 0, none⟩ = false ∧ W.cell? ⟨w.heap.size + 1 + 1 + 1 + 1, 0, none⟩ = some (.int .i64 (k : Int))) ∧ Below w.heap.size w W)
    (fun _ _ _ => False)
    (OwnFrom.and (Own.from (fun s A B row hs hg hr => ⟨cell_kept hs.1 hg hr, cell_kept hs.2.1 hg hr, cell_kept hs.2.2.1 hg hr, cell_kept hs.2.2.2.1 hg hr, cell_kept hs.2.2.2.2.1 hg hr, (frozen_kept hs.2.2.2.2.1 hg hr).trans hs.2.2.2.2.2.1, cell_kept hs.2.2.2.2.2.2 hg hr⟩) _) (ownFrom_below (Nat.le_refl _) (by omega)))
    (fun _ _ _ _ _ hs _ _ => hs)
    ⟨⟨c0, c1, c2, c3, c4, c4f, c6⟩, hB0⟩ ?a1 ?assign ?body ?done ?stop
  case assign =>
    intro l x W K hK
    gi_wp2
    exact hK
  case body =>
    rintro l pre x W ⟨⟨r0, r1, r2, r3, r4, r4f, r5⟩, hB⟩ _
    obtain ⟨i, hi⟩ := x
    obtain ⟨g0, g1, g2, g3⟩ := HL.out i (by omega)
    have q0 := cell_back hB hb g0
    have q1 := cell_back hB hb g1
    have q2 := cell_back hB hb g2
    have q3 := cell_back hB hb g3
    have q4 := cell_back hB hbs (HS.out i (by omega))
    have hiw : i < ws.length := by omega
    have hx0 : ∀ w, (Instr.index 144 (.agg #[.int .i64 (wg ws i).lo, .int .i64 (wg ws i).hi]) (.int .i64 e)).run Tryd.prog w = .ok (.int .i64 (endOf ws e i)) w := by
      rcases ht.e with rfl | rfl
      · exact fun _ => by kernel_rfl
      · exact fun _ => by kernel_rfl
    clear g0 g1 g2 g3
    gi_wp2
    refine wpIn_region_held (S := fun W' => W'.cell? ⟨w.heap.size, 0, none⟩ = some (.slice (some ⟨b, off, none⟩) ws.length cap) ∧ W'.cell? ⟨w.heap.size, 2, none⟩ = some (.int .i64 e) ∧ W'.cell? ⟨b, off + i * 4, none⟩ = some (.string (wg ws i).name) ∧ W'.cell? ⟨b, off + i * 4 + 1, none⟩ = some (.int .i64 (wg ws i).len) ∧
      W'.cell? ⟨b, off + i * 4 + 2, none⟩ = some (.int .i64 (wg ws i).lo) ∧ W'.cell? ⟨b, off + i * 4 + 2 + 1, none⟩ = some (.int .i64 (wg ws i).hi)) (by kernel_rfl) (by kernel_rfl) ?hno1 ⟨r0, r2, q0, q1, q2, q3⟩ (fun hHeld => ?_)
    case hno1 => exact fun ⟨_, _, h⟩ => h
    refine held_take (i := 0) (v := ?v1) rfl (by kernel_rfl) (by kernel_rfl) (by kernel_rfl) (fun _ _ _ h => h) hHeld (by rfl) ?hy1 ?_
    case hy1 => (intro w hSw; (try dsimp only at hSw); go_simp; (try with_reducible rfl))
    simp only [Act.put, List.setIfInBounds_toArray, List.set_cons_zero, List.set_cons_succ]
    refine held_take (i := 1) (v := ?v2) rfl (by kernel_rfl) (by kernel_rfl) (by kernel_rfl) (fun _ _ _ h => h) hHeld (by rfl) ?hy2 ?_
    case hy2 => (intro w hSw; (try dsimp only at hSw); go_simp; (try with_reducible rfl))
    simp only [Act.put, List.setIfInBounds_toArray, List.set_cons_zero, List.set_cons_succ]
    refine held_take (i := 2) (v := ?v3) rfl (by kernel_rfl) (by kernel_rfl) (by kernel_rfl) (fun _ _ _ h => h) hHeld (by rfl) ?hy3 ?_
    case hy3 => (intro w hSw; (try dsimp only at hSw); go_simp; (try with_reducible rfl))
    simp only [Act.put, List.setIfInBounds_toArray, List.set_cons_zero, List.set_cons_succ]
    refine held_take (i := 3) (v := ?v4) rfl (by kernel_rfl) (by kernel_rfl) (by kernel_rfl) (fun _ _ _ h => h) hHeld (by rfl) ?hy4 ?_
    case hy4 => (intro w hSw; (try dsimp only at hSw); go_simp; (try with_reducible rfl))
    simp only [Act.put, List.setIfInBounds_toArray, List.set_cons_zero, List.set_cons_succ]
    refine held_take (i := 4) (v := ?v5) rfl (by kernel_rfl) (by kernel_rfl) (by kernel_rfl) (fun _ _ _ h => h) hHeld (by rfl) ?hy5 ?_
    case hy5 => (intro w hSw; (try dsimp only at hSw); go_simp; (try with_reducible rfl))
    simp only [Act.put, List.setIfInBounds_toArray, List.set_cons_zero, List.set_cons_succ]
    refine held_take (i := 6) (v := ?v6) rfl (by kernel_rfl) (by kernel_rfl) (by kernel_rfl) (fun _ _ _ h => h) hHeld (by rfl) ?hy6 ?_
    case hy6 => (intro w hSw; (try dsimp only at hSw); go_simp; (try with_reducible rfl))
    simp only [Act.put, List.setIfInBounds_toArray, List.set_cons_zero, List.set_cons_succ]
    refine held_take (i := 7) (v := ?v7) rfl (by kernel_rfl) (by kernel_rfl) (by kernel_rfl) (fun _ _ _ h => h) hHeld (by rfl) ?hy7 ?_
    case hy7 => (intro w hSw; (try dsimp only at hSw); go_simp; (try with_reducible rfl))
    simp only [Act.put, List.setIfInBounds_toArray, List.set_cons_zero, List.set_cons_succ]
    refine held_step (i := 5) rfl (by kernel_rfl) (by rfl) (fun K hK => ?_)
    go_simp
    refine (paces_any (wg ws i) _).mono ?_
    rintro e' w1 ⟨rfl, hb1d⟩
    have hb1 : Below W.heap.size W w1 := ⟨hb1d.os, hb1d.tape, hb1d.output, hb1d.size, hb1d.block⟩
    clear hb1d
    refine hK.out _ _ ⟨cell_now hb1 r0, cell_now hb1 r2, cell_now hb1 q0, cell_now hb1 q1, cell_now hb1 q2, cell_now hb1 q3⟩ (fun hHeld => ?_)
    clear hK K
    try simp only [Act.put, List.setIfInBounds_toArray, List.set_cons_zero, List.set_cons_succ]
    refine held_take (i := 8) (v := ?v8) rfl (by kernel_rfl) (by kernel_rfl) (by kernel_rfl) (fun _ _ _ h => h) hHeld (by rfl) ?hy8 ?_
    case hy8 => (intro w hSw; (try dsimp only at hSw); go_simp; (try with_reducible rfl))
    simp only [Act.put, List.setIfInBounds_toArray, List.set_cons_zero, List.set_cons_succ]
    refine held_take (i := 9) (v := ?v9) rfl (by kernel_rfl) (by kernel_rfl) (by kernel_rfl) (fun _ _ _ h => h) hHeld (by rfl) ?hy9 ?_
    case hy9 => (intro w hSw; (try dsimp only at hSw); go_simp; (try with_reducible rfl))
    simp only [Act.put, List.setIfInBounds_toArray, List.set_cons_zero, List.set_cons_succ]
    refine wpAnyH_done (by kernel_rfl) ?_ _
    gi_wp2
    have s1 := cell_now hb1 r1
    have s3 := cell_now hb1 r3
    have s4 := cell_now hb1 r4
    have s4f := frozen_now hb1 r4 r4f
    have t4 := cell_now hb1 q4
    have hp : 1 ≤ endOf ws e i ∧ endOf ws e i ≤ 10000 := by have := ht.small.lo i hiw; have := ht.small.hi i hiw; unfold endOf; split <;> omega
    have hdd := dist_bound (L := Ln ws) (k := k) (fun i hi => ht.small.len i (by omega)) (by omega) i
    have hss := ht.start i (by omega)
    have his : i < st.length := by omega
    have Hacc := hid (accP_snoc (Ln ws) (nm st) (endOf ws e) k place (nm st k) (pre.map Fin.val) i)
    generalize accP (Ln ws) (nm st) (endOf ws e) k place (nm st k) (pre.map Fin.val) = acc at *
    generalize hdg : dist (Ln ws) k i = dd at *
    clear hdg
    generalize hpg : endOf ws e i = p at *
    clear hpg
    have z1 : IntKind.i64.wrap (place + dd) = place + dd := IntWalk.i64_in _ (by omega)
    have z2 : IntKind.i64.wrap (place + dd + p) = place + dd + p := IntWalk.i64_in _ (by omega)
    have z3 : IntKind.i64.wrap (place + dd + p - 1) = place + dd + p - 1 := IntWalk.i64_in _ (by omega)
    have hp0 : ¬ (p = 0) := by omega
    have hcd := cdiv_bound (x := place + dd) (p := p) (by omega) (by omega) (by omega)
    have z4 : IntKind.i64.wrap ((place + dd + p - 1).tdiv p) = cdiv (place + dd) p := by rw [IntWalk.i64_quo _ _ (by omega)]; rfl
    have z5 : IntKind.i64.wrap (nm st i + cdiv (place + dd) p) = nm st i + cdiv (place + dd) p := IntWalk.i64_in _ (by omega)
    refine wpIn_region_still_tail 16 (by kernel_rfl) (by kernel_rfl) (by kernel_rfl) (fun ⟨_, _, h⟩ => h) ?_
    simp only [List.take_succ_cons, List.take_zero, List.drop_succ_cons, List.drop_zero]
    repeat still_step
    try refine wpStill_nil ?_
    change wpList _ _ _ _ _ w1.drew
    rw [max_if]
    go_wp2
    exact ⟨((others_of_below hb1).trans (KeepsOthers.setCell _ _ _)).trans (KeepsOthers.drew _),
      ⟨by have := hb1.size; simpa [World.setCell] using this, fun j hj hne => (Below.heap_setCell w1 _ _ j hne).trans (hb1.block j (by have := hB.size; have h5 := World.block_lt_of_cell? W ⟨w.heap.size + 1 + 1 + 1 + 1, 0, none⟩ r5; simp only at h5; omega))⟩,
      ⟨cell_far (by simp; omega) (cell_now hb1 r0), cell_far (by simp; omega) s1, cell_far (by simp; omega) (cell_now hb1 r2), cell_far (by simp) s3, by
        rw [List.map_append, List.map_cons, List.map_nil, Hacc.out]
        exact World.cell?_setCell_same' _ _ _ (by rw [s4]; rfl), by
        show (World.setCell _ _ _).frozen? _ = _
        rw [World.frozen?_setCell]; exact s4f, cell_far (by simp; omega) (cell_now hb1 r5)⟩,
      ((hB.trans (hb1.mono hB.size)).setCell (p := ⟨w.heap.size + 1 + 1, 0, none⟩) (by simp; omega) _).drew⟩
  case done =>
    rintro D ys W hD rfl ⟨⟨_, _, _, _, hc, _⟩, hB⟩ hK
    have hfin : max (nm st k) (passed (Ln ws) (nm st) (endOf ws e) k (place + dist (Ln ws) k k)) = passed (Ln ws) (nm st) (endOf ws e) k place := by
      have := passed_ge_start (L := Ln ws) (S := nm st) (P := endOf ws e) (k := k) (x := place) (fun i hi => by have := ht.small.lo i (by omega); have := ht.small.hi i (by omega); unfold endOf; split <;> omega) (fun i hi => (ht.small.len i (by omega)).1) hpl k (Nat.le_refl _)
      rw [dist_self, Int.add_zero]
      omega
    rw [down_all, accP_top k (Nat.le_refl _), hfin] at hc
    clear hfin
    gi_wp2
    refine ⟨by simp, .inl ⟨_, _, rfl, run_takeDeferred hK, ?_⟩⟩
    exact ⟨_, results_tmp rfl _ _ _, rfl, hB.trans (belowK_b (w := w) (Nat.le_refl _) W D _ _ (by omega) hK rfl rfl)⟩
  case stop =>
    rintro D c pre W _ _ h _
    exact h.elim
end Go.Proofs.YtgfipifgijohhaaDoor
