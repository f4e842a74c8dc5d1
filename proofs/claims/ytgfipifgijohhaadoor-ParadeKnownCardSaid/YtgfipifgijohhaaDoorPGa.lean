/-
  WALKS: the program's gap, Gap.
-/
import Derived.Test.YtgfipifgijohhaaDoorLk
namespace Go.Proofs.YtgfipifgijohhaaDoor
open Go.RowKit

/-- the gap before wing k + 1, for an end of the paces before it, and the other one of its own (below 0 if it is held back) -/
def gapAt (ws : List Wing) (st : List Int) (e : Int) (m : Nat) (t : Int) : Int := rest (Ln ws) (nm st) (endOf ws e) m (endOf ws (1 - e) (m + 1)) t

theorem gapAt_0 (ws : List Wing) (st : List Int) (m : Nat) (t : Int) : gapAt ws st 0 m t = front (Ln ws) (nm st) (Lo ws) m t - Ln ws m - Hi ws (m + 1) * (t - nm st (m + 1)) := rfl
theorem gapAt_1 (ws : List Wing) (st : List Int) (m : Nat) (t : Int) : gapAt ws st 1 m t = front (Ln ws) (nm st) (Hi ws) m t - Ln ws m - Lo ws (m + 1) * (t - nm st (m + 1)) := rfl

set_option maxHeartbeats 2000000 in
set_option maxRecDepth 100000 in
theorem gap_any (ws : List Wing) (st : List Int) (m : Nat) (t e : Int) (vw vs : Value) (w : World) (hW : WgAt none w vw ws) (hS : IntsAt none w vs st)
    (ht : Tr ws st (m + 1) e) (hpl : -10000000 ≤ t) (hpl2 : t ≤ 10000000) :
    Calls Tryd.prog 101 #[.agg #[vw, vs, .int .i64 e], .int .i64 ((m : Int) + 1), .int .i64 t] w
     fun e' w' => e' = .returned (.int .i64 (gapAt ws st e m t)) ∧ Below w.heap.size w w' := by
  have hW2 := hid hW
  have hS2 := hid hS
  have hk := ht.kw
  have hks := ht.ks
  have hn := ht.small.n
  obtain ⟨bw, ow, cap, rfl, _, _⟩ := hW.slice (by omega)
  obtain ⟨bs, os, caps, rfl, _, _⟩ := hS.slice (by omega)
  have Wc := hid (hW.cells hk)
  have Lc := hid (hW.cells (i := m) (by omega)).2.1
  have Sc := hid (hS.cell (i := m + 1) hks)
  have hbw : bw < w.heap.size := World.block_lt_of_cell? w ⟨bw, _, none⟩ Lc.out
  have hbs : bs < w.heap.size := World.block_lt_of_cell? w ⟨bs, _, none⟩ Sc.out
  have ht' := hid (show Tr ws st m e from ⟨ht.small, by omega, by omega, fun i hi => ht.start i (by omega), ht.e⟩)
  have gl : 0 ≤ (wg ws m).len ∧ (wg ws m).len ≤ 100000 := ht.small.len m (by omega)
  have gs := ht.start (m + 1) (by omega)
  have glo : 1 ≤ (wg ws (m + 1)).lo ∧ (wg ws (m + 1)).lo ≤ 10000 := ht.small.lo (m + 1) hk
  have ghi : 1 ≤ (wg ws (m + 1)).hi ∧ (wg ws (m + 1)).hi ≤ 10000 := ht.small.hi (m + 1) hk
  have hF := end_bound ht'.out hpl hpl2
  have i1 : ((m : Int) + 1) < (ws.length : Int) := by omega
  have i2 : ((m : Int) + 1) < (st.length : Int) := by omega
  have i3 : (m : Int) < (ws.length : Int) := by omega
  have i4 : (0 : Int) ≤ (m : Int) + 1 := by omega
  have hw1 : IntKind.i64.wrap (m : Int) = (m : Int) := IntWalk.i64_in _ (by omega)
  have hts : IntKind.i64.wrap (t - nm st (m + 1)) = t - nm st (m + 1) := IntWalk.i64_in _ (by omega)
  have hb0 := hid ((Below.refl (w.heap.size + 1) (w.alloc (.cells #[.slice (some ⟨bw, ow, none⟩) ws.length cap, .slice (some ⟨bs, os, none⟩) st.length caps, .int .i64 e] 109))).drew)
  rcases ht.e with rfl | rfl
  · rw [gapAt_0]
    rw [endOf_0] at hF
    have m2 : Ln ws m = (wg ws m).len := rfl
    have m3 : Hi ws (m + 1) = (wg ws (m + 1)).hi := rfl
    rw [m2, m3]
    obtain ⟨F, hFe⟩ : ∃ F, front (Ln ws) (nm st) (Lo ws) m t = F := ⟨_, rfl⟩
    rw [hFe] at hF ⊢
    have HF := hid hFe
    have hm := mul_bound (p := (wg ws (m + 1)).hi) (q := t - nm st (m + 1)) (by omega) (by omega) (by omega) (by omega)
    have z3 : IntKind.i64.wrap ((wg ws (m + 1)).hi * (t - nm st (m + 1))) = (wg ws (m + 1)).hi * (t - nm st (m + 1)) := IntWalk.i64_in _ (by omega)
    have z1 : IntKind.i64.wrap (F - (wg ws m).len) = F - (wg ws m).len := IntWalk.i64_in _ (by omega)
    have z4 : IntKind.i64.wrap (F - (wg ws m).len - (wg ws (m + 1)).hi * (t - nm st (m + 1))) = F - (wg ws m).len - (wg ws (m + 1)).hi * (t - nm st (m + 1)) := IntWalk.i64_in _ (by omega)
    have w01 : IntKind.i64.wrap 1 = 1 := by decide
    have w00 : IntKind.i64.wrap 0 = 0 := by decide
    have hx0 : ∀ w, (Instr.index 144 (.agg #[.int .i64 (wg ws (m + 1)).lo, .int .i64 (wg ws (m + 1)).hi]) (.int .i64 1)).run Tryd.prog w = .ok (.int .i64 (wg ws (m + 1)).hi) w := fun w => by
      rfl
    clear hFe hW hS ht m2 m3
    go_enter Tryd.func101, Tryd.ntmps101
    go_wp2
    go_region_held3 (fun w' => w'.cell? ⟨w.heap.size, 0, none⟩ = some (.slice (some ⟨bw, ow, none⟩) ws.length cap) ∧ w'.cell? ⟨w.heap.size, 1, none⟩ = some (.slice (some ⟨bs, os, none⟩) st.length caps) ∧ w'.cell? ⟨w.heap.size, 2, none⟩ = some (.int .i64 0) ∧
        w'.cell? ⟨bw, ow + (m + 1) * 4, none⟩ = some (.string (wg ws (m + 1)).name) ∧ w'.cell? ⟨bw, ow + (m + 1) * 4 + 1, none⟩ = some (.int .i64 (wg ws (m + 1)).len) ∧ w'.cell? ⟨bw, ow + (m + 1) * 4 + 2, none⟩ = some (.int .i64 (wg ws (m + 1)).lo) ∧ w'.cell? ⟨bw, ow + (m + 1) * 4 + 2 + 1, none⟩ = some (.int .i64 (wg ws (m + 1)).hi))
      (first | exact ⟨(boxed3 hb0.out).1, (boxed3 hb0.out).2.1, (boxed3 hb0.out).2.2.1, cell_back (boxed3 hb0.out).2.2.2.1 hbw Wc.out.1, cell_back (boxed3 hb0.out).2.2.2.1 hbw Wc.out.2.1, cell_back (boxed3 hb0.out).2.2.2.1 hbw Wc.out.2.2.1, cell_back (boxed3 hb0.out).2.2.2.1 hbw Wc.out.2.2.2⟩) (first
      | (go_at_call 124; refine (paces_any (wg ws (m + 1)) _).mono ?_; rintro e' w2 ⟨rfl, hb2⟩; have hb0 := hid (below_go hb0.out hb2 (by have := (boxed3 hb0.out).2.2.2.2; omega))))
    go_wp2
    have hb0 := hid hb0.out.drew
    go_region_held3 (fun w' => w'.cell? ⟨w.heap.size, 0, none⟩ = some (.slice (some ⟨bw, ow, none⟩) ws.length cap) ∧ w'.cell? ⟨w.heap.size, 1, none⟩ = some (.slice (some ⟨bs, os, none⟩) st.length caps) ∧ w'.cell? ⟨w.heap.size, 2, none⟩ = some (.int .i64 0) ∧
        w'.cell? ⟨bw, ow + m * 4 + 1, none⟩ = some (.int .i64 (wg ws m).len) ∧ w'.cell? ⟨bs, os + (m + 1), none⟩ = some (.int .i64 (nm st (m + 1))))
      (first | exact ⟨(boxed3 hb0.out).1, (boxed3 hb0.out).2.1, (boxed3 hb0.out).2.2.1, cell_back (boxed3 hb0.out).2.2.2.1 hbw Lc.out, cell_back (boxed3 hb0.out).2.2.2.1 hbs Sc.out⟩) (first
      | (go_at_call 98; refine (pfront_any ws st _ _ 0 _ _ _ (hW2.out.below (boxed3 hb0.out).2.2.2.1) (hS2.out.below (boxed3 hb0.out).2.2.2.1) (by omega) (by rw [Int.toNat_natCast]; exact ht'.out) (by omega) (by omega)).mono ?_; rw [Int.toNat_natCast, endOf_0, HF.out]; rintro e' w3 ⟨rfl, hb3⟩; have hb0 := hid (below_go hb0.out hb3 (by have := (boxed3 hb0.out).2.2.2.2; omega))))
    go_wp2
    go_ret
    exact ⟨rfl, (boxed3 hb0.out).2.2.2.1⟩
  · rw [gapAt_1]
    rw [endOf_1] at hF
    have m2 : Ln ws m = (wg ws m).len := rfl
    have m3 : Lo ws (m + 1) = (wg ws (m + 1)).lo := rfl
    rw [m2, m3]
    obtain ⟨F, hFe⟩ : ∃ F, front (Ln ws) (nm st) (Hi ws) m t = F := ⟨_, rfl⟩
    rw [hFe] at hF ⊢
    have HF := hid hFe
    have hm := mul_bound (p := (wg ws (m + 1)).lo) (q := t - nm st (m + 1)) (by omega) (by omega) (by omega) (by omega)
    have z3 : IntKind.i64.wrap ((wg ws (m + 1)).lo * (t - nm st (m + 1))) = (wg ws (m + 1)).lo * (t - nm st (m + 1)) := IntWalk.i64_in _ (by omega)
    have z1 : IntKind.i64.wrap (F - (wg ws m).len) = F - (wg ws m).len := IntWalk.i64_in _ (by omega)
    have z4 : IntKind.i64.wrap (F - (wg ws m).len - (wg ws (m + 1)).lo * (t - nm st (m + 1))) = F - (wg ws m).len - (wg ws (m + 1)).lo * (t - nm st (m + 1)) := IntWalk.i64_in _ (by omega)
    have w01 : IntKind.i64.wrap 1 = 1 := by decide
    have w00 : IntKind.i64.wrap 0 = 0 := by decide
    have hx0 : ∀ w, (Instr.index 144 (.agg #[.int .i64 (wg ws (m + 1)).lo, .int .i64 (wg ws (m + 1)).hi]) (.int .i64 0)).run Tryd.prog w = .ok (.int .i64 (wg ws (m + 1)).lo) w := fun w => by
      rfl
    clear hFe hW hS ht m2 m3
    go_enter Tryd.func101, Tryd.ntmps101
    go_wp2
    go_region_held3 (fun w' => w'.cell? ⟨w.heap.size, 0, none⟩ = some (.slice (some ⟨bw, ow, none⟩) ws.length cap) ∧ w'.cell? ⟨w.heap.size, 1, none⟩ = some (.slice (some ⟨bs, os, none⟩) st.length caps) ∧ w'.cell? ⟨w.heap.size, 2, none⟩ = some (.int .i64 1) ∧
        w'.cell? ⟨bw, ow + (m + 1) * 4, none⟩ = some (.string (wg ws (m + 1)).name) ∧ w'.cell? ⟨bw, ow + (m + 1) * 4 + 1, none⟩ = some (.int .i64 (wg ws (m + 1)).len) ∧ w'.cell? ⟨bw, ow + (m + 1) * 4 + 2, none⟩ = some (.int .i64 (wg ws (m + 1)).lo) ∧ w'.cell? ⟨bw, ow + (m + 1) * 4 + 2 + 1, none⟩ = some (.int .i64 (wg ws (m + 1)).hi))
      (first | exact ⟨(boxed3 hb0.out).1, (boxed3 hb0.out).2.1, (boxed3 hb0.out).2.2.1, cell_back (boxed3 hb0.out).2.2.2.1 hbw Wc.out.1, cell_back (boxed3 hb0.out).2.2.2.1 hbw Wc.out.2.1, cell_back (boxed3 hb0.out).2.2.2.1 hbw Wc.out.2.2.1, cell_back (boxed3 hb0.out).2.2.2.1 hbw Wc.out.2.2.2⟩) (first
      | (go_at_call 124; refine (paces_any (wg ws (m + 1)) _).mono ?_; rintro e' w2 ⟨rfl, hb2⟩; have hb0 := hid (below_go hb0.out hb2 (by have := (boxed3 hb0.out).2.2.2.2; omega))))
    go_wp2
    have hb0 := hid hb0.out.drew
    go_region_held3 (fun w' => w'.cell? ⟨w.heap.size, 0, none⟩ = some (.slice (some ⟨bw, ow, none⟩) ws.length cap) ∧ w'.cell? ⟨w.heap.size, 1, none⟩ = some (.slice (some ⟨bs, os, none⟩) st.length caps) ∧ w'.cell? ⟨w.heap.size, 2, none⟩ = some (.int .i64 1) ∧
        w'.cell? ⟨bw, ow + m * 4 + 1, none⟩ = some (.int .i64 (wg ws m).len) ∧ w'.cell? ⟨bs, os + (m + 1), none⟩ = some (.int .i64 (nm st (m + 1))))
      (first | exact ⟨(boxed3 hb0.out).1, (boxed3 hb0.out).2.1, (boxed3 hb0.out).2.2.1, cell_back (boxed3 hb0.out).2.2.2.1 hbw Lc.out, cell_back (boxed3 hb0.out).2.2.2.1 hbs Sc.out⟩) (first
      | (go_at_call 98; refine (pfront_any ws st _ _ 1 _ _ _ (hW2.out.below (boxed3 hb0.out).2.2.2.1) (hS2.out.below (boxed3 hb0.out).2.2.2.1) (by omega) (by rw [Int.toNat_natCast]; exact ht'.out) (by omega) (by omega)).mono ?_; rw [Int.toNat_natCast, endOf_1, HF.out]; rintro e' w3 ⟨rfl, hb3⟩; have hb0 := hid (below_go hb0.out hb3 (by have := (boxed3 hb0.out).2.2.2.2; omega))))
    go_wp2
    go_ret
    exact ⟨rfl, (boxed3 hb0.out).2.2.2.1⟩
end Go.Proofs.YtgfipifgijohhaaDoor
