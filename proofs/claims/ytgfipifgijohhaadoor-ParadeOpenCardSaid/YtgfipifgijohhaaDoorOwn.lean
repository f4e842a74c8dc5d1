/-
  WALKS: Less, In, Inside.
  A STORE INTO A LIST OF THE STATEMENT's OWN: wings, numbers; what stays.
-/
import Derived.Test.YtgfipifgijohhaaDoorLo
namespace Go.Proofs.YtgfipifgijohhaaDoor
open Go.RowKit

theorem DK.second {d B : Nat} {cs cs' : List Value} {w0 w : World} {t : TypeId} (k : DK d B cs w0 w) : DK d w.heap.size cs' w0 (w.alloc (.cells cs'.toArray t)) where
  gb := (k.alloc _).gb
  beat := (k.alloc _).beat
  hd := k.hd
  hR := k.gb.size
  hlt := by simp
  cells := fun i v hv => cell_at rfl (by simpa using hv)
  fr := fun i => frozen_at rfl

set_option maxHeartbeats 1000000 in
set_option maxRecDepth 100000 in
theorem less_any (d : Nat) (lo hi : Int) (w : World) (h : Beat d w) (h1 : -1000000000 ≤ lo) (h2 : lo ≤ hi) (h4 : hi ≤ 1000000000) :
    Calls Tryd.prog 53 #[.pointer (some ⟨d, 0, none⟩), .agg #[.int .i64 lo, .int .i64 hi]] w
     fun e w' => ∃ a b : Int, e = .returned (.agg #[.int .i64 a, .int .i64 b]) ∧ lo ≤ a ∧ a ≤ b ∧ b ≤ hi ∧ Beat d w' ∧ w.grownBy w' (some d) := by
  have K := hid (DK.start (t := 27) (cs := [.int .i64 lo, .int .i64 hi]) h)
  have R := hid ((K.out.second (t := 27) (cs' := [.int .i64 0, .int .i64 0])).drew)
  have K := hid (K.out.alloc (.cells #[.int .i64 0, .int .i64 0] 27)).drew
  have hd := h.lt
  clear h
  have e1 : (w.alloc (.cells #[.int .i64 lo, .int .i64 hi] 27)).heap.size = w.heap.size + 1 := by simp
  have K : Hid (DK d w.heap.size [.int .i64 lo, .int .i64 hi] w ((w.alloc (.cells #[.int .i64 lo, .int .i64 hi] 27)).alloc (.cells #[.int .i64 0, .int .i64 0] 27)).drew) := K
  have R : Hid (DK d (w.heap.size + 1) [.int .i64 0, .int .i64 0] w ((w.alloc (.cells #[.int .i64 lo, .int .i64 hi] 27)).alloc (.cells #[.int .i64 0, .int .i64 0] 27)).drew) := hid (by have := R.out; rw [e1] at this; exact this)
  clear e1
  go_enter Tryd.func53, Tryd.ntmps53
  go_wp2
  go_region_held3 (fun w' => w'.cell? ⟨w.heap.size, 0, none⟩ = some (.int .i64 lo) ∧ w'.cell? ⟨w.heap.size, 1, none⟩ = some (.int .i64 hi))
    (first | exact ⟨K.out.c0, K.out.c1⟩) (first
    | (go_at_call 85; refine (of_any d _ _ _ K.out.beat (by omega) (by omega) (by omega)).mono ?_; rintro e w1 ⟨r, rfl, hr1, hr2, hbt, hgb⟩; have K := hid (K.out.go hgb hbt); have R := hid (R.out.go hgb hbt); clear hgb hbt; have c0 := R.out.c0; have c1 := R.out.c1; have f0 := R.out.fr 0; have f1 := R.out.fr 1; first | (have hx : ra = ra := rfl; clear hx; obtain ⟨rb, rfl⟩ : ∃ x, x = r := ⟨r, rfl⟩) | (obtain ⟨ra, rfl⟩ : ∃ x, x = r := ⟨r, rfl⟩)))
  go_wp2
  refine bodyPost_ret (v := .agg #[.int .i64 (min ra rb), .int .i64 (max ra rb)]) (by simp [results, Tryd.results53, go_sem, c0, c1]) rfl ⟨min ra rb, max ra rb, rfl, by omega, by omega, by omega, ?_, ?_⟩
  · exact Beat.putFar (Beat.putFar K.out.beat (by omega)) (by omega)
  · exact gb_out (gb_out K.out.gb (by omega)) (by omega)

set_option maxHeartbeats 1000000 in
set_option maxRecDepth 100000 in
theorem kin_any (lo hi n : Int) (w : World) :
    Calls Tryd.prog 52 #[.agg #[.int .i64 lo, .int .i64 hi], .int .i64 n] w fun e w' => e = .returned (.bool (inB n lo hi)) ∧ Below w.heap.size w w' := by
  have kb := hid (below_alloc w (.cells #[.int .i64 lo, .int .i64 hi] 27))
  by_cases h1 : lo ≤ n
  · by_cases h2 : n ≤ hi
    · go_enter Tryd.func52, Tryd.ntmps52
      go_wp2
      go_ret
      exact ⟨ret_bool (by unfold inB; simp [h1, h2]), kb.out⟩
    · go_enter Tryd.func52, Tryd.ntmps52
      go_wp2
      go_ret
      exact ⟨ret_bool (by unfold inB; simp; omega), kb.out⟩
  · go_enter Tryd.func52, Tryd.ntmps52
    go_wp2
    go_ret
    exact ⟨ret_bool (by unfold inB; simp; omega), kb.out⟩

set_option maxHeartbeats 1000000 in
set_option maxRecDepth 100000 in
theorem inside_any (a b lo hi : Int) (w : World) (h1 : lo ≤ a) (h2 : b ≤ hi) :
    Calls Tryd.prog 54 #[.agg #[.int .i64 a, .int .i64 b], .agg #[.int .i64 lo, .int .i64 hi]] w fun e w' => e = .returned (.bool true) ∧ Below w.heap.size w w' := by
  have kb := hid (below_trans (below_alloc w (.cells #[.int .i64 a, .int .i64 b] 27)) (below_alloc _ (.cells #[.int .i64 lo, .int .i64 hi] 27)))
  go_enter Tryd.func54, Tryd.ntmps54
  go_wp2
  go_ret
  exact ⟨rfl, kb.out⟩
end Go.Proofs.YtgfipifgijohhaaDoor

namespace Go.Proofs.YtgfipifgijohhaaDoor
open Go.RowKit

variable {d : Nat} {cs : Cells} {li : List (Value × List Int)} {lw : List (Value × List Wing)} {w0 w : World}

/-- a store into a block that nothing held lies in -/
theorem LK.store1 (k : LK d cs li lw w0 w) {b o : Nat} (u : Value) (hbd : b ≠ d) (hb0 : w0.heap.size ≤ b) (hcs : ∀ b' o' v, (b', o', v) ∈ cs → b' ≠ b)
    (hli : ∀ v xs, (v, xs) ∈ li → 0 < xs.length → v.ownBlock ≠ some b) (hlw : ∀ v xs, (v, xs) ∈ lw → 0 < xs.length → v.ownBlock ≠ some b) : LK d cs li lw w0 (w.setCell ⟨b, o, none⟩ u) :=
  ⟨k.below.setCell (p := ⟨b, o, none⟩) hb0 u, k.d0, k.beat.putFar hbd,
    fun b' o' v h => ⟨(k.cell b' o' v h).1, (k.cell b' o' v h).2.1, cell_set_far (Ne.symm (hcs b' o' v h)) (k.c h), (World.frozen?_setCell _ _ _ _).trans (k.f h)⟩,
    fun v xs h => ⟨(k.i h).put (hli v xs h), (k.ints v xs h).2⟩, fun v xs h => ⟨(k.g h).put (hlw v xs h), (k.wgs v xs h).2⟩⟩

theorem LK.dropW {x : Value × List Wing} (k : LK d cs li (x :: lw) w0 w) : LK d cs li lw w0 w :=
  ⟨k.below, k.d0, k.beat, k.cell, k.ints, fun v xs h => k.wgs v xs (List.mem_cons_of_mem _ h)⟩
theorem LK.dropI {x : Value × List Int} (k : LK d cs (x :: li) lw w0 w) : LK d cs li lw w0 w :=
  ⟨k.below, k.d0, k.beat, k.cell, fun v xs h => k.ints v xs (List.mem_cons_of_mem _ h), k.wgs⟩
theorem LK.addW (k : LK d cs li lw w0 w) {v : Value} {ws : List Wing} (h : WgAt (some d) w v ws) (ha : 0 < ws.length → ∀ b o u, (b, o, u) ∈ cs → v.ownBlock ≠ some b) : LK d cs li ((v, ws) :: lw) w0 w :=
  ⟨k.below, k.d0, k.beat, k.cell, k.ints, fun v' xs' hm => by
    rcases List.mem_cons.1 hm with hm | hm
    · cases hm; exact ⟨h, ha⟩
    · exact k.wgs v' xs' hm⟩
theorem LK.addI (k : LK d cs li lw w0 w) {v : Value} {xs : List Int} (h : IntsAt (some d) w v xs) (ha : 0 < xs.length → ∀ b o u, (b, o, u) ∈ cs → v.ownBlock ≠ some b) : LK d cs ((v, xs) :: li) lw w0 w :=
  ⟨k.below, k.d0, k.beat, k.cell, fun v' xs' hm => by
    rcases List.mem_cons.1 hm with hm | hm
    · cases hm; exact ⟨h, ha⟩
    · exact k.ints v' xs' hm, k.wgs⟩

theorem wg_set (ws : List Wing) (i : Nat) (y : Wing) (j : Nat) (hi : i < ws.length) : wg (ws.set i y) j = if j = i then y else wg ws j := by
  unfold wg
  rw [List.getD_eq_getElem?_getD, List.getElem?_set]
  by_cases e : i = j
  · subst e; simp [hi]
  · rw [if_neg e, if_neg (Ne.symm e), List.getD_eq_getElem?_getD]
theorem nm_set (xs : List Int) (i : Nat) (y : Int) (j : Nat) (hi : i < xs.length) : nm (xs.set i y) j = if j = i then y else nm xs j := by
  unfold nm
  rw [List.getD_eq_getElem?_getD, List.getElem?_set]
  by_cases e : i = j
  · subst e; simp [hi]
  · rw [if_neg e, if_neg (Ne.symm e), List.getD_eq_getElem?_getD]

theorem own_thawed {base : Nat} {v : Value} {ws : List Wing} (h : OwnWg base w v ws) {b off n c : Nat} (e : v = .slice (some ⟨b, off, none⟩) n c) : ∀ o, w.frozen? ⟨b, o, none⟩ = false := by
  subst e
  obtain ⟨_, h2⟩ := h
  rcases h2 with ⟨h0, _⟩ | ⟨g, cap, cur, e, hb, hh, h1, hm, hs, ht⟩
  · cases h0
  · cases e
    intro o
    unfold World.frozen?
    rw [hh]
    simp
/-- the pace of one wing set -/
theorem WgAt.pace {q : Option Nat} {b off n c i : Nat} {ws : List Wing} (h : WgAt q w (.slice (some ⟨b, off, none⟩) n c) ws) (hi : i < ws.length) (lo hi' : Int) :
    WgAt q ((w.setCell ⟨b, off + i * 4 + 2, none⟩ (.int .i64 lo)).setCell ⟨b, off + i * 4 + 2 + 1, none⟩ (.int .i64 hi')) (.slice (some ⟨b, off, none⟩) n c) (ws.set i ⟨(wg ws i).name, (wg ws i).len, lo, hi'⟩) := by
  have hc := fun j hj => h.cells (i := j) hj
  obtain ⟨a, cap, e, hh⟩ := h
  cases e
  obtain ⟨b', off', e, h1, h2, h3, h4, _⟩ := hh (by omega)
  cases e
  refine ⟨_, _, by rw [List.length_set], fun _ => ⟨b, off, rfl, by rw [List.length_set]; exact h1, h2, h3, by simpa using h4, fun j hj => ?_⟩⟩
  rw [List.length_set] at hj
  obtain ⟨c0, c1, c2, c3⟩ := hc j hj
  have far : ∀ {o : Nat} {v : Value}, w.cell? ⟨b, o, none⟩ = some v → o ≠ off + i * 4 + 2 → o ≠ off + i * 4 + 2 + 1 → ((w.setCell ⟨b, off + i * 4 + 2, none⟩ (.int .i64 lo)).setCell ⟨b, off + i * 4 + 2 + 1, none⟩ (.int .i64 hi')).cell? ⟨b, o, none⟩ = some v := fun {o v} hv n1 n2 =>
    (World.cell?_setCell_other _ _ _ _ (by intro e; cases e; exact n2 rfl)).trans ((World.cell?_setCell_other _ _ _ _ (by intro e; cases e; exact n1 rfl)).trans hv)
  rw [wg_set _ _ _ _ hi]
  by_cases e : j = i
  · subst e
    rw [if_pos rfl]
    refine ⟨far c0 (by omega) (by omega), far c1 (by omega) (by omega), ?_, ?_⟩
    · exact (World.cell?_setCell_other _ _ _ _ (by intro e; simp at e)).trans (World.cell?_setCell_same _ _ _ c2)
    · exact World.cell?_setCell_same _ _ _ ((World.cell?_setCell_other _ _ _ _ (by intro e; simp at e)).trans c3)
  · rw [if_neg e]
    exact ⟨far c0 (by omega) (by omega), far c1 (by omega) (by omega), far c2 (by omega) (by omega), far c3 (by omega) (by omega)⟩

/-- one number set -/
theorem IntsAt.set {q : Option Nat} {b off n c i : Nat} {xs : List Int} (h : IntsAt q w (.slice (some ⟨b, off, none⟩) n c) xs) (hi : i < xs.length) (z : Int) :
    IntsAt q (w.setCell ⟨b, off + i, none⟩ (.int .i64 z)) (.slice (some ⟨b, off, none⟩) n c) (xs.set i z) := by
  have hc := fun j hj => h.cell (i := j) hj
  obtain ⟨a, cap, e, hh⟩ := h
  cases e
  obtain ⟨b', off', e, h1, h2, h3, h4, _⟩ := hh (by omega)
  cases e
  refine ⟨_, _, by rw [List.length_set], fun _ => ⟨b, off, rfl, by rw [List.length_set]; exact h1, h2, h3, by simpa using h4, fun j hj => ?_⟩⟩
  rw [List.length_set] at hj
  rw [nm_set _ _ _ _ hi]
  by_cases e : j = i
  · subst e
    rw [if_pos rfl]
    exact World.cell?_setCell_same _ _ _ (hc j hj)
  · rw [if_neg e]
    exact (World.cell?_setCell_other _ _ _ _ (by intro e'; simp at e'; first | done | omega)).trans (hc j hj)

/-- a whole wing set -/
theorem WgAt.set {q : Option Nat} {b off n c i : Nat} {ws : List Wing} (h : WgAt q w (.slice (some ⟨b, off, none⟩) n c) ws) (hi : i < ws.length) (y : Wing) :
    WgAt q ((((w.setCell ⟨b, off + i * 4, none⟩ (.string y.name)).setCell ⟨b, off + i * 4 + 1, none⟩ (.int .i64 y.len)).setCell ⟨b, off + i * 4 + 2, none⟩ (.int .i64 y.lo)).setCell ⟨b, off + i * 4 + 2 + 1, none⟩ (.int .i64 y.hi)) (.slice (some ⟨b, off, none⟩) n c) (ws.set i y) := by
  have hc := fun j hj => h.cells (i := j) hj
  obtain ⟨a, cap, e, hh⟩ := h
  cases e
  obtain ⟨b', off', e, h1, h2, h3, h4, _⟩ := hh (by omega)
  cases e
  refine ⟨_, _, by rw [List.length_set], fun _ => ⟨b, off, rfl, by rw [List.length_set]; exact h1, h2, h3, by simpa using h4, fun j hj => ?_⟩⟩
  rw [List.length_set] at hj
  obtain ⟨c0, c1, c2, c3⟩ := hc j hj
  have other : ∀ {W : World} {o o' : Nat} {u v : Value}, W.cell? ⟨b, o, none⟩ = some v → o ≠ o' → (W.setCell ⟨b, o', none⟩ u).cell? ⟨b, o, none⟩ = some v := fun {W o o' u v} hv n => (World.cell?_setCell_other _ _ _ _ (by intro e; cases e; exact n rfl)).trans hv
  have same : ∀ {W : World} {o : Nat} {u v : Value}, W.cell? ⟨b, o, none⟩ = some v → (W.setCell ⟨b, o, none⟩ u).cell? ⟨b, o, none⟩ = some u := fun hv => World.cell?_setCell_same _ _ _ hv
  rw [wg_set _ _ _ _ hi]
  by_cases e : j = i
  · subst e
    rw [if_pos rfl]
    exact ⟨other (other (other (same c0) (by omega)) (by omega)) (by omega), other (other (same (other c1 (by omega))) (by omega)) (by omega), other (same (other (other c2 (by omega)) (by omega))) (by omega), same (other (other (other c3 (by omega)) (by omega)) (by omega))⟩
  · rw [if_neg e]
    exact ⟨other (other (other (other c0 (by omega)) (by omega)) (by omega)) (by omega), other (other (other (other c1 (by omega)) (by omega)) (by omega)) (by omega), other (other (other (other c2 (by omega)) (by omega)) (by omega)) (by omega), other (other (other (other c3 (by omega)) (by omega)) (by omega)) (by omega)⟩
end Go.Proofs.YtgfipifgijohhaaDoor
