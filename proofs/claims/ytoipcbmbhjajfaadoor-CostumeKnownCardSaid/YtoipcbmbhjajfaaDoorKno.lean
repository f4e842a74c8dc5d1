/-
  WALKS: the chapter's examples night and rack, with the very cells they lie in; what is written into three nights.
-/
import Derived.Test.YtoipcbmbhjajfaaDoorKnp
namespace Go.Proofs.YtoipcbmbhjajfaaDoor
open Go.RowKit

theorem heap_lt {w : World} {g : Nat} {o : Obj} (h : w.heap[g]? = some o) : g < w.heap.size := (Array.getElem?_eq_some_iff.1 h).1
theorem heap_far {w : World} {g : Nat} {o : Obj} {Z i : Nat} {u : Value} (h : w.heap[g]? = some o) (hne : g ≠ Z) : (w.setCell ⟨Z, i, none⟩ u).heap[g]? = some o := (Below.heap_setCell w ⟨Z, i, none⟩ u g hne).trans h
theorem heap_set {w : World} {g i : Nat} {cs : Array Value} {t : TypeId} {u : Value} (h : w.heap[g]? = some (.cells cs t (0, 0))) : (w.setCell ⟨g, i, none⟩ u).heap[g]? = some (.cells (cs.setIfInBounds i u) t (0, 0)) := by
  simp [World.setCell, Array.getElem?_modify, h]
theorem recs_blk {α : Type} (enc : α → List Value) {k : Nat} (z : α) (f : α → Nat → Value) (henc : ∀ x, (enc x).length = k) (hf : ∀ x j, j < k → (enc x)[j]? = some (f x j)) {w : World} {g : Nat} {cs : Array Value} {t : TypeId} (hh : w.heap[g]? = some (.cells cs t (0, 0))) (pre : List Value) (xs : List α) (e : cs.toList = pre ++ xs.flatMap enc) (o : Nat) (ho : o = pre.length) (n : Nat) (hn : n = xs.length) (h0 : xs.length ≤ 1000) :
    RecAt none w (.slice (some ⟨g, o, none⟩) n n) xs.length k fun i j => f (xs.getD i z) j := by
  subst hn ho
  refine ⟨_, _, rfl, fun _ => ⟨_, _, rfl, Nat.le_refl _, by unfold maxLen; omega, (by intro e; cases e), heap_lt hh, fun i hi j hj => ?_⟩⟩
  have := flatMap_at (z := z) f henc hf xs i hi j hj
  rw [Lib.cell_of_heap hh, ← Array.getElem?_toList, e, Nat.add_assoc, List.getElem?_append_right (Nat.le_add_right _ _), Nat.add_sub_cancel_left]
  exact this

def nightC : Array Value := #[.int .i64 0, .int .i64 0, .int .i64 0, .int .i64 100, .int .i64 120, .int .i64 1, .int .i64 0, .int .i64 0, .int .i64 110, .int .i64 130, .int .i64 0, .int .i64 1, .int .i64 1, .int .i64 145, .int .i64 160]
/-- a night's blocks: its lists from block n on, its parts in block P -/
structure NightAt (n P : Nat) (c : Array Value) (w : World) : Prop where
  b0 : w.heap[n]? = some (.cells #[.int .i64 40, .int .i64 42, .int .i64 44, .int .i64 44] 41 (0, 0))
  b1 : w.heap[n + 1]? = some (.cells #[.int .i64 0, .int .i64 5] 3 (0, 0))
  b2 : w.heap[n + 2]? = some (.cells #[.int .i64 5, .int .i64 0] 3 (0, 0))
  b3 : w.heap[n + 3]? = some (.cells #[.slice (some ⟨n + 1, 0, none⟩) 2 2, .slice (some ⟨n + 2, 0, none⟩) 2 2] 24 (0, 0))
  b4 : w.heap[n + 4]? = some (.cells #[.int .i64 10, .int .i64 20] 3 (0, 0))
  b5 : w.heap[P]? = some (.cells c 30 (0, 0))
theorem NightAt.below {n P : Nat} {c : Array Value} {w w' : World} (h : NightAt n P c w) (hb : Below w.heap.size w w') : NightAt n P c w' :=
  ⟨(hb.block _ (heap_lt h.b0)).trans h.b0, (hb.block _ (heap_lt h.b1)).trans h.b1, (hb.block _ (heap_lt h.b2)).trans h.b2, (hb.block _ (heap_lt h.b3)).trans h.b3, (hb.block _ (heap_lt h.b4)).trans h.b4, (hb.block _ (heap_lt h.b5)).trans h.b5⟩
theorem NightAt.far {n P Z i : Nat} {u : Value} {c : Array Value} {w : World} (h : NightAt n P c w) (hz : Z < n ∨ n + 4 < Z) (hp : P ≠ Z) : NightAt n P c (w.setCell ⟨Z, i, none⟩ u) :=
  ⟨heap_far h.b0 (by omega), heap_far h.b1 (by omega), heap_far h.b2 (by omega), heap_far h.b3 (by omega), heap_far h.b4 (by omega), heap_far h.b5 hp⟩
theorem NightAt.put {n P i : Nat} {u : Value} {c : Array Value} {w : World} (h : NightAt n P c w) (hp : n + 4 < P) : NightAt n P (c.setIfInBounds i u) (w.setCell ⟨P, i, none⟩ u) :=
  ⟨heap_far h.b0 (by omega), heap_far h.b1 (by omega), heap_far h.b2 (by omega), heap_far h.b3 (by omega), heap_far h.b4 (by omega), heap_set h.b5⟩
def nightV (n P : Nat) : Value := plotV (.slice (some ⟨n, 0, none⟩) 2 2) (.slice (some ⟨n + 3, 0, none⟩) 2 2) (.slice (some ⟨n + 4, 0, none⟩) 2 2) (.slice (some ⟨P, 0, none⟩) 3 3)
theorem NightAt.plot {n P : Nat} {c : Array Value} {w : World} (h : NightAt n P c w) (ps : List Part) (hc : c.toList = ps.flatMap encPart) (hn : ps.length = 3) : PlotAt none w (.slice (some ⟨n, 0, none⟩) 2 2) (.slice (some ⟨n + 3, 0, none⟩) 2 2) (.slice (some ⟨n + 4, 0, none⟩) 2 2) (.slice (some ⟨P, 0, none⟩) 3 3) { nightP with parts := ps } := by
  refine ⟨?_, ⟨fun i => [Value.slice (some ⟨n + 1, 0, none⟩) 2 2, Value.slice (some ⟨n + 2, 0, none⟩) 2 2].getD i undef, ?_, ?_⟩, ?_, ?_⟩
  · exact recs_blk encSpan (0, 0) spanCell (fun _ => rfl) encSpan_at h.b0 [] [(40, 42), (44, 44)] rfl 0 rfl 2 rfl (by simp)
  · exact recs_blk (k := 1) encV undef (fun x _ => x) (fun _ => rfl) (fun x j hj => by obtain rfl : j = 0 := (by omega); rfl) h.b3 [] [Value.slice (some ⟨n + 1, 0, none⟩) 2 2, Value.slice (some ⟨n + 2, 0, none⟩) 2 2] rfl 0 rfl 2 rfl (by simp)
  · intro i hi
    have hi : i < 2 := hi
    rcases (by omega : i = 0 ∨ i = 1) with rfl | rfl
    · exact IntsAt.rec.2 (recs_blk (k := 1) encInt 0 (fun x _ => .int .i64 x) (fun _ => rfl) (fun x j hj => by obtain rfl : j = 0 := (by omega); rfl) h.b1 [] [0, 5] rfl 0 rfl 2 rfl (by simp))
    · exact IntsAt.rec.2 (recs_blk (k := 1) encInt 0 (fun x _ => .int .i64 x) (fun _ => rfl) (fun x j hj => by obtain rfl : j = 0 := (by omega); rfl) h.b2 [] [5, 0] rfl 0 rfl 2 rfl (by simp))
  · exact IntsAt.rec.2 (recs_blk (k := 1) encInt 0 (fun x _ => .int .i64 x) (fun _ => rfl) (fun x j hj => by obtain rfl : j = 0 := (by omega); rfl) h.b4 [] [10, 20] rfl 0 rfl 2 rfl (by simp))
  · exact recs_blk encPart noPart partCell (fun _ => rfl) encPart_at h.b5 [] ps (by simpa using hc) 0 rfl 3 hn.symm (by omega)

theorem alloc_get (w : World) (o : Obj) (g : Nat) : (w.alloc o).heap[g]? = if g = w.heap.size then some o else w.heap[g]? := by
  by_cases h : g = w.heap.size
  · subst h; rw [if_pos rfl]; exact heap_alloc_new w o
  · rw [if_neg h]
    rcases Nat.lt_or_ge g w.heap.size with h' | h'
    · exact (below_alloc w o).block g h'
    · rw [Array.getElem?_eq_none h', Array.getElem?_eq_none (by simp; omega)]
theorem night_new (X : World) {n : Nat} (hn : n = X.heap.size) :
    NightAt n (n + 5) nightC ((((((X.alloc (.cells #[.int .i64 40, .int .i64 42, .int .i64 44, .int .i64 44] 41)).alloc (.cells #[.int .i64 0, .int .i64 5] 3)).alloc (.cells #[.int .i64 5, .int .i64 0] 3)).alloc
      (.cells #[.slice (some ⟨n + 1, 0, none⟩) 2 2, .slice (some ⟨n + 1 + 1, 0, none⟩) 2 2] 24)).alloc (.cells #[.int .i64 10, .int .i64 20] 3)).alloc (.cells nightC 30)) := by
  subst hn
  refine ⟨?_, ?_, ?_, ?_, ?_, ?_⟩ <;> (simp only [alloc_get]; simp; try (repeat rw [if_neg (by omega)]))

set_option maxHeartbeats 2000000 in
set_option maxRecDepth 100000 in
theorem night_own (w : World) : Calls Tryd.prog 4 #[] w fun e w' => ∃ n, e = .returned (nightV n (n + 5)) ∧ w.heap.size ≤ n ∧ NightAt n (n + 5) nightC w' ∧ Below w.heap.size w w' := by
  go_enter Tryd.func4, Tryd.ntmps4
  go_wp2_with (go_at_call 10; refine (span_any _ _ _).mono ?_; rintro e w2 ⟨rfl, rfl⟩)
  have hN := night_new (((w.alloc (.cells #[.slice (some ⟨w.heap.size + 1 + 1 + 1, 0, none⟩) 2 2, .slice (some ⟨w.heap.size + 1 + 1 + 1 + 1 + 1 + 1, 0, none⟩) 2 2, .slice (some ⟨w.heap.size + 1 + 1 + 1 + 1 + 1 + 1 + 1, 0, none⟩) 2 2, .slice (some ⟨w.heap.size + 1 + 1 + 1 + 1 + 1 + 1 + 1 + 1, 0, none⟩) 3 3] 27)).alloc (.cells #[.int .i64 40, .int .i64 42] 41)).alloc (.cells #[.int .i64 44, .int .i64 44] 41)) (n := w.heap.size + 1 + 1 + 1) (by simp)
  have K := (((((((((HK.start w).box4m (n := w.heap.size) rfl (.slice (some ⟨w.heap.size + 1 + 1 + 1, 0, none⟩) 2 2) (.slice (some ⟨w.heap.size + 1 + 1 + 1 + 1 + 1 + 1, 0, none⟩) 2 2) (.slice (some ⟨w.heap.size + 1 + 1 + 1 + 1 + 1 + 1 + 1, 0, none⟩) 2 2) (.slice (some ⟨w.heap.size + 1 + 1 + 1 + 1 + 1 + 1 + 1 + 1, 0, none⟩) 3 3) 27).alloc (.cells #[.int .i64 40, .int .i64 42] 41)).alloc (.cells #[.int .i64 44, .int .i64 44] 41)).alloc (.cells #[.int .i64 40, .int .i64 42, .int .i64 44, .int .i64 44] 41)).alloc (.cells #[.int .i64 0, .int .i64 5] 3)).alloc (.cells #[.int .i64 5, .int .i64 0] 3)).alloc
    (.cells #[.slice (some ⟨w.heap.size + 1 + 1 + 1 + 1, 0, none⟩) 2 2, .slice (some ⟨w.heap.size + 1 + 1 + 1 + 1 + 1, 0, none⟩) 2 2] 24)).alloc (.cells #[.int .i64 10, .int .i64 20] 3)).alloc (.cells #[.int .i64 0, .int .i64 0, .int .i64 0, .int .i64 100, .int .i64 120, .int .i64 1, .int .i64 0, .int .i64 0, .int .i64 110, .int .i64 130, .int .i64 0, .int .i64 1, .int .i64 1, .int .i64 145, .int .i64 160] 30)
  unfold nightC at hN
  obtain ⟨w5, hw5, K⟩ := K.name
  rw [hw5] at hN ⊢
  have y0 := K.c (b := w.heap.size) (o := 0) (v := .slice (some ⟨w.heap.size + 1 + 1 + 1, 0, none⟩) 2 2) (by simp)
  have y1 := K.c (b := w.heap.size) (o := 1) (v := .slice (some ⟨w.heap.size + 1 + 1 + 1 + 1 + 1 + 1, 0, none⟩) 2 2) (by simp)
  have y2 := K.c (b := w.heap.size) (o := 2) (v := .slice (some ⟨w.heap.size + 1 + 1 + 1 + 1 + 1 + 1 + 1, 0, none⟩) 2 2) (by simp)
  have y3 := K.c (b := w.heap.size) (o := 3) (v := .slice (some ⟨w.heap.size + 1 + 1 + 1 + 1 + 1 + 1 + 1 + 1, 0, none⟩) 3 3) (by simp)
  exact bodyPost_ret (v := plotV (.slice (some ⟨w.heap.size + 1 + 1 + 1, 0, none⟩) 2 2) (.slice (some ⟨w.heap.size + 1 + 1 + 1 + 1 + 1 + 1, 0, none⟩) 2 2) (.slice (some ⟨w.heap.size + 1 + 1 + 1 + 1 + 1 + 1 + 1, 0, none⟩) 2 2) (.slice (some ⟨w.heap.size + 1 + 1 + 1 + 1 + 1 + 1 + 1 + 1, 0, none⟩) 3 3)) (by simp [results, Tryd.results4, go_sem, y0, y1, y2, y3, plotV]) rfl ⟨w.heap.size + 1 + 1 + 1, rfl, by omega, hN, K.below⟩

def rackC : Array Value := #[.int .i64 0, .int .i64 38, .int .i64 42, .int .i64 50, .int .i64 0, .int .i64 0, .int .i64 40, .int .i64 46, .int .i64 80, .int .i64 10, .int .i64 1, .int .i64 30, .int .i64 50, .int .i64 30, .int .i64 0]
def oddC : Array Value := #[.int .i64 0, .int .i64 41, .int .i64 46, .int .i64 50, .int .i64 0, .int .i64 0, .int .i64 40, .int .i64 46, .int .i64 80, .int .i64 10, .int .i64 1, .int .i64 30, .int .i64 50, .int .i64 30, .int .i64 0]
/-- a rack's block -/
def RackAt (g : Nat) (c : Array Value) (w : World) : Prop := w.heap[g]? = some (.cells c 44 (0, 0))
theorem RackAt.below {g : Nat} {c : Array Value} {w w' : World} (h : RackAt g c w) (hb : Below w.heap.size w w') : RackAt g c w' := (hb.block _ (heap_lt h)).trans h
theorem RackAt.rack {g : Nat} {w : World} (h : RackAt g rackC w) : ItemsAt none w (.slice (some ⟨g, 0, none⟩) 3 3) rackI :=
  recs_blk encItem noItem itemCell (fun _ => rfl) encItem_at h [] rackI rfl 0 rfl 3 rfl (by decide)
theorem RackAt.odd {g : Nat} {w : World} (h : RackAt g oddC w) : ItemsAt none w (.slice (some ⟨g, 0, none⟩) 3 3) oddI :=
  recs_blk encItem noItem itemCell (fun _ => rfl) encItem_at h [] oddI rfl 0 rfl 3 rfl (by decide)
theorem RackAt.tail {g : Nat} {w : World} (h : RackAt g rackC w) : ItemsAt none w (.slice (some ⟨g, 5, none⟩) 2 2) rackT :=
  recs_blk encItem noItem itemCell (fun _ => rfl) encItem_at h [.int .i64 0, .int .i64 38, .int .i64 42, .int .i64 50, .int .i64 0] rackT rfl 5 rfl 2 rfl (by decide)

set_option maxHeartbeats 2000000 in
set_option maxRecDepth 100000 in
theorem rack_own (w : World) : Calls Tryd.prog 9 #[] w fun e w' => ∃ g, e = .returned (.slice (some ⟨g, 0, none⟩) 3 3) ∧ RackAt g rackC w' ∧ w.heap.size ≤ g ∧ Below w.heap.size w w' := by
  go_enter Tryd.func9, Tryd.ntmps9
  go_wp2_with (go_at_call 10; refine (span_any _ _ _).mono ?_; rintro e w2 ⟨rfl, rfl⟩)
  have h := heap_alloc_new (((w.alloc (.cells #[.int .i64 38, .int .i64 42] 41)).alloc (.cells #[.int .i64 40, .int .i64 46] 41)).alloc (.cells #[.int .i64 30, .int .i64 50] 41)) (.cells rackC 44)
  have e : (((w.alloc (.cells #[.int .i64 38, .int .i64 42] 41)).alloc (.cells #[.int .i64 40, .int .i64 46] 41)).alloc (.cells #[.int .i64 30, .int .i64 50] 41)).heap.size = w.heap.size + 1 + 1 + 1 := by simp
  rw [e] at h
  go_ret
  exact ⟨_, rfl, h, by omega, below_trans (below_alloc _ _) (below_trans (below_alloc _ _) (below_trans (below_alloc _ _) (below_alloc _ _)))⟩
end Go.Proofs.YtoipcbmbhjajfaaDoor
