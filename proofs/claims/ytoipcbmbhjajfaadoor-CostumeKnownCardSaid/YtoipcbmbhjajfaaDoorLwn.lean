/-
  WALKS: CostumeKnown.
-/
import Derived.Test.YtoipcbmbhjajfaaDoorKno
import Derived.Test.YtoipcbmbhjajfaaDoorCsh
import Derived.Test.YtoipcbmbhjajfaaDoorBwc
import Derived.Deep.CutRange
namespace Go.Proofs.YtoipcbmbhjajfaaDoor
open Go.RowKit

/-- three nights in boxes: where their blocks lie -/
structure Ord3 (s n1 P1 n2 P2 n3 P3 T : Nat) : Prop where
  a : s ≤ n1
  b : n1 + 4 < P1
  c : P1 < n2
  d : n2 + 4 < P2
  e : P2 < n3
  f : n3 + 4 < P3
  g : P3 < T
def cells1 (a : Bool) : Array Value := match a with | true => nightC.setIfInBounds 13 (.int .i64 144) | false => nightC
def cells2 (a : Bool) : Array Value := match a with | true => nightC.setIfInBounds 5 (.int .i64 0) | false => nightC
def cells3a (a : Bool) : Array Value := match a with | true => nightC.setIfInBounds 12 (.int .i64 0) | false => nightC
def cells3 (a b : Bool) : Array Value := match b with | true => (cells3a a).setIfInBounds 13 (.int .i64 125) | false => cells3a a
def plotCells (n P : Nat) : Array Value := #[.slice (some ⟨n, 0, none⟩) 2 2, .slice (some ⟨n + 3, 0, none⟩) 2 2, .slice (some ⟨n + 4, 0, none⟩) 2 2, .slice (some ⟨P, 0, none⟩) 3 3]
structure Kn3 (w0 : World) (T n1 P1 n2 P2 n3 P3 : Nat) (a b c d : Bool) (w : World) : Prop where
  t1 : w.heap[T]? = some (.cells (plotCells n1 P1) 27 (0, 0))
  t2 : w.heap[T + 1]? = some (.cells (plotCells n2 P2) 27 (0, 0))
  t3 : w.heap[T + 1 + 1]? = some (.cells (plotCells n3 P3) 27 (0, 0))
  a1 : NightAt n1 P1 (cells1 a) w
  a2 : NightAt n2 P2 (cells2 b) w
  a3 : NightAt n3 P3 (cells3 c d) w
  bel : Below w0.heap.size w0 w
section
variable {w0 : World} {T n1 P1 n2 P2 n3 P3 : Nat} {a b c d : Bool} {w w' : World}
theorem Kn3.below (k : Kn3 w0 T n1 P1 n2 P2 n3 P3 a b c d w) (hb : Below w.heap.size w w') : Kn3 w0 T n1 P1 n2 P2 n3 P3 a b c d w' :=
  ⟨(hb.block _ (heap_lt k.t1)).trans k.t1, (hb.block _ (heap_lt k.t2)).trans k.t2, (hb.block _ (heap_lt k.t3)).trans k.t3, k.a1.below hb, k.a2.below hb, k.a3.below hb, below_trans k.bel hb⟩
theorem Kn3.drew (k : Kn3 w0 T n1 P1 n2 P2 n3 P3 a b c d w) : Kn3 w0 T n1 P1 n2 P2 n3 P3 a b c d w.drew := k.below (Below.refl _ _).drew
theorem Kn3.s1 (N : Ord3 w0.heap.size n1 P1 n2 P2 n3 P3 T) (k : Kn3 w0 T n1 P1 n2 P2 n3 P3 false b c d w) : Kn3 w0 T n1 P1 n2 P2 n3 P3 true b c d (w.setCell ⟨P1, 13, none⟩ (.int .i64 144)) := by
  obtain ⟨na, nb, nc, nd, ne, nf, ng⟩ := N
  exact ⟨heap_far k.t1 (by omega), heap_far k.t2 (by omega), heap_far k.t3 (by omega), k.a1.put (by omega), k.a2.far (by omega) (by omega), k.a3.far (by omega) (by omega), k.bel.setCell (p := ⟨P1, 13, none⟩) (by show w0.heap.size ≤ P1; omega) _⟩
theorem Kn3.s2 (N : Ord3 w0.heap.size n1 P1 n2 P2 n3 P3 T) (k : Kn3 w0 T n1 P1 n2 P2 n3 P3 a false c d w) : Kn3 w0 T n1 P1 n2 P2 n3 P3 a true c d (w.setCell ⟨P2, 5, none⟩ (.int .i64 0)) := by
  obtain ⟨na, nb, nc, nd, ne, nf, ng⟩ := N
  exact ⟨heap_far k.t1 (by omega), heap_far k.t2 (by omega), heap_far k.t3 (by omega), k.a1.far (by omega) (by omega), k.a2.put (by omega), k.a3.far (by omega) (by omega), k.bel.setCell (p := ⟨P2, 5, none⟩) (by show w0.heap.size ≤ P2; omega) _⟩
theorem Kn3.s3 (N : Ord3 w0.heap.size n1 P1 n2 P2 n3 P3 T) (k : Kn3 w0 T n1 P1 n2 P2 n3 P3 a b false d w) : Kn3 w0 T n1 P1 n2 P2 n3 P3 a b true d (w.setCell ⟨P3, 12, none⟩ (.int .i64 0)) := by
  obtain ⟨na, nb, nc, nd, ne, nf, ng⟩ := N
  refine ⟨heap_far k.t1 (by omega), heap_far k.t2 (by omega), heap_far k.t3 (by omega), k.a1.far (by omega) (by omega), k.a2.far (by omega) (by omega), ?_, k.bel.setCell (p := ⟨P3, 12, none⟩) (by show w0.heap.size ≤ P3; omega) _⟩
  cases d
  · exact k.a3.put (i := 12) (u := .int .i64 0) (by omega)
  · exact k.a3.put (i := 12) (u := .int .i64 0) (by omega)
theorem Kn3.s4 (N : Ord3 w0.heap.size n1 P1 n2 P2 n3 P3 T) (k : Kn3 w0 T n1 P1 n2 P2 n3 P3 a b c false w) : Kn3 w0 T n1 P1 n2 P2 n3 P3 a b c true (w.setCell ⟨P3, 13, none⟩ (.int .i64 125)) := by
  obtain ⟨na, nb, nc, nd, ne, nf, ng⟩ := N
  exact ⟨heap_far k.t1 (by omega), heap_far k.t2 (by omega), heap_far k.t3 (by omega), k.a1.far (by omega) (by omega), k.a2.far (by omega) (by omega), k.a3.put (by omega), k.bel.setCell (p := ⟨P3, 13, none⟩) (by show w0.heap.size ≤ P3; omega) _⟩
theorem Kn3.loads (k : Kn3 w0 T n1 P1 n2 P2 n3 P3 a b c d w) : w.cell? ⟨T, 3, none⟩ = some (.slice (some ⟨P1, 0, none⟩) 3 3) ∧ w.cell? ⟨T + 1, 3, none⟩ = some (.slice (some ⟨P2, 0, none⟩) 3 3) ∧ w.cell? ⟨T + 1 + 1, 3, none⟩ = some (.slice (some ⟨P3, 0, none⟩) 3 3) :=
  ⟨by rw [Lib.cell_of_heap k.t1]; rfl, by rw [Lib.cell_of_heap k.t2]; rfl, by rw [Lib.cell_of_heap k.t3]; rfl⟩
theorem Kn3.room (k : Kn3 w0 T n1 P1 n2 P2 n3 P3 a b c d w) : ((∃ u, w.cell? ⟨P1, 13, none⟩ = some u) ∧ w.frozen? ⟨P1, 13, none⟩ = false) ∧ ((∃ u, w.cell? ⟨P2, 5, none⟩ = some u) ∧ w.frozen? ⟨P2, 5, none⟩ = false) ∧ ((∃ u, w.cell? ⟨P3, 12, none⟩ = some u) ∧ w.frozen? ⟨P3, 12, none⟩ = false) ∧ ((∃ u, w.cell? ⟨P3, 13, none⟩ = some u) ∧ w.frozen? ⟨P3, 13, none⟩ = false) := by
  refine ⟨⟨?_, Lib.frozen_of_heap k.a1.b5 _⟩, ⟨?_, Lib.frozen_of_heap k.a2.b5 _⟩, ⟨?_, Lib.frozen_of_heap k.a3.b5 _⟩, ⟨?_, Lib.frozen_of_heap k.a3.b5 _⟩⟩
  · rw [Lib.cell_of_heap k.a1.b5]; cases a <;> exact ⟨_, rfl⟩
  · rw [Lib.cell_of_heap k.a2.b5]; cases b <;> exact ⟨_, rfl⟩
  · rw [Lib.cell_of_heap k.a3.b5]; cases c <;> cases d <;> exact ⟨_, rfl⟩
  · rw [Lib.cell_of_heap k.a3.b5]; cases c <;> cases d <;> exact ⟨_, rfl⟩
theorem Kn3.early (k : Kn3 w0 T n1 P1 n2 P2 n3 P3 true b c d w) : PlotAt none w (.slice (some ⟨n1, 0, none⟩) 2 2) (.slice (some ⟨n1 + 3, 0, none⟩) 2 2) (.slice (some ⟨n1 + 4, 0, none⟩) 2 2) (.slice (some ⟨P1, 0, none⟩) 3 3) earlyP := k.a1.plot earlyP.parts rfl rfl
theorem Kn3.both (k : Kn3 w0 T n1 P1 n2 P2 n3 P3 a true c d w) : PlotAt none w (.slice (some ⟨n2, 0, none⟩) 2 2) (.slice (some ⟨n2 + 3, 0, none⟩) 2 2) (.slice (some ⟨n2 + 4, 0, none⟩) 2 2) (.slice (some ⟨P2, 0, none⟩) 3 3) bothP := k.a2.plot bothP.parts rfl rfl
theorem Kn3.same (k : Kn3 w0 T n1 P1 n2 P2 n3 P3 a b true true w) : PlotAt none w (.slice (some ⟨n3, 0, none⟩) 2 2) (.slice (some ⟨n3 + 3, 0, none⟩) 2 2) (.slice (some ⟨n3 + 4, 0, none⟩) 2 2) (.slice (some ⟨P3, 0, none⟩) 3 3) sameP := k.a3.plot sameP.parts rfl rfl
theorem box_cells {n P Z : Nat} (h : w.heap[Z]? = some (.cells (plotCells n P) 27 (0, 0))) : w.cell? ⟨Z, 0, none⟩ = some (.slice (some ⟨n, 0, none⟩) 2 2) ∧ w.cell? ⟨Z, 1, none⟩ = some (.slice (some ⟨n + 3, 0, none⟩) 2 2) ∧ w.cell? ⟨Z, 2, none⟩ = some (.slice (some ⟨n + 4, 0, none⟩) 2 2) ∧ w.cell? ⟨Z, 3, none⟩ = some (.slice (some ⟨P, 0, none⟩) 3 3) :=
  ⟨by rw [Lib.cell_of_heap h]; rfl, by rw [Lib.cell_of_heap h]; rfl, by rw [Lib.cell_of_heap h]; rfl, by rw [Lib.cell_of_heap h]; rfl⟩
end

theorem run4_int (w : World) (x0 x1 x2 x3 : Int) : (Instr.buildSlice 24 4 #[(0, .int .i64 x0), (1, .int .i64 x1), (2, .int .i64 x2), (3, .int .i64 x3)]).run Tryd.prog w =
    .ok (.slice (some ⟨w.heap.size, 0, none⟩) 4 4) (w.alloc (.cells #[.int .i64 x0, .int .i64 x1, .int .i64 x2, .int .i64 x3] 3)) := by
  kernel_rfl
theorem run4_err (w : World) (x0 x1 x2 x3 : Int) : (Instr.buildSlice 47 4 #[(0, .int .i64 x0), (1, .int .i64 x1), (2, .int .i64 x2), (3, .int .i64 x3)]).run Tryd.prog w =
    .ok (.slice (some ⟨w.heap.size, 0, none⟩) 4 4) (w.alloc (.cells #[.int .i64 x0, .int .i64 x1, .int .i64 x2, .int .i64 x3] 32)) := by
  kernel_rfl
theorem run4_rows (w : World) (a b c d : Option Addr) (n m l k i j h q : Nat) : (Instr.buildSlice 23 4 #[(0, .slice a n i), (1, .slice b m j), (2, .slice c l h), (3, .slice d k q)]).run Tryd.prog w =
    .ok (.slice (some ⟨w.heap.size, 0, none⟩) 4 4) (w.alloc (.cells #[.slice a n i, .slice b m j, .slice c l h, .slice d k q] 24)) := by
  kernel_rfl
theorem run4_racks (w : World) (a b c d : Option Addr) (n m l k i j h q : Nat) : (Instr.buildSlice 45 4 #[(0, .slice a n i), (1, .slice b m j), (2, .slice c l h), (3, .slice d k q)]).run Tryd.prog w =
    .ok (.slice (some ⟨w.heap.size, 0, none⟩) 4 4) (w.alloc (.cells #[.slice a n i, .slice b m j, .slice c l h, .slice d k q] 38)) := by
  kernel_rfl
theorem wpList_four {t e : TypeId} {cells : Array Value} {w : World} {ops : Array Oper} {rest : List Oper} {a : Act} {Q : Exit → Act → World → Prop} {o : Oper} (hgd : o.guard = none) (s0 s1 s2 s3 : Operand) (x0 x1 x2 x3 : Value)
    (ho : o.op = .buildSlice t 4 #[(0, s0), (1, s1), (2, s2), (3, s3)]) (h0 : a.eval s0 = x0) (h1 : a.eval s1 = x1) (h2 : a.eval s2 = x2) (h3 : a.eval s3 = x3)
    (hr : (Instr.buildSlice t 4 #[(0, x0), (1, x1), (2, x2), (3, x3)]).run Tryd.prog w = .ok (.slice (some ⟨w.heap.size, 0, none⟩) 4 4) (w.alloc (.cells cells e)))
    (h : wpList Tryd.prog ops Q rest (a.put o.dst (.slice (some ⟨w.heap.size, 0, none⟩) 4 4)) (w.alloc (.cells cells e))) :
    wpList Tryd.prog ops Q (o :: rest) a w := wpList_plain hgd fun _ hK => by
  unfold Oper.wp execOp
  simp only [ho]
  have e : (#[(0, s0), (1, s1), (2, s2), (3, s3)].map fun (p : Nat × Operand) => (p.1, a.eval p.2)) = #[(0, x0), (1, x1), (2, x2), (3, x3)] := by
    simp [h0, h1, h2, h3]
  rw [e]
  simp only [Sem.run_bind, Sem.run_pure, Result.andThen_ok, hr]
  exact hK _ _ h

theorem wpList_four_int {w : World} {ops : Array Oper} {rest : List Oper} {a : Act} {Q : Exit → Act → World → Prop} {o : Oper} (hgd : o.guard = none) (s0 s1 s2 s3 : Operand) (x0 x1 x2 x3 : Int)
    (ho : o.op = .buildSlice 24 4 #[(0, s0), (1, s1), (2, s2), (3, s3)]) (h0 : a.eval s0 = .int .i64 x0) (h1 : a.eval s1 = .int .i64 x1) (h2 : a.eval s2 = .int .i64 x2) (h3 : a.eval s3 = .int .i64 x3)
    (h : wpList Tryd.prog ops Q rest (a.put o.dst (.slice (some ⟨w.heap.size, 0, none⟩) 4 4)) (w.alloc (.cells #[.int .i64 x0, .int .i64 x1, .int .i64 x2, .int .i64 x3] 3))) :
    wpList Tryd.prog ops Q (o :: rest) a w := wpList_four hgd s0 s1 s2 s3 _ _ _ _ ho h0 h1 h2 h3 (run4_int w x0 x1 x2 x3) h
theorem wpList_four_err {w : World} {ops : Array Oper} {rest : List Oper} {a : Act} {Q : Exit → Act → World → Prop} {o : Oper} (hgd : o.guard = none) (s0 s1 s2 s3 : Operand) (x0 x1 x2 x3 : Int)
    (ho : o.op = .buildSlice 47 4 #[(0, s0), (1, s1), (2, s2), (3, s3)]) (h0 : a.eval s0 = .int .i64 x0) (h1 : a.eval s1 = .int .i64 x1) (h2 : a.eval s2 = .int .i64 x2) (h3 : a.eval s3 = .int .i64 x3)
    (h : wpList Tryd.prog ops Q rest (a.put o.dst (.slice (some ⟨w.heap.size, 0, none⟩) 4 4)) (w.alloc (.cells #[.int .i64 x0, .int .i64 x1, .int .i64 x2, .int .i64 x3] 32))) :
    wpList Tryd.prog ops Q (o :: rest) a w := wpList_four hgd s0 s1 s2 s3 _ _ _ _ ho h0 h1 h2 h3 (run4_err w x0 x1 x2 x3) h
theorem wpList_four_rows {w : World} {ops : Array Oper} {rest : List Oper} {a : Act} {Q : Exit → Act → World → Prop} {o : Oper} (hgd : o.guard = none) (s0 s1 s2 s3 : Operand) (a0 a1 a2 a3 : Option Addr) (m0 m1 m2 m3 c0 c1 c2 c3 : Nat)
    (ho : o.op = .buildSlice 23 4 #[(0, s0), (1, s1), (2, s2), (3, s3)]) (h0 : a.eval s0 = .slice a0 m0 c0) (h1 : a.eval s1 = .slice a1 m1 c1) (h2 : a.eval s2 = .slice a2 m2 c2) (h3 : a.eval s3 = .slice a3 m3 c3)
    (h : wpList Tryd.prog ops Q rest (a.put o.dst (.slice (some ⟨w.heap.size, 0, none⟩) 4 4)) (w.alloc (.cells #[.slice a0 m0 c0, .slice a1 m1 c1, .slice a2 m2 c2, .slice a3 m3 c3] 24))) :
    wpList Tryd.prog ops Q (o :: rest) a w := wpList_four hgd s0 s1 s2 s3 _ _ _ _ ho h0 h1 h2 h3 (run4_rows w a0 a1 a2 a3 m0 m1 m2 m3 c0 c1 c2 c3) h
theorem wpList_four_racks {w : World} {ops : Array Oper} {rest : List Oper} {a : Act} {Q : Exit → Act → World → Prop} {o : Oper} (hgd : o.guard = none) (s0 s1 s2 s3 : Operand) (a0 a1 a2 a3 : Option Addr) (m0 m1 m2 m3 c0 c1 c2 c3 : Nat)
    (ho : o.op = .buildSlice 45 4 #[(0, s0), (1, s1), (2, s2), (3, s3)]) (h0 : a.eval s0 = .slice a0 m0 c0) (h1 : a.eval s1 = .slice a1 m1 c1) (h2 : a.eval s2 = .slice a2 m2 c2) (h3 : a.eval s3 = .slice a3 m3 c3)
    (h : wpList Tryd.prog ops Q rest (a.put o.dst (.slice (some ⟨w.heap.size, 0, none⟩) 4 4)) (w.alloc (.cells #[.slice a0 m0 c0, .slice a1 m1 c1, .slice a2 m2 c2, .slice a3 m3 c3] 38))) :
    wpList Tryd.prog ops Q (o :: rest) a w := wpList_four hgd s0 s1 s2 s3 _ _ _ _ ho h0 h1 h2 h3 (run4_racks w a0 a1 a2 a3 m0 m1 m2 m3 c0 c1 c2 c3) h

/-- a block that is known whole -/
def Blk (g : Nat) (cs : Array Value) (t : TypeId) (w : World) : Prop := w.heap[g]? = some (.cells cs t (0, 0))
theorem Blk.below {g : Nat} {cs : Array Value} {t : TypeId} {w w' : World} (h : Blk g cs t w) (hb : Below w.heap.size w w') : Blk g cs t w' := (hb.block _ (heap_lt h)).trans h
theorem Blk.cell {g : Nat} {cs : Array Value} {t : TypeId} {w : World} (h : Blk g cs t w) (o : Nat) : w.cell? ⟨g, o, none⟩ = cs[o]? := Lib.cell_of_heap h o
theorem Blk.new (w : World) (cs : Array Value) (t : TypeId) {g : Nat} (hg : g = w.heap.size) : Blk g cs t (w.alloc (.cells cs t)) := by subst hg; exact heap_alloc_new w _
theorem Blk.ints {g : Nat} {cs : Array Value} {w : World} (h : Blk g cs 3 w) (xs : List Int) (hc : cs.toList = xs.map (Value.int .i64)) {n : Nat} (hn : n = xs.length) (hm : xs.length ≤ 100) : IntsAt none w (.slice (some ⟨g, 0, none⟩) n n) xs :=
  IntsAt.rec.2 (recs_blk (k := 1) encInt 0 (fun x _ => .int .i64 x) (fun _ => rfl) (fun x j hj => by obtain rfl : j = 0 := (by omega); rfl) h [] xs (by rw [flat_int]; simpa using hc) 0 rfl n hn (by omega))
def fitP (k : Nat) : Int := [0, 1, 1, 0].getD k 0
def fitI (k : Nat) : Int := [0, 0, 1, 0].getD k 0
def fitV (k : Nat) : Int := [1, 2, 1, 3].getD k 0
def fitR (k : Nat) : List Item := if k = 3 then oddI else rackI
theorem fit_row (k : Nat) (hk : k < 4) : fitcErr nightP (fitR k) (fitP k) (fitI k) = 0 ∧ fitcRes nightP (fitR k) (fitP k) (fitI k) = fitV k := by
  rcases (by omega : k = 0 ∨ k = 1 ∨ k = 2 ∨ k = 3) with rfl | rfl | rfl | rfl
  · exact kn_fit0
  · exact kn_fit1
  · exact kn_fit2
  · exact kn_fit3
def wearL (k : Nat) : List Int := [[0, 1, 2], [0, 0, 2], [1, 1, 2], [0, 1, 0]].getD k []
def wearV (k : Nat) : Int := [0, 10, 11, 3].getD k 0
theorem wear_row (k : Nat) (hk : k < 4) : wearErr nightP rackI (wearL k) = wearV k := by
  rcases (by omega : k = 0 ∨ k = 1 ∨ k = 2 ∨ k = 3) with rfl | rfl | rfl | rfl
  · exact kn_wear.1
  · exact kn_wear.2.1
  · exact kn_wear.2.2.1
  · exact kn_wear.2.2.2

/-- four lists of three numbers, a list of them, four errors -/
theorem wears_new (X : World) : ∃ W, ((((((X.alloc (.cells #[.int .i64 0, .int .i64 1, .int .i64 2] 3)).alloc (.cells #[.int .i64 0, .int .i64 0, .int .i64 2] 3)).alloc (.cells #[.int .i64 1, .int .i64 1, .int .i64 2] 3)).alloc (.cells #[.int .i64 0, .int .i64 1, .int .i64 0] 3)).alloc
      (.cells #[.slice (some ⟨X.heap.size, 0, none⟩) 3 3, .slice (some ⟨X.heap.size + 1, 0, none⟩) 3 3, .slice (some ⟨X.heap.size + 1 + 1, 0, none⟩) 3 3, .slice (some ⟨X.heap.size + 1 + 1 + 1, 0, none⟩) 3 3] 24)).alloc (.cells #[.int .i64 0, .int .i64 10, .int .i64 11, .int .i64 3] 32)) = W ∧
    (Blk X.heap.size #[.int .i64 0, .int .i64 1, .int .i64 2] 3 W ∧ Blk (X.heap.size + 1) #[.int .i64 0, .int .i64 0, .int .i64 2] 3 W ∧ Blk (X.heap.size + 1 + 1) #[.int .i64 1, .int .i64 1, .int .i64 2] 3 W ∧ Blk (X.heap.size + 1 + 1 + 1) #[.int .i64 0, .int .i64 1, .int .i64 0] 3 W ∧
    Blk (X.heap.size + 1 + 1 + 1 + 1) #[.slice (some ⟨X.heap.size, 0, none⟩) 3 3, .slice (some ⟨X.heap.size + 1, 0, none⟩) 3 3, .slice (some ⟨X.heap.size + 1 + 1, 0, none⟩) 3 3, .slice (some ⟨X.heap.size + 1 + 1 + 1, 0, none⟩) 3 3] 24 W ∧ Blk (X.heap.size + 1 + 1 + 1 + 1 + 1) #[.int .i64 0, .int .i64 10, .int .i64 11, .int .i64 3] 32 W) ∧ Below X.heap.size X W :=
  ⟨_, rfl, ⟨((((((Blk.new X _ _ rfl).below (below_alloc _ _)).below (below_alloc _ _)).below (below_alloc _ _)).below (below_alloc _ _)).below (below_alloc _ _)), (((((Blk.new _ _ _ (by simp)).below (below_alloc _ _)).below (below_alloc _ _)).below (below_alloc _ _)).below (below_alloc _ _)), ((((Blk.new _ _ _ (by simp)).below (below_alloc _ _)).below (below_alloc _ _)).below (below_alloc _ _)), (((Blk.new _ _ _ (by simp)).below (below_alloc _ _)).below (below_alloc _ _)), ((Blk.new _ _ _ (by simp)).below (below_alloc _ _)), (Blk.new _ _ _ (by simp))⟩,
    below_trans (below_trans (below_trans (below_trans (below_trans (below_alloc _ _) (below_alloc _ _)) (below_alloc _ _)) (below_alloc _ _)) (below_alloc _ _)) (below_alloc _ _)⟩

theorem boxes_new (w3 : World) (A B C : Obj) : ((((w3.alloc A).alloc B).alloc C).heap[w3.heap.size]? = some A ∧ (((w3.alloc A).alloc B).alloc C).heap[w3.heap.size + 1]? = some B) ∧ (((w3.alloc A).alloc B).alloc C).heap[w3.heap.size + 1 + 1]? = some C := by
  have h1 : (w3.alloc A).heap.size = w3.heap.size + 1 := by simp
  have h2 : ((w3.alloc A).alloc B).heap.size = w3.heap.size + 1 + 1 := by simp
  refine ⟨⟨?_, ?_⟩, ?_⟩
  · rw [alloc_get, if_neg (by omega), alloc_get, if_neg (by omega), alloc_get, if_pos rfl]
  · rw [alloc_get, if_neg (by omega), alloc_get, if_pos (by omega)]
  · rw [alloc_get, if_pos (by omega)]

set_option maxHeartbeats 8000000 in
set_option maxRecDepth 100000 in
theorem known_any (w : World) (ht : Tab w) : Calls Tryd.prog 3 #[] w fun e w' => e = .returned (.bool true) ∧ Below w.heap.size w w' := by
  have HT := hid ht
  clear ht
  go_enter Tryd.func3, Tryd.ntmps3
  go_wp2_with fail
  refine (night_own _).mono ?_
  rintro e w1 ⟨m1, rfl, hm1, hn1, hb1⟩
  go_wp2_with fail
  refine (night_own _).mono ?_
  rintro e w2 ⟨m2, rfl, hm2, hn2, hb2⟩
  go_wp2_with fail
  refine (night_own _).mono ?_
  rintro e w3 ⟨m3, rfl, hm3, hn3, hb3⟩
  have l1 := heap_lt hn1.b5
  have l2 := heap_lt hn2.b5
  have l3 := heap_lt hn3.b5
  have hN := hid (show Ord3 w.heap.size m1 (m1 + 5) m2 (m2 + 5) m3 (m3 + 5) w3.heap.size from ⟨hm1, by omega, by omega, by omega, by omega, by omega, l3⟩)
  have hK := hid (show NightAt m1 (m1 + 5) nightC w3 ∧ NightAt m2 (m2 + 5) nightC w3 ∧ NightAt m3 (m3 + 5) nightC w3 ∧ Below w.heap.size w w3 from ⟨(hn1.below hb2).below hb3, hn2.below hb3, hn3, below_trans (below_trans hb1 hb2) hb3⟩)
  clear hb1 hb2 hb3 hn1 hn2 hn3 l1 l2 l3 hm1 hm2 hm3
  obtain ⟨P1, hP1⟩ : ∃ P1, m1 + 5 = P1 := ⟨_, rfl⟩
  obtain ⟨P2, hP2⟩ : ∃ P2, m2 + 5 = P2 := ⟨_, rfl⟩
  obtain ⟨P3, hP3⟩ : ∃ P3, m3 + 5 = P3 := ⟨_, rfl⟩
  rw [hP1, hP2, hP3] at hN hK
  rw [hP1, hP2, hP3]
  clear hP1 hP2 hP3
  unfold nightV plotV
  go_wp2_with fail
  have hq : ∃ wS, wS = (((w3.alloc (.cells (plotCells m1 P1) 27)).alloc (.cells (plotCells m2 P2) 27)).alloc (.cells (plotCells m3 P3) 27)) ∧ Kn3 w w3.heap.size m1 P1 m2 P2 m3 P3 false false false false wS := by
    obtain ⟨h1, h2, h3, hb⟩ := hK.out
    have b1 := below_alloc w3 (.cells (plotCells m1 P1) 27)
    have b2 := below_alloc (w3.alloc (.cells (plotCells m1 P1) 27)) (.cells (plotCells m2 P2) 27)
    have b3 := below_alloc ((w3.alloc (.cells (plotCells m1 P1) 27)).alloc (.cells (plotCells m2 P2) 27)) (.cells (plotCells m3 P3) 27)
    have q := below_trans (below_trans b1 b2) b3
    have hx := boxes_new w3 (.cells (plotCells m1 P1) 27) (.cells (plotCells m2 P2) 27) (.cells (plotCells m3 P3) 27)
    exact ⟨_, rfl, hx.1.1, hx.1.2, hx.2, h1.below q, h2.below q, h3.below q, below_trans hb q⟩
  obtain ⟨wS, hwS, hSt⟩ := hq
  unfold plotCells at hwS
  rw [← hwS]
  have K0 := hid hSt
  obtain ⟨T, hT⟩ : ∃ T, w3.heap.size = T := ⟨_, rfl⟩
  rw [hT] at K0 hN ⊢
  clear hwS hSt hK hT
  have n12 : ¬ (P1 = P2) := by obtain ⟨na, nb, nc, nd, ne, nf, ng⟩ := hN.out; omega
  have n13 : ¬ (P1 = P3) := by obtain ⟨na, nb, nc, nd, ne, nf, ng⟩ := hN.out; omega
  have n23 : ¬ (P2 = P3) := by obtain ⟨na, nb, nc, nd, ne, nf, ng⟩ := hN.out; omega
  have n21 : ¬ (P2 = P1) := fun e => n12 e.symm
  have n31 : ¬ (P3 = P1) := fun e => n13 e.symm
  have n32 : ¬ (P3 = P2) := fun e => n23 e.symm
  have p1 : ¬ (P1 = T) := by obtain ⟨na, nb, nc, nd, ne, nf, ng⟩ := hN.out; omega
  have p2 : ¬ (P1 = T + 1) := by obtain ⟨na, nb, nc, nd, ne, nf, ng⟩ := hN.out; omega
  have p3 : ¬ (P1 = T + 1 + 1) := by obtain ⟨na, nb, nc, nd, ne, nf, ng⟩ := hN.out; omega
  have q1 : ¬ (P2 = T) := by obtain ⟨na, nb, nc, nd, ne, nf, ng⟩ := hN.out; omega
  have q2 : ¬ (P2 = T + 1) := by obtain ⟨na, nb, nc, nd, ne, nf, ng⟩ := hN.out; omega
  have q3 : ¬ (P2 = T + 1 + 1) := by obtain ⟨na, nb, nc, nd, ne, nf, ng⟩ := hN.out; omega
  have r1 : ¬ (P3 = T) := by obtain ⟨na, nb, nc, nd, ne, nf, ng⟩ := hN.out; omega
  have r2 : ¬ (P3 = T + 1) := by obtain ⟨na, nb, nc, nd, ne, nf, ng⟩ := hN.out; omega
  have r3 : ¬ (P3 = T + 1 + 1) := by obtain ⟨na, nb, nc, nd, ne, nf, ng⟩ := hN.out; omega
  have p1' : ¬ (T = P1) := fun e => p1 e.symm
  have p2' : ¬ (T + 1 = P1) := fun e => p2 e.symm
  have p3' : ¬ (T + 1 + 1 = P1) := fun e => p3 e.symm
  have q1' : ¬ (T = P2) := fun e => q1 e.symm
  have q2' : ¬ (T + 1 = P2) := fun e => q2 e.symm
  have q3' : ¬ (T + 1 + 1 = P2) := fun e => q3 e.symm
  have r1' : ¬ (T = P3) := fun e => r1 e.symm
  have r2' : ¬ (T + 1 = P3) := fun e => r2 e.symm
  have r3' : ¬ (T + 1 + 1 = P3) := fun e => r3 e.symm
  obtain ⟨z1, z2, z3⟩ := K0.out.loads
  obtain ⟨⟨⟨u1, b1⟩, c1⟩, ⟨⟨u2, b2⟩, c2⟩, ⟨⟨u3, b3⟩, c3⟩, ⟨⟨u4, b4⟩, c4⟩⟩ := K0.out.room
  go_cut [] from 32 to 47 (fun wx => Kn3 w T m1 P1 m2 P2 m3 P3 true true true true wx)
  case first =>
    go_region_held3 (fun w' => w'.cell? ⟨T, 3, none⟩ = some (.slice (some ⟨P1, 0, none⟩) 3 3) ∧ w'.cell? ⟨T + 1, 3, none⟩ = some (.slice (some ⟨P2, 0, none⟩) 3 3) ∧ w'.cell? ⟨T + 1 + 1, 3, none⟩ = some (.slice (some ⟨P3, 0, none⟩) 3 3))
      (first | go_keep | (apply Kn3.loads (w0 := w) (n1 := m1) (n2 := m2) (n3 := m3); repeat (first | exact K0.out | apply Kn3.drew | refine Kn3.s1 hN.out ?_ | refine Kn3.s2 hN.out ?_ | refine Kn3.s3 hN.out ?_ | refine Kn3.s4 hN.out ?_))) (fail)
    all_goals (
      go_wp2_with fail
      go_meet
      repeat (first | exact K0.out | apply Kn3.drew | refine Kn3.s1 hN.out ?_ | refine Kn3.s2 hN.out ?_ | refine Kn3.s3 hN.out ?_ | refine Kn3.s4 hN.out ?_))
  case rest =>
    obtain ⟨w5, rfl⟩ : ∃ w5 : World, w5 = wc := ⟨_, rfl⟩
    have K := hid hcut
    clear hcut n12 n13 n23 n21 n31 n32 p1 p2 p3 q1 q2 q3 r1 r2 r3 p1' p2' p3' q1' q2' q3' r1' r2' r3' z1 z2 z3 b1 c1 b2 c2 b3 c3 b4 c4 K0
    go_wp2_with fail
    refine (awake_any _).mono ?_
    rintro e w6 ⟨rfl, hb⟩
    have K := hid (K.out.below hb)
    clear hb
    go_wp2_with fail
    refine (night_own _).mono ?_
    rintro e w7 ⟨m, rfl, hm, hn, hb⟩
    have K := hid (K.out.below hb)
    have HPL := hid (hn.plot nightP.parts rfl rfl)
    clear hb hm hn
    unfold nightV
    go_wp2_with fail
    refine (ccheck_any nightP _ _ _ _ _ HPL.out).mono ?_
    rw [kn_check.1]
    rintro e w8 ⟨rfl, hb⟩
    have K := hid (K.out.below hb)
    obtain ⟨x0, x1, x2, x3⟩ := box_cells K.out.t1
    clear hb HPL
    go_wp2_with fail
    refine (ccheck_any earlyP _ _ _ _ _ K.out.early).mono ?_
    rw [kn_check.2.1]
    rintro e w9 ⟨rfl, hb⟩
    have K := hid (K.out.below hb)
    clear hb x0 x1 x2 x3
    obtain ⟨x0, x1, x2, x3⟩ := box_cells K.out.t2
    go_wp2_with fail
    refine (ccheck_any bothP _ _ _ _ _ K.out.both).mono ?_
    rw [kn_check.2.2.1]
    rintro e w10 ⟨rfl, hb⟩
    have K := hid (K.out.below hb)
    clear hb x0 x1 x2 x3
    obtain ⟨x0, x1, x2, x3⟩ := box_cells K.out.t3
    go_wp2_with fail
    refine (ccheck_any sameP _ _ _ _ _ K.out.same).mono ?_
    rw [kn_check.2.2.2]
    rintro e w11 ⟨rfl, hb⟩
    have HB := hid (K.out.below hb).bel
    clear hb x0 x1 x2 x3 K hN
    go_wp2_with fail
    refine (night_own _).mono ?_
    rintro e w12 ⟨mA, rfl, hm, hn, hb⟩
    have HB := hid (below_trans HB.out hb)
    have HPL := hid (hn.plot nightP.parts rfl rfl)
    clear hb hm hn
    unfold nightV
    go_wp2_with fail
    refine (at_any nightP 0 119 _ _ _ _ _ HPL.out).mono ?_
    rw [kn_atA.1, kn_atA.2]
    rintro e w13 ⟨rfl, hb⟩
    have HB := hid (below_trans HB.out hb)
    clear hb HPL
    go_wp2_with fail
    refine (night_own _).mono ?_
    rintro e w14 ⟨mB, rfl, hm, hn, hb⟩
    have HB := hid (below_trans HB.out hb)
    have HPL := hid (hn.plot nightP.parts rfl rfl)
    clear hb hm hn
    unfold nightV
    go_wp2_with fail
    refine (at_any nightP 0 120 _ _ _ _ _ HPL.out).mono ?_
    rw [kn_atB.1, kn_atB.2]
    rintro e w15 ⟨rfl, hb⟩
    have HB := hid (below_trans HB.out hb)
    clear hb HPL
    go_wp2_with fail
    refine (night_own _).mono ?_
    rintro e w16 ⟨mC, rfl, hm, hn, hb⟩
    have HB := hid (below_trans HB.out hb)
    have HPL := hid (hn.plot nightP.parts rfl rfl)
    clear hb hm hn
    unfold nightV
    go_wp2_with fail
    refine (most_any nightP 1 _ _ _ _ _ HPL.out).mono ?_
    rw [kn_most.1, kn_most.2]
    rintro e w17 ⟨rfl, hb⟩
    have HB := hid (below_trans HB.out hb)
    clear hb HPL
    dsimp only
    go_wp2_with fail
    refine (rack_own _).mono ?_
    rintro e w18 ⟨g, rfl, hr, hg, hb⟩
    have HG := hid (Nat.le_trans HB.out.size hg)
    have HB := hid (below_trans HB.out hb)
    have HR := hid hr
    clear hb hr hg
    have HR2 := hid (HR.out.below (below_alloc w18 (.cells #[.int .i64 41, .int .i64 46] 41)))
    have k1 : (w18.alloc (.cells #[.int .i64 41, .int .i64 46] 41)).cell? ⟨g, 1, none⟩ = some (.int .i64 38) := by rw [Lib.cell_of_heap HR2.out]; rfl
    have k2 : (w18.alloc (.cells #[.int .i64 41, .int .i64 46] 41)).cell? ⟨g, 1 + 1, none⟩ = some (.int .i64 42) := by rw [Lib.cell_of_heap HR2.out]; rfl
    have f1 : (w18.alloc (.cells #[.int .i64 41, .int .i64 46] 41)).frozen? ⟨g, 1, none⟩ = false := Lib.frozen_of_heap HR2.out _
    have f2 : (w18.alloc (.cells #[.int .i64 41, .int .i64 46] 41)).frozen? ⟨g, 1 + 1, none⟩ = false := Lib.frozen_of_heap HR2.out _
    go_wp2_with fail
    refine (span_any _ _ _).mono ?_
    rintro e w19 ⟨rfl, rfl⟩
    go_upto_region 12 with fail
    obtain ⟨wA, hwA⟩ : ∃ wA, ((w18.alloc (.cells #[.int .i64 41, .int .i64 46] 41)).setCell ⟨g, 1, none⟩ (.int .i64 41)).setCell ⟨g, 2, none⟩ (.int .i64 46) = wA := ⟨_, rfl⟩
    have HOd := hid (show RackAt g oddC wA from hwA ▸ heap_set (heap_set HR2.out))
    have HB := hid (show Below w.heap.size w wA from hwA ▸ ((below_trans HB.out (below_alloc _ _)).setCell (p := ⟨g, 1, none⟩) HG.out _).setCell (p := ⟨g, 2, none⟩) HG.out _)
    rw [hwA]
    clear hwA HR2 HR k1 k2 f1 f2 HG
    go_wp2_with (refine wpList_four_int rfl _ _ _ _ _ _ _ _ rfl rfl rfl rfl rfl ?_)
    have hq : ∃ wB, ((wA.alloc (.cells #[.int .i64 0, .int .i64 1, .int .i64 1, .int .i64 0] 3)).alloc (.cells #[.int .i64 0, .int .i64 0, .int .i64 1, .int .i64 0] 3)) = wB ∧ Blk wA.heap.size #[.int .i64 0, .int .i64 1, .int .i64 1, .int .i64 0] 3 wB ∧ Blk (wA.heap.size + 1) #[.int .i64 0, .int .i64 0, .int .i64 1, .int .i64 0] 3 wB ∧ Below wA.heap.size wA wB :=
      ⟨_, rfl, (Blk.new wA _ _ rfl).below (below_alloc _ _), Blk.new _ _ _ (by simp), below_trans (below_alloc _ _) (below_alloc _ _)⟩
    obtain ⟨wB, hwB, hp, hi, hb⟩ := hq
    rw [hwB]
    have HPB := hid hp
    have HIB := hid hi
    have HOd := hid (HOd.out.below hb)
    have HB := hid (below_trans HB.out hb)
    obtain ⟨PB, hPB⟩ : ∃ PB, wA.heap.size = PB := ⟨_, rfl⟩
    rw [hPB] at HPB HIB ⊢
    obtain ⟨IB, hIB⟩ : ∃ IB, PB + 1 = IB := ⟨_, rfl⟩
    rw [hIB] at HIB ⊢
    clear hwB hp hi hb hPB hIB
    refine (rack_own _).mono ?_
    rintro e w20 ⟨g1, rfl, hr, _, hb⟩
    have HPB := hid (HPB.out.below hb)
    have HIB := hid (HIB.out.below hb)
    have HOd := hid (HOd.out.below hb)
    have HB := hid (below_trans HB.out hb)
    have HR1 := hid hr
    clear hr hb
    go_wp2_with fail
    refine (rack_own _).mono ?_
    rintro e w21 ⟨g2, rfl, hr, _, hb⟩
    have HPB := hid (HPB.out.below hb)
    have HIB := hid (HIB.out.below hb)
    have HOd := hid (HOd.out.below hb)
    have HR1 := hid (HR1.out.below hb)
    have HB := hid (below_trans HB.out hb)
    have HR2 := hid hr
    clear hr hb
    go_wp2_with fail
    refine (rack_own _).mono ?_
    rintro e w22 ⟨g3, rfl, hr, _, hb⟩
    have HPB := hid (HPB.out.below hb)
    have HIB := hid (HIB.out.below hb)
    have HOd := hid (HOd.out.below hb)
    have HR1 := hid (HR1.out.below hb)
    have HR2 := hid (HR2.out.below hb)
    have HB := hid (below_trans HB.out hb)
    have HR3 := hid hr
    clear hr hb
    go_upto_region 13 with (first
      | (refine wpList_four_racks rfl _ _ _ _ _ _ _ _ _ _ _ _ _ _ _ _ rfl rfl rfl rfl rfl ?_)
      | (refine wpList_four_int rfl _ _ _ _ _ _ _ _ rfl rfl rfl rfl rfl ?_))
    have hq : ∃ wL, ((w22.alloc (.cells #[.slice (some ⟨g1, 0, none⟩) 3 3, .slice (some ⟨g2, 0, none⟩) 3 3, .slice (some ⟨g3, 0, none⟩) 3 3, .slice (some ⟨g, 0, none⟩) 3 3] 38)).alloc (.cells #[.int .i64 1, .int .i64 2, .int .i64 1, .int .i64 3] 3)) = wL ∧ Blk w22.heap.size #[.slice (some ⟨g1, 0, none⟩) 3 3, .slice (some ⟨g2, 0, none⟩) 3 3, .slice (some ⟨g3, 0, none⟩) 3 3, .slice (some ⟨g, 0, none⟩) 3 3] 38 wL ∧ Blk (w22.heap.size + 1) #[.int .i64 1, .int .i64 2, .int .i64 1, .int .i64 3] 3 wL ∧ Below w22.heap.size w22 wL :=
      ⟨_, rfl, (Blk.new w22 _ _ rfl).below (below_alloc _ _), Blk.new _ _ _ (by simp), below_trans (below_alloc _ _) (below_alloc _ _)⟩
    obtain ⟨wL, hwL, hp, hi, hb⟩ := hq
    rw [hwL]
    have HRB := hid hp
    have HVB := hid hi
    have HPB := hid (HPB.out.below hb)
    have HIB := hid (HIB.out.below hb)
    have HOd := hid (HOd.out.below hb)
    have HR1 := hid (HR1.out.below hb)
    have HR2 := hid (HR2.out.below hb)
    have HR3 := hid (HR3.out.below hb)
    have HB := hid (below_trans HB.out hb)
    obtain ⟨RB, hRB⟩ : ∃ RB, w22.heap.size = RB := ⟨_, rfl⟩
    rw [hRB] at HRB HVB ⊢
    obtain ⟨VB, hVB⟩ : ∃ VB, RB + 1 = VB := ⟨_, rfl⟩
    rw [hVB] at HVB ⊢
    clear hwL hp hi hb hRB hVB
    have HF := hid (show ∀ (k : Nat), k < 4 → ∃ gk, (∀ W', Below wL.heap.size wL W' → W'.cell? ⟨RB, k, none⟩ = some (.slice (some ⟨gk, 0, none⟩) 3 3) ∧ W'.cell? ⟨PB, k, none⟩ = some (.int .i64 (fitP k)) ∧ W'.cell? ⟨IB, k, none⟩ = some (.int .i64 (fitI k))) ∧ (∀ W', Below wL.heap.size wL W' → W'.cell? ⟨VB, k, none⟩ = some (.int .i64 (fitV k))) ∧ ∀ W', Below wL.heap.size wL W' → ItemsAt none W' (.slice (some ⟨gk, 0, none⟩) 3 3) (fitR k) from by
      intro k hk
      rcases (by omega : k = 0 ∨ k = 1 ∨ k = 2 ∨ k = 3) with rfl | rfl | rfl | rfl
      · exact ⟨g1, fun W' hb => ⟨(HRB.out.below hb).cell 0, (HPB.out.below hb).cell 0, (HIB.out.below hb).cell 0⟩, fun W' hb => (HVB.out.below hb).cell 0, fun W' hb => (HR1.out.below hb).rack⟩
      · exact ⟨g2, fun W' hb => ⟨(HRB.out.below hb).cell 1, (HPB.out.below hb).cell 1, (HIB.out.below hb).cell 1⟩, fun W' hb => (HVB.out.below hb).cell 1, fun W' hb => (HR2.out.below hb).rack⟩
      · exact ⟨g3, fun W' hb => ⟨(HRB.out.below hb).cell 2, (HPB.out.below hb).cell 2, (HIB.out.below hb).cell 2⟩, fun W' hb => (HVB.out.below hb).cell 2, fun W' hb => (HR3.out.below hb).rack⟩
      · exact ⟨g, fun W' hb => ⟨(HRB.out.below hb).cell 3, (HPB.out.below hb).cell 3, (HIB.out.below hb).cell 3⟩, fun W' hb => (HVB.out.below hb).cell 3, fun W' hb => (HOd.out.below hb).odd⟩)
    clear HRB HVB HPB HIB HOd HR1 HR2 HR3
    go_wp2_with fail
    go_loopw [16] (fun i wr => ∃ k : Nat, k ≤ 4 ∧ i = .int .i64 k ∧ Below wL.heap.size wL wr) (fun i _ => 4 - (intOf i).toNat)
    case atStart => exact ⟨0, by omega, rfl, Below.refl _ _⟩
    case round =>
      obtain ⟨k, hk, rfl, hbw⟩ := hrel
      obtain ⟨wo, rfl⟩ : ∃ wo : World, wo = wr := ⟨_, rfl⟩
      have KB := hid hbw
      clear hbw
      by_cases hlt : k < 4
      · obtain ⟨gk, hs, hv, hit⟩ := HF.out k hlt
        have hfit := fit_row k hlt
        obtain ⟨pk, hpk⟩ : ∃ pk, fitP k = pk := ⟨_, rfl⟩
        obtain ⟨ik, hik⟩ : ∃ ik, fitI k = ik := ⟨_, rfl⟩
        obtain ⟨vk, hvk⟩ : ∃ vk, fitV k = vk := ⟨_, rfl⟩
        obtain ⟨its, hits⟩ : ∃ its, fitR k = its := ⟨_, rfl⟩
        rw [hpk, hik, hvk, hits] at hfit
        rw [hpk, hik] at hs
        rw [hvk] at hv
        rw [hits] at hit
        have HS := hid hs
        have HV := hid hv
        have HIt := hid hit
        have HFit := hid hfit
        have hil : (oddI.length = 3 ∧ rackI.length = 3) := ⟨rfl, rfl⟩
        have hln : its.length = 3 := by rw [← hits]; unfold fitR; split; exact hil.1; exact hil.2
        have HLn := hid hln
        clear hpk hik hvk hits hs hv hit hfit hil hln
        have i1 : (k : Int) < 4 := by omega
        have z2 : IntKind.i64.wrap ((k : Int) + 1) = (k : Int) + 1 := IntWalk.i64_in _ (by omega)
        have B0 := hid KB.out.drew
        obtain ⟨s1, s2, s3⟩ := HS.out _ KB.out
        go_upto_region 16 with fail
        go_region_held3 (fun w' => w'.cell? ⟨RB, k, none⟩ = some (.slice (some ⟨gk, 0, none⟩) 3 3) ∧ w'.cell? ⟨PB, k, none⟩ = some (.int .i64 pk) ∧ w'.cell? ⟨IB, k, none⟩ = some (.int .i64 ik))
          (first | exact HS.out _ B2.out | exact HS.out _ B1.out | exact HS.out _ B0.out)
          (first
          | (go_at_call 4; refine (night_own _).mono ?_; rintro e w30 ⟨mk, rfl, hm, hn, hb⟩; have B1 := hid (B0.out.trans (hb.mono B0.out.size)); have HPN := hid (hn.plot nightP.parts rfl rfl); clear hm hn hb)
          | (go_at_call 11; refine (fitc_any nightP its pk ik _ _ _ _ _ _ HPN.out (HIt.out _ B1.out)).mono ?_; rw [HFit.out.1, HFit.out.2]; rintro e w31 ⟨rfl, hb⟩; have B2 := hid (B1.out.trans (hb.mono B1.out.size)); have v1 := HV.out _ B2.out; clear hb))
        go_wp2_with fail
        go_roundw
        case rel => exact ⟨k + 1, by omega, by go_num, B2.out⟩
        case measure => simp [intOf] <;> omega
      obtain rfl : k = 4 := by omega
      have HB := hid (below_trans HB.out KB.out)
      clear HF KB hk
      go_upto_region 20 with (first
        | (refine wpList_four_rows rfl _ _ _ _ _ _ _ _ _ _ _ _ _ _ _ _ rfl rfl rfl rfl rfl ?_)
        | (refine wpList_four_err rfl _ _ _ _ _ _ _ _ rfl rfl rfl rfl rfl ?_))
      obtain ⟨wM, hwM, ⟨h1, h2, h3, h4, h5, h6⟩, hb⟩ := wears_new wo
      rw [hwM]
      have HB := hid (below_trans HB.out hb)
      have H1 := hid h1
      have H2 := hid h2
      have H3 := hid h3
      have H4 := hid h4
      have H5 := hid h5
      have H6 := hid h6
      obtain ⟨A, hA⟩ : ∃ A, wo.heap.size = A := ⟨_, rfl⟩
      rw [hA] at H1 H2 H3 H4 H5 H6 ⊢
      obtain ⟨SB, hSB⟩ : ∃ SB, A + 1 + 1 + 1 + 1 = SB := ⟨_, rfl⟩
      rw [hSB] at H5 H6 ⊢
      obtain ⟨EB, hEB⟩ : ∃ EB, SB + 1 = EB := ⟨_, rfl⟩
      rw [hEB] at H6 ⊢
      clear hwM h1 h2 h3 h4 h5 h6 hb hA hSB hEB
      have HF := hid (show ∀ (k : Nat), k < 4 → ∃ gk, (∀ W', Below wM.heap.size wM W' → W'.cell? ⟨SB, k, none⟩ = some (.slice (some ⟨gk, 0, none⟩) 3 3) ∧ W'.cell? ⟨EB, k, none⟩ = some (.int .i64 (wearV k))) ∧ ∀ W', Below wM.heap.size wM W' → IntsAt none W' (.slice (some ⟨gk, 0, none⟩) 3 3) (wearL k) from by
        intro k hk
        rcases (by omega : k = 0 ∨ k = 1 ∨ k = 2 ∨ k = 3) with rfl | rfl | rfl | rfl
        · exact ⟨A, fun W' hb => ⟨(H5.out.below hb).cell 0, (H6.out.below hb).cell 0⟩, fun W' hb => (H1.out.below hb).ints (wearL 0) rfl rfl (by decide)⟩
        · exact ⟨A + 1, fun W' hb => ⟨(H5.out.below hb).cell 1, (H6.out.below hb).cell 1⟩, fun W' hb => (H2.out.below hb).ints (wearL 1) rfl rfl (by decide)⟩
        · exact ⟨A + 1 + 1, fun W' hb => ⟨(H5.out.below hb).cell 2, (H6.out.below hb).cell 2⟩, fun W' hb => (H3.out.below hb).ints (wearL 2) rfl rfl (by decide)⟩
        · exact ⟨A + 1 + 1 + 1, fun W' hb => ⟨(H5.out.below hb).cell 3, (H6.out.below hb).cell 3⟩, fun W' hb => (H4.out.below hb).ints (wearL 3) rfl rfl (by decide)⟩)
      clear H1 H2 H3 H4 H5 H6
      go_wp2_with fail
      go_loopw [21] (fun i wr => ∃ k : Nat, k ≤ 4 ∧ i = .int .i64 k ∧ Below wM.heap.size wM wr) (fun i _ => 4 - (intOf i).toNat)
      case atStart => exact ⟨0, by omega, rfl, Below.refl _ _⟩
      case round =>
        obtain ⟨k, hk, rfl, hbw⟩ := hrel
        obtain ⟨wq, rfl⟩ : ∃ wq : World, wq = wr := ⟨_, rfl⟩
        have KB := hid hbw
        clear hbw
        by_cases hlt : k < 4
        · obtain ⟨gk, hs, hit⟩ := HF.out k hlt
          have hwe := wear_row k hlt
          obtain ⟨vk, hvk⟩ : ∃ vk, wearV k = vk := ⟨_, rfl⟩
          obtain ⟨ls, hls⟩ : ∃ ls, wearL k = ls := ⟨_, rfl⟩
          rw [hvk, hls] at hwe
          rw [hvk] at hs
          rw [hls] at hit
          have HS := hid hs
          have HIt := hid hit
          have HWe := hid hwe
          clear hvk hls hs hit hwe
          have i1 : (k : Int) < 4 := by omega
          have z2 : IntKind.i64.wrap ((k : Int) + 1) = (k : Int) + 1 := IntWalk.i64_in _ (by omega)
          have B0 := hid KB.out.drew
          obtain ⟨s1, s2⟩ := HS.out _ KB.out
          go_upto_region 23 with fail
          go_region_held3 (fun w' => w'.cell? ⟨SB, k, none⟩ = some (.slice (some ⟨gk, 0, none⟩) 3 3) ∧ w'.cell? ⟨EB, k, none⟩ = some (.int .i64 vk))
            (first | exact HS.out _ B3.out | exact HS.out _ B2.out | exact HS.out _ B1.out | exact HS.out _ B0.out)
            (first
            | (go_at_call 4; refine (night_own _).mono ?_; rintro e w40 ⟨mk, rfl, hm, hn, hb⟩; have B1 := hid (B0.out.trans (hb.mono B0.out.size)); have HPN := hid (hn.plot nightP.parts rfl rfl); clear hm hn hb)
            | (go_at_call 9; refine (rack_own _).mono ?_; rintro e w41 ⟨gr, rfl, hr, hg, hb⟩; have B2 := hid (B1.out.trans (hb.mono B1.out.size)); have HPN := hid (HPN.out.below hb); have HRk := hid hr.rack; clear hr hg hb)
            | (go_at_call 12; refine (wear_any nightP rackI ls _ _ _ _ _ _ _ HPN.out HRk.out (HIt.out _ B2.out)).mono ?_; rw [HWe.out]; rintro e w42 ⟨rfl, hb⟩; have B3 := hid (B2.out.trans (hb.mono B2.out.size)); clear hb))
          go_wp2_with fail
          go_roundw
          case rel => exact ⟨k + 1, by omega, by go_num, B3.out⟩
          case measure => simp [intOf] <;> omega
        obtain rfl : k = 4 := by omega
        have HB := hid (below_trans HB.out KB.out)
        clear HF KB hk
        go_wp2_with fail
        refine (night_own _).mono ?_
        rintro e w50 ⟨mD, rfl, hm, hn, hb⟩
        have HB := hid (below_trans HB.out hb)
        have HPL := hid (hn.plot nightP.parts rfl rfl)
        clear hb hm hn
        unfold nightV
        go_wp2_with fail
        refine (rack_own _).mono ?_
        rintro e w51 ⟨gD, rfl, hr, hg, hb⟩
        have HB := hid (below_trans HB.out hb)
        have HPL := hid (HPL.out.below hb)
        have HRT := hid hr.tail
        clear hb hr hg
        go_wp2_with fail
        refine (cheapest_any nightP rackT _ _ _ _ _ _ HPL.out HRT.out).mono ?_
        unfold CheapestPost
        rw [kn_cheap]
        rintro e w52 ⟨v52, rfl, ho, hb⟩
        obtain ⟨a52, c52, e52⟩ := (own_int.2 ho).form
        subst e52
        have HB := hid (below_trans HB.out hb)
        clear ho hb HPL HRT
        obtain ⟨bc, hbc⟩ : ∃ bc, bestC (cheapB nightP rackT) = bc := ⟨_, rfl⟩
        obtain ⟨bl, hbl⟩ : ∃ bl, (bestL (cheapB nightP rackT)).length = bl := ⟨_, rfl⟩
        rw [hbc, hbl]
        clear hbc hbl
        go_wp2_with fail
        refine (night_own _).mono ?_
        rintro e w53 ⟨mE, rfl, hm, hn, hb⟩
        have HB := hid (below_trans HB.out hb)
        have HPL := hid (hn.plot nightP.parts rfl rfl)
        clear hb hm hn
        unfold nightV
        go_wp2_with fail
        refine (rack_own _).mono ?_
        rintro e w54 ⟨gE, rfl, hr, hg, hb⟩
        have HB := hid (below_trans HB.out hb)
        have HPL := hid (HPL.out.below hb)
        have HRT := hid hr.tail
        clear hb hr hg
        go_wp2_with fail
        refine (shortc_any nightP rackT _ _ _ _ _ _ HPL.out HRT.out).mono ?_
        unfold ShortPost
        rw [kn_short.1, kn_short.2]
        rintro e w55 ⟨v55, rfl, ho, hb⟩
        have HL := hid (OwnInts.at (d := none) ho (by simp))
        obtain ⟨a55, c55, e55⟩ := (own_int.2 ho).form
        subst e55
        have HL := hid (show IntsAt none w55 (.slice a55 2 c55) [0, 1] from HL.out)
        have HB := hid (below_trans HB.out hb)
        clear ho hb HPL HRT
        dsimp only [List.length_cons, List.length_nil]
        go_wp2_with fail
        refine (night_own _).mono ?_
        rintro e w56 ⟨mF, rfl, hm, hn, hb⟩
        have HB := hid (below_trans HB.out hb)
        have HL := hid (HL.out.below hb)
        have HPL := hid (hn.plot nightP.parts rfl rfl)
        clear hb hm hn
        unfold nightV
        go_wp2_with fail
        refine (cwrite_any nightP _ _ _ _ _ HPL.out (HT.out.base (Nat.le_refl _) HB.out)).mono ?_
        rw [kn_check.1, kn_sheet]
        rintro e w57 ⟨rfl, hb⟩
        have HB := hid (below_trans HB.out hb)
        have HL := hid (HL.out.below hb)
        clear hb HPL
        unfold knownB
        go_wp2_with (go_at_call 16; refine (eqInts_same [0, 1] _ _ none none _ (HL.out.below (below_alloc _ _)) (lit_ints _ 0 1 rfl) (by decide)).mono ?_; rintro e w58 ⟨rfl, hb⟩; have HB := hid (below_trans HB.out (below_trans (below_alloc _ _) hb)); clear hb HL)
        go_ret
        exact ⟨rfl, HB.out⟩
end Go.Proofs.YtoipcbmbhjajfaaDoor
