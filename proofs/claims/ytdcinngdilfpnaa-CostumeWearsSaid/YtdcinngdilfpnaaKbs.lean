/-
  A LIST OF FOUR that is written out, as one operation of a region that draws its order.
  A SLICE OF A SLICE, as one operation of a region that draws its order.
-/
import Derived.Test.YtdcinngdilfpnaaCpo
namespace Go.Proofs.Ytdcinngdilfpnaa
open Go.RowKit

theorem run_four_ints (w : World) (x0 x1 x2 x3 : Int) : (Instr.buildSlice 22 4 #[(0, .int .i64 x0), (1, .int .i64 x1), (2, .int .i64 x2), (3, .int .i64 x3)]).run Try.prog w =
    .ok (.slice (some ⟨w.heap.size, 0, none⟩) 4 4) (w.alloc (.cells #[.int .i64 x0, .int .i64 x1, .int .i64 x2, .int .i64 x3] 3)) := by
  kernel_rfl
theorem run_four_plots (w : World) (a0 a1 a2 a3 b0 b1 b2 b3 c0 c1 c2 c3 d0 d1 d2 d3 : Value) : (Instr.buildSlice 49 4 #[(0, .agg #[a0, a1, a2, a3]), (1, .agg #[b0, b1, b2, b3]), (2, .agg #[c0, c1, c2, c3]), (3, .agg #[d0, d1, d2, d3])]).run Try.prog w =
    .ok (.slice (some ⟨w.heap.size, 0, none⟩) 4 4) (w.alloc (.cells #[a0, a1, a2, a3, b0, b1, b2, b3, c0, c1, c2, c3, d0, d1, d2, d3] 29)) := by
  kernel_rfl
theorem run_three_plots (w : World) (a0 a1 a2 a3 b0 b1 b2 b3 c0 c1 c2 c3 : Value) : (Instr.buildSlice 49 3 #[(0, .agg #[a0, a1, a2, a3]), (1, .agg #[b0, b1, b2, b3]), (2, .agg #[c0, c1, c2, c3])]).run Try.prog w =
    .ok (.slice (some ⟨w.heap.size, 0, none⟩) 3 3) (w.alloc (.cells #[a0, a1, a2, a3, b0, b1, b2, b3, c0, c1, c2, c3] 29)) := by
  kernel_rfl
theorem run_three_lists (w : World) (a b c : Option Addr) (n m l i j k : Nat) : (Instr.buildSlice 70 3 #[(0, .slice a n i), (1, .slice b m j), (2, .slice c l k)]).run Try.prog w =
    .ok (.slice (some ⟨w.heap.size, 0, none⟩) 3 3) (w.alloc (.cells #[.slice a n i, .slice b m j, .slice c l k] 31)) := by
  kernel_rfl
theorem wp_four {P : Program} {w : World} {o : Oper} {a : Act} {K : Act → World → Prop} {Q : Exit → Act → World → Prop} {t e : TypeId} {cells : Array Value} (s0 s1 s2 s3 : Operand) (x0 x1 x2 x3 : Value)
    (ho : o.op = .buildSlice t 4 #[(0, s0), (1, s1), (2, s2), (3, s3)]) (h0 : a.eval s0 = x0) (h1 : a.eval s1 = x1) (h2 : a.eval s2 = x2) (h3 : a.eval s3 = x3)
    (hr : (Instr.buildSlice t 4 #[(0, x0), (1, x1), (2, x2), (3, x3)]).run P w = .ok (.slice (some ⟨w.heap.size, 0, none⟩) 4 4) (w.alloc (.cells cells e)))
    (h : K (a.put o.dst (.slice (some ⟨w.heap.size, 0, none⟩) 4 4)) (w.alloc (.cells cells e))) : o.wp P a w K Q := by
  unfold Oper.wp execOp
  simp only [ho]
  have e : (#[(0, s0), (1, s1), (2, s2), (3, s3)].map fun (p : Nat × Operand) => (p.1, a.eval p.2)) = #[(0, x0), (1, x1), (2, x2), (3, x3)] := by
    simp [h0, h1, h2, h3]
  rw [e]
  simp only [Sem.run_bind, Sem.run_pure, Result.andThen_ok, hr]
  exact h
end Go.Proofs.Ytdcinngdilfpnaa

namespace Go.Proofs.Ytdcinngdilfpnaa
open Go.RowKit

theorem run_sliceTo (w : World) (g n c q : Nat) (h : q ≤ c) : (Instr.sliceAt 27 (.slice (some ⟨g, 0, none⟩) n c) none (some (.int .i64 (q : Int))) none).run Try.prog w = .ok (.slice (some ⟨g, 0, none⟩) q c) w := by
  have e1 : Try.prog.underlying 27 = some (.slice 38) := Try.underlying27
  have h2 : (0 : Int) ≤ (q : Int) ∧ (q : Int) ≤ (c : Int) := by omega
  simp [Instr.sliceAt, Instr.slice, Instr.sliceBounds, Instr.sliceBound, go_sem, e1, h]
theorem run_sliceFrom (w : World) (a : Addr) (n c l : Nat) (h : l ≤ n) : (Instr.sliceAt 27 (.slice (some a) n c) (some (.int .i64 ((l : Nat) : Int))) none none).run Try.prog w = .ok (.slice (some (if c = l then a else a.add (l * 5))) (n - l) (c - l)) w := by
  have e1 : Try.prog.underlying 27 = some (.slice 38) := Try.underlying27
  have h2 : (0 : Int) ≤ (l : Int) ∧ (l : Int) ≤ (n : Int) := by omega
  simp [Instr.sliceAt, Instr.slice, Instr.sliceBounds, Instr.sliceBound, go_sem, e1, h]
  split <;> rfl
theorem wp_slice {P : Program} {w : World} {o : Oper} {a : Act} {K : Act → World → Prop} {Q : Exit → Act → World → Prop} {t : TypeId} (s : Operand) (lo hi : Option Operand) (v : Value) (lv hv : Option Value) (r : Value)
    (ho : o.op = .slice t s lo hi none) (h0 : a.eval s = v) (h1 : lo.map a.eval = lv) (h2 : hi.map a.eval = hv)
    (hr : (Instr.sliceAt t v lv hv none).run P w = .ok r w) (h : K (a.put o.dst r) w) : o.wp P a w K Q := by
  unfold Oper.wp execOp
  simp only [ho]
  rw [h0, h1, h2]
  simp only [Option.map_none, Sem.run_bind, Sem.run_pure, Result.andThen_ok, hr]
  exact h
end Go.Proofs.Ytdcinngdilfpnaa
