/-
  ONE APPEND of one element (a number, a wing) onto a list of the call's own.
-/
import Derived.Test.YtefdopifebhgiaaGreatDoorRep
import Derived.WalkSpells
namespace Go.Proofs.YtefdopifebhgiaaGreatDoor
open Go.RowKit

theorem infoInt : (Tryz.prog.info? 3).map (fun i => (i.zero, i.size, i.bytes)) = some (some (.int .i64 0), 1, 8) := by kernel_rfl
theorem infoWing : (Tryz.prog.info? 45).map (fun i => (i.zero.map (·.cells.size), i.size, i.bytes)) = some (some 4, 4, 40) := by kernel_rfl

theorem below_of_own {base : Nat} {w w' : World} {v : Value} {n e size : Nat} {xs : List Value} (hown : w.ownsRow base e size v n xs) (hg : w.grownBy w' v.ownBlock) (hb : base ≤ w.heap.size) : Below base w w' :=
  (Below.refl base w).grown hg hb (fun k hk => (hown.lt k hk).1)

theorem app_int {ops : Array Oper} {rest : List Oper} {o : Oper} {a : Act} {Q : Exit → Act → World → Prop} {w : World} (hgd : o.guard = none) (s x : Operand)
    (ho : o.op = .call { callee := .builtin .append, args := #[s, x], argTypes := #[25, 25] })
    (base : Nat) (xs : List Int) (y : Int) (v : Value) (hown : OwnInts base w v xs) (hs : a.eval s = v) (hx : a.eval x = .slice (some ⟨w.heap.size, 0, none⟩) 1 1)
    (hn : xs.length ≤ 1000000) (hbase : base ≤ w.heap.size)
    (h : ∀ v' w', OwnInts base w' v' (xs ++ [y]) → Below base w w' → w.grownBy w' v.ownBlock → v' ≠ .slice none 0 0 → wpList Tryz.prog ops Q rest (a.put o.dst v') w') :
    wpList Tryz.prog ops Q (o :: rest) a (w.alloc (.cells #[.int .i64 y] 3)) := by
  obtain ⟨i0, hi, hz0, hz1, hz2⟩ := info_parts infoInt
  refine wpList_append_own _ hgd s x 25 ho base 3 i0 (.int .i64 0) 1 8 Tryz.underlying25 hi hz0 hz1 hz2 rfl (by decide) v xs.length (xs.map (Value.int .i64)) hs (World.ownsRow.alloc hown _) ⟨w.heap.size, 0, none⟩ 1 1 [.int .i64 y] hx rfl (cell_one_new _ _ _)
    (by intro u hu; simp at hu; subst hu; rfl) (by unfold maxLen; omega) (by omega) (by simp; omega) ?_
  intro v' w' hown' hg hnil
  have hg' : w.grownBy w' v.ownBlock := gb_trans (World.grownBy_alloc w _ _) hg
  exact h v' w' (by unfold OwnInts; simpa using hown') (below_of_own hown hg' hbase) hg' (fun e => by have := hnil.1 e; omega)

theorem app_wing {ops : Array Oper} {rest : List Oper} {o : Oper} {a : Act} {Q : Exit → Act → World → Prop} {w : World} (hgd : o.guard = none) (s x : Operand)
    (ho : o.op = .call { callee := .builtin .append, args := #[s, x], argTypes := #[22, 22] })
    (base : Nat) (xs : List Wing) (y : Wing) (v : Value) (hown : OwnWg base w v xs) (hs : a.eval s = v) (hx : a.eval x = .slice (some ⟨w.heap.size, 0, none⟩) 1 1)
    (hn : xs.length ≤ 1000000) (hbase : base ≤ w.heap.size)
    (h : ∀ v' w', OwnWg base w' v' (xs ++ [y]) → Below base w w' → w.grownBy w' v.ownBlock → v' ≠ .slice none 0 0 → wpList Tryz.prog ops Q rest (a.put o.dst v') w') :
    wpList Tryz.prog ops Q (o :: rest) a (w.alloc (.cells #[.string y.name, .int .i64 y.len, .int .i64 y.lo, .int .i64 y.hi] 45)) := by
  obtain ⟨i0, hi, hz0⟩ : ∃ i0, Tryz.prog.info? 45 = some i0 ∧ (i0.zero.map (·.cells.size), i0.size, i0.bytes) = (some 4, 4, 40) := by
    have := infoWing
    cases h : Tryz.prog.info? 45 with
    | none => rw [h] at this; simp at this
    | some i => rw [h] at this; exact ⟨i, rfl, by simpa using this⟩
  simp only [Prod.mk.injEq, Option.map_eq_some_iff] at hz0
  obtain ⟨⟨z, hz, hzs⟩, hsz, hby⟩ := hz0
  refine wpList_append_own _ hgd s x 22 ho base 45 i0 z 4 40 Tryz.underlying22 hi hz hsz hby hzs (by decide) v xs.length (xs.flatMap wingCells) hs (World.ownsRow.alloc hown _) ⟨w.heap.size, 0, none⟩ 1 1 (wingCells y) hx rfl ?_
    (by intro u hu; simp [wingCells] at hu; rcases hu with rfl | rfl | rfl | rfl <;> rfl) (by unfold maxLen; omega) (by omega) (by simp; omega) ?_
  · intro j u hj
    have hlt : j < 4 := by have := (List.getElem?_eq_some_iff.1 hj).1; simpa [wingCells] using this
    match j, hlt with
    | 0, _ => simp [wingCells] at hj; subst hj; simp [Addr.add]
    | 1, _ => simp [wingCells] at hj; subst hj; simp [Addr.add]
    | 2, _ => simp [wingCells] at hj; subst hj; simp [Addr.add]
    | 3, _ => simp [wingCells] at hj; subst hj; simp [Addr.add]
  · intro v' w' hown' hg hnil
    have hg' : w.grownBy w' v.ownBlock := gb_trans (World.grownBy_alloc w _ _) hg
    exact h v' w' (by unfold OwnWg; simpa using hown') (below_of_own hown hg' hbase) hg' (fun e => by have := hnil.1 e; omega)

end Go.Proofs.YtefdopifebhgiaaGreatDoor
