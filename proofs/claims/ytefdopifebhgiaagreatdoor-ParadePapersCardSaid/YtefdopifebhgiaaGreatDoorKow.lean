/-
  WALKS: copies and comparisons of lists and schools.
-/
import Derived.Test.YtefdopifebhgiaaGreatDoorKdo
import Derived.Laws.AppendOwnNone
namespace Go.Proofs.YtefdopifebhgiaaGreatDoor
open Go.RowKit

/-- a nil slice has no room -/
def Sound (v : Value) : Prop := ∀ n c, v = .slice none n c → n = 0 ∧ c = 0

theorem OwnInts.sound {base : Nat} {w : World} {v : Value} {xs : List Int} (h : OwnInts base w v xs) : Sound v := by
  obtain ⟨_, h2⟩ := h
  rcases h2 with ⟨rfl, h0⟩ | ⟨g, cap, cur, rfl, hb, hh, h1, hm, hs, ht⟩
  · intro n c e; cases e; exact ⟨rfl, rfl⟩
  · intro n c e; cases e
theorem OwnWg.sound {base : Nat} {w : World} {v : Value} {xs : List Wing} (h : OwnWg base w v xs) : Sound v := by
  obtain ⟨_, h2⟩ := h
  rcases h2 with ⟨rfl, h0⟩ | ⟨g, cap, cur, rfl, hb, hh, h1, hm, hs, ht⟩
  · intro n c e; cases e; exact ⟨rfl, rfl⟩
  · intro n c e; cases e

theorem addr_add (b off j : Nat) : (⟨b, off, none⟩ : Addr).add j = ⟨b, off + j, none⟩ := by
  unfold Addr.add
  split
  · rename_i h; subst h; rfl
  · rfl

theorem app_ints {ops : Array Oper} {rest : List Oper} {o : Oper} {a : Act} {Q : Exit → Act → World → Prop} {w : World} (hgd : o.guard = none) (s x : Operand)
    (ho : o.op = .call { callee := .builtin .append, args := #[s, x], argTypes := #[25, 25] })
    (base : Nat) (xs : List Int) (vd v : Value) (hown : OwnInts base w vd []) (d : Option Nat) (hX : IntsAt d w v xs) (hv : Sound v) (hs : a.eval s = vd) (hx : a.eval x = v)
    (hn : xs.length ≤ 1000000) (hbase : base ≤ w.heap.size)
    (h : ∀ v' w', OwnInts base w' v' xs → Below base w w' → wpList Tryz.prog ops Q rest (a.put o.dst v') w') :
    wpList Tryz.prog ops Q (o :: rest) a w := by
  obtain ⟨i0, hi, hz0, hz1, hz2⟩ := info_parts infoInt
  obtain ⟨ad, cap, rfl, hh⟩ := hX
  by_cases h0 : 0 < xs.length
  · obtain ⟨b, off, rfl, _, _, _, hb, hL⟩ := hh h0
    refine wpList_append_own _ hgd s x 25 ho base 3 i0 (.int .i64 0) 1 8 Tryz.underlying25 hi hz0 hz1 hz2 rfl (by decide) vd 0 [] hs hown ⟨b, off, none⟩ xs.length cap (xs.map (Value.int .i64)) hx (by simp) ?_
      (by intro u hu; simp at hu; obtain ⟨z, _, rfl⟩ := hu; rfl) (by unfold maxLen; omega) (by omega) hbase ?_
    · intro j u hj
      rw [List.getElem?_map] at hj
      by_cases hjl : j < xs.length
      · rw [List.getElem?_eq_getElem hjl] at hj
        have := hL j hjl
        simp at hj
        subst hj
        rw [addr_add]
        simpa [nm, List.getD_eq_getElem?_getD, List.getElem?_eq_getElem hjl] using this
      · rw [List.getElem?_eq_none (by omega)] at hj; cases hj
    · intro v' w' hown' hg hnil
      exact h v' w' (by unfold OwnInts; simpa using hown') (below_of_own hown hg hbase)
  · obtain rfl : xs = [] := List.eq_nil_of_length_eq_zero (by omega)
    cases ad with
    | none =>
      obtain ⟨_, rfl⟩ := hv _ _ rfl
      exact wpList_append_own_none hgd s x 25 ho base 3 i0 1 Tryz.underlying25 hi vd 0 [] hs hown hx (h vd w hown (Below.refl _ _))
    | some ad =>
      refine wpList_append_own _ hgd s x 25 ho base 3 i0 (.int .i64 0) 1 8 Tryz.underlying25 hi hz0 hz1 hz2 rfl (by decide) vd 0 [] hs hown ad 0 cap [] hx (by simp) (by intro j u hj; simp at hj) (by intro u hu; simp at hu) (by unfold maxLen; omega) (by omega) hbase ?_
      intro v' w' hown' hg hnil
      exact h v' w' (by unfold OwnInts; simpa using hown') (below_of_own hown hg hbase)

theorem app_wings {ops : Array Oper} {rest : List Oper} {o : Oper} {a : Act} {Q : Exit → Act → World → Prop} {w : World} (hgd : o.guard = none) (s x : Operand)
    (ho : o.op = .call { callee := .builtin .append, args := #[s, x], argTypes := #[22, 22] })
    (base : Nat) (xs : List Wing) (vd v : Value) (hown : OwnWg base w vd []) (d : Option Nat) (hX : WgAt d w v xs) (hv : Sound v) (hs : a.eval s = vd) (hx : a.eval x = v)
    (hn : xs.length ≤ 1000000) (hbase : base ≤ w.heap.size)
    (h : ∀ v' w', OwnWg base w' v' xs → Below base w w' → wpList Tryz.prog ops Q rest (a.put o.dst v') w') :
    wpList Tryz.prog ops Q (o :: rest) a w := by
  obtain ⟨i0, hi, hz0⟩ : ∃ i0, Tryz.prog.info? 45 = some i0 ∧ (i0.zero.map (·.cells.size), i0.size, i0.bytes) = (some 4, 4, 40) := by
    have := infoWing
    cases h : Tryz.prog.info? 45 with
    | none => rw [h] at this; simp at this
    | some i => rw [h] at this; exact ⟨i, rfl, by simpa using this⟩
  simp only [Prod.mk.injEq, Option.map_eq_some_iff] at hz0
  obtain ⟨⟨z, hz, hzs⟩, hsz, hby⟩ := hz0
  obtain ⟨ad, cap, rfl, hh⟩ := hX
  have hlen : (xs.flatMap wingCells).length = xs.length * 4 := by
    clear hh hn hv h hx
    induction xs with
    | nil => rfl
    | cons y ys ih => simp only [List.flatMap_cons, List.length_append, ih, List.length_cons]; simp [wingCells]; omega
  by_cases h0 : 0 < xs.length
  · obtain ⟨b, off, rfl, _, _, _, hb, hL⟩ := hh h0
    refine wpList_append_own _ hgd s x 22 ho base 45 i0 z 4 40 Tryz.underlying22 hi hz hsz hby hzs (by decide) vd 0 [] hs hown ⟨b, off, none⟩ xs.length cap (xs.flatMap wingCells) hx hlen ?_
      (by intro u hu; simp [wingCells] at hu; obtain ⟨y, _, hu⟩ := hu; rcases hu with rfl | rfl | rfl | rfl <;> rfl) (by unfold maxLen; omega) (by omega) hbase ?_
    · intro j u hj
      have hjl : j < xs.length * 4 := by rw [← hlen]; exact (List.getElem?_eq_some_iff.1 hj).1
      obtain ⟨i, r, hr, rfl⟩ : ∃ i r, r < 4 ∧ j = i * 4 + r := ⟨j / 4, j % 4, by omega, by omega⟩
      have hi' : i < xs.length := by omega
      obtain ⟨q0, q1, q2, q3⟩ := wingCells_at xs i hi'
      obtain ⟨c0, c1, c2, c3⟩ := hL i hi'
      rw [addr_add]
      match r, hr with
      | 0, _ => rw [Nat.add_zero] at hj ⊢; rw [q0] at hj; cases hj; exact c0
      | 1, _ => rw [q1] at hj; cases hj; exact c1
      | 2, _ => rw [q2] at hj; cases hj; exact c2
      | 3, _ => rw [q3] at hj; cases hj; exact c3
    · intro v' w' hown' hg hnil
      exact h v' w' (by unfold OwnWg; simpa using hown') (below_of_own hown hg hbase)
  · obtain rfl : xs = [] := List.eq_nil_of_length_eq_zero (by omega)
    cases ad with
    | none =>
      obtain ⟨_, rfl⟩ := hv _ _ rfl
      exact wpList_append_own_none hgd s x 22 ho base 45 i0 4 Tryz.underlying22 hi vd 0 [] hs hown hx (h vd w hown (Below.refl _ _))
    | some ad =>
      refine wpList_append_own _ hgd s x 22 ho base 45 i0 z 4 40 Tryz.underlying22 hi hz hsz hby hzs (by decide) vd 0 [] hs hown ad 0 cap [] hx (by simp) (by intro j u hj; simp at hj) (by intro u hu; simp at hu) (by unfold maxLen; omega) (by omega) hbase ?_
      intro v' w' hown' hg hnil
      exact h v' w' (by unfold OwnWg; simpa using hown') (below_of_own hown hg hbase)

/-- an empty slice that was just written -/
theorem own_empty (w : World) : OwnInts w.heap.size (w.alloc (.cells #[] 3)) (.slice (some ⟨w.heap.size, 0, none⟩) 0 0) [] := World.ownsRow_made (e := 3) (size := 1) w #[] 0 (Nat.le_refl _) (by unfold maxLen; omega) rfl
theorem own_empty_wg (w : World) : OwnWg w.heap.size (w.alloc (.cells #[] 45)) (.slice (some ⟨w.heap.size, 0, none⟩) 0 0) [] := World.ownsRow_made (e := 45) (size := 4) w #[] 0 (Nat.le_refl _) (by unfold maxLen; omega) rfl

end Go.Proofs.YtefdopifebhgiaaGreatDoor
