/-
  AN APPEND to a list that is empty and has no room: all that was stays as it was. No function is walked here.
-/
import Derived.Test.YtefdopifebhgiaaGreatDoorCpo
import Derived.ArgAppend
namespace Go.Proofs.YtefdopifebhgiaaGreatDoor
open Go.RowKit

section
variable {P : Program} {α : Type} (enc : α → List Value) {k bytes : Nat} {e t : TypeId}
theorem run_app_empty (ht : P.underlying t = some (.slice e)) (hinfo : (P.info? e).map (fun i => (i.zero.map (·.cells.size), i.size, i.bytes)) = some (some k, k, bytes)) (hk : 0 < k) (hby : bytes ≤ 1000)
    (henc : ∀ x, (enc x).length = k) {w : World} (ty : TypeId) (base : Nat) (ys : List α) (hone : ∀ x, x ∈ ys → ∀ u, u ∈ enc x → u.oneCell' = true) {E : Nat} (vx : Value) (hE : w.heap[E]? = some (.cells #[] e (0, 0))) (hbE : base ≤ E) (hX : Src enc w vx ys)
    (hn : ys.length ≤ 1000000) (hbase : base ≤ w.heap.size) :
    ∃ v' w', (Builtin.append_ #[t, t] ty #[.slice (some ⟨E, 0, none⟩) 0 0, vx]).run P w = .ok v' w' ∧ OwnR enc k e base w' v' ys ∧ Below w.heap.size w w' := by
  obtain ⟨i0, hi, hz0⟩ : ∃ i0, P.info? e = some i0 ∧ (i0.zero.map (·.cells.size), i0.size, i0.bytes) = (some k, k, bytes) := by
    cases h : P.info? e with
    | none => rw [h] at hinfo; simp at hinfo
    | some i => rw [h] at hinfo; exact ⟨i, rfl, by simpa using hinfo⟩
  simp only [Prod.mk.injEq, Option.map_eq_some_iff] at hz0
  obtain ⟨⟨z, hz, hzs⟩, hsz, hby2⟩ := hz0
  have hlen := flatMap_length henc ys
  have hone' : ∀ u ∈ ys.flatMap enc, u.oneCell' = true := fun u hu => by
    obtain ⟨y, hy, h⟩ := List.mem_flatMap.1 hu
    exact hone y hy u h
  have hmade := OwnR.made enc k hbE hE
  rcases hX with ⟨ad, c, rfl, hc⟩ | ⟨rfl, rfl⟩
  · by_cases h0 : ys = []
    · subst h0
      have hr := run_append_room_cells (P := P) w t ty e i0 ht hi E 0 0 0 ad 0 c [] (by simp) (by intro j u hj; simp at hj) (by intro u hu; simp at hu) (by omega) (by intro j hj; simp at hj) (by intro j hj; simp at hj)
      exact ⟨_, _, hr, hmade, Below.refl _ _⟩
    · have hpos : 0 < ys.length := List.length_pos_iff.2 h0
      obtain ⟨v', w', hr, h1, h2⟩ := run_append_arg_grows (P := P) w t ty e i0 z k bytes ht hi hz hsz hby2 hzs hk ⟨E, 0, none⟩ 0 0 [] (by simp) (by intro j u hj; simp at hj) ad ys.length c (ys.flatMap enc) hlen hc (by omega) (by unfold maxLen; omega) (by
        have : (0 + ys.length) * bytes ≤ 1000000 * 1000 := Nat.mul_le_mul (by omega) hby
        omega)
      refine ⟨v', w', hr, OwnR.base' (base := w.heap.size) ?_ hbase, (Below.refl w.heap.size w).grown h2 (Nat.le_refl _) (fun g e => by cases e)⟩
      unfold OwnR
      rw [Nat.zero_add, List.nil_append] at h1
      exact h1
  · have hrun := run_append_owned_none (P := P) (w := w) base t ty e i0 k ht hi (.slice (some ⟨E, 0, none⟩) 0 0) 0 [] hmade
    exact ⟨_, w, hrun, hmade, Below.refl _ _⟩
theorem wp_app_empty (ht : P.underlying t = some (.slice e)) (hinfo : (P.info? e).map (fun i => (i.zero.map (·.cells.size), i.size, i.bytes)) = some (some k, k, bytes)) (hk : 0 < k) (hby : bytes ≤ 1000)
    (henc : ∀ x, (enc x).length = k) {w : World} {o : Oper} {a : Act} {K : Act → World → Prop} {Q : Exit → Act → World → Prop} (s x : Operand)
    (ho : o.op = .call { callee := .builtin .append, args := #[s, x], argTypes := #[t, t] }) (base : Nat) (ys : List α) (hone : ∀ x, x ∈ ys → ∀ u, u ∈ enc x → u.oneCell' = true) {E : Nat} (vx : Value) (hs : a.eval s = .slice (some ⟨E, 0, none⟩) 0 0) (hx : a.eval x = vx)
    (hE : w.heap[E]? = some (.cells #[] e (0, 0))) (hbE : base ≤ E) (hX : Src enc w vx ys) (hn : ys.length ≤ 1000000) (hbase : base ≤ w.heap.size)
    (h : ∀ v' w', OwnR enc k e base w' v' ys → Below w.heap.size w w' → K (a.put o.dst v') w') : o.wp P a w K Q := by
  obtain ⟨v', w', hr, h2, h3⟩ := run_app_empty enc ht hinfo hk hby henc o.type base ys hone vx hE hbE hX hn hbase
  unfold Oper.wp execOp
  simp only [ho, resolve, invoke, builtin, Sem.run_bind, Sem.run_pure, Result.andThen_ok, List.map_toArray, List.map_cons, List.map_nil, hs, hx, hr]
  exact h _ _ h2 h3
end
theorem LitR.later {α : Type} {enc : α → List Value} {b0 : Nat} {w w' : World} {v : Value} {x : α} (h : LitR enc b0 w v x) (hb : Below w.heap.size w w') : LitR enc b0 w' v x := by
  obtain ⟨A, e, hA, hc⟩ := h
  exact ⟨A, e, hA, fun j u hj => cell_back hb (World.block_lt_of_cell? w ⟨A, j, none⟩ (hc j u hj)) (hc j u hj)⟩
end Go.Proofs.YtefdopifebhgiaaGreatDoor
