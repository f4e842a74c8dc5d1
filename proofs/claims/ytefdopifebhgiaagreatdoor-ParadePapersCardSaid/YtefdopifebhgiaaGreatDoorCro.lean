/-
  LISTS OF RECORDS of a call's own: what they read as, and append. Over any program.
-/
import Derived.Test.YtefdopifebhgiaaGreatDoorCpi
import Derived.Test.YtefdopifebhgiaaGreatDoorKd
import Derived.Test.YtefdopifebhgiaaGreatDoorHk
import Derived.Maps.AppendAt
import Derived.Laws.AppendOwnNone
import Derived.Laws.OwnMore
namespace Go.Proofs.YtefdopifebhgiaaGreatDoor
open Go.RowKit

/-- a list of records of k cells each, of the call's own -/
def OwnR {α : Type} (enc : α → List Value) (k : Nat) (e : TypeId) (base : Nat) (w : World) (v : Value) (xs : List α) : Prop := w.ownsRow base e k v xs.length (xs.flatMap enc)

section
variable {α : Type} {enc : α → List Value} {k : Nat} {e : TypeId} {base : Nat} {w w' : World} {v : Value} {xs : List α}

theorem OwnR.nil (enc : α → List Value) (k : Nat) (e : TypeId) (base : Nat) (w : World) : OwnR enc k e base w (.slice none 0 0) [] := World.ownsRow_nil _ _ _ _
theorem OwnR.empty (enc : α → List Value) (k : Nat) (e : TypeId) (hb : base ≤ w.heap.size) : OwnR enc k e base (w.alloc (.cells #[] e)) (.slice (some ⟨w.heap.size, 0, none⟩) 0 0) [] :=
  World.ownsRow_made (e := e) (size := k) w #[] 0 hb (by unfold maxLen; omega) (by simp)
theorem OwnR.kept (h : OwnR enc k e base w v xs) {row : Option Nat} (hg : w.grownBy w' row) (hne : v.ownBlock = none ∨ v.ownBlock ≠ row) : OwnR enc k e base w' v xs := World.ownsRow.kept h hg hne
theorem OwnR.lt (h : OwnR enc k e base w v xs) {g : Nat} (hg : v.ownBlock = some g) : base ≤ g ∧ g < w.heap.size := World.ownsRow.lt h g hg
theorem OwnR.go (h : OwnR enc k e base w v xs) {d : Nat} (hd : d < base) (hg : w.grownBy w' (some d)) : OwnR enc k e base w' v xs :=
  h.kept hg (by
    cases hb : v.ownBlock with
    | none => exact .inl rfl
    | some g => exact .inr (fun e2 => by have := (h.lt hb).1; have := Option.some.inj e2; omega))
theorem OwnR.later (h : OwnR enc k e base w v xs) (hb : Below w.heap.size w w') : OwnR enc k e base w' v xs := h.kept (gb_below hb none) (by cases hv : v.ownBlock <;> simp)
theorem OwnR.put (h : OwnR enc k e base w v xs) {Z o : Nat} {u : Value} (hZ : Z < base) : OwnR enc k e base (w.setCell ⟨Z, o, none⟩ u) v xs := h.go hZ (gb_put w Z o u)
theorem OwnR.base' (h : OwnR enc k e base w v xs) {b' : Nat} (hb : b' ≤ base) : OwnR enc k e b' w v xs := by
  obtain ⟨h1, h2⟩ := h
  refine ⟨h1, ?_⟩
  rcases h2 with h2 | ⟨g, cap, cur, e, hg, hh⟩
  · exact .inl h2
  · exact .inr ⟨g, cap, cur, e, by omega, hh⟩
theorem OwnR.form (h : OwnR enc k e base w v xs) : ∃ a c, v = .slice a xs.length c := by
  obtain ⟨_, h2⟩ := h
  rcases h2 with ⟨rfl, h0⟩ | ⟨g, cap, cur, rfl, _⟩
  · exact ⟨none, 0, by rw [h0]⟩
  · exact ⟨_, _, rfl⟩
/-- a slice without a block has no room -/
def Sound0 (v : Value) : Prop := ∀ n c, v = .slice none n c → n = 0 ∧ c = 0
theorem OwnR.sound (h : OwnR enc k e base w v xs) : Sound0 v := by
  obtain ⟨_, h2⟩ := h
  rcases h2 with ⟨rfl, h0⟩ | ⟨g, cap, cur, rfl, _⟩
  · intro n c e; cases e; exact ⟨rfl, rfl⟩
  · intro n c e; cases e
theorem OwnR.thaw (h : OwnR enc k e base w v xs) {g : Nat} (hg : v.ownBlock = some g) (o : Nat) : w.frozen? ⟨g, o, none⟩ = false := by
  obtain ⟨_, h2⟩ := h
  rcases h2 with ⟨rfl, h0⟩ | ⟨g', cap, cur, rfl, _, hh, _⟩
  · cases hg
  · cases hg
    unfold World.frozen?
    rw [hh]
    simp

theorem flatMap_length {enc : α → List Value} {k : Nat} (henc : ∀ x, (enc x).length = k) (ys : List α) : (ys.flatMap enc).length = ys.length * k := by
  induction ys with
  | nil => simp
  | cons y ys ih => rw [List.flatMap_cons, List.length_append, ih, henc, List.length_cons, Nat.add_mul]; omega
theorem flatMap_at {enc : α → List Value} {k : Nat} {z : α} (f : α → Nat → Value) (henc : ∀ x, (enc x).length = k) (hf : ∀ x j, j < k → (enc x)[j]? = some (f x j)) (xs : List α) :
    ∀ i, i < xs.length → ∀ j, j < k → (xs.flatMap enc)[i * k + j]? = some (f (xs.getD i z) j) := by
  induction xs with
  | nil => intro i hi; simp at hi
  | cons x xs ih =>
    intro i hi j hj
    cases i with
    | zero =>
      rw [List.flatMap_cons, List.getElem?_append_left (by rw [henc]; omega)]
      simpa using hf x j hj
    | succ i =>
      have h := ih i (by simpa using hi) j hj
      rw [List.flatMap_cons, List.getElem?_append_right (by rw [henc, Nat.add_mul]; omega), henc]
      have e : (i + 1) * k + j - k = i * k + j := by rw [Nat.add_mul]; omega
      rw [e, h]
      simp
theorem OwnR.recs (h : OwnR enc k e base w v xs) (z : α) (f : α → Nat → Value) (henc : ∀ x, (enc x).length = k) (hf : ∀ x j, j < k → (enc x)[j]? = some (f x j)) {d : Option Nat} (hd : ∀ j, d = some j → j < base) :
    RecAt d w v xs.length k fun i j => f (xs.getD i z) j := by
  obtain ⟨hl, h2⟩ := h
  rcases h2 with ⟨rfl, h0⟩ | ⟨g, cap, cur, rfl, hb, hh, h1, hm, hs, ht⟩
  · exact ⟨none, 0, by rw [h0], fun h => by omega⟩
  · refine ⟨some ⟨g, 0, none⟩, cap, rfl, fun _ => ⟨g, 0, rfl, h1, hm, fun e => ?_, (Array.getElem?_eq_some_iff.1 hh).1, fun i hi j hj => ?_⟩⟩
    · have := hd g e.symm; omega
    · have hu := flatMap_at (z := z) f henc hf xs i hi j hj
      have hlt : i * k + j < xs.length * k := by
        have : (i + 1) * k ≤ xs.length * k := Nat.mul_le_mul_right _ hi
        rw [Nat.add_mul] at this; omega
      rw [← ht, List.getElem?_take, if_pos hlt, Array.getElem?_toList] at hu
      simp only [World.cell?, hh, Nat.zero_add]
      simpa using hu
end

theorem OwnR.below {α : Type} {enc : α → List Value} {k : Nat} {e : TypeId} {base : Nat} {w w' : World} {v : Value} {xs : List α} (h : OwnR enc k e base w v xs) (hg : w.grownBy w' v.ownBlock) (hb : base ≤ w.heap.size) : Below base w w' :=
  (Below.refl base w).grown hg hb (fun _ hj => (h.lt hj).1)
/-- a list of records that can be taken from: its cells, one behind the other -/
def Src {α : Type} (enc : α → List Value) (w : World) (vx : Value) (ys : List α) : Prop :=
  (∃ ad c, vx = .slice (some ad) ys.length c ∧ ∀ j u, (ys.flatMap enc)[j]? = some u → w.cell? (ad.add j) = some u) ∨ (vx = .slice none 0 0 ∧ ys = [])
theorem addr_off (b off j : Nat) : (⟨b, off, none⟩ : Addr).add j = ⟨b, off + j, none⟩ := by
  unfold Addr.add
  split
  · rename_i h; subst h; rfl
  · rfl

theorem Src.lit {α : Type} (enc : α → List Value) (w : World) (y : α) (t : TypeId) (c : Nat) {B : Nat} (hB : B = w.heap.size) : Src enc (w.alloc (.cells (enc y).toArray t)) (.slice (some ⟨B, 0, none⟩) 1 c) [y] := by
  subst hB
  exact .inl ⟨_, c, rfl, fun j u hj => by rw [addr_off, Nat.zero_add]; exact cell_at rfl (by simpa using hj)⟩
theorem Src.later {α : Type} {enc : α → List Value} {w w' : World} {vx : Value} {ys : List α} (h : Src enc w vx ys) (hb : Below w.heap.size w w') : Src enc w' vx ys := by
  rcases h with ⟨ad, c, e, h⟩ | h
  · exact .inl ⟨ad, c, e, fun j u hj => (World.cell?_of_block (hb.block _ (World.block_lt_of_cell? w _ (h j u hj)))).trans (h j u hj)⟩
  · exact .inr h
theorem Src.ofRec {α : Type} {enc : α → List Value} {k : Nat} {w : World} {vx : Value} {ys : List α} {d : Option Nat} (z : α) (f : α → Nat → Value) (hk : 0 < k) (henc : ∀ x, (enc x).length = k) (hf : ∀ x j, j < k → (enc x)[j]? = some (f x j))
    (h : RecAt d w vx ys.length k fun i j => f (ys.getD i z) j) (hs : Sound0 vx) : Src enc w vx ys := by
  obtain ⟨a, cap, rfl, hh⟩ := h
  by_cases h0 : 0 < ys.length
  · obtain ⟨b, off, rfl, _, _, _, _, hc⟩ := hh h0
    refine .inl ⟨_, cap, rfl, fun j u hj => ?_⟩
    rw [addr_off]
    have hlen := flatMap_length henc ys
    have hjl : j < ys.length * k := by have := (List.getElem?_eq_some_iff.1 hj).1; omega
    have hi : j / k < ys.length := Nat.div_lt_of_lt_mul (by rw [Nat.mul_comm]; exact hjl)
    have hj2 := flatMap_at (z := z) f henc hf ys (j / k) hi (j % k) (Nat.mod_lt _ hk)
    have e : j / k * k + j % k = j := by rw [Nat.mul_comm]; exact Nat.div_add_mod j k
    rw [e, hj] at hj2
    have := hc (j / k) hi (j % k) (Nat.mod_lt _ hk)
    rw [show off + j / k * k + j % k = off + j by omega] at this
    rw [this, Option.some.inj hj2]
  · obtain rfl : ys = [] := List.eq_nil_of_length_eq_zero (by omega)
    cases a with
    | none =>
      obtain ⟨_, rfl⟩ := hs _ _ rfl
      exact .inr ⟨rfl, rfl⟩
    | some a => exact .inl ⟨a, cap, rfl, fun j u hj => by simp at hj⟩

section
variable {P : Program} {α : Type} (enc : α → List Value) {k bytes : Nat} {e t : TypeId}

/-- AN APPEND: what it yields -/
theorem run_app (ht : P.underlying t = some (.slice e)) (hinfo : (P.info? e).map (fun i => (i.zero.map (·.cells.size), i.size, i.bytes)) = some (some k, k, bytes)) (hk : 0 < k) (hby : bytes ≤ 1000)
    (henc : ∀ x, (enc x).length = k) {w : World} (ty : TypeId) (base : Nat) (xs ys : List α) (hone : ∀ x, x ∈ ys → ∀ u, u ∈ enc x → u.oneCell' = true) (v vx : Value) (hown : OwnR enc k e base w v xs) (hX : Src enc w vx ys)
    (hn : xs.length + ys.length ≤ 1000000) (hbase : base ≤ w.heap.size) :
    ∃ v' w', (Builtin.append_ #[t, t] ty #[v, vx]).run P w = .ok v' w' ∧ OwnR enc k e base w' v' (xs ++ ys) ∧ w.grownBy w' v.ownBlock ∧ (v' = .slice none 0 0 ↔ v = .slice none 0 0 ∧ ys = []) ∧ (v'.ownBlock = v.ownBlock ∨ v'.ownBlock = some w.heap.size) := by
  obtain ⟨i0, hi, hz0⟩ : ∃ i0, P.info? e = some i0 ∧ (i0.zero.map (·.cells.size), i0.size, i0.bytes) = (some k, k, bytes) := by
    cases h : P.info? e with
    | none => rw [h] at hinfo; simp at hinfo
    | some i => rw [h] at hinfo; exact ⟨i, rfl, by simpa using hinfo⟩
  simp only [Prod.mk.injEq, Option.map_eq_some_iff] at hz0
  obtain ⟨⟨z, hz, hzs⟩, hsz, hby2⟩ := hz0
  have hlen := flatMap_length henc ys
  have hone' : ∀ u ∈ ys.flatMap enc, u.oneCell' = true := fun u hu => by
    obtain ⟨y, hy, h⟩ := List.mem_flatMap.1 hu
    exact hone y hy u h
  rcases hX with ⟨ad, c, rfl, hc⟩ | ⟨rfl, rfl⟩
  · obtain ⟨v', w', h1, h2, h3, h4, h5⟩ := run_append_own_at (P := P) w base t ty e i0 z k bytes ht hi hz hsz hby2 hzs hk v xs.length (xs.flatMap enc) hown ad ys.length c (ys.flatMap enc) hlen
      hc hone' (by unfold maxLen; omega) (by
        have : (xs.length + ys.length) * bytes ≤ 1000000 * 1000 := Nat.mul_le_mul hn hby
        omega) hbase
    refine ⟨v', w', h1, ?_, h3, ?_, h5⟩
    · unfold OwnR; rw [List.length_append, List.flatMap_append]; exact h2
    · rw [h4]
      constructor
      · rintro ⟨a, b⟩; exact ⟨a, List.eq_nil_of_length_eq_zero b⟩
      · rintro ⟨a, b⟩; exact ⟨a, by rw [b]; rfl⟩
  · have hrun := run_append_owned_none (P := P) (w := w) base t ty e i0 k ht hi v xs.length (xs.flatMap enc) hown
    refine ⟨v, w, hrun, by rw [List.append_nil]; exact hown, gb_refl _ _, by simp, .inl rfl⟩

theorem wp_app (ht : P.underlying t = some (.slice e)) (hinfo : (P.info? e).map (fun i => (i.zero.map (·.cells.size), i.size, i.bytes)) = some (some k, k, bytes)) (hk : 0 < k) (hby : bytes ≤ 1000)
    (henc : ∀ x, (enc x).length = k) {w : World} {o : Oper} {a : Act} {K : Act → World → Prop} {Q : Exit → Act → World → Prop} (s x : Operand)
    (ho : o.op = .call { callee := .builtin .append, args := #[s, x], argTypes := #[t, t] }) (base : Nat) (xs ys : List α) (hone : ∀ x, x ∈ ys → ∀ u, u ∈ enc x → u.oneCell' = true) (v vx : Value) (hs : a.eval s = v) (hx : a.eval x = vx) (hown : OwnR enc k e base w v xs) (hX : Src enc w vx ys)
    (hn : xs.length + ys.length ≤ 1000000) (hbase : base ≤ w.heap.size)
    (h : ∀ v' w', OwnR enc k e base w' v' (xs ++ ys) → w.grownBy w' v.ownBlock → (v' = .slice none 0 0 ↔ v = .slice none 0 0 ∧ ys = []) → (v'.ownBlock = v.ownBlock ∨ v'.ownBlock = some w.heap.size) → K (a.put o.dst v') w') : o.wp P a w K Q := by
  obtain ⟨v', w', hr, h2, h3, h4, h5⟩ := run_app enc ht hinfo hk hby henc o.type base xs ys hone v vx hown hX hn hbase
  unfold Oper.wp execOp
  simp only [ho, resolve, invoke, builtin, Sem.run_bind, Sem.run_pure, Result.andThen_ok, List.map_toArray, List.map_cons, List.map_nil, hs, hx, hr]
  exact h _ _ h2 h3 h4 h5
theorem wpList_app (ht : P.underlying t = some (.slice e)) (hinfo : (P.info? e).map (fun i => (i.zero.map (·.cells.size), i.size, i.bytes)) = some (some k, k, bytes)) (hk : 0 < k) (hby : bytes ≤ 1000)
    (henc : ∀ x, (enc x).length = k) {w : World} {ops : Array Oper} {rest : List Oper} {o : Oper} {a : Act} {Q : Exit → Act → World → Prop} (hgd : o.guard = none) (s x : Operand)
    (ho : o.op = .call { callee := .builtin .append, args := #[s, x], argTypes := #[t, t] }) (base : Nat) (xs ys : List α) (hone : ∀ x, x ∈ ys → ∀ u, u ∈ enc x → u.oneCell' = true) (v vx : Value) (hs : a.eval s = v) (hx : a.eval x = vx) (hown : OwnR enc k e base w v xs) (hX : Src enc w vx ys)
    (hn : xs.length + ys.length ≤ 1000000) (hbase : base ≤ w.heap.size)
    (h : ∀ v' w', OwnR enc k e base w' v' (xs ++ ys) → w.grownBy w' v.ownBlock → (v' = .slice none 0 0 ↔ v = .slice none 0 0 ∧ ys = []) → (v'.ownBlock = v.ownBlock ∨ v'.ownBlock = some w.heap.size) → wpList P ops Q rest (a.put o.dst v') w') :
    wpList P ops Q (o :: rest) a w :=
  wpList_plain hgd fun _ hK => wp_app enc ht hinfo hk hby henc s x ho base xs ys hone v vx hs hx hown hX hn hbase fun v' w' h1 h2 h3 h4 => hK _ _ (h v' w' h1 h2 h3 h4)
end
end Go.Proofs.YtefdopifebhgiaaGreatDoor
