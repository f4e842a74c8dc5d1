/-
  SMALL LAWS for ParadeChecks: a box of four cells, a list that is new lies apart.
-/
import Derived.Test.YtgfipifgijohhaaDoorLax
import Derived.Test.YtgfipifgijohhaaDoorRLb
import Derived.Test.YtgfipifgijohhaaDoorLl
namespace Go.Proofs.YtgfipifgijohhaaDoor
open Go.RowKit

theorem HK.box4 {cs : Cells} {w0 w : World} (k : HK cs w0 w) (x y z u : Value) (t : TypeId) : HK ((w.heap.size, 0, x) :: (w.heap.size, 1, y) :: (w.heap.size, 2, z) :: (w.heap.size, 3, u) :: cs) w0 (w.alloc (.cells #[x, y, z, u] t)) :=
  ((((k.alloc _).add k.below.size (cell_at rfl rfl) (frozen_at rfl)).add k.below.size (cell_at rfl rfl) (frozen_at rfl)).add k.below.size (cell_at rfl rfl) (frozen_at rfl)).add k.below.size (cell_at rfl rfl) (frozen_at rfl)

theorem LK.fresh {d : Nat} {cs : Cells} {li : List (Value × List Int)} {lw : List (Value × List Wing)} {w0 w : World} (k : LK d cs li lw w0 w) {b : Nat} (hb : w.heap.size ≤ b) :
    b ≠ d ∧ w0.heap.size ≤ b ∧ (∀ b' o v, (b', o, v) ∈ cs → b' ≠ b) ∧ (∀ v xs, (v, xs) ∈ li → 0 < xs.length → v.ownBlock ≠ some b) ∧ (∀ v xs, (v, xs) ∈ lw → 0 < xs.length → v.ownBlock ≠ some b) := by
  refine ⟨by have := k.lt; omega, Nat.le_trans k.below.size hb, fun b' o v h => by have := k.clt h; omega, fun v xs h h0 e => ?_, fun v xs h h0 e => ?_⟩
  · obtain ⟨b', e', hb', _⟩ := (k.i h).block h0
    rw [e'] at e; cases e; omega
  · obtain ⟨b', e', hb', _⟩ := (k.g h).block h0
    rw [e'] at e; cases e; omega

theorem ints_thawed' {w : World} {base : Nat} {xs : List Int} {b off n c : Nat} (h : OwnInts base w (.slice (some ⟨b, off, none⟩) n c) xs) : ∀ o, w.frozen? ⟨b, o, none⟩ = false := by
  obtain ⟨_, h2⟩ := h
  rcases h2 with ⟨h0, _⟩ | ⟨g, cap, cur, e, hb, hh, h1, hm, hs, ht⟩
  · cases h0
  · cases e
    intro o
    unfold World.frozen?
    rw [hh]
    simp

/-- a literal in a block that is new -/
theorem lit_new {w : World} {cells : List Value} {t : TypeId} {n : Nat} (hn : n = w.heap.size) : ∀ o u, cells[o]? = some u → (w.alloc (.cells cells.toArray t)).cell? ⟨n, o, none⟩ = some u ∧ (w.alloc (.cells cells.toArray t)).frozen? ⟨n, o, none⟩ = false := fun o u h => by
  subst hn
  exact ⟨cell_at rfl (by simpa using h), frozen_at rfl⟩
theorem leastRes_len (route : Int) (ws : List Wing) (h : ws.length ≤ 100) : (leastRes route ws).length ≤ 1000000 := by
  unfold leastRes
  split
  · rw [leasts_length]; omega
  · simp
theorem LK.put3_2 {d : Nat} {cs : Cells} {li : List (Value × List Int)} {lw : List (Value × List Wing)} {w0 w : World} {Z : Nat} {x y z z' : Value} (k : LK d ((Z, 0, x) :: (Z, 1, y) :: (Z, 2, z) :: cs) li lw w0 w) (h : ∀ b o v, (b, o, v) ∈ cs → b ≠ Z) :
    LK d ((Z, 0, x) :: (Z, 1, y) :: (Z, 2, z') :: cs) li lw w0 (w.setCell ⟨Z, 2, none⟩ z') := by
  have k1 := k.put (o := 2) (v := z) (List.Mem.tail _ (List.Mem.tail _ (List.Mem.head _))) z'
  have e1 : upd ((Z, 0, x) :: (Z, 1, y) :: (Z, 2, z) :: cs) Z 2 z' = (Z, 0, x) :: (Z, 1, y) :: (Z, 2, z') :: cs := by
    have := upd_far (o := 2) (u := z') h
    unfold upd at *
    simp [this]
  rw [e1] at k1
  exact k1
end Go.Proofs.YtgfipifgijohhaaDoor
