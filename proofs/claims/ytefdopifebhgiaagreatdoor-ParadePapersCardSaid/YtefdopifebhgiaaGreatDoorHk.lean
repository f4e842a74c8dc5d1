/-
  WHAT STAYS WHILE A FUNCTION RUNS: cells of its own.
-/
import Derived.Test.YtefdopifebhgiaaGreatDoorRep
namespace Go.Proofs.YtefdopifebhgiaaGreatDoor
open Go.RowKit

abbrev Cells := List (Nat × Nat × Value)
def upd (cs : Cells) (b o : Nat) (u : Value) : Cells := cs.map fun x => if x.1 = b ∧ x.2.1 = o then (b, o, u) else x
theorem upd_far {cs : Cells} {b o : Nat} {u : Value} (h : ∀ b' o' v, (b', o', v) ∈ cs → b' ≠ b) : upd cs b o u = cs := by
  unfold upd
  conv => rhs; rw [← List.map_id cs]
  refine List.map_congr_left (fun x hx => ?_)
  rw [if_neg (by rintro ⟨e, _⟩; exact h x.1 x.2.1 x.2.2 hx e)]
  rfl

/-- what stays while a function without a drum runs -/
structure HK (cs : Cells) (w0 w : World) : Prop where
  below : Below w0.heap.size w0 w
  cell : ∀ b o v, (b, o, v) ∈ cs → w0.heap.size ≤ b ∧ w.cell? ⟨b, o, none⟩ = some v ∧ w.frozen? ⟨b, o, none⟩ = false

variable {cs : Cells} {w0 w w' : World}

theorem HK.start (w : World) : HK [] w w := ⟨Below.refl _ _, fun _ _ _ h => by cases h⟩
theorem HK.c (k : HK cs w0 w) {b o : Nat} {v : Value} (h : (b, o, v) ∈ cs) : w.cell? ⟨b, o, none⟩ = some v := (k.cell b o v h).2.1
theorem HK.f (k : HK cs w0 w) {b o : Nat} {v : Value} (h : (b, o, v) ∈ cs) : w.frozen? ⟨b, o, none⟩ = false := (k.cell b o v h).2.2
theorem HK.clt (k : HK cs w0 w) {b o : Nat} {v : Value} (h : (b, o, v) ∈ cs) : b < w.heap.size := World.block_lt_of_cell? w ⟨b, o, none⟩ (k.c h)
theorem HK.later (k : HK cs w0 w) (hb : Below w.heap.size w w') : HK cs w0 w' :=
  ⟨k.below.trans (hb.mono k.below.size), fun b o v h => ⟨(k.cell b o v h).1, cell_back hb (k.clt h) (k.c h), (hb.frozen (p := ⟨b, o, none⟩) (k.clt h)).trans (k.f h)⟩⟩
theorem HK.alloc (k : HK cs w0 w) (X : Obj) : HK cs w0 (w.alloc X) := k.later (below_alloc w X)
theorem HK.drew (k : HK cs w0 w) : HK cs w0 w.drew := k.later (Below.refl _ w).drew
theorem HK.drewN (k : HK cs w0 w) (n : Nat) : HK cs w0 (w.drewN n) := k.later (below_drewN (Below.refl _ w) n)
theorem HK.add (k : HK cs w0 w) {b o : Nat} {v : Value} (hb : w0.heap.size ≤ b) (hc : w.cell? ⟨b, o, none⟩ = some v) (hf : w.frozen? ⟨b, o, none⟩ = false) : HK ((b, o, v) :: cs) w0 w :=
  ⟨k.below, fun b' o' v' h => by
    rcases List.mem_cons.1 h with h | h
    · cases h; exact ⟨hb, hc, hf⟩
    · exact k.cell b' o' v' h⟩
theorem HK.box2 (k : HK cs w0 w) (x y : Value) (t : TypeId) : HK ((w.heap.size, 0, x) :: (w.heap.size, 1, y) :: cs) w0 (w.alloc (.cells #[x, y] t)) :=
  ((k.alloc _).add k.below.size (cell_at rfl rfl) (frozen_at rfl)).add k.below.size (cell_at rfl rfl) (frozen_at rfl)
theorem HK.box3 (k : HK cs w0 w) (x y z : Value) (t : TypeId) : HK ((w.heap.size, 0, x) :: (w.heap.size, 1, y) :: (w.heap.size, 2, z) :: cs) w0 (w.alloc (.cells #[x, y, z] t)) :=
  (((k.alloc _).add k.below.size (cell_at rfl rfl) (frozen_at rfl)).add k.below.size (cell_at rfl rfl) (frozen_at rfl)).add k.below.size (cell_at rfl rfl) (frozen_at rfl)
theorem HK.name (k : HK cs w0 w) : ∃ w', w = w' ∧ HK cs w0 w' := ⟨w, rfl, k⟩

theorem HK.box1 {cs : Cells} {w0 w : World} (k : HK cs w0 w) (x : Value) (t : TypeId) : HK ((w.heap.size, 0, x) :: cs) w0 (w.alloc (.cells #[x] t)) :=
  (k.alloc _).add k.below.size (cell_at rfl rfl) (frozen_at rfl)

theorem HK.box1n {cs : Cells} {w0 w : World} (k : HK cs w0 w) {n : Nat} (hn : n = w.heap.size) (x : Value) (t : TypeId) : HK ((n, 0, x) :: cs) w0 (w.alloc (.cells #[x] t)) := by subst hn; exact k.box1 x t
theorem HK.box3n {cs : Cells} {w0 w : World} (k : HK cs w0 w) {n : Nat} (hn : n = w.heap.size) (x y z : Value) (t : TypeId) : HK ((n, 0, x) :: (n, 1, y) :: (n, 2, z) :: cs) w0 (w.alloc (.cells #[x, y, z] t)) := by subst hn; exact k.box3 x y z t
theorem HK.sub {cs cs2 : Cells} {w0 w : World} (k : HK cs w0 w) (h : ∀ x, x ∈ cs2 → x ∈ cs) : HK cs2 w0 w := ⟨k.below, fun b o v hm => k.cell b o v (h _ hm)⟩
end Go.Proofs.YtefdopifebhgiaaGreatDoor
