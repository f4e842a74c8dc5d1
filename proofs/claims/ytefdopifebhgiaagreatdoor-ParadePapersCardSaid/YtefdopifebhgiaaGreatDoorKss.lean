/-
  WALKS: Of, StartsOf, PacesOf, RulesOf.
  WALKS: StartsOf, PacesOf.
-/
import Derived.Test.YtefdopifebhgiaaGreatDoorKso
namespace Go.Proofs.YtefdopifebhgiaaGreatDoor
open Go.RowKit

theorem IntsAt.any {d : Option Nat} {w : World} {v : Value} {xs : List Int} (h : IntsAt d w v xs) : IntsAt none w v xs := by
  obtain ⟨a, cap, rfl, hh⟩ := h
  refine ⟨a, cap, rfl, fun h0 => ?_⟩
  obtain ⟨b, off, rfl, h1, h2, h3, h4, h5⟩ := hh h0
  exact ⟨b, off, rfl, h1, h2, by simp, h4, h5⟩
theorem WgAt.any {d : Option Nat} {w : World} {v : Value} {ws : List Wing} (h : WgAt d w v ws) : WgAt none w v ws := by
  obtain ⟨a, cap, rfl, hh⟩ := h
  refine ⟨a, cap, rfl, fun h0 => ?_⟩
  obtain ⟨b, off, rfl, h1, h2, h3, h4, h5⟩ := hh h0
  exact ⟨b, off, rfl, h1, h2, by simp, h4, h5⟩

theorem step_app_int {ops : Array Oper} {o : Oper} {a : Act} {K : Act → World → Prop} {Q : Exit → Act → World → Prop} {E : Prop} {w : World} (hgd : o.guard = none) (s x : Operand)
    (ho : o.op = .call { callee := .builtin .append, args := #[s, x], argTypes := #[25, 25] })
    (base : Nat) (xs : List Int) (y : Int) (v : Value) (hown : OwnInts base w v xs) (hs : a.eval s = v) (hx : a.eval x = .slice (some ⟨w.heap.size, 0, none⟩) 1 1)
    (hn : xs.length ≤ 1000000) (hbase : base ≤ w.heap.size)
    (h : ∀ a1 c1 w', OwnInts base w' (.slice a1 (xs.length + 1) c1) (xs ++ [y]) → w.grownBy w' v.ownBlock → K (a.put o.dst (.slice a1 (xs.length + 1) c1)) w') :
    if Region.wanted o (yielded ops a.tmps) = true then Oper.wp Tryz.prog o a (w.alloc (.cells #[.int .i64 y] 3)) K Q else E := by
  obtain ⟨i0, hi, hz0, hz1, hz2⟩ := info_parts infoInt
  refine step_append_lies _ hgd s x 25 ho base 3 i0 (.int .i64 0) 1 8 Tryz.underlying25 hi hz0 hz1 hz2 rfl (by decide) v xs.length (xs.map (Value.int .i64)) hs (World.ownsRow.alloc hown _) ⟨w.heap.size, 0, none⟩ 1 1 [.int .i64 y] hx rfl (cell_one_new _ _ _)
    (by intro u hu; simp at hu; subst hu; rfl) (by decide) (by unfold maxLen; omega) (by omega) (by simp; omega) _ rfl ?_
  intro g cap w' hown' hg _ _
  exact h _ _ w' (by unfold OwnInts; simpa using hown') (gb_trans (World.grownBy_alloc w _ _) hg)

/-- what stays while block d is a drum's and block R holds cs -/
structure DK (d R : Nat) (cs : List Value) (w0 w : World) : Prop where
  gb : w0.grownBy w (some d)
  beat : Beat d w
  hd : d < w0.heap.size
  hR : w0.heap.size ≤ R
  hlt : R < w.heap.size
  cells : ∀ i v, cs[i]? = some v → w.cell? ⟨R, i, none⟩ = some v
  fr : ∀ i, w.frozen? ⟨R, i, none⟩ = false

variable {d R : Nat} {cs : List Value} {w0 w w' : World}

theorem DK.start {t : TypeId} (h : Beat d w0) : DK d w0.heap.size cs w0 (w0.alloc (.cells cs.toArray t)) where
  gb := World.grownBy_alloc _ _ _
  beat := h.gb ((Below.refl _ w0).alloc (Nat.le_refl _) _)
  hd := h.lt
  hR := Nat.le_refl _
  hlt := by simp
  cells := fun i v hv => cell_at rfl (by simpa using hv)
  fr := fun i => frozen_at rfl

theorem DK.go (k : DK d R cs w0 w) (hg : w.grownBy w' (some d)) (hb : Beat d w') : DK d R cs w0 w' where
  gb := gb_trans k.gb hg
  beat := hb
  hd := k.hd
  hR := k.hR
  hlt := Nat.lt_of_lt_of_le k.hlt hg.size
  cells := fun i v hv => cell_gb hg (by have := k.hd; have := k.hR; omega) (k.cells i v hv)
  fr := fun i => frozen_gb hg k.hlt (by have := k.hd; have := k.hR; omega) (k.fr i)

theorem DK.below (k : DK d R cs w0 w) (hb : Below w.heap.size w w') : DK d R cs w0 w' := k.go (gb_below hb _) (k.beat.gb hb)
theorem DK.alloc (k : DK d R cs w0 w) (X : Obj) : DK d R cs w0 (w.alloc X) := k.below ((Below.refl _ w).alloc (Nat.le_refl _) X)
theorem DK.drew (k : DK d R cs w0 w) : DK d R cs w0 w.drew := k.below (Below.refl _ w).drew
theorem DK.c0 {a : Value} {l : List Value} (k : DK d R (a :: l) w0 w) : w.cell? ⟨R, 0, none⟩ = some a := k.cells 0 a rfl
theorem DK.c1 {a b : Value} {l : List Value} (k : DK d R (a :: b :: l) w0 w) : w.cell? ⟨R, 1, none⟩ = some b := k.cells 1 b rfl
theorem DK.c2 {a b c : Value} {l : List Value} (k : DK d R (a :: b :: c :: l) w0 w) : w.cell? ⟨R, 2, none⟩ = some c := k.cells 2 c rfl
theorem DK.ints (k : DK d R cs w0 w) {v : Value} {xs : List Int} (h : IntsAt (some d) w0 v xs) : IntsAt (some d) w v xs := h.kept k.gb
theorem DK.wings (k : DK d R cs w0 w) {v : Value} {ws : List Wing} (h : WgAt (some d) w0 v ws) : WgAt (some d) w v ws := h.kept k.gb
/-- a list of the call's own behind a step of the drum -/
theorem own_gb {base : Nat} {v : Value} {xs : List Int} (h : OwnInts base w v xs) (hd : d < base) (hg : w.grownBy w' (some d)) : OwnInts base w' v xs :=
  World.ownsRow.kept h hg (by
    cases e : v.ownBlock with
    | none => exact .inl rfl
    | some j => exact .inr (fun e2 => by have := (World.ownsRow.lt h j e).1; cases e2; omega))
/-- a step that changes the list of the call's own only -/
theorem DK.own {base : Nat} {v : Value} {xs : List Int} (k : DK d R cs w0 w) (ho : OwnInts base w v xs) (hb : R < base) (hg : w.grownBy w' v.ownBlock) : DK d R cs w0 w' := by
  have hblk : ∀ i, i < base → i < w.heap.size → w'.heap[i]? = w.heap[i]? := fun i hi hi2 => hg.block i hi2 (fun e => by have := (World.ownsRow.lt ho i e.symm).1; omega)
  have h1 := k.hd
  have h2 := k.hR
  have h3 := k.hlt
  obtain ⟨u, hu, huf⟩ := k.beat
  have hlt := World.block_lt_of_cell? w ⟨d, 0, none⟩ hu
  have hlt : d < w.heap.size := hlt
  exact {
    gb := ⟨hg.os.trans k.gb.os, hg.tape.trans k.gb.tape, hg.output.trans k.gb.output, Nat.le_trans k.gb.size hg.size, fun i hi hn => (hblk i (by omega) (Nat.lt_of_lt_of_le hi k.gb.size)).trans (k.gb.block i hi hn)⟩
    beat := ⟨u, (World.cell?_of_block (a := ⟨d, 0, none⟩) (hblk d (by omega) hlt)).trans hu, (World.frozen?_of_block (a := ⟨d, 0, none⟩) (hblk d (by omega) hlt)).trans huf⟩
    hd := h1
    hR := h2
    hlt := Nat.lt_of_lt_of_le h3 hg.size
    cells := fun i v hv => (World.cell?_of_block (a := ⟨R, i, none⟩) (hblk R hb h3)).trans (k.cells i v hv)
    fr := fun i => (World.frozen?_of_block (a := ⟨R, i, none⟩) (hblk R hb h3)).trans (k.fr i) }

end Go.Proofs.YtefdopifebhgiaaGreatDoor

namespace Go.Proofs.YtefdopifebhgiaaGreatDoor
open Go.RowKit

/-- true paces that are made of numbers -/
def MadeP (ws : List Wing) (ps : List Int) : Prop := ∀ i, i < ps.length → Lo ws i ≤ nm ps i ∧ nm ps i ≤ Hi ws i
theorem MadeP.snoc {ws : List Wing} {ps : List Int} (h : MadeP ws ps) {z : Int} (h1 : Lo ws ps.length ≤ z) (h2 : z ≤ Hi ws ps.length) : MadeP ws (ps ++ [z]) := by
  intro i hi
  rw [nm_snoc]
  by_cases e : i < ps.length
  · rw [if_pos e]; exact h i e
  · obtain rfl : i = ps.length := by simp at hi; omega
    rw [if_neg e, if_pos rfl]
    exact ⟨h1, h2⟩

end Go.Proofs.YtefdopifebhgiaaGreatDoor
