/-
  PLOTS: what a valid plot is, and how a plot lies in memory. No program in sight.
-/
import Derived.Test.YtefdopifebhgiaaGreatDoorSpec
namespace Go.Proofs.YtefdopifebhgiaaGreatDoor
open Go.RowKit

structure Part where
  person : Int
  place : Int
  kind : Int
  start : Int
  stop : Int

structure Plot where
  persons : List (Int × Int)
  walk : List (List Int)
  dress : List Int
  parts : List Part

def noPart : Part := ⟨0, 0, 0, 0, 0⟩
def pt (xs : List Part) (i : Nat) : Part := xs.getD i noPart
def sp (xs : List (Int × Int)) (i : Nat) : Int × Int := xs.getD i (0, 0)
def lst (xs : List (List Int)) (i : Nat) : List Int := xs.getD i []

def figE (x : Int × Int) : Int := if inB x.1 1 300 = false then 2 else if inB x.2 1 300 = false then 2 else if x.2 < x.1 then 9 else 0
def countE (n : Nat) (most : Nat) : Int := if n = 0 then 4 else if most < n then 5 else 0
def cellE (row : List Int) (i k : Nat) : Int := if inB (nm row k) 0 1440 = false then 2 else if i = k ∧ nm row k ≠ 0 then 1 else 0
def rowE (walk : List (List Int)) (i : Nat) : Int := if (lst walk i).length = walk.length then firstBad (cellE (lst walk i) i) walk.length else 1
def dressE (dress : List Int) : Int := firstBad (fun i => if inB (nm dress i) 0 1440 = false then 2 else 0) dress.length

/-- the one of two parts that begins first, and the other one -/
def inTime (y x : Part) : Part × Part := if x.start < y.start then (x, y) else (y, x)
def betweenP (y x : Part) : Int := (inTime y x).2.start - (inTime y x).1.stop
def wayP (p : Plot) (y x : Part) (d : Bool) : Int := nm (lst p.walk (inTime y x).1.place.toNat) (inTime y x).2.place.toNat + (if d = true then nm p.dress (inTime y x).2.kind.toNat else 0)
def twoE (p : Plot) (y x : Part) : Int :=
  if y.person = x.person then (if betweenP y x < 0 then 10 else if betweenP y x < wayP p y x (decide (y.kind ≠ x.kind)) then 12 else 0) else 0
def aloneE (p : Plot) (x : Part) : Int :=
  if inB x.person 0 ((p.persons.length : Int) - 1) = false then 7 else if inB x.place 0 ((p.walk.length : Int) - 1) = false then 7 else if inB x.kind 0 ((p.dress.length : Int) - 1) = false then 7 else
  if inB x.start 0 1440 = false then 2 else if inB x.stop 0 1440 = false then 2 else if x.stop ≤ x.start then 9 else 0
def partE (p : Plot) (i : Nat) : Int := if aloneE p (pt p.parts i) = 0 then firstBad (fun k => twoE p (pt p.parts k) (pt p.parts i)) i else aloneE p (pt p.parts i)

def plotErr (p : Plot) : Int :=
  if countE p.persons.length 12 = 0 then
    if firstBad (fun i => figE (sp p.persons i)) p.persons.length = 0 then
      if countE p.walk.length 8 = 0 then
        if firstBad (rowE p.walk) p.walk.length = 0 then
          if countE p.dress.length 8 = 0 then
            if dressE p.dress = 0 then
              if 30 < p.parts.length then 5 else firstBad (partE p) p.parts.length
            else dressE p.dress
          else countE p.dress.length 8
        else firstBad (rowE p.walk) p.walk.length
      else countE p.walk.length 8
    else firstBad (fun i => figE (sp p.persons i)) p.persons.length
  else countE p.persons.length 12

structure Valid (p : Plot) : Prop where
  persons : 0 < p.persons.length ∧ p.persons.length ≤ 12
  figures : ∀ i, i < p.persons.length → figE (sp p.persons i) = 0
  walk : 0 < p.walk.length ∧ p.walk.length ≤ 8
  rows : ∀ i, i < p.walk.length → rowE p.walk i = 0
  dress : 0 < p.dress.length ∧ p.dress.length ≤ 8
  dresses : ∀ i, i < p.dress.length → 0 ≤ nm p.dress i ∧ nm p.dress i ≤ 1440
  few : p.parts.length ≤ 30
  parts : ∀ i, i < p.parts.length → aloneE p (pt p.parts i) = 0
  twos : ∀ i, i < p.parts.length → ∀ k, k < i → twoE p (pt p.parts k) (pt p.parts i) = 0

theorem countE_zero {n m : Nat} : countE n m = 0 ↔ 0 < n ∧ n ≤ m := by
  unfold countE
  constructor
  · intro h
    split at h
    · omega
    · split at h <;> omega
  · rintro ⟨h1, h2⟩
    rw [if_neg (by omega), if_neg (by omega)]
theorem partE_zero {p : Plot} {i : Nat} : partE p i = 0 ↔ aloneE p (pt p.parts i) = 0 ∧ ∀ k, k < i → twoE p (pt p.parts k) (pt p.parts i) = 0 := by
  unfold partE
  constructor
  · intro h
    by_cases ha : aloneE p (pt p.parts i) = 0
    · rw [if_pos ha] at h; exact ⟨ha, firstBad_zero.1 h⟩
    · rw [if_neg ha] at h; exact absurd h ha
  · rintro ⟨h1, h2⟩
    rw [if_pos h1]
    exact firstBad_zero.2 h2
theorem plotErr_zero {p : Plot} : plotErr p = 0 ↔ Valid p := by
  unfold plotErr
  constructor
  · intro h
    by_cases h1 : countE p.persons.length 12 = 0
    · rw [if_pos h1] at h
      by_cases h2 : firstBad (fun i => figE (sp p.persons i)) p.persons.length = 0
      · rw [if_pos h2] at h
        by_cases h3 : countE p.walk.length 8 = 0
        · rw [if_pos h3] at h
          by_cases h4 : firstBad (rowE p.walk) p.walk.length = 0
          · rw [if_pos h4] at h
            by_cases h5 : countE p.dress.length 8 = 0
            · rw [if_pos h5] at h
              by_cases h6 : dressE p.dress = 0
              · rw [if_pos h6] at h
                by_cases h7 : 30 < p.parts.length
                · rw [if_pos h7] at h; cases h
                · rw [if_neg h7] at h
                  have h8 := firstBad_zero.1 h
                  refine ⟨countE_zero.1 h1, firstBad_zero.1 h2, countE_zero.1 h3, firstBad_zero.1 h4, countE_zero.1 h5, fun i hi => ?_, by omega, fun i hi => (partE_zero.1 (h8 i hi)).1, fun i hi => (partE_zero.1 (h8 i hi)).2⟩
                  have h9 : (if inB (nm p.dress i) 0 1440 = false then (2 : Int) else 0) = 0 := firstBad_zero.1 h6 i hi
                  cases hb : inB (nm p.dress i) 0 1440 with
                  | true => exact inB_true.1 hb
                  | false => rw [if_pos hb] at h9; cases h9
              · rw [if_neg h6] at h; exact absurd h h6
            · rw [if_neg h5] at h; exact absurd h h5
          · rw [if_neg h4] at h; exact absurd h h4
        · rw [if_neg h3] at h; exact absurd h h3
      · rw [if_neg h2] at h; exact absurd h h2
    · rw [if_neg h1] at h; exact absurd h h1
  · intro v
    have hd : dressE p.dress = 0 := firstBad_zero.2 fun i hi => by
      show (if inB (nm p.dress i) 0 1440 = false then (2 : Int) else 0) = 0
      rw [inB_true.2 (v.dresses i hi)]; rfl
    rw [if_pos (countE_zero.2 v.persons), if_pos (firstBad_zero.2 v.figures), if_pos (countE_zero.2 v.walk), if_pos (firstBad_zero.2 v.rows), if_pos (countE_zero.2 v.dress), if_pos hd, if_neg (by have := v.few; omega)]
    exact firstBad_zero.2 fun i hi => partE_zero.2 ⟨v.parts i hi, v.twos i hi⟩

/-- what is known of a part that is fine alone -/
theorem aloneE_zero {p : Plot} {x : Part} (h : aloneE p x = 0) : (0 ≤ x.person ∧ x.person < p.persons.length) ∧ (0 ≤ x.place ∧ x.place < p.walk.length) ∧ (0 ≤ x.kind ∧ x.kind < p.dress.length) ∧ (0 ≤ x.start ∧ x.start ≤ 1440) ∧ (0 ≤ x.stop ∧ x.stop ≤ 1440) ∧ x.start < x.stop := by
  unfold aloneE at h
  split at h
  · cases h
  · rename_i h1
    split at h
    · cases h
    · rename_i h2
      split at h
      · cases h
      · rename_i h3
        split at h
        · cases h
        · rename_i h4
          split at h
          · cases h
          · rename_i h5
            split at h
            · cases h
            · have q1 := inB_true.1 (Bool.not_eq_false _ ▸ h1)
              have q2 := inB_true.1 (Bool.not_eq_false _ ▸ h2)
              have q3 := inB_true.1 (Bool.not_eq_false _ ▸ h3)
              have q4 := inB_true.1 (Bool.not_eq_false _ ▸ h4)
              have q5 := inB_true.1 (Bool.not_eq_false _ ▸ h5)
              omega

/-- a list of records of k cells each, of which f tells what they hold -/
def RecAt (d : Option Nat) (w : World) (v : Value) (n k : Nat) (f : Nat → Nat → Value) : Prop :=
  ∃ a cap, v = .slice a n cap ∧ (0 < n → ∃ b off, a = some ⟨b, off, none⟩ ∧ n ≤ cap ∧ cap ≤ maxLen ∧ some b ≠ d ∧ b < w.heap.size ∧ ∀ i, i < n → ∀ j, j < k → w.cell? ⟨b, off + i * k + j, none⟩ = some (f i j))

theorem RecAt.kept {d : Option Nat} {w w' : World} {v : Value} {n k : Nat} {f : Nat → Nat → Value} (h : RecAt d w v n k f) (hg : w.grownBy w' d) : RecAt d w' v n k f := by
  obtain ⟨a, cap, rfl, hh⟩ := h
  refine ⟨a, cap, rfl, fun h0 => ?_⟩
  obtain ⟨b, off, rfl, h1, h2, h3, h4, h5⟩ := hh h0
  exact ⟨b, off, rfl, h1, h2, h3, Nat.lt_of_lt_of_le h4 hg.size, fun i hi j hj => (World.cell?_of_block (a := ⟨b, off + i * k + j, none⟩) (hg.block b h4 h3)).trans (h5 i hi j hj)⟩
theorem RecAt.below {d : Option Nat} {w w' : World} {v : Value} {n k : Nat} {f : Nat → Nat → Value} (h : RecAt d w v n k f) (hb : Below w.heap.size w w') : RecAt d w' v n k f := h.kept (gb_below hb d)

def partCell (x : Part) (j : Nat) : Value := if j = 0 then .int .i64 x.person else if j = 1 then .int .i64 x.place else if j = 2 then .int .i64 x.kind else if j = 3 then .int .i64 x.start else .int .i64 x.stop
def spanCell (x : Int × Int) (j : Nat) : Value := if j = 0 then .int .i64 x.1 else .int .i64 x.2
def PartsAt (d : Option Nat) (w : World) (v : Value) (xs : List Part) : Prop := RecAt d w v xs.length 5 fun i j => partCell (pt xs i) j
def SpansAt (d : Option Nat) (w : World) (v : Value) (xs : List (Int × Int)) : Prop := RecAt d w v xs.length 2 fun i j => spanCell (sp xs i) j
/-- a list of lists of numbers -/
def ListsAt (d : Option Nat) (w : World) (v : Value) (xs : List (List Int)) : Prop :=
  ∃ f : Nat → Value, RecAt d w v xs.length 1 (fun i _ => f i) ∧ ∀ i, i < xs.length → IntsAt d w (f i) (lst xs i)

theorem ListsAt.kept {d : Option Nat} {w w' : World} {v : Value} {xs : List (List Int)} (h : ListsAt d w v xs) (hg : w.grownBy w' d) : ListsAt d w' v xs := by
  obtain ⟨f, h1, h2⟩ := h
  exact ⟨f, h1.kept hg, fun i hi => (h2 i hi).kept hg⟩

theorem ListsAt.below {d : Option Nat} {w w' : World} {v : Value} {xs : List (List Int)} (h : ListsAt d w v xs) (hb : Below w.heap.size w w') : ListsAt d w' v xs := h.kept (gb_below hb d)
theorem ListsAt.form {d : Option Nat} {w : World} {v : Value} {xs : List (List Int)} (h : ListsAt d w v xs) : ∃ a c, v = .slice a xs.length c := by
  obtain ⟨f, ⟨a, c, e, _⟩, _⟩ := h
  exact ⟨a, c, e⟩
theorem ListsAt.row {d : Option Nat} {w : World} {a : Option Addr} {n c : Nat} {xs : List (List Int)} (h : ListsAt d w (.slice a n c) xs) {i : Nat} (hi : i < xs.length) :
    ∃ b off u, a = some ⟨b, off, none⟩ ∧ b < w.heap.size ∧ w.cell? ⟨b, off + i, none⟩ = some u ∧ IntsAt d w u (lst xs i) := by
  obtain ⟨f, ⟨a', c', e, hh⟩, h2⟩ := h
  cases e
  obtain ⟨b, off, rfl, _, _, _, hb, hc⟩ := hh (by omega)
  have := hc i hi 0 (by omega)
  rw [Nat.mul_one, Nat.add_zero] at this
  exact ⟨b, off, f i, rfl, hb, this, h2 i hi⟩
theorem PartsAt.form {d : Option Nat} {w : World} {v : Value} {xs : List Part} (h : PartsAt d w v xs) : ∃ a c, v = .slice a xs.length c := by
  obtain ⟨a, c, e, _⟩ := h
  exact ⟨a, c, e⟩
theorem PartsAt.cells {d : Option Nat} {w : World} {a : Option Addr} {n c : Nat} {xs : List Part} (h : PartsAt d w (.slice a n c) xs) {i : Nat} (hi : i < xs.length) :
    ∃ b off, a = some ⟨b, off, none⟩ ∧ b < w.heap.size ∧ w.cell? ⟨b, off + i * 5, none⟩ = some (.int .i64 (pt xs i).person) ∧ w.cell? ⟨b, off + i * 5 + 1, none⟩ = some (.int .i64 (pt xs i).place) ∧ w.cell? ⟨b, off + i * 5 + 2, none⟩ = some (.int .i64 (pt xs i).kind) ∧
      w.cell? ⟨b, off + i * 5 + 3, none⟩ = some (.int .i64 (pt xs i).start) ∧ w.cell? ⟨b, off + i * 5 + 4, none⟩ = some (.int .i64 (pt xs i).stop) := by
  obtain ⟨a', c', e, hh⟩ := h
  cases e
  obtain ⟨b, off, rfl, _, _, _, hb, hc⟩ := hh (by omega)
  exact ⟨b, off, rfl, hb, hc i hi 0 (by omega), hc i hi 1 (by omega), hc i hi 2 (by omega), hc i hi 3 (by omega), hc i hi 4 (by omega)⟩
theorem SpansAt.form {d : Option Nat} {w : World} {v : Value} {xs : List (Int × Int)} (h : SpansAt d w v xs) : ∃ a c, v = .slice a xs.length c := by
  obtain ⟨a, c, e, _⟩ := h
  exact ⟨a, c, e⟩
theorem SpansAt.cells {d : Option Nat} {w : World} {a : Option Addr} {n c : Nat} {xs : List (Int × Int)} (h : SpansAt d w (.slice a n c) xs) {i : Nat} (hi : i < xs.length) :
    ∃ b off, a = some ⟨b, off, none⟩ ∧ b < w.heap.size ∧ w.cell? ⟨b, off + i * 2, none⟩ = some (.int .i64 (sp xs i).1) ∧ w.cell? ⟨b, off + i * 2 + 1, none⟩ = some (.int .i64 (sp xs i).2) := by
  obtain ⟨a', c', e, hh⟩ := h
  cases e
  obtain ⟨b, off, rfl, _, _, _, hb, hc⟩ := hh (by omega)
  exact ⟨b, off, rfl, hb, hc i hi 0 (by omega), hc i hi 1 (by omega)⟩

/-- a plot's four lists -/
structure PlotAt (d : Option Nat) (w : World) (vp vw vd vq : Value) (p : Plot) : Prop where
  persons : SpansAt d w vp p.persons
  walk : ListsAt d w vw p.walk
  dress : IntsAt d w vd p.dress
  parts : PartsAt d w vq p.parts

theorem PlotAt.kept {d : Option Nat} {w w' : World} {vp vw vd vq : Value} {p : Plot} (h : PlotAt d w vp vw vd vq p) (hg : w.grownBy w' d) : PlotAt d w' vp vw vd vq p := ⟨RecAt.kept h.persons hg, h.walk.kept hg, h.dress.kept hg, RecAt.kept h.parts hg⟩
theorem PlotAt.below {d : Option Nat} {w w' : World} {vp vw vd vq : Value} {p : Plot} (h : PlotAt d w vp vw vd vq p) (hb : Below w.heap.size w w') : PlotAt d w' vp vw vd vq p := h.kept (gb_below hb d)
end Go.Proofs.YtefdopifebhgiaaGreatDoor
