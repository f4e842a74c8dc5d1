/-
  PLAIN: what CostumeOne looks at, item by item and pair by pair. No program in sight.
-/
import Derived.Test.YtdcinngdilfpnaaCon
namespace Go.Proofs.Ytdcinngdilfpnaa

section
variable {p : Plot} {items : List Item} {l : List Int} {i k : Nat}
def SingleF (p : Plot) (items : List Item) (x : Part) (n : Int) : Prop := (it items n.toNat).kind = x.kind ∧ (it items n.toNat).lo ≤ (sp p.persons x.person.toNat).1 ∧ (sp p.persons x.person.toNat).2 ≤ (it items n.toNat).hi
def FineI (p : Plot) (items : List Item) (l : List Int) (i : Nat) : Prop := ∀ j, j < i → SingleF p items (pt p.parts j) (nm l j) ∧ ∀ k, k < l.length → Lead p.parts j k → PairOk p items p.parts l j k
def FineK (p : Plot) (items : List Item) (l : List Int) (i k : Nat) : Prop := (FineI p items l i ∧ SingleF p items (pt p.parts i) (nm l i)) ∧ ∀ j, j < k → Lead p.parts i j → PairOk p items p.parts l i j
theorem fineI_zero : FineI p items l 0 := fun j hj => by omega
theorem fineK_zero : FineK p items l i 0 ↔ FineI p items l i ∧ SingleF p items (pt p.parts i) (nm l i) := ⟨fun h => h.1, fun h => ⟨h, fun j hj => by omega⟩⟩
theorem fineK_succ : FineK p items l i (k + 1) ↔ FineK p items l i k ∧ (Lead p.parts i k → PairOk p items p.parts l i k) := by
  unfold FineK
  constructor
  · rintro ⟨h1, h2⟩
    exact ⟨⟨h1, fun j hj => h2 j (by omega)⟩, h2 k (by omega)⟩
  · rintro ⟨⟨h1, h2⟩, h3⟩
    refine ⟨h1, fun j hj => ?_⟩
    by_cases e : j = k
    · subst e; exact h3
    · exact h2 j (by omega)
theorem fineK_skip (h : ¬ Lead p.parts i k) : FineK p items l i k ↔ FineK p items l i (k + 1) := by
  rw [fineK_succ]
  exact ⟨fun h1 => ⟨h1, fun h2 => absurd h2 h⟩, fun h1 => h1.1⟩
theorem fineI_succ : FineK p items l i l.length ↔ FineI p items l (i + 1) := by
  unfold FineK FineI
  constructor
  · rintro ⟨⟨h1, h2⟩, h3⟩ j hj
    by_cases e : j = i
    · subst e; exact ⟨h2, h3⟩
    · exact h1 j (by omega)
  · intro h
    exact ⟨⟨fun j hj => h j (by omega), (h i (by omega)).1⟩, (h i (by omega)).2⟩
theorem fine_wears (hw : Within items l) : wearsE p items p.parts l = 0 ↔ FineI p items l l.length := by
  rw [wears_fine hw]
  constructor
  · rintro ⟨h1, h2⟩ j hj
    exact ⟨h1 j hj, h2 j hj⟩
  · intro h
    exact ⟨fun i hi => (h i hi).1, fun i hi => (h i hi).2⟩
end
end Go.Proofs.Ytdcinngdilfpnaa
