/-
  PLAIN: a valid wear, said pair by pair; sizes that fit. No program in sight.
-/
import Derived.Test.YtdcinngdilfpnaaCpx
namespace Go.Proofs.Ytdcinngdilfpnaa

/-- part i begins first (of two that begin together, the one that stands first) -/
def Lead (parts : List Part) (i k : Nat) : Prop := (pt parts i).start < (pt parts k).start ∨ (pt parts i).start = (pt parts k).start ∧ i < k
def PairOk (p : Plot) (items : List Item) (parts : List Part) (l : List Int) (i k : Nat) : Prop :=
  ((pt parts i).person ≠ (pt parts k).person → nm l i = nm l k → (pt parts i).stop + (it items (nm l i).toNat).clean ≤ (pt parts k).start) ∧
  ((pt parts i).person = (pt parts k).person → (pt parts i).kind = (pt parts k).kind → nm l i ≠ nm l k → (pt parts i).stop + nm (lst p.walk (pt parts i).place.toNat) (pt parts k).place.toNat + nm p.dress (pt parts k).kind.toNat ≤ (pt parts k).start)
theorem lead_or {parts : List Part} {i k : Nat} (h : i ≠ k) : Lead parts i k ∨ Lead parts k i := by unfold Lead; omega
theorem lead_not {parts : List Part} {i k : Nat} (h : Lead parts i k) : ¬ Lead parts k i := by unfold Lead at *; omega

theorem double_pair {p : Plot} {items : List Item} {parts : List Part} {l : List Int} {i k : Nat} (hk : k < i) :
    doubleE p items (pt parts k) (pt parts i) (nm l k) (nm l i) = 0 ↔ (Lead parts k i → PairOk p items parts l k i) ∧ (Lead parts i k → PairOk p items parts l i k) := by
  obtain ⟨y, hy⟩ : ∃ y, pt parts k = y := ⟨_, rfl⟩
  obtain ⟨x, hx⟩ : ∃ x, pt parts i = x := ⟨_, rfl⟩
  obtain ⟨m, hm⟩ : ∃ m, nm l k = m := ⟨_, rfl⟩
  obtain ⟨n, hn⟩ : ∃ n, nm l i = n := ⟨_, rfl⟩
  unfold doubleE PairOk Lead
  rw [hy, hx, hm, hn]
  by_cases hlt : x.start < y.start
  · have hb : betweenP y x = y.start - x.stop := by unfold betweenP; rw [inTime_gt hlt]
    have hw : wayP p y x true = nm (lst p.walk x.place.toNat) y.place.toNat + nm p.dress y.kind.toNat := by unfold wayP; rw [inTime_gt hlt, if_pos rfl]
    rw [hb, hw]
    by_cases hp : y.person = x.person
    · rw [if_pos hp]
      constructor
      · intro h
        refine ⟨fun hl => by omega, fun _ => ⟨fun hpn _ => absurd hp.symm hpn, fun _ hkd hmn => ?_⟩⟩
        by_cases hc : y.kind = x.kind ∧ m ≠ n ∧ y.start - x.stop < nm (lst p.walk x.place.toNat) y.place.toNat + nm p.dress y.kind.toNat
        · rw [if_pos hc] at h; cases h
        · have : ¬ (y.start - x.stop < nm (lst p.walk x.place.toNat) y.place.toNat + nm p.dress y.kind.toNat) := fun h2 => hc ⟨hkd.symm, Ne.symm hmn, h2⟩
          omega
      · rintro ⟨_, h⟩
        refine if_neg ?_
        rintro ⟨hkd, hmn, h2⟩
        have := (h (.inl hlt)).2 hp.symm hkd.symm (Ne.symm hmn)
        omega
    · rw [if_neg hp]
      constructor
      · intro h
        refine ⟨fun hl => by omega, fun _ => ⟨fun _ hmn => ?_, fun hpn => absurd hpn.symm hp⟩⟩
        by_cases hc : m = n ∧ y.start - x.stop < (it items n.toNat).clean
        · rw [if_pos hc] at h; cases h
        · have : ¬ (y.start - x.stop < (it items n.toNat).clean) := fun h2 => hc ⟨hmn.symm, h2⟩
          omega
      · rintro ⟨_, h⟩
        refine if_neg ?_
        rintro ⟨hmn, h2⟩
        have := (h (.inl hlt)).1 (Ne.symm hp) hmn.symm
        omega
  · have ht : inTime y x = (y, x) := by unfold inTime; rw [if_neg hlt]
    have hb : betweenP y x = x.start - y.stop := by unfold betweenP; rw [ht]
    have hw : wayP p y x true = nm (lst p.walk y.place.toNat) x.place.toNat + nm p.dress x.kind.toNat := by unfold wayP; rw [ht, if_pos rfl]
    have hlead : y.start < x.start ∨ y.start = x.start ∧ k < i := by omega
    rw [hb, hw]
    by_cases hp : y.person = x.person
    · rw [if_pos hp]
      constructor
      · intro h
        refine ⟨fun _ => ⟨fun hpn _ => absurd hp hpn, fun _ hkd hmn => ?_⟩, fun hl => by omega⟩
        by_cases hc : y.kind = x.kind ∧ m ≠ n ∧ x.start - y.stop < nm (lst p.walk y.place.toNat) x.place.toNat + nm p.dress x.kind.toNat
        · rw [if_pos hc] at h; cases h
        · have : ¬ (x.start - y.stop < nm (lst p.walk y.place.toNat) x.place.toNat + nm p.dress x.kind.toNat) := fun h2 => hc ⟨hkd, hmn, h2⟩
          omega
      · rintro ⟨h, _⟩
        refine if_neg ?_
        rintro ⟨hkd, hmn, h2⟩
        have := (h hlead).2 hp hkd hmn
        omega
    · rw [if_neg hp]
      constructor
      · intro h
        refine ⟨fun _ => ⟨fun _ hmn => ?_, fun hpn => absurd hpn hp⟩, fun hl => by omega⟩
        by_cases hc : m = n ∧ x.start - y.stop < (it items n.toNat).clean
        · rw [if_pos hc] at h; cases h
        · have : ¬ (x.start - y.stop < (it items n.toNat).clean) := fun h2 => hc ⟨hmn, h2⟩
          rw [hmn]; omega
      · rintro ⟨h, _⟩
        refine if_neg ?_
        rintro ⟨hmn, h2⟩
        have := (h hlead).1 hp hmn
        rw [hmn] at this
        omega

def insideB (s f : Int × Int) : Bool := decide (f.1 ≤ s.1) && decide (s.2 ≤ f.2)
theorem single_fine {p : Plot} {items : List Item} {x : Part} {n : Int} (hn : 0 ≤ n ∧ n < items.length) :
    singleE p items x n = 0 ↔ (it items n.toNat).kind = x.kind ∧ (it items n.toNat).lo ≤ (sp p.persons x.person.toNat).1 ∧ (sp p.persons x.person.toNat).2 ≤ (it items n.toNat).hi := by
  unfold singleE
  rw [if_neg (by rw [inB_true.2 (show 0 ≤ n ∧ n ≤ (items.length : Int) - 1 by omega)]; simp)]
  by_cases hk : (it items n.toNat).kind = x.kind
  · rw [if_pos hk]
    unfold fitE
    by_cases h1 : (it items n.toNat).lo ≤ (sp p.persons x.person.toNat).1 ∧ (sp p.persons x.person.toNat).2 ≤ (it items n.toNat).hi
    · rw [if_pos h1]
      exact ⟨fun _ => ⟨hk, h1⟩, fun _ => rfl⟩
    · rw [if_neg h1]
      refine ⟨fun h => ?_, fun h => absurd h.2 h1⟩
      by_cases h2 : (it items n.toNat).hi < (sp p.persons x.person.toNat).1 ∨ (sp p.persons x.person.toNat).2 < (it items n.toNat).lo
      · rw [if_pos h2] at h; cases h
      · rw [if_neg h2] at h; cases h
  · rw [if_neg hk]
    exact ⟨(fun h => by cases h), fun h => absurd h.1 hk⟩
/-- a wear of items that there are is valid just so -/
theorem wears_fine {p : Plot} {items : List Item} {parts : List Part} {l : List Int} (hw : Within items l) : wearsE p items parts l = 0 ↔
    (∀ i, i < l.length → (it items (nm l i).toNat).kind = (pt parts i).kind ∧ (it items (nm l i).toNat).lo ≤ (sp p.persons (pt parts i).person.toNat).1 ∧ (sp p.persons (pt parts i).person.toNat).2 ≤ (it items (nm l i).toNat).hi) ∧
    ∀ i, i < l.length → ∀ k, k < l.length → Lead parts i k → PairOk p items parts l i k := by
  rw [wears_iff]
  constructor
  · rintro ⟨h1, h2⟩
    refine ⟨fun i hi => (single_fine (hw i hi)).1 (h1 i hi), fun i hi k hk hl => ?_⟩
    have hne : i ≠ k := by rintro rfl; exact lead_not hl hl
    rcases Nat.lt_or_gt_of_ne hne with h | h
    · exact ((double_pair h).1 (h2 k hk i h)).1 hl
    · exact ((double_pair h).1 (h2 i hi k h)).2 hl
  · rintro ⟨h1, h2⟩
    exact ⟨fun i hi => (single_fine (hw i hi)).2 (h1 i hi), fun i hi k hk => (double_pair hk).2 ⟨h2 k (by omega) i hi, h2 i hi k (by omega)⟩⟩

/-! ### sizes -/
theorem fit_all {x : Item} {s : Int × Int} (hs : s.1 ≤ s.2) : fitE x s = 1 ↔ ∀ z, s.1 ≤ z → z ≤ s.2 → x.lo ≤ z ∧ z ≤ x.hi := by
  unfold fitE
  constructor
  · intro h z h1 h2
    by_cases h3 : x.lo ≤ s.1 ∧ s.2 ≤ x.hi
    · omega
    · rw [if_neg h3] at h
      split at h <;> cases h
  · intro h
    have h1 := h s.1 (Int.le_refl _) hs
    have h2 := h s.2 hs (Int.le_refl _)
    rw [if_pos ⟨h1.1, h2.2⟩]
theorem fit_none {x : Item} {s : Int × Int} (hs : s.1 ≤ s.2) (hx : x.lo ≤ x.hi) : fitE x s = 2 ↔ ∀ z, s.1 ≤ z → z ≤ s.2 → ¬ (x.lo ≤ z ∧ z ≤ x.hi) := by
  unfold fitE
  constructor
  · intro h z h1 h2 h3
    by_cases h4 : x.lo ≤ s.1 ∧ s.2 ≤ x.hi
    · rw [if_pos h4] at h; cases h
    · rw [if_neg h4] at h
      by_cases h5 : x.hi < s.1 ∨ s.2 < x.lo
      · omega
      · rw [if_neg h5] at h; cases h
  · intro h
    by_cases h4 : x.lo ≤ s.1 ∧ s.2 ≤ x.hi
    · exact absurd ⟨h4.1, by omega⟩ (h s.1 (Int.le_refl _) hs)
    · rw [if_neg h4]
      by_cases h5 : x.hi < s.1 ∨ s.2 < x.lo
      · rw [if_pos h5]
      · by_cases h6 : x.lo ≤ s.1
        · exact absurd ⟨h6, by omega⟩ (h s.1 (Int.le_refl _) hs)
        · exact absurd ⟨Int.le_refl _, hx⟩ (h x.lo (by omega) (by omega))
theorem fit_range (x : Item) (s : Int × Int) : 1 ≤ fitE x s ∧ fitE x s ≤ 3 := by unfold fitE; split; (· omega); split <;> omega
end Go.Proofs.Ytdcinngdilfpnaa
