/-
  PLAIN: nobody goes through another wing; places and gaps are never below 0. No program in sight.
-/
import Derived.Test.YtgfipifgijohhaaDoorPGb
import Derived.Test.YtgfipifgijohhaaDoorLtp
namespace Go.Proofs.YtgfipifgijohhaaDoor

theorem starts_least {route : Int} {ws : List Wing} {st : List Int} (h : checkStarts route ws st = 0) : ∀ i, i + 1 < ws.length → passed (Ln ws) (nm st) (Lo ws) i (Ln ws i) ≤ nm st (i + 1) := by
  intro i hi
  obtain ⟨hc, hl, hf⟩ := starts_zero h
  have h1 := hf (i + 1) (by omega)
  unfold startErr at h1
  split at h1
  · omega
  · split at h1
    · omega
    · rename_i h2
      have h3 : leastOf ws st (i + 1) = passed (Ln ws) (nm st) (Lo ws) i (Ln ws i) := rfl
      omega

/-- whatever the paces, in its seconds a wing's front is not before the gate, nor beyond the tail ahead -/
theorem front_nonneg {route : Int} {ws : List Wing} {st : List Int} (h : checkStarts route ws st = 0) {P : Nat → Int} (hP : ∀ i, i < ws.length → Lo ws i ≤ P i) :
    ∀ k, k < ws.length → ∀ t, nm st k ≤ t → 0 ≤ front (Ln ws) (nm st) P k t ∧ (k + 1 < ws.length → nm st (k + 1) ≤ t → Ln ws k ≤ front (Ln ws) (nm st) P k t) := by
  obtain ⟨hc, hl, hf⟩ := starts_zero h
  obtain ⟨_, _, _, _, hh⟩ := check_zero hc
  have hlo : ∀ i, i < ws.length → 1 ≤ Lo ws i := fun i hi => by have := hh i hi; unfold Lo; omega
  have hup := starts_up h
  have key : ∀ k, k < ws.length → ∀ t, nm st k ≤ t → k + 1 < ws.length → nm st (k + 1) ≤ t → Ln ws k ≤ front (Ln ws) (nm st) P k t := fun k hk t ht hk1 ht1 => by
    have h1 := starts_least h k hk1
    have h2 := (passed_le_iff (L := Ln ws) (S := nm st) (P := Lo ws) (k := k) (x := Ln ws k) (t := t) (fun i hi => by have := hlo i (by omega); omega)).1 (by omega)
    have hs : ∀ j, j ≤ k → nm st (k - j) ≤ t := by
      intro j
      induction j with
      | zero => intro _; simpa using ht
      | succ j ih =>
        intro hj
        have := ih (by omega)
        have := hup (k - (j + 1)) (by omega)
        have e : k - (j + 1) + 1 = k - j := by omega
        rw [e] at this
        omega
    have h3 := front_mono_P (L := Ln ws) (S := nm st) (P := Lo ws) (P' := P) (k := k) (t := t) (fun i hi => hP i (by omega)) (fun i hi => by have := hs (k - i) (by omega); have e : k - (k - i) = i := (by omega); rw [e] at this; exact this)
    omega
  intro k
  induction k with
  | zero =>
    intro hk t ht
    refine ⟨?_, key 0 hk t ht⟩
    simp only [front]
    exact Int.mul_nonneg (by have := hlo 0 hk; have := hP 0 hk; omega) (by omega)
  | succ k ih =>
    intro hk t ht
    refine ⟨?_, key (k + 1) hk t ht⟩
    have hu := hup k (by omega)
    have h1 := key k (by omega) t (by omega) hk ht
    have h2 : 0 ≤ P (k + 1) * (t - nm st (k + 1)) := Int.mul_nonneg (by have := hlo (k + 1) hk; have := hP (k + 1) hk; omega) (by omega)
    simp only [front]
    omega

/-- what ParadeRow looks at -/
theorem row_plain {route : Int} {ws : List Wing} {st : List Int} (h : checkStarts route ws st = 0) {m : Nat} (hm : m + 1 < ws.length) {t : Int} (ht : nm st (m + 1) ≤ t) :
    front (Ln ws) (nm st) (Lo ws) (m + 1) t ≤ front (Ln ws) (nm st) (Lo ws) m t - Ln ws m ∧ front (Ln ws) (nm st) (Hi ws) (m + 1) t ≤ front (Ln ws) (nm st) (Hi ws) m t - Ln ws m ∧
    0 ≤ front (Ln ws) (nm st) (Lo ws) (m + 1) t ∧ max 0 (gapAt ws st 1 m t) ≤ front (Ln ws) (nm st) (Hi ws) m t - Ln ws m := by
  obtain ⟨hc, hl, hf⟩ := starts_zero h
  obtain ⟨_, _, _, _, hh⟩ := check_zero hc
  have hlo : ∀ i, i < ws.length → 1 ≤ Lo ws i ∧ Lo ws i ≤ Hi ws i := fun i hi => by have := hh i hi; unfold Lo Hi; omega
  have hu := starts_up h m (by omega)
  have h1 := front_nonneg h (P := Lo ws) (fun i _ => Int.le_refl _) (m + 1) hm t ht
  have h2 := (front_nonneg h (P := Hi ws) (fun i hi => (hlo i hi).2) m (by omega) t (by omega)).2 hm ht
  have h3 : 0 ≤ Lo ws (m + 1) * (t - nm st (m + 1)) := Int.mul_nonneg (by have := hlo (m + 1) hm; omega) (by omega)
  refine ⟨by simp only [front]; omega, by simp only [front]; omega, h1.1, ?_⟩
  rw [gapAt_1]
  omega
theorem asked_fine {route : Int} {ws : List Wing} {st : List Int} {wing : Nat} {second : Int} (h : checkStarts route ws st = 0) (h1 : wing < ws.length) (h2 : nm st wing ≤ second) (h3 : second ≤ 100000) : askedErr route ws st (wing : Int) second = 0 := by
  unfold askedErr
  rw [if_pos h, if_neg (by rw [inB_true.2 ⟨by omega, by omega⟩]; simp), Int.toNat_natCast, if_neg (by omega), if_neg (by omega)]
theorem where_fine {route : Int} {ws : List Wing} {st : List Int} {wing : Nat} {second : Int} (h : askedErr route ws st (wing : Int) second = 0) : whereSpan route ws st (wing : Int) second = (front (Ln ws) (nm st) (Lo ws) wing second, front (Ln ws) (nm st) (Hi ws) wing second) := by
  unfold whereSpan; rw [if_pos h, Int.toNat_natCast]
theorem gap_fine {route : Int} {ws : List Wing} {st : List Int} {m : Nat} {second : Int} (h : askedErr route ws st ((m + 1 : Nat) : Int) second = 0) :
    gapErr route ws st ((m + 1 : Nat) : Int) second = 0 ∧ gapSpan route ws st ((m + 1 : Nat) : Int) second = (max 0 (gapAt ws st 0 m second), max 0 (gapAt ws st 1 m second)) := by
  have e : gapErr route ws st ((m + 1 : Nat) : Int) second = 0 := by unfold gapErr; rw [if_pos h, if_neg (by omega)]
  refine ⟨e, ?_⟩
  unfold gapSpan
  rw [if_pos e, Int.toNat_natCast, Nat.add_sub_cancel]
end Go.Proofs.YtgfipifgijohhaaDoor
