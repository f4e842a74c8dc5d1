/-
  PLAIN: the bytes of a plot's sheet. No program in sight.
-/
import Derived.Test.YtoipcbmbhjajfaaGreatDoorCpl
import Derived.Lib.ItoaLen
namespace Go.Proofs.YtoipcbmbhjajfaaGreatDoor
open Go.RowKit

/-- numbers, each behind a blank -/
def numsL (xs : List Int) (b : List UInt8) : Nat → List UInt8
  | 0 => b
  | k + 1 => numsL xs b k ++ 32 :: Lib.itoa (nm xs k)
/-- a row behind other text -/
def rowL (word : List UInt8) (xs : List Int) (b : List UInt8) : List UInt8 := numsL xs (b ++ word) xs.length ++ [10]
def sizesL (ps : List (Int × Int)) : List Int := ps.flatMap fun x => [x.1, x.2]
def partN (x : Part) : List Int := [x.person, x.place, x.kind, x.start, x.stop]
def personsW : List UInt8 := [112, 101, 114, 115, 111, 110, 115]
def walkW : List UInt8 := [119, 97, 108, 107]
def dressW : List UInt8 := [100, 114, 101, 115, 115]
def partW : List UInt8 := [112, 97, 114, 116]
def endW : List UInt8 := [101, 110, 100]
def walksL (walk : List (List Int)) (b : List UInt8) : Nat → List UInt8
  | 0 => b
  | k + 1 => rowL walkW (lst walk k) (walksL walk b k)
def partsL (parts : List Part) (b : List UInt8) : Nat → List UInt8
  | 0 => b
  | k + 1 => rowL partW (partN (pt parts k)) (partsL parts b k)
def upToWalk (p : Plot) : List UInt8 := rowL personsW (sizesL p.persons) []
def upToDress (p : Plot) : List UInt8 := walksL p.walk (upToWalk p) p.walk.length
def upToParts (p : Plot) : List UInt8 := rowL dressW p.dress (upToDress p)
def sheetL (p : Plot) : List UInt8 := rowL endW [(p.parts.length : Int)] (partsL p.parts (upToParts p) p.parts.length)
def sheetRes (p : Plot) : List UInt8 := if plotErr p = 0 then sheetL p else []

def NumsOk (xs : List Int) : Prop := ∀ i, i < xs.length → 0 ≤ nm xs i ∧ nm xs i ≤ 1000000
theorem numsL_len {xs : List Int} {b : List UInt8} (h : NumsOk xs) : ∀ {k : Nat}, k ≤ xs.length → (numsL xs b k).length ≤ b.length + k * 22 := by
  intro k
  induction k with
  | zero => intro _; simp [numsL]
  | succ k ih =>
    intro hk
    have h1 := ih (by omega)
    have h2 := h k (by omega)
    have h3 := Lib.itoa_length_le (nm xs k) (by omega) (by omega)
    simp only [numsL, List.length_append, List.length_cons]
    omega
theorem rowL_len {word : List UInt8} {xs : List Int} {b : List UInt8} (h : NumsOk xs) : (rowL word xs b).length ≤ b.length + word.length + xs.length * 22 + 1 := by
  have h1 := numsL_len (b := b ++ word) h (Nat.le_refl _)
  unfold rowL
  simp only [List.length_append, List.length_cons, List.length_nil] at h1 ⊢
  omega
theorem sizesL_length (ps : List (Int × Int)) : (sizesL ps).length = 2 * ps.length := by
  unfold sizesL
  induction ps with
  | nil => rfl
  | cons x ps ih => simp only [List.flatMap_cons, List.length_append, List.length_cons, List.length_nil, ih]; omega
theorem sizesL_nm (ps : List (Int × Int)) : ∀ i, i < ps.length → nm (sizesL ps) (2 * i) = (sp ps i).1 ∧ nm (sizesL ps) (2 * i + 1) = (sp ps i).2 := by
  induction ps with
  | nil => intro i hi; simp at hi
  | cons x ps ih =>
    intro i hi
    cases i with
    | zero => exact ⟨rfl, rfl⟩
    | succ i => exact ih i (by simpa using hi)
theorem sizesL_take (ps : List (Int × Int)) {k : Nat} (hk : k < ps.length) : sizesL (ps.take (k + 1)) = sizesL (ps.take k) ++ [(sp ps k).1, (sp ps k).2] := by
  unfold sizesL
  rw [List.take_add_one, List.flatMap_append]
  congr 1
  simp [sp, List.getD_eq_getElem?_getD, List.getElem?_eq_getElem hk]
theorem figE_zero {x : Int × Int} (h : figE x = 0) : 1 ≤ x.1 ∧ x.1 ≤ x.2 ∧ x.2 ≤ 300 := by
  unfold figE at h
  split at h
  · cases h
  · rename_i h1
    split at h
    · cases h
    · rename_i h2
      split at h
      · cases h
      · have h1' := inB_true.1 (by simpa using h1)
        have h2' := inB_true.1 (by simpa using h2)
        omega
theorem fine_sizes {p : Plot} (h : Valid p) : NumsOk (sizesL p.persons) := by
  intro i hi
  rw [sizesL_length] at hi
  have hm := sizesL_nm p.persons (i / 2) (by omega)
  have hf := figE_zero (h.figures (i / 2) (by omega))
  rcases (by omega : i = 2 * (i / 2) ∨ i = 2 * (i / 2) + 1) with e | e
  · rw [e, hm.1]; omega
  · rw [e, hm.2]; omega
theorem row_zero {walk : List (List Int)} {i : Nat} (h : rowE walk i = 0) : (lst walk i).length = walk.length ∧ ∀ k, k < walk.length → (0 ≤ nm (lst walk i) k ∧ nm (lst walk i) k ≤ 1440) ∧ (i = k → nm (lst walk i) k = 0) := by
  unfold rowE at h
  by_cases hl : (lst walk i).length = walk.length
  · rw [if_pos hl] at h
    refine ⟨hl, fun k hk => ?_⟩
    have h1 := firstBad_zero.1 h k hk
    unfold cellE at h1
    split at h1
    · cases h1
    · rename_i h2
      split at h1
      · cases h1
      · rename_i h3
        exact ⟨inB_true.1 (by simpa using h2), fun e => by
          rcases Decidable.em (nm (lst walk i) k = 0) with h4 | h4
          · exact h4
          · exact absurd ⟨e, h4⟩ h3⟩
  · rw [if_neg hl] at h; cases h
theorem fine_walk {p : Plot} (h : Valid p) {i : Nat} (hi : i < p.walk.length) : NumsOk (lst p.walk i) ∧ (lst p.walk i).length ≤ 8 := by
  have h1 := row_zero (h.rows i hi)
  have h2 := h.walk
  exact ⟨fun k hk => by have := (h1.2 k (by omega)).1; omega, by omega⟩
theorem fine_dress {p : Plot} (h : Valid p) : NumsOk p.dress := fun i hi => by have := h.dresses i hi; omega
theorem fine_part {p : Plot} (h : Valid p) {i : Nat} (hi : i < p.parts.length) : NumsOk (partN (pt p.parts i)) := by
  have h1 := aloneE_zero (h.parts i hi)
  have := h.persons
  have := h.walk
  have := h.dress
  intro k hk
  have hk : k < 5 := hk
  match k, hk with
  | 0, _ => show 0 ≤ (pt p.parts i).person ∧ (pt p.parts i).person ≤ 1000000; omega
  | 1, _ => show 0 ≤ (pt p.parts i).place ∧ (pt p.parts i).place ≤ 1000000; omega
  | 2, _ => show 0 ≤ (pt p.parts i).kind ∧ (pt p.parts i).kind ≤ 1000000; omega
  | 3, _ => show 0 ≤ (pt p.parts i).start ∧ (pt p.parts i).start ≤ 1000000; omega
  | 4, _ => show 0 ≤ (pt p.parts i).stop ∧ (pt p.parts i).stop ≤ 1000000; omega
theorem walksL_len {p : Plot} (h : Valid p) {b : List UInt8} : ∀ {k : Nat}, k ≤ p.walk.length → (walksL p.walk b k).length ≤ b.length + k * 200 := by
  intro k
  induction k with
  | zero => intro _; simp [walksL]
  | succ k ih =>
    intro hk
    have h1 := ih (by omega)
    obtain ⟨h2, h3⟩ := fine_walk h (i := k) (by omega)
    have h4 := rowL_len (word := walkW) (b := walksL p.walk b k) h2
    have h5 : walkW.length = 4 := rfl
    simp only [walksL]
    omega
theorem partsL_len {p : Plot} (h : Valid p) {b : List UInt8} : ∀ {k : Nat}, k ≤ p.parts.length → (partsL p.parts b k).length ≤ b.length + k * 200 := by
  intro k
  induction k with
  | zero => intro _; simp [partsL]
  | succ k ih =>
    intro hk
    have h1 := ih (by omega)
    have h2 := fine_part h (i := k) (by omega)
    have h4 := rowL_len (word := partW) (b := partsL p.parts b k) h2
    have h5 : partW.length = 4 := rfl
    have h6 : (partN (pt p.parts k)).length = 5 := rfl
    simp only [partsL]
    omega
theorem upToWalk_len {p : Plot} (h : Valid p) : (upToWalk p).length ≤ 1000 := by
  have h1 := rowL_len (word := personsW) (b := []) (fine_sizes h)
  have h2 := h.persons
  rw [sizesL_length] at h1
  have h3 : personsW.length = 7 := rfl
  unfold upToWalk
  simp only [List.length_nil] at h1
  omega
theorem upToDress_len {p : Plot} (h : Valid p) : (upToDress p).length ≤ 3000 := by
  have h1 := upToWalk_len h
  have h2 := walksL_len h (b := upToWalk p) (Nat.le_refl _)
  have h3 := h.walk
  unfold upToDress
  omega
theorem upToParts_len {p : Plot} (h : Valid p) : (upToParts p).length ≤ 4000 := by
  have h1 := upToDress_len h
  have h2 := rowL_len (word := dressW) (b := upToDress p) (fine_dress h)
  have h3 := h.dress
  have h4 : dressW.length = 5 := rfl
  unfold upToParts
  omega
end Go.Proofs.YtoipcbmbhjajfaaGreatDoor
