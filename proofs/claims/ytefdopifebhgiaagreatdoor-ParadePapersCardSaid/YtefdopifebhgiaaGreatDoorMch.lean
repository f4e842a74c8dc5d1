/-
  PLAIN: rows that are read one by one, by any step; where the reading stops. No program in sight.
-/
import Derived.Test.YtefdopifebhgiaaGreatDoorCut
namespace Go.Proofs.YtefdopifebhgiaaGreatDoor
open Go.RowKit

section
variable {σ : Type} (step : Nat → List UInt8 → σ → Option σ) (init : σ)
def foldS : Nat → List (List UInt8) → σ → Option σ
  | _, [], s => some s
  | i, r :: rs, s => (step i r s).bind (foldS (i + 1) rs)
theorem foldS_app : ∀ (a b : List (List UInt8)) (i : Nat) (s : σ), foldS step i (a ++ b) s = (foldS step i a s).bind (foldS step (i + a.length) b)
  | [], b, i, s => rfl
  | r :: a, b, i, s => by
    rw [List.cons_append]
    simp only [foldS, List.length_cons]
    cases step i r s with
    | none => rfl
    | some t => rw [Option.bind_some, Option.bind_some, foldS_app a b (i + 1) t]; congr 2; omega
def rowOf (rows : List (List UInt8)) (i : Nat) : List UInt8 := rows.getD i []
def runS (rows : List (List UInt8)) (k : Nat) : Option σ := foldS step 0 (rows.take k) init
theorem runS_succ {rows : List (List UInt8)} {k : Nat} (hk : k < rows.length) : runS step init rows (k + 1) = (runS step init rows k).bind (step k (rowOf rows k)) := by
  have e : rows.take (k + 1) = rows.take k ++ [rowOf rows k] := by
    rw [List.take_add_one, List.getElem?_eq_getElem hk]
    simp [rowOf, List.getD_eq_getElem?_getD, List.getElem?_eq_getElem hk]
  unfold runS
  rw [e, foldS_app]
  congr 1
  funext s
  rw [List.length_take, Nat.min_eq_left (by omega), Nat.zero_add]
  simp only [foldS]
  cases step k (rowOf rows k) s <;> rfl
/-- the row at which reading stops -/
def stopS (rows : List (List UInt8)) : Nat → Option Nat
  | 0 => none
  | n + 1 => match stopS rows n with
    | some k => some k
    | none => if (runS step init rows (n + 1)).isSome = true then none else some n
theorem stopS_none {rows : List (List UInt8)} : ∀ {k : Nat} {s : σ}, k ≤ rows.length → runS step init rows k = some s → stopS step init rows k = none
  | 0, _, _, _ => rfl
  | k + 1, s, hk, h => by
    have h2 := h
    rw [runS_succ step init (by omega)] at h2
    cases hr : runS step init rows k with
    | none => rw [hr] at h2; cases h2
    | some t => rw [stopS, stopS_none (by omega) hr, h]; rfl
theorem stopS_some {rows : List (List UInt8)} {k : Nat} {s : σ} (hr : runS step init rows k = some s) (hn : runS step init rows (k + 1) = none) : ∀ {n : Nat}, k < n → n ≤ rows.length → stopS step init rows n = some k
  | 0, h, _ => absurd h (Nat.not_lt_zero _)
  | n + 1, h, hl => by
    rw [stopS]
    by_cases e : k = n
    · subst e
      rw [stopS_none step init (by omega) hr, hn]
      rfl
    · rw [stopS_some hr hn (show k < n by omega) (by omega)]
theorem stopS_run {rows : List (List UInt8)} : ∀ {n : Nat}, n ≤ rows.length → stopS step init rows n = none → ∃ s, runS step init rows n = some s
  | 0, _, _ => ⟨init, rfl⟩
  | n + 1, hn, h => by
    rw [stopS] at h
    cases hs : stopS step init rows n with
    | some k => rw [hs] at h; cases h
    | none =>
      rw [hs] at h
      dsimp only at h
      split at h
      · rename_i h1
        exact Option.isSome_iff_exists.1 h1
      · cases h
/-- a law of all steps is a law of all rows -/
theorem foldS_law (R : Nat → σ → List UInt8 → Prop) (h : ∀ i row s t T, step i row s = some t → R i s T → R (i + 1) t (T ++ row ++ [10])) :
    ∀ (rs : List (List UInt8)) (i : Nat) (s t : σ) (T : List UInt8), foldS step i rs s = some t → R i s T → R (i + rs.length) t (T ++ joinN rs)
  | [], i, s, t, T, hf, hR => by cases hf; simpa [joinN] using hR
  | r :: rs, i, s, t, T, hf, hR => by
    rw [foldS] at hf
    cases hs : step i r s with
    | none => rw [hs] at hf; cases hf
    | some u =>
      rw [hs, Option.bind_some] at hf
      have ih := foldS_law R h rs (i + 1) u t _ hf (h i r s u T hs hR)
      have e1 : i + (r :: rs).length = i + 1 + rs.length := by simp; omega
      have e2 : T ++ joinN (r :: rs) = T ++ r ++ [10] ++ joinN rs := by simp [joinN]
      rw [e1, e2]
      exact ih
end
end Go.Proofs.YtefdopifebhgiaaGreatDoor
