/-
  WHAT A VALID SCHOOL IS, as plain functions of data. No function of the program is walked here.
-/
import Derived.Test.YtefdopifebhgiaaGreatDoorRep
namespace Go.Proofs.YtefdopifebhgiaaGreatDoor

/-- within bounds -/
def inB (n lo hi : Int) : Bool := decide (lo ≤ n ∧ n ≤ hi)
theorem inB_true {n lo hi : Int} : inB n lo hi = true ↔ lo ≤ n ∧ n ≤ hi := by unfold inB; simp
theorem inB_false {n lo hi : Int} : inB n lo hi = false ↔ ¬ (lo ≤ n ∧ n ≤ hi) := by unfold inB; simp

def letter (c : UInt8) : Bool := decide (97 ≤ (c.toNat : Int) ∧ (c.toNat : Int) ≤ 122)
def namedB (s : ByteArray) : Bool := s.data.toList.all letter && inB s.size 1 8

/-- some wing before wing i, from k on down, has its name -/
def twin (ws : List Wing) (i : Nat) : Nat → Bool
  | 0 => false
  | k + 1 => twin ws i k || ((wg ws k).name.toList == (wg ws i).name.toList)

theorem twin_false {ws : List Wing} {i k : Nat} : twin ws i k = false ↔ ∀ j, j < k → ((wg ws j).name.toList == (wg ws i).name.toList) = false := by
  induction k with
  | zero => simp [twin]
  | succ k ih =>
    simp only [twin, Bool.or_eq_false_iff, ih]
    constructor
    · rintro ⟨h1, h2⟩ j hj
      by_cases e : j = k
      · subst e; exact h2
      · exact h1 j (by omega)
    · exact fun h => ⟨fun j hj => h j (by omega), h k (by omega)⟩

theorem twin_true {ws : List Wing} {i k j : Nat} (hj : j < k) (h : ((wg ws j).name.toList == (wg ws i).name.toList) = true) : twin ws i k = true := by
  cases e : twin ws i k with
  | true => rfl
  | false => rw [twin_false.1 e j hj] at h; cases h

theorem twin_succ {ws : List Wing} {i k : Nat} (h : twin ws i k = false) (h1 : ((wg ws k).name.toList == (wg ws i).name.toList) = false) : twin ws i (k + 1) = false := by
  simp [twin, h, h1]

def numsB (x : Wing) : Bool := inB x.len 1 5000 && (inB x.lo 1 200 && inB x.hi 1 200)

/-- the error of wing i -/
def checkW (ws : List Wing) (i : Nat) : Int :=
  if namedB (wg ws i).name = false then 1 else if twin ws i i = true then 8 else if numsB (wg ws i) = false then 2 else if (wg ws i).hi < (wg ws i).lo then 9 else 0

/-- the first of n numbers that is not 0 -/
def firstBad (f : Nat → Int) : Nat → Int
  | 0 => 0
  | n + 1 => if firstBad f n = 0 then f n else firstBad f n

theorem firstBad_zero {f : Nat → Int} {n : Nat} : firstBad f n = 0 ↔ ∀ j, j < n → f j = 0 := by
  induction n with
  | zero => simp [firstBad]
  | succ n ih =>
    simp only [firstBad]
    constructor
    · intro h j hj
      split at h
      · rename_i h0
        by_cases e : j = n
        · subst e; exact h
        · exact ih.1 h0 j (by omega)
      · exact absurd h ‹_›
    · intro h
      rw [if_pos (ih.2 fun j hj => h j (by omega))]
      exact h n (by omega)

theorem firstBad_at {f : Nat → Int} {n i : Nat} (hi : i < n) (h0 : ∀ j, j < i → f j = 0) (h : f i ≠ 0) : firstBad f n = f i := by
  induction n with
  | zero => omega
  | succ n ih =>
    simp only [firstBad]
    by_cases e : i = n
    · subst e; rw [if_pos (firstBad_zero.2 h0)]
    · have := ih (by omega)
      rw [if_neg (by rw [this]; exact h), this]

/-- the error of a school -/
def check (route : Int) (ws : List Wing) : Int :=
  if inB route 1 100000 = false then 2 else if ws.length = 0 then 4 else if 8 < ws.length then 5 else firstBad (checkW ws) ws.length

/-- all wings before wing i are fine -/
def Fine (ws : List Wing) (i : Nat) : Prop := ∀ j, j < i → checkW ws j = 0

theorem Fine.zero (ws : List Wing) : Fine ws 0 := fun j h => by omega
theorem Fine.succ {ws : List Wing} {i : Nat} (h : Fine ws i) (h1 : checkW ws i = 0) : Fine ws (i + 1) := fun j hj => by
  by_cases e : j = i
  · subst e; exact h1
  · exact h j (by omega)

theorem check_bad {route : Int} {ws : List Wing} {i : Nat} (hr : inB route 1 100000 = true) (h8 : ws.length ≤ 8) (hi : i < ws.length) (h : Fine ws i) {e : Int} (he : checkW ws i = e) (hne : e ≠ 0) : check route ws = e := by
  unfold check
  rw [if_neg (by simp [hr]), if_neg (by omega), if_neg (by omega), firstBad_at hi h (by rw [he]; exact hne), he]

theorem check_ok {route : Int} {ws : List Wing} (hr : inB route 1 100000 = true) (h0 : 0 < ws.length) (h8 : ws.length ≤ 8) (h : Fine ws ws.length) : check route ws = 0 := by
  unfold check
  rw [if_neg (by simp [hr]), if_neg (by omega), if_neg (by omega)]
  exact firstBad_zero.2 h

/-- what a valid school is good for -/
theorem check_zero {route : Int} {ws : List Wing} (h : check route ws = 0) : 1 ≤ route ∧ route ≤ 100000 ∧ 0 < ws.length ∧ ws.length ≤ 8 ∧
    ∀ i, i < ws.length → 1 ≤ (wg ws i).len ∧ (wg ws i).len ≤ 5000 ∧ 1 ≤ (wg ws i).lo ∧ (wg ws i).lo ≤ (wg ws i).hi ∧ (wg ws i).hi ≤ 200 := by
  unfold check at h
  split at h
  · omega
  · rename_i h1
    split at h
    · omega
    · split at h
      · omega
      · rw [firstBad_zero] at h
        have h1' : inB route 1 100000 = true := by simpa using h1
        rw [inB_true] at h1'
        refine ⟨h1'.1, h1'.2, by omega, by omega, fun i hi => ?_⟩
        have := h i hi
        unfold checkW at this
        split at this
        · omega
        · split at this
          · omega
          · split at this
            · omega
            · rename_i hn
              split at this
              · omega
              · have hn' : numsB (wg ws i) = true := by simpa using hn
                unfold numsB at hn'
                simp only [Bool.and_eq_true, inB_true] at hn'
                omega

theorem checkW_1 {ws : List Wing} {i : Nat} (h : namedB (wg ws i).name = false) : checkW ws i = 1 := by unfold checkW; rw [if_pos h]
theorem checkW_8 {ws : List Wing} {i : Nat} (h : namedB (wg ws i).name = true) (h2 : twin ws i i = true) : checkW ws i = 8 := by unfold checkW; rw [if_neg (by simp [h]), if_pos h2]
theorem checkW_2 {ws : List Wing} {i : Nat} (h : namedB (wg ws i).name = true) (h2 : twin ws i i = false) (h3 : numsB (wg ws i) = false) : checkW ws i = 2 := by
  unfold checkW; rw [if_neg (by simp [h]), if_neg (by simp [h2]), if_pos h3]
theorem checkW_9 {ws : List Wing} {i : Nat} (h : namedB (wg ws i).name = true) (h2 : twin ws i i = false) (h3 : numsB (wg ws i) = true) (h4 : (wg ws i).hi < (wg ws i).lo) : checkW ws i = 9 := by
  unfold checkW; rw [if_neg (by simp [h]), if_neg (by simp [h2]), if_neg (by simp [h3]), if_pos h4]
theorem checkW_0 {ws : List Wing} {i : Nat} (h : namedB (wg ws i).name = true) (h2 : twin ws i i = false) (h3 : numsB (wg ws i) = true) (h4 : (wg ws i).lo ≤ (wg ws i).hi) : checkW ws i = 0 := by
  unfold checkW; rw [if_neg (by simp [h]), if_neg (by simp [h2]), if_neg (by simp [h3]), if_neg (by omega)]

end Go.Proofs.YtefdopifebhgiaaGreatDoor
