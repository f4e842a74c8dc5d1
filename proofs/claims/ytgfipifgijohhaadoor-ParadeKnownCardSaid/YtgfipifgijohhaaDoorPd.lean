/-
  PLAIN ARITHMETIC OF A PARADE: places, seconds, gaps, for true paces. No program in sight.
-/
import Derived.Test.YtgfipifgijohhaaDoorProg
namespace Go.Proofs.YtgfipifgijohhaaDoor
section


/-- how many seconds a way takes at a pace, rounded up -/
def cdiv (x p : Int) : Int := (x + p - 1) / p

theorem cdiv_le_iff {x p t : Int} (hp : 0 < p) : cdiv x p ≤ t ↔ x ≤ p * t := by
  unfold cdiv
  have h1 : (x + p - 1) / p ≤ t ↔ (x + p - 1) / p < t + 1 := by omega
  rw [h1, Int.ediv_lt_iff_lt_mul hp, Int.add_mul, Int.one_mul, Int.mul_comm t p]
  omega

theorem cdiv_nonneg {x p : Int} (hp : 0 < p) (hx : 0 ≤ x) : 0 ≤ cdiv x p := by
  unfold cdiv
  exact Int.ediv_nonneg (by omega) (by omega)

theorem cdiv_pos {x p : Int} (hp : 0 < p) (hx : 0 < x) : 0 < cdiv x p := by
  have := mt (cdiv_le_iff (x := x) (t := 0) hp).1
  rw [Int.mul_zero] at this
  have := this (by omega)
  omega

theorem cdiv_le_self {x p : Int} (hp : 0 < p) (hx : 0 ≤ x) : cdiv x p ≤ x := by
  rw [cdiv_le_iff hp]
  have := Int.mul_le_mul_of_nonneg_right (a := 1) (b := p) (c := x) (by omega) hx
  omega

/-- the second in which the front of wing k passes a place (L: lengths, S: starts, P: paces) -/
def passed (L S P : Nat → Int) : Nat → Int → Int
  | 0, x => S 0 + cdiv x (P 0)
  | k + 1, x => max (S (k + 1) + cdiv x (P (k + 1))) (passed L S P k (x + L k))

/-- the place of the front of wing k in a second -/
def front (L S P : Nat → Int) : Nat → Int → Int
  | 0, t => P 0 * (t - S 0)
  | k + 1, t => min (P (k + 1) * (t - S (k + 1))) (front L S P k t - L k)

variable {L S P P' : Nat → Int}

theorem passed_le_iff {k : Nat} (hP : ∀ i, i ≤ k → 0 < P i) {x t : Int} : passed L S P k x ≤ t ↔ x ≤ front L S P k t := by
  induction k generalizing x with
  | zero =>
    have h := cdiv_le_iff (x := x) (t := t - S 0) (hP 0 (by omega))
    simp only [passed, front]
    rw [← h]; omega
  | succ k ih =>
    have h := cdiv_le_iff (x := x) (t := t - S (k + 1)) (hP (k + 1) (by omega))
    have ih' := ih (fun i hi => hP i (by omega)) (x := x + L k)
    simp only [passed, front]
    rw [Int.max_le, Int.le_min, ih']
    rw [← h]; omega

theorem front_mono_t {k : Nat} (hP : ∀ i, i ≤ k → 0 < P i) {t u : Int} (h : t ≤ u) : front L S P k t ≤ front L S P k u := by
  induction k with
  | zero => 
    have := Int.mul_le_mul_of_nonneg_left (a := t - S 0) (b := u - S 0) (c := P 0) (by omega) (by have := hP 0 (by omega); omega)
    simpa [front] using this
  | succ k ih =>
    have := Int.mul_le_mul_of_nonneg_left (a := t - S (k+1)) (b := u - S (k+1)) (c := P (k+1)) (by omega) (by have := hP (k+1) (by omega); omega)
    have := ih (fun i hi => hP i (by omega))
    simp only [front]
    omega

theorem front_mono_P {k : Nat} (hP : ∀ i, i ≤ k → P i ≤ P' i) {t : Int} (hS : ∀ i, i ≤ k → S i ≤ t) : front L S P k t ≤ front L S P' k t := by
  induction k with
  | zero => 
    have := Int.mul_le_mul_of_nonneg_right (a := P 0) (b := P' 0) (c := t - S 0) (hP 0 (by omega)) (by have := hS 0 (by omega); omega)
    simpa [front] using this
  | succ k ih =>
    have := Int.mul_le_mul_of_nonneg_right (a := P (k+1)) (b := P' (k+1)) (c := t - S (k+1)) (hP (k+1) (by omega)) (by have := hS (k+1) (by omega); omega)
    have := ih (fun i hi => hP i (by omega)) (fun i hi => hS i (by omega))
    simp only [front]
    omega

theorem passed_ge_start {k : Nat} (hP : ∀ i, i ≤ k → 0 < P i) (hL : ∀ i, i < k → 0 ≤ L i) {x : Int} (hx : 0 ≤ x) :
    ∀ i, i ≤ k → S i ≤ passed L S P k x := by
  induction k generalizing x with
  | zero => 
    intro i hi
    obtain rfl : i = 0 := by omega
    have := cdiv_nonneg (hP 0 (by omega)) hx
    simp only [passed]; omega
  | succ k ih =>
    intro i hi
    have h1 := cdiv_nonneg (hP (k+1) (by omega)) hx
    simp only [passed]
    by_cases hik : i = k + 1
    · subst hik; omega
    · have := ih (x := x + L k) (fun i hi => hP i (by omega)) (fun i hi => hL i (by omega)) (by have := hL k (by omega); omega) i (by omega)
      omega

theorem passed_mono_P {k : Nat} (hP : ∀ i, i ≤ k → 0 < P i) (hPP : ∀ i, i ≤ k → P i ≤ P' i) (hL : ∀ i, i < k → 0 ≤ L i) {x : Int} (hx : 0 ≤ x) :
    passed L S P' k x ≤ passed L S P k x := by
  rw [passed_le_iff (fun i hi => by have := hP i hi; have := hPP i hi; omega)]
  have h := (passed_le_iff (L := L) (S := S) (P := P) (k := k) hP (x := x) (t := passed L S P k x)).1 (Int.le_refl _)
  have := front_mono_P (L := L) (S := S) hPP (t := passed L S P k x) (fun i hi => passed_ge_start hP hL hx i hi)
  omega

theorem passed_mono_x {k : Nat} (hP : ∀ i, i ≤ k → 0 < P i) {x y : Int} (h : x ≤ y) : passed L S P k x ≤ passed L S P k y := by
  rw [passed_le_iff hP]
  have := (passed_le_iff (L := L) (S := S) (P := P) (k := k) hP (x := y) (t := passed L S P k y)).1 (Int.le_refl _)
  omega



/-- the place of the tail before wing k+1, less where its own pace would bring wing k+1 (below 0 if it is held back) -/
def rest (L S P : Nat → Int) (k : Nat) (own : Int) (t : Int) : Int := front L S P k t - L k - own * (t - S (k + 1))

/-- a front grows ever less -/
theorem front_concave {k : Nat} {t : Int} : front L S P k (t + 2) - front L S P k (t + 1) ≤ front L S P k (t + 1) - front L S P k t := by
  induction k with
  | zero =>
    simp only [front, Int.mul_sub, Int.mul_add]
    omega
  | succ k ih =>
    have e1 : P (k+1) * (t + 2 - S (k+1)) = P (k+1) * t + P (k+1) * 2 - P (k+1) * S (k+1) := by simp only [Int.mul_sub, Int.mul_add]
    have e2 : P (k+1) * (t + 1 - S (k+1)) = P (k+1) * t + P (k+1) * 1 - P (k+1) * S (k+1) := by simp only [Int.mul_sub, Int.mul_add]
    have e3 : P (k+1) * (t - S (k+1)) = P (k+1) * t - P (k+1) * S (k+1) := by simp only [Int.mul_sub]
    simp only [front, e1, e2, e3]
    generalize P (k+1) * t = a at *
    generalize P (k+1) * S (k+1) = b at *
    generalize P (k+1) = p at *
    omega

theorem rest_concave {k : Nat} {own t : Int} : rest L S P k own (t + 2) - rest L S P k own (t + 1) ≤ rest L S P k own (t + 1) - rest L S P k own t := by
  have h := front_concave (L := L) (S := S) (P := P) (k := k) (t := t)
  have e1 : own * (t + 2 - S (k+1)) = own * t + own * 2 - own * S (k+1) := by simp only [Int.mul_sub, Int.mul_add]
  have e2 : own * (t + 1 - S (k+1)) = own * t + own * 1 - own * S (k+1) := by simp only [Int.mul_sub, Int.mul_add]
  have e3 : own * (t - S (k+1)) = own * t - own * S (k+1) := by simp only [Int.mul_sub]
  simp only [rest, e1, e2, e3]
  omega

/-- once it does not grow, it does not grow again -/
theorem rest_once {k : Nat} {own t : Int} (h : rest L S P k own (t + 1) ≤ rest L S P k own t) (n : Nat) :
    rest L S P k own (t + n + 1) ≤ rest L S P k own (t + n) := by
  induction n with
  | zero => simpa using h
  | succ n ih =>
    have := rest_concave (L := L) (S := S) (P := P) (k := k) (own := own) (t := t + n)
    have e1 : t + ((n + 1 : Nat) : Int) = t + n + 1 := by omega
    have e2 : t + (n : Int) + 1 + 1 = t + n + 2 := by omega
    rw [e1, e2]
    omega

/-- the first second from 'low' on, of 'm' many steps, at which f stops growing: low + m if it never does -/
def top (f : Int → Int) : Nat → Int → Int
  | 0, low => low
  | m + 1, low => if f (low + 1) ≤ f low then low else top f m (low + 1)

theorem top_ge (f : Int → Int) (m : Nat) : ∀ low, low ≤ top f m low ∧ top f m low ≤ low + m := by
  induction m with
  | zero => intro low; simp [top]
  | succ m ih =>
    intro low
    simp only [top]
    split
    · omega
    · have := ih (low + 1); omega

theorem top_grows (f : Int → Int) (m : Nat) : ∀ low t, low ≤ t → t < top f m low → f t < f (t + 1) := by
  induction m with
  | zero => intro low t h1 h2; simp [top] at h2; omega
  | succ m ih =>
    intro low t h1 h2
    simp only [top] at h2
    split at h2
    · omega
    · by_cases h : t = low
      · subst h; omega
      · exact ih (low + 1) t (by omega) h2

theorem top_stops (f : Int → Int) (m : Nat) : ∀ low, top f m low < low + m → f (top f m low + 1) ≤ f (top f m low) := by
  induction m with
  | zero => intro low h; simp [top] at h
  | succ m ih =>
    intro low h
    simp only [top] at h ⊢
    split
    · assumption
    · rename_i h2
      rw [if_neg h2] at h
      exact ih (low + 1) (by omega)

/-- whatever second stops the growth first is the top -/
theorem top_unique (f : Int → Int) (m : Nat) (low x : Int) (h1 : low ≤ x) (h2 : x ≤ low + m) (hg : ∀ t, low ≤ t → t < x → f t < f (t + 1))
    (hs : x < low + m → f (x + 1) ≤ f x) : top f m low = x := by
  have ha := top_ge f m low
  have hg' := top_grows f m low
  have hs' := top_stops f m low
  rcases Int.lt_trichotomy (top f m low) x with h | h | h
  · have := hg _ ha.1 h
    have := hs' (by omega)
    omega
  · exact h
  · have := hg' x h1 h
    have := hs (by omega)
    omega

/-- where f is 'once not growing, never again', the top is the greatest value -/
theorem top_max (f : Int → Int) (honce : ∀ t, f (t + 1) ≤ f t → ∀ n : Nat, f (t + n + 1) ≤ f (t + n)) (m : Nat) (low t : Int) (h1 : low ≤ t) (h2 : t ≤ low + m) :
    f t ≤ f (top f m low) := by
  have ha := top_ge f m low
  have hg := top_grows f m low
  have hs := top_stops f m low
  have up : ∀ (n : Nat) (a : Int), low ≤ a → a + n = top f m low → f a ≤ f (top f m low) := by
    intro n
    induction n with
    | zero => intro a _ h; simp at h; subst h; omega
    | succ n ih =>
      intro a h h'
      have := hg a h (by omega)
      have := ih (a + 1) (by omega) (by omega)
      omega
  have down : ∀ (n : Nat), top f m low + n ≤ low + m → f (top f m low + n) ≤ f (top f m low) := by
    intro n
    induction n with
    | zero => intro _; simp
    | succ n ih =>
      intro h
      have h3 := honce _ (hs (by omega)) n
      have := ih (by omega)
      have e : top f m low + ((n + 1 : Nat) : Int) = top f m low + n + 1 := by omega
      rw [e]; omega
  by_cases hc : t ≤ top f m low
  · exact up (top f m low - t).toNat t h1 (by omega)
  · have := down (t - top f m low).toNat (by omega)
    have e : top f m low + ((t - top f m low).toNat : Int) = t := by omega
    rw [e] at this; exact this


/-! ### the loop of the seconds: from wing k down to the first one -/

/-- what is left to do with j wings, at a place and a second -/
def fin (L S P : Nat → Int) (k : Nat) : Nat → Int → Int → Int
  | 0, _, y => y
  | j + 1, x, y => max y (passed L S P j (if j < k then x + L j else x))

theorem fin_start {k : Nat} {x : Int} (hP : ∀ i, i ≤ k → 0 < P i) (hL : ∀ i, i < k → 0 ≤ L i) (hx : 0 ≤ x) : fin L S P k (k + 1) x (S k) = passed L S P k x := by
  have := passed_ge_start (S := S) hP hL hx k (Nat.le_refl k)
  simp only [fin, Nat.lt_irrefl, if_false]
  omega

theorem fin_step {k j : Nat} {x y : Int} (hj : j ≤ k) : fin L S P k (j + 1) x y = fin L S P k j (if j < k then x + L j else x) (max y (S j + cdiv (if j < k then x + L j else x) (P j))) := by
  cases j with
  | zero => simp only [fin, passed]
  | succ i =>
    have hi : i < k := by omega
    simp only [fin, passed, if_pos hi]
    omega

end
end Go.Proofs.YtgfipifgijohhaaDoor
