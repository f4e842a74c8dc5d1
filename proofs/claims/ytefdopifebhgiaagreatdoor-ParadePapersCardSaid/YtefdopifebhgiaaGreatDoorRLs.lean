/-
  WALKS: the reference's lists of paces; the seconds and places of fronts, for true paces.
  PLAIN ARITHMETIC OF A PARADE: places, seconds, gaps, for true paces. No program in sight.
  WALKS: the reference's Fast, Passed, Front, for true paces.
  WALKS: the reference's least starts: LeastOf, CheckStarts, Least.
  WALKS: the reference's Least.
-/
import Derived.Test.YtefdopifebhgiaaGreatDoorApp
import Derived.WalkSpells
import Derived.WalkLawsBesides
import Derived.BigQuiet
import Derived.Test.YtefdopifebhgiaaGreatDoorProg
import Derived.Test.YtefdopifebhgiaaGreatDoorChk
import Derived.Deep.RegionHeld3
namespace Go.Proofs.YtefdopifebhgiaaGreatDoor
open Go.RowKit

theorem take_snoc {α : Type} (l : List α) (k : Nat) (h : k < l.length) (d : α) : l.take k ++ [l.getD k d] = l.take (k + 1) := by
  rw [List.take_succ_eq_append_getElem h]; simp [List.getD_eq_getElem?_getD, List.getElem?_eq_getElem h]

theorem map_wg {α : Type} (f : Wing → α) (ws : List Wing) (k : Nat) (h : k < ws.length) : (ws.map f).take k ++ [f (wg ws k)] = (ws.map f).take (k + 1) := by
  rw [List.take_succ_eq_append_getElem (by simpa using h)]; simp [wg, List.getD_eq_getElem?_getD, List.getElem?_eq_getElem h]

theorem OwnInts.base {b b' : Nat} {w : World} {v : Value} {xs : List Int} (h : OwnInts b w v xs) (hb : b' ≤ b) : OwnInts b' w v xs := by
  obtain ⟨h1, h2⟩ := h
  exact ⟨h1, h2.imp id (fun ⟨g, cap, cur, e, hg, r⟩ => ⟨g, cap, cur, e, Nat.le_trans hb hg, r⟩)⟩

end Go.Proofs.YtefdopifebhgiaaGreatDoor

namespace Go.Proofs.YtefdopifebhgiaaGreatDoor
section


/-- how many seconds a way takes at a pace, rounded up -/
def cdiv (x p : Int) : Int := (x + p - 1) / p

theorem cdiv_le_iff {x p t : Int} (hp : 0 < p) : cdiv x p ≤ t ↔ x ≤ p * t := by
  unfold cdiv
  have h1 : (x + p - 1) / p ≤ t ↔ (x + p - 1) / p < t + 1 := by omega
  rw [h1, Int.ediv_lt_iff_lt_mul hp, Int.add_mul, Int.one_mul, Int.mul_comm t p]
  omega

theorem cdiv_nonneg {x p : Int} (hp : 0 < p) (hx : 0 ≤ x) : 0 ≤ cdiv x p := by
  unfold cdiv
  exact Int.ediv_nonneg (by omega) (by omega)

theorem cdiv_pos {x p : Int} (hp : 0 < p) (hx : 0 < x) : 0 < cdiv x p := by
  have := mt (cdiv_le_iff (x := x) (t := 0) hp).1
  rw [Int.mul_zero] at this
  have := this (by omega)
  omega

theorem cdiv_le_self {x p : Int} (hp : 0 < p) (hx : 0 ≤ x) : cdiv x p ≤ x := by
  rw [cdiv_le_iff hp]
  have := Int.mul_le_mul_of_nonneg_right (a := 1) (b := p) (c := x) (by omega) hx
  omega

/-- the second in which the front of wing k passes a place (L: lengths, S: starts, P: paces) -/
def passed (L S P : Nat → Int) : Nat → Int → Int
  | 0, x => S 0 + cdiv x (P 0)
  | k + 1, x => max (S (k + 1) + cdiv x (P (k + 1))) (passed L S P k (x + L k))

/-- the place of the front of wing k in a second -/
def front (L S P : Nat → Int) : Nat → Int → Int
  | 0, t => P 0 * (t - S 0)
  | k + 1, t => min (P (k + 1) * (t - S (k + 1))) (front L S P k t - L k)

variable {L S P P' : Nat → Int}

theorem passed_le_iff {k : Nat} (hP : ∀ i, i ≤ k → 0 < P i) {x t : Int} : passed L S P k x ≤ t ↔ x ≤ front L S P k t := by
  induction k generalizing x with
  | zero =>
    have h := cdiv_le_iff (x := x) (t := t - S 0) (hP 0 (by omega))
    simp only [passed, front]
    rw [← h]; omega
  | succ k ih =>
    have h := cdiv_le_iff (x := x) (t := t - S (k + 1)) (hP (k + 1) (by omega))
    have ih' := ih (fun i hi => hP i (by omega)) (x := x + L k)
    simp only [passed, front]
    rw [Int.max_le, Int.le_min, ih']
    rw [← h]; omega

theorem front_mono_t {k : Nat} (hP : ∀ i, i ≤ k → 0 < P i) {t u : Int} (h : t ≤ u) : front L S P k t ≤ front L S P k u := by
  induction k with
  | zero => 
    have := Int.mul_le_mul_of_nonneg_left (a := t - S 0) (b := u - S 0) (c := P 0) (by omega) (by have := hP 0 (by omega); omega)
    simpa [front] using this
  | succ k ih =>
    have := Int.mul_le_mul_of_nonneg_left (a := t - S (k+1)) (b := u - S (k+1)) (c := P (k+1)) (by omega) (by have := hP (k+1) (by omega); omega)
    have := ih (fun i hi => hP i (by omega))
    simp only [front]
    omega

theorem front_mono_P {k : Nat} (hP : ∀ i, i ≤ k → P i ≤ P' i) {t : Int} (hS : ∀ i, i ≤ k → S i ≤ t) : front L S P k t ≤ front L S P' k t := by
  induction k with
  | zero => 
    have := Int.mul_le_mul_of_nonneg_right (a := P 0) (b := P' 0) (c := t - S 0) (hP 0 (by omega)) (by have := hS 0 (by omega); omega)
    simpa [front] using this
  | succ k ih =>
    have := Int.mul_le_mul_of_nonneg_right (a := P (k+1)) (b := P' (k+1)) (c := t - S (k+1)) (hP (k+1) (by omega)) (by have := hS (k+1) (by omega); omega)
    have := ih (fun i hi => hP i (by omega)) (fun i hi => hS i (by omega))
    simp only [front]
    omega

theorem passed_ge_start {k : Nat} (hP : ∀ i, i ≤ k → 0 < P i) (hL : ∀ i, i < k → 0 ≤ L i) {x : Int} (hx : 0 ≤ x) :
    ∀ i, i ≤ k → S i ≤ passed L S P k x := by
  induction k generalizing x with
  | zero => 
    intro i hi
    obtain rfl : i = 0 := by omega
    have := cdiv_nonneg (hP 0 (by omega)) hx
    simp only [passed]; omega
  | succ k ih =>
    intro i hi
    have h1 := cdiv_nonneg (hP (k+1) (by omega)) hx
    simp only [passed]
    by_cases hik : i = k + 1
    · subst hik; omega
    · have := ih (x := x + L k) (fun i hi => hP i (by omega)) (fun i hi => hL i (by omega)) (by have := hL k (by omega); omega) i (by omega)
      omega

theorem passed_mono_P {k : Nat} (hP : ∀ i, i ≤ k → 0 < P i) (hPP : ∀ i, i ≤ k → P i ≤ P' i) (hL : ∀ i, i < k → 0 ≤ L i) {x : Int} (hx : 0 ≤ x) :
    passed L S P' k x ≤ passed L S P k x := by
  rw [passed_le_iff (fun i hi => by have := hP i hi; have := hPP i hi; omega)]
  have h := (passed_le_iff (L := L) (S := S) (P := P) (k := k) hP (x := x) (t := passed L S P k x)).1 (Int.le_refl _)
  have := front_mono_P (L := L) (S := S) hPP (t := passed L S P k x) (fun i hi => passed_ge_start hP hL hx i hi)
  omega

theorem passed_mono_x {k : Nat} (hP : ∀ i, i ≤ k → 0 < P i) {x y : Int} (h : x ≤ y) : passed L S P k x ≤ passed L S P k y := by
  rw [passed_le_iff hP]
  have := (passed_le_iff (L := L) (S := S) (P := P) (k := k) hP (x := y) (t := passed L S P k y)).1 (Int.le_refl _)
  omega



/-- the place of the tail before wing k+1, less where its own pace would bring wing k+1 (below 0 if it is held back) -/
def rest (L S P : Nat → Int) (k : Nat) (own : Int) (t : Int) : Int := front L S P k t - L k - own * (t - S (k + 1))

/-- a front grows ever less -/
theorem front_concave {k : Nat} {t : Int} : front L S P k (t + 2) - front L S P k (t + 1) ≤ front L S P k (t + 1) - front L S P k t := by
  induction k with
  | zero =>
    simp only [front, Int.mul_sub, Int.mul_add]
    omega
  | succ k ih =>
    have e1 : P (k+1) * (t + 2 - S (k+1)) = P (k+1) * t + P (k+1) * 2 - P (k+1) * S (k+1) := by simp only [Int.mul_sub, Int.mul_add]
    have e2 : P (k+1) * (t + 1 - S (k+1)) = P (k+1) * t + P (k+1) * 1 - P (k+1) * S (k+1) := by simp only [Int.mul_sub, Int.mul_add]
    have e3 : P (k+1) * (t - S (k+1)) = P (k+1) * t - P (k+1) * S (k+1) := by simp only [Int.mul_sub]
    simp only [front, e1, e2, e3]
    generalize P (k+1) * t = a at *
    generalize P (k+1) * S (k+1) = b at *
    generalize P (k+1) = p at *
    omega

theorem rest_concave {k : Nat} {own t : Int} : rest L S P k own (t + 2) - rest L S P k own (t + 1) ≤ rest L S P k own (t + 1) - rest L S P k own t := by
  have h := front_concave (L := L) (S := S) (P := P) (k := k) (t := t)
  have e1 : own * (t + 2 - S (k+1)) = own * t + own * 2 - own * S (k+1) := by simp only [Int.mul_sub, Int.mul_add]
  have e2 : own * (t + 1 - S (k+1)) = own * t + own * 1 - own * S (k+1) := by simp only [Int.mul_sub, Int.mul_add]
  have e3 : own * (t - S (k+1)) = own * t - own * S (k+1) := by simp only [Int.mul_sub]
  simp only [rest, e1, e2, e3]
  omega

/-- once it does not grow, it does not grow again -/
theorem rest_once {k : Nat} {own t : Int} (h : rest L S P k own (t + 1) ≤ rest L S P k own t) (n : Nat) :
    rest L S P k own (t + n + 1) ≤ rest L S P k own (t + n) := by
  induction n with
  | zero => simpa using h
  | succ n ih =>
    have := rest_concave (L := L) (S := S) (P := P) (k := k) (own := own) (t := t + n)
    have e1 : t + ((n + 1 : Nat) : Int) = t + n + 1 := by omega
    have e2 : t + (n : Int) + 1 + 1 = t + n + 2 := by omega
    rw [e1, e2]
    omega

/-- the first second from 'low' on, of 'm' many steps, at which f stops growing: low + m if it never does -/
def top (f : Int → Int) : Nat → Int → Int
  | 0, low => low
  | m + 1, low => if f (low + 1) ≤ f low then low else top f m (low + 1)

theorem top_ge (f : Int → Int) (m : Nat) : ∀ low, low ≤ top f m low ∧ top f m low ≤ low + m := by
  induction m with
  | zero => intro low; simp [top]
  | succ m ih =>
    intro low
    simp only [top]
    split
    · omega
    · have := ih (low + 1); omega

theorem top_grows (f : Int → Int) (m : Nat) : ∀ low t, low ≤ t → t < top f m low → f t < f (t + 1) := by
  induction m with
  | zero => intro low t h1 h2; simp [top] at h2; omega
  | succ m ih =>
    intro low t h1 h2
    simp only [top] at h2
    split at h2
    · omega
    · by_cases h : t = low
      · subst h; omega
      · exact ih (low + 1) t (by omega) h2

theorem top_stops (f : Int → Int) (m : Nat) : ∀ low, top f m low < low + m → f (top f m low + 1) ≤ f (top f m low) := by
  induction m with
  | zero => intro low h; simp [top] at h
  | succ m ih =>
    intro low h
    simp only [top] at h ⊢
    split
    · assumption
    · rename_i h2
      rw [if_neg h2] at h
      exact ih (low + 1) (by omega)

/-- whatever second stops the growth first is the top -/
theorem top_unique (f : Int → Int) (m : Nat) (low x : Int) (h1 : low ≤ x) (h2 : x ≤ low + m) (hg : ∀ t, low ≤ t → t < x → f t < f (t + 1))
    (hs : x < low + m → f (x + 1) ≤ f x) : top f m low = x := by
  have ha := top_ge f m low
  have hg' := top_grows f m low
  have hs' := top_stops f m low
  rcases Int.lt_trichotomy (top f m low) x with h | h | h
  · have := hg _ ha.1 h
    have := hs' (by omega)
    omega
  · exact h
  · have := hg' x h1 h
    have := hs (by omega)
    omega

/-- where f is 'once not growing, never again', the top is the greatest value -/
theorem top_max (f : Int → Int) (honce : ∀ t, f (t + 1) ≤ f t → ∀ n : Nat, f (t + n + 1) ≤ f (t + n)) (m : Nat) (low t : Int) (h1 : low ≤ t) (h2 : t ≤ low + m) :
    f t ≤ f (top f m low) := by
  have ha := top_ge f m low
  have hg := top_grows f m low
  have hs := top_stops f m low
  have up : ∀ (n : Nat) (a : Int), low ≤ a → a + n = top f m low → f a ≤ f (top f m low) := by
    intro n
    induction n with
    | zero => intro a _ h; simp at h; subst h; omega
    | succ n ih =>
      intro a h h'
      have := hg a h (by omega)
      have := ih (a + 1) (by omega) (by omega)
      omega
  have down : ∀ (n : Nat), top f m low + n ≤ low + m → f (top f m low + n) ≤ f (top f m low) := by
    intro n
    induction n with
    | zero => intro _; simp
    | succ n ih =>
      intro h
      have h3 := honce _ (hs (by omega)) n
      have := ih (by omega)
      have e : top f m low + ((n + 1 : Nat) : Int) = top f m low + n + 1 := by omega
      rw [e]; omega
  by_cases hc : t ≤ top f m low
  · exact up (top f m low - t).toNat t h1 (by omega)
  · have := down (t - top f m low).toNat (by omega)
    have e : top f m low + ((t - top f m low).toNat : Int) = t := by omega
    rw [e] at this; exact this


/-! ### the loop of the seconds: from wing k down to the first one -/

/-- what is left to do with j wings, at a place and a second -/
def fin (L S P : Nat → Int) (k : Nat) : Nat → Int → Int → Int
  | 0, _, y => y
  | j + 1, x, y => max y (passed L S P j (if j < k then x + L j else x))

theorem fin_start {k : Nat} {x : Int} (hP : ∀ i, i ≤ k → 0 < P i) (hL : ∀ i, i < k → 0 ≤ L i) (hx : 0 ≤ x) : fin L S P k (k + 1) x (S k) = passed L S P k x := by
  have := passed_ge_start (S := S) hP hL hx k (Nat.le_refl k)
  simp only [fin, Nat.lt_irrefl, if_false]
  omega

theorem fin_step {k j : Nat} {x y : Int} (hj : j ≤ k) : fin L S P k (j + 1) x y = fin L S P k j (if j < k then x + L j else x) (max y (S j + cdiv (if j < k then x + L j else x) (P j))) := by
  cases j with
  | zero => simp only [fin, passed]
  | succ i =>
    have hi : i < k := by omega
    simp only [fin, passed, if_pos hi]
    omega

end
end Go.Proofs.YtefdopifebhgiaaGreatDoor

namespace Go.Proofs.YtefdopifebhgiaaGreatDoor
open Go.RowKit

def Ln (ws : List Wing) (i : Nat) : Int := (wg ws i).len

/-- numbers small enough for the arithmetic of the first k wings, k itself included -/
structure Sane (ws : List Wing) (st ps : List Int) (k : Nat) : Prop where
  kw : k < ws.length
  ks : k < st.length
  kp : k < ps.length
  n : ws.length ≤ 100
  len : ∀ i, i ≤ k → 0 ≤ Ln ws i ∧ Ln ws i ≤ 100000
  start : ∀ i, i ≤ k → 0 ≤ nm st i ∧ nm st i ≤ 1000000
  pace : ∀ i, i ≤ k → 1 ≤ nm ps i ∧ nm ps i ≤ 10000

theorem max_if {y z : Int} : (if y < z then z else y) = max y z := by split <;> omega
theorem pos_if {x : Int} (h : 0 ≤ x) : (if 0 < x then x else 0) = x := by split <;> omega
theorem wrap_small {z : Int} (h : -1000000000000 ≤ z) (h2 : z ≤ 1000000000000) : wrap64 z = z := by unfold wrap64; omega

theorem cdiv_bound {x p : Int} (hx : 0 ≤ x) (hp : 1 ≤ p) (hx2 : x ≤ 100000000) : 0 ≤ cdiv x p ∧ cdiv x p ≤ 100000000 := by
  have h1 := cdiv_nonneg (p := p) (by omega) hx
  have h2 := cdiv_le_self (p := p) (by omega) hx
  omega

/-- one round of the seconds, as the walk spells it -/
theorem psd_round {x y s p : Int} (hx : 0 ≤ x) (hx2 : x ≤ 100000000) (hp : 1 ≤ p) (hs : 0 ≤ s) (hs2 : s ≤ 1000000) :
    (if y < wrap64 (s + ((if 0 < x then x else 0) + p - 1) / p) then wrap64 (s + ((if 0 < x then x else 0) + p - 1) / p) else y) = max y (s + cdiv x p) := by
  have hc := cdiv_bound hx hp hx2
  have e : s + ((if 0 < x then x else 0) + p - 1) / p = s + cdiv x p := by rw [pos_if hx]; rfl
  rw [e, wrap_small (by omega) (by omega), max_if]

theorem min_if {y z : Int} : (if z < y then z else y) = min y z := by split <;> omega

theorem mul_bound {p q : Int} (h0 : 0 ≤ p) (h1 : p ≤ 10000) (h2 : -11000000 ≤ q) (h3 : q ≤ 11000000) : -110000000000 ≤ p * q ∧ p * q ≤ 110000000000 := by
  have a := Int.mul_le_mul_of_nonneg_left h3 h0
  have b := Int.mul_le_mul_of_nonneg_left h2 h0
  have c := Int.mul_le_mul_of_nonneg_right h1 (c := 11000000) (by omega)
  have e1 : p * -11000000 = -(p * 11000000) := by rw [Int.mul_neg]
  rw [e1] at b
  omega

theorem front_bound {ws : List Wing} {st ps : List Int} {k : Nat} (hs : Sane ws st ps k) {t : Int} (ht : -10000000 ≤ t) (ht2 : t ≤ 10000000) :
    ∀ j, j ≤ k → -110000000000 - 100000 * (j : Int) ≤ front (Ln ws) (nm st) (nm ps) j t ∧ front (Ln ws) (nm st) (nm ps) j t ≤ 110000000000 := by
  intro j
  induction j with
  | zero =>
    intro hj
    have g2 := hs.start 0 hj
    have g3 := hs.pace 0 hj
    have := mul_bound (p := nm ps 0) (q := t - nm st 0) (by omega) (by omega) (by omega) (by omega)
    simp only [front]; omega
  | succ j ih =>
    intro hj
    have g2 := hs.start (j + 1) hj
    have g3 := hs.pace (j + 1) hj
    have g1 := hs.len j (by omega)
    have := mul_bound (p := nm ps (j + 1)) (q := t - nm st (j + 1)) (by omega) (by omega) (by omega) (by omega)
    have := ih (by omega)
    simp only [front]; omega

end Go.Proofs.YtefdopifebhgiaaGreatDoor

namespace Go.Proofs.YtefdopifebhgiaaGreatDoor
open Go.RowKit

def Lo (ws : List Wing) (i : Nat) : Int := (wg ws i).lo
def Hi (ws : List Wing) (i : Nat) : Int := (wg ws i).hi

theorem nm_lo (ws : List Wing) : nm (ws.map Wing.lo) = Lo ws := by
  funext i
  simp only [nm, Lo, wg, List.getD_eq_getElem?_getD, List.getElem?_map]
  cases ws[i]? <;> rfl
theorem nm_hi (ws : List Wing) : nm (ws.map Wing.hi) = Hi ws := by
  funext i
  simp only [nm, Hi, wg, List.getD_eq_getElem?_getD, List.getElem?_map]
  cases ws[i]? <;> rfl

/-- a school whose numbers are small -/
structure Small (ws : List Wing) : Prop where
  n : ws.length ≤ 100
  len : ∀ i, i < ws.length → 0 ≤ Ln ws i ∧ Ln ws i ≤ 100000
  lo : ∀ i, i < ws.length → 1 ≤ Lo ws i ∧ Lo ws i ≤ 10000
  hi : ∀ i, i < ws.length → 1 ≤ Hi ws i ∧ Hi ws i ≤ 10000

theorem Small.of_check {route : Int} {ws : List Wing} (h : check route ws = 0) : Small ws := by
  obtain ⟨_, _, _, h8, hh⟩ := check_zero h
  exact ⟨by omega, fun i hi => by have := hh i hi; unfold Ln; omega, fun i hi => by have := hh i hi; unfold Lo; omega, fun i hi => by have := hh i hi; unfold Hi; omega⟩

theorem Small.slow {ws : List Wing} (h : Small ws) {st : List Int} {k : Nat} (hk : k < ws.length) (hks : k < st.length) (hst : ∀ i, i ≤ k → 0 ≤ nm st i ∧ nm st i ≤ 1000000) : Sane ws st (ws.map Wing.lo) k :=
  ⟨hk, hks, by simpa using hk, h.n, fun i hi => h.len i (by omega), hst, fun i hi => by rw [nm_lo]; exact h.lo i (by omega)⟩
theorem Small.fast {ws : List Wing} (h : Small ws) {st : List Int} {k : Nat} (hk : k < ws.length) (hks : k < st.length) (hst : ∀ i, i ≤ k → 0 ≤ nm st i ∧ nm st i ≤ 1000000) : Sane ws st (ws.map Wing.hi) k :=
  ⟨hk, hks, by simpa using hk, h.n, fun i hi => h.len i (by omega), hst, fun i hi => by rw [nm_hi]; exact h.hi i (by omega)⟩

/-- the least start of a wing -/
def leastOf (ws : List Wing) (st : List Int) : Nat → Int
  | 0 => 0
  | k + 1 => passed (Ln ws) (nm st) (Lo ws) k (Ln ws k)

/-- the error of start i -/
def startErr (ws : List Wing) (st : List Int) (i : Nat) : Int := if inB (nm st i) 0 20000 = false then 2 else if nm st i < leastOf ws st i then 12 else 0

/-- the error of a school and starts -/
def checkStarts (route : Int) (ws : List Wing) (st : List Int) : Int :=
  if check route ws = 0 then (if st.length = ws.length then firstBad (startErr ws st) st.length else 1) else check route ws

/-- all starts before start i are fine -/
def FineS (ws : List Wing) (st : List Int) (i : Nat) : Prop := ∀ j, j < i → startErr ws st j = 0

theorem FineS.zero (ws : List Wing) (st : List Int) : FineS ws st 0 := fun j h => by omega
theorem FineS.succ {ws : List Wing} {st : List Int} {i : Nat} (h : FineS ws st i) (h1 : startErr ws st i = 0) : FineS ws st (i + 1) := fun j hj => by
  by_cases e : j = i
  · subst e; exact h1
  · exact h j (by omega)
theorem FineS.bound {ws : List Wing} {st : List Int} {i : Nat} (h : FineS ws st i) : ∀ j, j < i → 0 ≤ nm st j ∧ nm st j ≤ 1000000 := fun j hj => by
  have := h j hj
  unfold startErr at this
  split at this
  · omega
  · rename_i hb
    have hb' : inB (nm st j) 0 20000 = true := by simpa using hb
    rw [inB_true] at hb'
    omega

theorem starts_bad {route : Int} {ws : List Wing} {st : List Int} {i : Nat} (hc : check route ws = 0) (hl : st.length = ws.length) (hi : i < st.length) (h : FineS ws st i) {e : Int} (he : startErr ws st i = e) (hne : e ≠ 0) : checkStarts route ws st = e := by
  unfold checkStarts
  rw [if_pos hc, if_pos hl, firstBad_at hi h (by rw [he]; exact hne), he]
theorem starts_ok {route : Int} {ws : List Wing} {st : List Int} (hc : check route ws = 0) (hl : st.length = ws.length) (h : FineS ws st st.length) : checkStarts route ws st = 0 := by
  unfold checkStarts
  rw [if_pos hc, if_pos hl]
  exact firstBad_zero.2 h
theorem starts_zero {route : Int} {ws : List Wing} {st : List Int} (h : checkStarts route ws st = 0) : check route ws = 0 ∧ st.length = ws.length ∧ FineS ws st st.length := by
  unfold checkStarts at h
  by_cases hc : check route ws = 0
  · rw [if_pos hc] at h
    by_cases hl : st.length = ws.length
    · rw [if_pos hl] at h
      exact ⟨hc, hl, firstBad_zero.1 h⟩
    · rw [if_neg hl] at h; omega
  · rw [if_neg hc] at h; exact absurd h hc


end Go.Proofs.YtefdopifebhgiaaGreatDoor

namespace Go.Proofs.YtefdopifebhgiaaGreatDoor
open Go.RowKit

/-- the least starts of the first wings -/
def leasts (ws : List Wing) : Nat → List Int
  | 0 => []
  | k + 1 => leasts ws k ++ [leastOf ws (leasts ws k) k]

theorem leasts_length (ws : List Wing) (k : Nat) : (leasts ws k).length = k := by
  induction k with
  | zero => rfl
  | succ k ih => simp [leasts, ih]

def lateErr (ws : List Wing) (k : Nat) : Int := if 20000 < leastOf ws (leasts ws k) k then 2 else 0
def leastErr (route : Int) (ws : List Wing) : Int := if check route ws = 0 then firstBad (lateErr ws) ws.length else check route ws
def leastRes (route : Int) (ws : List Wing) : List Int := if leastErr route ws = 0 then leasts ws ws.length else []

def FineL (ws : List Wing) (k : Nat) : Prop := ∀ j, j < k → lateErr ws j = 0

theorem FineL.zero (ws : List Wing) : FineL ws 0 := fun j h => by omega
theorem FineL.succ {ws : List Wing} {i : Nat} (h : FineL ws i) (h1 : lateErr ws i = 0) : FineL ws (i + 1) := fun j hj => by
  by_cases e : j = i
  · subst e; exact h1
  · exact h j (by omega)

theorem nm_snoc (l : List Int) (x : Int) (i : Nat) : nm (l ++ [x]) i = if i < l.length then nm l i else if i = l.length then x else 0 := by
  unfold nm
  rw [List.getD_eq_getElem?_getD, List.getElem?_append]
  split
  · rw [List.getD_eq_getElem?_getD]
  · rename_i h
    by_cases e : i = l.length
    · subst e; simp
    · rw [if_neg e, List.getElem?_eq_none (by simp; omega)]; rfl

theorem leastOf_nonneg {ws : List Wing} {st : List Int} {k : Nat} (hs : Small ws) (hk : k ≤ ws.length) (hst : ∀ i, i < k → 0 ≤ nm st i) : 0 ≤ leastOf ws st k := by
  cases k with
  | zero => exact Int.le_refl _
  | succ k =>
    have := passed_ge_start (L := Ln ws) (S := nm st) (P := Lo ws) (k := k) (x := Ln ws k) (fun i hi => by have := hs.lo i (by omega); omega) (fun i hi => (hs.len i (by omega)).1) (hs.len k (by omega)).1 k (Nat.le_refl _)
    have := hst k (by omega)
    simp only [leastOf]; omega

theorem leasts_bound {ws : List Wing} (hs : Small ws) {k : Nat} (hk : k ≤ ws.length) (h : FineL ws k) : ∀ i, i < k → 0 ≤ nm (leasts ws k) i ∧ nm (leasts ws k) i ≤ 1000000 := by
  induction k with
  | zero => intro i hi; omega
  | succ k ih =>
    intro i hi
    have ih' := ih (by omega) (fun j hj => h j (by omega))
    simp only [leasts, nm_snoc, leasts_length]
    split
    · exact ih' i ‹_›
    · rw [if_pos (by omega)]
      have h1 := leastOf_nonneg (st := leasts ws k) hs (by omega) (fun i hi => (ih' i hi).1)
      have h2 := h k (by omega)
      unfold lateErr at h2
      split at h2 <;> omega

theorem least_bad {route : Int} {ws : List Wing} {i : Nat} (hc : check route ws = 0) (hi : i < ws.length) (h : FineL ws i) (he : lateErr ws i = 2) : leastErr route ws = 2 ∧ leastRes route ws = [] := by
  have e : leastErr route ws = 2 := by unfold leastErr; rw [if_pos hc, firstBad_at hi h (by rw [he]; decide), he]
  exact ⟨e, by unfold leastRes; rw [e]; rfl⟩
theorem least_ok {route : Int} {ws : List Wing} (hc : check route ws = 0) (h : FineL ws ws.length) : leastErr route ws = 0 ∧ leastRes route ws = leasts ws ws.length := by
  have e : leastErr route ws = 0 := by unfold leastErr; rw [if_pos hc]; exact firstBad_zero.2 h
  exact ⟨e, by unfold leastRes; rw [if_pos e]⟩
theorem least_check {route : Int} {ws : List Wing} (hc : check route ws ≠ 0) : leastErr route ws = check route ws ∧ leastRes route ws = [] := by
  have e : leastErr route ws = check route ws := by unfold leastErr; rw [if_neg hc]
  exact ⟨e, by unfold leastRes; rw [if_neg (by rw [e]; exact hc)]⟩

def LeastPost (route : Int) (ws : List Wing) (w : World) (e : Ending) (w' : World) : Prop :=
  ∃ v, e = .returned (.tuple #[v, .int .i64 (leastErr route ws)]) ∧ OwnInts w.heap.size w' v (leastRes route ws) ∧ Below w.heap.size w w'

theorem tuple_err {v : Value} {a b : Int} (h : a = b) : Ending.returned (.tuple #[v, .int .i64 a]) = .returned (.tuple #[v, .int .i64 b]) := by rw [h]

end Go.Proofs.YtefdopifebhgiaaGreatDoor
