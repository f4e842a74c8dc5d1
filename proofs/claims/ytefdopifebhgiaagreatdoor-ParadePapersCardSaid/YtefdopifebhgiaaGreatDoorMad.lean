/-
  PLAIN: schools and starts that are made of numbers are valid. No program in sight.
-/
import Derived.Test.YtefdopifebhgiaaGreatDoorKp
import Derived.Test.YtefdopifebhgiaaGreatDoorRLs
namespace Go.Proofs.YtefdopifebhgiaaGreatDoor

/-- the wings of a school that is made of numbers -/
def MadeW (ws : List Wing) : Prop := ∀ i, i < ws.length → (wg ws i).name = kitName i ∧ 1 ≤ (wg ws i).len ∧ (wg ws i).len ≤ 80 ∧ 1 ≤ (wg ws i).lo ∧ (wg ws i).lo ≤ 40 ∧ (wg ws i).lo ≤ (wg ws i).hi ∧ (wg ws i).hi ≤ (wg ws i).lo + 29

theorem kitName_named : ∀ i, i < 8 → namedB (kitName i) = true := by decide
theorem kitName_ne : ∀ i, i < 8 → ∀ j, j < i → ((kitName j).toList == (kitName i).toList) = false := by decide +kernel
theorem kitName_size : ∀ i, i < 8 → (kitName i).size ≤ 8 := by decide

theorem made_check {route : Int} {ws : List Wing} (h : MadeW ws) (h1 : 1 ≤ route) (h2 : route ≤ 2000) (h0 : 0 < ws.length) (h8 : ws.length ≤ 8) : check route ws = 0 := by
  refine check_ok (inB_true.2 (by omega)) h0 h8 (fun i hi => ?_)
  obtain ⟨q0, q1, q2, q3, q4, q5, q6⟩ := h i hi
  refine checkW_0 (by rw [q0]; exact kitName_named i (by omega)) (twin_false.2 fun j hj => ?_) ?_ q5
  · rw [(h j (by omega)).1, q0]; exact kitName_ne i (by omega) j hj
  · unfold numsB
    simp only [Bool.and_eq_true, inB_true]
    omega

theorem made_size {ws : List Wing} (h : MadeW ws) (h8 : ws.length ≤ 8) : ∀ i, i < ws.length → (wg ws i).name.size ≤ 1000000 := fun i hi => by
  rw [(h i hi).1]
  have := kitName_size i (by omega)
  omega

theorem passed_ext {L S S' P : Nat → Int} {k : Nat} (h : ∀ i, i ≤ k → S i = S' i) : ∀ x, passed L S P k x = passed L S' P k x := by
  induction k with
  | zero => intro x; simp only [passed, h 0 (Nat.le_refl _)]
  | succ k ih => intro x; simp only [passed, h (k + 1) (Nat.le_refl _), ih (fun i hi => h i (by omega))]

theorem leastOf_ext {ws : List Wing} {st st' : List Int} {k : Nat} (h : ∀ i, i < k → nm st i = nm st' i) : leastOf ws st k = leastOf ws st' k := by
  cases k with
  | zero => rfl
  | succ k => exact passed_ext (fun i hi => h i (by omega)) _

theorem passed_low {L S P : Nat → Int} {k : Nat} {M A : Int} (hA : 0 ≤ A) (hP : ∀ i, i ≤ k → 0 < P i) (hL : ∀ i, i < k → 0 ≤ L i ∧ L i ≤ A) (hS : ∀ i, i ≤ k → S i ≤ M) {x : Int} (hx : 0 ≤ x) :
    passed L S P k x ≤ M + x + A * (k : Int) := by
  induction k generalizing x with
  | zero =>
    have h1 := cdiv_le_self (hP 0 (by omega)) hx
    have h2 := hS 0 (by omega)
    simp only [passed]; simp; omega
  | succ k ih =>
    have h1 := cdiv_le_self (hP (k + 1) (by omega)) hx
    have h2 := hS (k + 1) (by omega)
    have h3 := hL k (by omega)
    have h4 := ih (fun i hi => hP i (by omega)) (fun i hi => hL i (by omega)) (fun i hi => hS i (by omega)) (x := x + L k) (by omega)
    have h5 : A * ((k + 1 : Nat) : Int) = A * (k : Int) + A := by push_cast; rw [Int.mul_add, Int.mul_one]
    have h6 : 0 ≤ A * (k : Int) := Int.mul_nonneg hA (by omega)
    simp only [passed]; omega

theorem made_least {ws : List Wing} {st : List Int} {k : Nat} {M : Int} (h : MadeW ws) (h8 : ws.length ≤ 8) (hk : k ≤ ws.length) (hM : 0 ≤ M) (hst : ∀ i, i < k → 0 ≤ nm st i ∧ nm st i ≤ M) : 0 ≤ leastOf ws st k ∧ leastOf ws st k ≤ M + 640 := by
  cases k with
  | zero => exact ⟨Int.le_refl _, by show (0 : Int) ≤ _; omega⟩
  | succ k =>
    have hl : ∀ i, i < k + 1 → 1 ≤ Ln ws i ∧ Ln ws i ≤ 80 := fun i hi => by have := h i (by omega); unfold Ln; omega
    have hp : ∀ i, i < k + 1 → 0 < Lo ws i := fun i hi => by have := h i (by omega); unfold Lo; omega
    have e1 := hl k (by omega)
    have e2 := passed_ge_start (L := Ln ws) (S := nm st) (P := Lo ws) (k := k) (fun i hi => hp i (by omega)) (fun i hi => by have := hl i (by omega); omega) (x := Ln ws k) (by omega) k (Nat.le_refl _)
    have e3 := passed_low (L := Ln ws) (S := nm st) (P := Lo ws) (k := k) (M := M) (A := 80) (by omega) (fun i hi => hp i (by omega)) (fun i hi => by have := hl i (by omega); omega) (fun i hi => (hst i (by omega)).2) (x := Ln ws k) (by omega)
    have e4 := (hst k (by omega)).1
    show 0 ≤ passed (Ln ws) (nm st) (Lo ws) k (Ln ws k) ∧ passed (Ln ws) (nm st) (Lo ws) k (Ln ws k) ≤ M + 640
    omega

/-- starts that are made of numbers -/
def MadeS (ws : List Wing) (st : List Int) : Prop := ∀ i, i < st.length → leastOf ws st i ≤ nm st i ∧ 0 ≤ nm st i ∧ nm st i ≤ 680 * ((i : Int) + 1)

theorem MadeS.nil (ws : List Wing) : MadeS ws [] := fun i hi => by simp at hi
theorem MadeS.bound {ws : List Wing} {st : List Int} (h : MadeS ws st) : ∀ i, i < st.length → 0 ≤ nm st i ∧ nm st i ≤ 680 * (st.length : Int) := fun i hi => by
  have := h i hi; omega
theorem MadeS.least {ws : List Wing} {st : List Int} (h : MadeS ws st) (hw : MadeW ws) (h8 : ws.length ≤ 8) (hk : st.length ≤ ws.length) : 0 ≤ leastOf ws st st.length ∧ leastOf ws st st.length ≤ 680 * (st.length : Int) + 640 :=
  made_least hw h8 hk (by omega) h.bound
theorem MadeS.snoc {ws : List Wing} {st : List Int} (h : MadeS ws st) (hw : MadeW ws) (h8 : ws.length ≤ 8) (hk : st.length < ws.length) {z : Int} (hz : 0 ≤ z) (hz2 : z ≤ 39) : MadeS ws (st ++ [leastOf ws st st.length + z]) := by
  have hl := h.least hw h8 (by omega)
  intro i hi
  have hle : ∀ i, i ≤ st.length → leastOf ws (st ++ [leastOf ws st st.length + z]) i = leastOf ws st i := fun i hi => leastOf_ext (fun j hj => by rw [nm_snoc, if_pos (by omega)])
  rw [nm_snoc]
  have hi2 : i ≤ st.length := by simp at hi; omega
  rw [hle i hi2]
  by_cases e : i < st.length
  · rw [if_pos e]; exact h i e
  · obtain rfl : i = st.length := by omega
    rw [if_neg e, if_pos rfl]
    omega

theorem made_starts {route : Int} {ws : List Wing} {st : List Int} (hc : check route ws = 0) (hl : st.length = ws.length) (h8 : ws.length ≤ 8) (h : MadeS ws st) : checkStarts route ws st = 0 := by
  refine starts_ok hc hl (fun i hi => ?_)
  have := h i hi
  unfold startErr
  rw [if_neg (by rw [inB_true.2 ⟨by omega, by omega⟩]; simp), if_neg (by omega)]
end Go.Proofs.YtefdopifebhgiaaGreatDoor
