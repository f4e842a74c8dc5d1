/-
  PLAIN: narrower paces, the same starts: nothing gets wider. No program in sight.
-/
import Derived.Test.YtgfipifgijohhaaDoorOwn
import Derived.Test.YtgfipifgijohhaaDoorOnp
namespace Go.Proofs.YtgfipifgijohhaaDoor

/-- ws' is ws with paces that are known better -/
structure Narrow (ws ws' : List Wing) : Prop where
  len : ws'.length = ws.length
  same : ∀ i, i < ws.length → (wg ws' i).name = (wg ws i).name ∧ (wg ws' i).len = (wg ws i).len
  lo : ∀ i, i < ws.length → Lo ws i ≤ Lo ws' i ∧ Lo ws' i ≤ Hi ws' i ∧ Hi ws' i ≤ Hi ws i

theorem Narrow.refl {ws : List Wing} (h : ∀ i, i < ws.length → Lo ws i ≤ Hi ws i) : Narrow ws ws := ⟨rfl, fun _ _ => ⟨rfl, rfl⟩, fun i hi => ⟨Int.le_refl _, h i hi, Int.le_refl _⟩⟩

theorem Narrow.set {ws ws' : List Wing} (h : Narrow ws ws') {k : Nat} (hk : k < ws.length) {a b : Int} (h1 : Lo ws k ≤ a) (h2 : a ≤ b) (h3 : b ≤ Hi ws k) : Narrow ws (ws'.set k ⟨(wg ws' k).name, (wg ws' k).len, a, b⟩) := by
  have hk' : k < ws'.length := by rw [h.len]; exact hk
  refine ⟨by rw [List.length_set, h.len], fun i hi => ?_, fun i hi => ?_⟩
  · rw [wg_set _ _ _ _ hk']
    by_cases e : i = k
    · subst e; rw [if_pos rfl]; exact h.same i hi
    · rw [if_neg e]; exact h.same i hi
  · unfold Lo Hi
    rw [wg_set _ _ _ _ hk']
    by_cases e : i = k
    · subst e; rw [if_pos rfl]; exact ⟨h1, h2, h3⟩
    · rw [if_neg e]; exact h.lo i hi

theorem Narrow.ln {ws ws' : List Wing} (h : Narrow ws ws') : ∀ i, i < ws.length → Ln ws' i = Ln ws i := fun i hi => (h.same i hi).2

theorem Narrow.check {ws ws' : List Wing} (h : Narrow ws ws') (hm : MadeW ws) (h0 : 0 < ws.length) (h8 : ws.length ≤ 8) {route : Int} (hr1 : 1 ≤ route) (hr2 : route ≤ 2000) : check route ws' = 0 := by
  have hl := h.len
  refine check_ok (inB_true.2 (by omega)) (by omega) (by omega) (fun i hi => ?_)
  rw [hl] at hi
  obtain ⟨q0, q1, q2, q3, q4, q5, q6⟩ := hm i hi
  obtain ⟨s0, s1⟩ := h.same i hi
  have hlo := h.lo i hi
  unfold Lo Hi at hlo
  refine checkW_0 (by rw [s0, q0]; exact kitName_named i (by omega)) (twin_false.2 fun j hj => ?_) ?_ hlo.2.1
  · rw [(h.same j (by omega)).1, s0, (hm j (by omega)).1, q0]; exact kitName_ne i (by omega) j hj
  · unfold numsB
    simp only [Bool.and_eq_true, inB_true]
    omega

theorem passed_extL {L L' S P : Nat → Int} {k : Nat} (h : ∀ i, i < k → L i = L' i) : ∀ x, passed L S P k x = passed L' S P k x := by
  induction k with
  | zero => intro x; rfl
  | succ k ih => intro x; simp only [passed, h k (Nat.lt_succ_self _), ih (fun i hi => h i (by omega))]
theorem front_extL {L L' S P : Nat → Int} {k : Nat} (h : ∀ i, i < k → L i = L' i) : ∀ t, front L S P k t = front L' S P k t := by
  induction k with
  | zero => intro t; rfl
  | succ k ih => intro t; simp only [front, h k (Nat.lt_succ_self _), ih (fun i hi => h i (by omega))]

theorem Narrow.passed_le {ws ws' : List Wing} (h : Narrow ws ws') (hm : MadeW ws) {st : List Int} {k : Nat} (hk : k < ws.length) {x : Int} (hx : 0 ≤ x) :
    passed (Ln ws) (nm st) (Hi ws) k x ≤ passed (Ln ws') (nm st) (Hi ws') k x ∧ passed (Ln ws') (nm st) (Lo ws') k x ≤ passed (Ln ws) (nm st) (Lo ws) k x := by
  have hlo : ∀ i, i < ws.length → 1 ≤ Lo ws i := fun i hi => by have := hm i hi; unfold Lo; omega
  have hL : ∀ i, i < ws.length → 0 ≤ Ln ws i := fun i hi => by have := hm i hi; unfold Ln; omega
  have e : ∀ P, passed (Ln ws') (nm st) P k x = passed (Ln ws) (nm st) P k x := fun P => passed_extL (fun i hi => h.ln i (by omega)) x
  rw [e, e]
  exact ⟨passed_mono_P (fun i hi => by have := hlo i (by omega); have := h.lo i (by omega); omega) (fun i hi => (h.lo i (by omega)).2.2) (fun i hi => hL i (by omega)) hx,
    passed_mono_P (fun i hi => by have := hlo i (by omega); omega) (fun i hi => (h.lo i (by omega)).1) (fun i hi => hL i (by omega)) hx⟩

theorem Narrow.starts {ws ws' : List Wing} (h : Narrow ws ws') (hm : MadeW ws) (h0 : 0 < ws.length) (h8 : ws.length ≤ 8) {route : Int} (hr1 : 1 ≤ route) (hr2 : route ≤ 2000) {st : List Int} (hms : MadeS ws st) (hl : st.length = ws.length) : checkStarts route ws' st = 0 := by
  have hc := h.check hm h0 h8 hr1 hr2
  refine starts_ok hc (by rw [h.len]; exact hl) (fun i hi => ?_)
  have hs := hms i hi
  have hle : leastOf ws' st i ≤ leastOf ws st i := by
    cases i with
    | zero => exact Int.le_refl _
    | succ i =>
      show passed (Ln ws') (nm st) (Lo ws') i (Ln ws' i) ≤ passed (Ln ws) (nm st) (Lo ws) i (Ln ws i)
      rw [h.ln i (by omega)]
      have := hm i (by omega)
      exact (h.passed_le hm (by omega) (by unfold Ln; omega)).2
  unfold startErr
  rw [if_neg (by rw [inB_true.2 ⟨by omega, by omega⟩]; simp), if_neg (by omega)]

theorem Narrow.front_le {ws ws' : List Wing} (h : Narrow ws ws') {st : List Int} {k : Nat} (hk : k < ws.length) {t : Int} (ht : ∀ i, i ≤ k → nm st i ≤ t) :
    front (Ln ws) (nm st) (Lo ws) k t ≤ front (Ln ws') (nm st) (Lo ws') k t ∧ front (Ln ws') (nm st) (Hi ws') k t ≤ front (Ln ws) (nm st) (Hi ws) k t := by
  have e : ∀ P, front (Ln ws') (nm st) P k t = front (Ln ws) (nm st) P k t := fun P => front_extL (fun i hi => h.ln i (by omega)) t
  rw [e, e]
  exact ⟨front_mono_P (fun i hi => (h.lo i (by omega)).1) ht, front_mono_P (fun i hi => (h.lo i (by omega)).2.2) ht⟩

theorem Narrow.gap_le {ws ws' : List Wing} (h : Narrow ws ws') {st : List Int} {m : Nat} (hk : m + 1 < ws.length) {t : Int} (ht : ∀ i, i ≤ m + 1 → nm st i ≤ t) :
    gapAt ws st 0 m t ≤ gapAt ws' st 0 m t ∧ gapAt ws' st 1 m t ≤ gapAt ws st 1 m t := by
  obtain ⟨f1, f2⟩ := h.front_le (st := st) (k := m) (by omega) (t := t) (fun i hi => ht i (by omega))
  have hl := h.lo (m + 1) hk
  have e := h.ln m (by omega)
  have h1 := Int.mul_le_mul_of_nonneg_right (c := t - nm st (m + 1)) hl.2.2 (by have := ht (m + 1) (Nat.le_refl _); omega)
  have h2 := Int.mul_le_mul_of_nonneg_right (c := t - nm st (m + 1)) hl.1 (by have := ht (m + 1) (Nat.le_refl _); omega)
  rw [gapAt_0, gapAt_0, gapAt_1, gapAt_1, e]
  omega

theorem Narrow.long_le {ws ws' : List Wing} (h : Narrow ws ws') (hm : MadeW ws) (h0 : 0 < ws.length) {st : List Int} {route : Int} (hr1 : 1 ≤ route) :
    longOf route ws st (Hi ws) ≤ longOf route ws' st (Hi ws') ∧ longOf route ws' st (Lo ws') ≤ longOf route ws st (Lo ws) := by
  have e := h.len
  have e2 := h.ln (ws.length - 1) (by omega)
  have := hm (ws.length - 1) (by omega)
  obtain ⟨p1, p2⟩ := h.passed_le hm (st := st) (k := ws.length - 1) (by omega) (x := route + Ln ws (ws.length - 1)) (by unfold Ln; omega)
  unfold longOf
  rw [e, e2]
  omega

theorem narrow_gap {route : Int} {ws ws' : List Wing} {st : List Int} (h : Narrow ws ws') (hc : checkStarts route ws st = 0) (hc' : checkStarts route ws' st = 0) {m : Nat} (hm : m < ws.length) {t : Int} (ht : ∀ i, i ≤ m → nm st i ≤ t) (ht2 : t ≤ 100000) :
    ∃ e a b a' b' : Int, gapErr route ws st (m : Int) t = e ∧ gapErr route ws' st (m : Int) t = e ∧ ((m = 0 ∧ e = 7) ∨ (0 < m ∧ e = 0)) ∧ gapSpan route ws st (m : Int) t = (a, b) ∧ gapSpan route ws' st (m : Int) t = (a', b') ∧ a ≤ a' ∧ b' ≤ b := by
  have e1 := asked_fine (second := t) hc hm (ht m (Nat.le_refl _)) ht2
  have e2 := asked_fine (second := t) hc' (by rw [h.len]; exact hm) (ht m (Nat.le_refl _)) ht2
  cases m with
  | zero =>
    have g1 : gapErr route ws st ((0 : Nat) : Int) t = 7 := by unfold gapErr; rw [if_pos e1, if_pos (by simp)]
    have g2 : gapErr route ws' st ((0 : Nat) : Int) t = 7 := by unfold gapErr; rw [if_pos e2, if_pos (by simp)]
    exact ⟨7, 0, 0, 0, 0, g1, g2, .inl ⟨rfl, rfl⟩, by unfold gapSpan; rw [if_neg (by rw [g1]; decide)], by unfold gapSpan; rw [if_neg (by rw [g2]; decide)], Int.le_refl _, Int.le_refl _⟩
  | succ m =>
    obtain ⟨g1, s1⟩ := gap_fine e1
    obtain ⟨g2, s2⟩ := gap_fine e2
    obtain ⟨q1, q2⟩ := h.gap_le (st := st) hm ht
    exact ⟨0, _, _, _, _, g1, g2, .inr ⟨by omega, rfl⟩, s1, s2, by omega, by omega⟩

theorem starts_le {route : Int} {ws : List Wing} {st : List Int} (h : checkStarts route ws st = 0) {m : Nat} (hm : m < st.length) : ∀ i, i ≤ m → nm st i ≤ nm st m := by
  have hu := starts_up h
  intro i hi
  have key : ∀ j, i + j ≤ m → nm st i ≤ nm st (i + j) := by
    intro j
    induction j with
    | zero => intro _; exact Int.le_refl _
    | succ j ih =>
      intro hj
      have h1 := ih (by omega)
      have h2 := hu (i + j) (by omega)
      have e : i + (j + 1) = i + j + 1 := by omega
      rw [e]; omega
  have := key (m - i) (by omega)
  have e : i + (m - i) = m := by omega
  rw [e] at this
  exact this

theorem verdict_stays {a b lo hi lo' hi' : Int} (h1 : lo ≤ lo') (h2 : hi' ≤ hi) (h3 : lo' ≤ hi') : verdictOf a b lo hi = 3 ∨ verdictOf a b lo hi = verdictOf a b lo' hi' := by
  unfold verdictOf
  split
  · right; rw [if_pos (by omega)]
  · split
    · right; rw [if_neg (by omega), if_pos (by omega)]
    · left; rfl
end Go.Proofs.YtgfipifgijohhaaDoor
