/-
  PLAIN: who is on in a minute, first and last; how many parts a person has.
  PLAIN: an order of numbers that is being made; the parts of a plot put into it. No program in sight.
-/
import Derived.Test.YtdcinngdilfpnaaCon
import Derived.Test.YtdcinngdilfpnaaCwd
namespace Go.Proofs.Ytdcinngdilfpnaa

def lastAt (f : Nat → Bool) : Nat → Int
  | 0 => -1
  | k + 1 => if f k = true then (k : Int) else lastAt f k
theorem firstAt_orP (f : Nat → Bool) : ∀ n, firstAt f n = -1 ∨ ∃ i, i < n ∧ f i = true ∧ firstAt f n = (i : Int) := by
  intro n
  induction n with
  | zero => exact .inl rfl
  | succ n ih =>
    simp only [firstAt]
    rcases ih with ih | ⟨i, h1, h2, h3⟩
    · rw [ih, if_neg (by omega)]
      by_cases hf : f n = true
      · rw [if_pos hf]; exact .inr ⟨n, by omega, hf, rfl⟩
      · rw [if_neg hf]; exact .inl rfl
    · rw [h3, if_pos (by omega)]; exact .inr ⟨i, by omega, h2, rfl⟩
/-- where at most one is so, the first is the last, and there is one at most -/
theorem one_last {f : Nat → Bool} : ∀ {n : Nat}, (∀ i, i < n → ∀ k, k < n → f i = true → f k = true → i = k) → lastAt f n = firstAt f n ∧ 0 ≤ cnt f n ∧ cnt f n ≤ 1 ∧ (firstAt f n = -1 → cnt f n = 0) := by
  intro n
  induction n with
  | zero => intro _; exact ⟨rfl, by simp [cnt], by simp [cnt], fun _ => rfl⟩
  | succ n ih =>
    intro h
    obtain ⟨h1, h2, h3, h4⟩ := ih fun i hi k hk => h i (by omega) k (by omega)
    simp only [lastAt, firstAt, cnt]
    by_cases hf : f n = true
    · rw [if_pos hf, if_pos hf, if_pos hf]
      rcases firstAt_orP f n with e | ⟨i, q1, q2, q3⟩
      · have := h4 e
        rw [e, if_neg (by omega)]
        exact ⟨rfl, by omega, by omega, fun e => by omega⟩
      · have := h i (by omega) n (by omega) q2 hf
        omega
    · rw [if_neg hf, if_neg hf, if_neg hf]
      rcases firstAt_orP f n with e | ⟨i, q1, q2, q3⟩
      · rw [e, if_neg (by omega)]
        rw [e] at h1
        exact ⟨h1, h2, h3, fun _ => h4 e⟩
      · rw [if_pos (by omega)]
        exact ⟨h1, h2, h3, h4⟩
theorem hit_one {p : Plot} (v : Valid p) (n m : Int) : ∀ i, i < p.parts.length → ∀ k, k < p.parts.length → hitP n m (pt p.parts i) = true → hitP n m (pt p.parts k) = true → i = k := by
  intro i hi k hk h1 h2
  unfold hitP at h1 h2
  simp only [Bool.and_eq_true, decide_eq_true_eq] at h1 h2
  exact on_one v (m := m) hi hk (h1.1.trans h2.1.symm) h1.2 h2.2
theorem filter_insD (f : Int → Int) (x : Int) (l : List Int) (P : Int → Bool) : (((insD f x l).filter P).length : Int) = ((l.filter P).length : Int) + if P x = true then 1 else 0 := by
  unfold insD
  obtain ⟨k, hk⟩ : ∃ k, posD f x l l.length = k := ⟨_, rfl⟩
  rw [hk, List.filter_append, List.filter_cons]
  have e : (l.filter P).length = ((l.take k).filter P).length + ((l.drop k).filter P).length := by rw [← List.length_append, ← List.filter_append, List.take_append_drop]
  by_cases hp : P x = true
  · rw [if_pos hp, if_pos hp]; simp only [List.length_append, List.length_cons]; omega
  · rw [if_neg hp, if_neg hp]; simp only [List.length_append]; omega
theorem filter_sortD (f : Int → Int) (P : Int → Bool) : ∀ n : Nat, (((sortD f n).filter P).length : Int) = cnt (fun i => P (i : Int)) n := by
  intro n
  induction n with
  | zero => rfl
  | succ n ih =>
    simp only [sortD, filter_insD, ih, cnt]
    split <;> omega
theorem dayL_count (p : Plot) (n : Int) : ((dayL p n).length : Int) = cnt (fun i => decide ((pt p.parts i).person = n)) p.parts.length := by
  unfold dayL
  rw [filter_sortD]
  exact cnt_congr fun i _ => by simp [ofPerson]
end Go.Proofs.Ytdcinngdilfpnaa

namespace Go.Proofs.Ytdcinngdilfpnaa

theorem nm_setO (xs : List Int) (i : Nat) (y : Int) (j : Nat) (hi : i < xs.length) : nm (xs.set i y) j = if j = i then y else nm xs j := by
  unfold nm
  rw [List.getD_eq_getElem?_getD, List.getD_eq_getElem?_getD, List.getElem?_set]
  by_cases e : i = j
  · subst e; simp [hi]
  · rw [if_neg e, if_neg (Ne.symm e)]
theorem nm_snoc_oldO {b : List Int} {n : Int} {k : Nat} (h : k < b.length) : nm (b ++ [n]) k = nm b k := by
  unfold nm; rw [List.getD_eq_getElem?_getD, List.getD_eq_getElem?_getD, List.getElem?_append_left h]
theorem nm_snoc_newO (b : List Int) (n : Int) : nm (b ++ [n]) b.length = n := by
  unfold nm; rw [List.getD_eq_getElem?_getD, List.getElem?_append_right (Nat.le_refl _)]; simp

/-- the numbers below its length, each once -/
structure PermL (l : List Int) : Prop where
  lt : ∀ j, j < l.length → 0 ≤ nm l j ∧ nm l j < l.length
  inj : ∀ i j, i < l.length → j < l.length → nm l i = nm l j → i = j
theorem permL_nil : PermL [] := ⟨fun j hj => by simp at hj, fun i j hi => by simp at hi⟩
theorem permL_snoc {l : List Int} (h : PermL l) : PermL (l ++ [(l.length : Int)]) := by
  have hl : (l ++ [(l.length : Int)]).length = l.length + 1 := by simp
  have hv : ∀ j, j < l.length + 1 → nm (l ++ [(l.length : Int)]) j = if j = l.length then (l.length : Int) else nm l j := fun j hj => by
    by_cases e : j = l.length
    · rw [if_pos e, e, nm_snoc_newO]
    · rw [if_neg e, nm_snoc_oldO (by omega)]
  constructor
  · intro j hj
    rw [hl] at hj ⊢
    rw [hv j hj]
    split
    · omega
    · have := h.lt j (by omega); omega
  · intro i j hi hj e
    rw [hl] at hi hj
    rw [hv i hi, hv j hj] at e
    by_cases e1 : i = l.length
    · by_cases e2 : j = l.length
      · omega
      · rw [if_pos e1, if_neg e2] at e
        have := h.lt j (by omega); omega
    · by_cases e2 : j = l.length
      · rw [if_neg e1, if_pos e2] at e
        have := h.lt i (by omega); omega
      · rw [if_neg e1, if_neg e2] at e
        exact h.inj i j (by omega) (by omega) e
/-- two numbers change places -/
theorem permL_swap {l : List Int} (h : PermL l) {i k : Nat} (hi : i < l.length) (hk : k < l.length) : PermL ((l.set i (nm l k)).set k (nm l i)) := by
  have hl : ((l.set i (nm l k)).set k (nm l i)).length = l.length := by simp
  have hv : ∀ j, nm ((l.set i (nm l k)).set k (nm l i)) j = if j = k then nm l i else if j = i then nm l k else nm l j := fun j => by
    rw [nm_setO _ _ _ _ (by simpa using hk), nm_setO _ _ _ _ hi]
  have hs : ∀ j, j < l.length → ∃ j', j' < l.length ∧ nm ((l.set i (nm l k)).set k (nm l i)) j = nm l j' ∧ j' = (if j = k then i else if j = i then k else j) := fun j hj => by
    refine ⟨if j = k then i else if j = i then k else j, ?_, ?_, rfl⟩
    · split
      · exact hi
      · split
        · exact hk
        · exact hj
    · rw [hv]
      split
      · rfl
      · split <;> rfl
  constructor
  · intro j hj
    rw [hl] at hj ⊢
    obtain ⟨j', h1, h2, _⟩ := hs j hj
    rw [h2]
    exact h.lt j' h1
  · intro a b ha hb e
    rw [hl] at ha hb
    obtain ⟨a', a1, a2, a3⟩ := hs a ha
    obtain ⟨b', b1, b2, b3⟩ := hs b hb
    rw [a2, b2] at e
    have := h.inj a' b' a1 b1 e
    rw [a3, b3] at this
    by_cases c1 : a = k <;> by_cases c2 : b = k <;> by_cases c3 : a = i <;> by_cases c4 : b = i <;> simp_all

/-- the first k parts are turned -/
def setN (parts : List Part) (l : List Int) : Nat → List Part
  | 0 => parts
  | k + 1 => (setN parts l k).set k (pt parts (nm l k).toNat)
theorem setN_len (parts : List Part) (l : List Int) : ∀ k, (setN parts l k).length = parts.length := by
  intro k
  induction k with
  | zero => rfl
  | succ k ih => simp [setN, ih]
theorem pt_set (xs : List Part) (i : Nat) (y : Part) (j : Nat) (hi : i < xs.length) : pt (xs.set i y) j = if j = i then y else pt xs j := by
  unfold pt
  rw [List.getD_eq_getElem?_getD, List.getD_eq_getElem?_getD, List.getElem?_set]
  by_cases e : i = j
  · subst e; simp [hi]
  · rw [if_neg e, if_neg (Ne.symm e)]
theorem setN_at (parts : List Part) (l : List Int) : ∀ k, k ≤ parts.length → ∀ j, j < parts.length → pt (setN parts l k) j = if j < k then pt parts (nm l j).toNat else pt parts j := by
  intro k
  induction k with
  | zero => intro _ j _; simp [setN]
  | succ k ih =>
    intro hk j hj
    rw [setN, pt_set _ _ _ _ (by rw [setN_len]; omega), ih (by omega) j hj]
    by_cases e : j = k
    · subst e; simp
    · rw [if_neg e]
      by_cases h : j < k
      · rw [if_pos h, if_pos (by omega)]
      · rw [if_neg h, if_neg (by omega)]
def turnP (p : Plot) (l : List Int) : Plot := { p with parts := setN p.parts l p.parts.length }
theorem turnP_turned {p : Plot} {l : List Int} (h : PermL l) (hl : l.length = p.parts.length) : Turned p (turnP p l) (fun i => (nm l i).toNat) where
  persons := rfl
  walk := rfl
  dress := rfl
  len := setN_len _ _ _
  part := fun i hi => by
    show pt (setN p.parts l p.parts.length) i = _
    rw [setN_at _ _ _ (Nat.le_refl _) i hi, if_pos hi]
  lt := fun i hi => by have := h.lt i (by omega); omega
  inj := fun i k hi hk e => by
    have h1 := h.lt i (by omega)
    have h2 := h.lt k (by omega)
    have e2 : nm l i = nm l k := by have e3 : (nm l i).toNat = (nm l k).toNat := e; omega
    exact h.inj i k (by omega) (by omega) e2
/-- who is on: the same part, by its new number -/
theorem turned_at {p q : Plot} {s : Nat → Nat} (t : Turned p q s) (v : Valid p) (n m : Int) :
    (firstAt (fun i => hitP n m (pt q.parts i)) q.parts.length = -1 ∧ firstAt (fun i => hitP n m (pt p.parts i)) p.parts.length = -1) ∨
    ∃ i, i < p.parts.length ∧ firstAt (fun i => hitP n m (pt q.parts i)) q.parts.length = (i : Int) ∧ firstAt (fun i => hitP n m (pt p.parts i)) p.parts.length = (s i : Int) := by
  have hall : ∀ (f : Nat → Bool) (k : Nat), firstAt f k = -1 → ∀ i, i < k → f i = false := by
    intro f k
    induction k with
    | zero => intro _ i hi; omega
    | succ k ih =>
      intro h i hi
      simp only [firstAt] at h
      by_cases hf : firstAt f k = -1
      · by_cases e : i = k
        · subst e
          cases hc : f i with
          | false => rfl
          | true =>
            rw [hc] at h
            rw [hf, if_neg (by omega), if_pos rfl] at h
            omega
        · exact ih hf i (by omega)
      · rcases firstAt_orP f k with e | ⟨i', q1, q2, q3⟩
        · exact absurd e hf
        · rw [q3, if_pos (by omega)] at h; omega
  rcases firstAt_orP (fun i => hitP n m (pt q.parts i)) q.parts.length with e | ⟨i, h1, h2, h3⟩
  · left
    refine ⟨e, ?_⟩
    rcases firstAt_orP (fun i => hitP n m (pt p.parts i)) p.parts.length with e2 | ⟨j, g1, g2, g3⟩
    · exact e2
    · obtain ⟨i, i1, i2⟩ := perm_onto t.perm g1
      have h0 : hitP n m (pt q.parts i) = false := hall _ _ e i (by rw [t.len]; exact i1)
      have h1 : hitP n m (pt p.parts j) = true := g2
      rw [t.part i i1, i2, h1] at h0
      cases h0
  · right
    rw [t.len] at h1
    have h2 : hitP n m (pt q.parts i) = true := h2
    rw [t.part i h1] at h2
    refine ⟨i, h1, h3, ?_⟩
    rcases firstAt_orP (fun i => hitP n m (pt p.parts i)) p.parts.length with e2 | ⟨j, g1, g2, g3⟩
    · have h0 : hitP n m (pt p.parts (s i)) = false := hall _ _ e2 (s i) (t.lt i h1)
      rw [h2] at h0
      cases h0
    · rw [g3, hit_one v n m j g1 (s i) (t.lt i h1) g2 h2]
end Go.Proofs.Ytdcinngdilfpnaa
