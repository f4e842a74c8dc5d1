/-
  DAYS: numbers put in an order, stably; what a person does, in order. Plain; no program in sight.
-/
import Derived.Test.YtoipcbmbhjajfaaGreatDoorCpi
namespace Go.Proofs.YtoipcbmbhjajfaaGreatDoor

/-- how many of the first k stay ahead of v -/
def posD (f : Int → Int) (v : Int) (xs : List Int) : Nat → Nat
  | 0 => 0
  | k + 1 => if f v < f (nm xs k) then posD f v xs k else k + 1
def insD (f : Int → Int) (v : Int) (xs : List Int) : List Int := xs.take (posD f v xs xs.length) ++ v :: xs.drop (posD f v xs xs.length)
def sortD (f : Int → Int) : Nat → List Int
  | 0 => []
  | n + 1 => insD f (n : Int) (sortD f n)

theorem posD_le (f : Int → Int) (v : Int) (xs : List Int) : ∀ k, posD f v xs k ≤ k := by
  intro k
  induction k with
  | zero => exact Nat.le_refl _
  | succ k ih => simp only [posD]; split <;> omega
theorem posD_hi {f : Int → Int} {v : Int} {xs : List Int} : ∀ {k j}, posD f v xs k ≤ j → j < k → f v < f (nm xs j) := by
  intro k
  induction k with
  | zero => intro j _ h; omega
  | succ k ih =>
    intro j h1 h2
    simp only [posD] at h1
    by_cases h : f v < f (nm xs k)
    · rw [if_pos h] at h1
      by_cases e : j = k
      · subst e; exact h
      · exact ih h1 (by omega)
    · rw [if_neg h] at h1; omega
theorem posD_lo {f : Int → Int} {v : Int} {xs : List Int} : ∀ {k}, 0 < posD f v xs k → ¬ f v < f (nm xs (posD f v xs k - 1)) := by
  intro k
  induction k with
  | zero => intro h; simp [posD] at h
  | succ k ih =>
    intro h
    simp only [posD] at h ⊢
    by_cases hc : f v < f (nm xs k)
    · rw [if_pos hc] at h ⊢; exact ih h
    · rw [if_neg hc]; simpa using hc
theorem sortD_length (f : Int → Int) : ∀ n, (sortD f n).length = n := by
  intro n
  induction n with
  | zero => rfl
  | succ n ih =>
    have h := posD_le f (n : Int) (sortD f n) (sortD f n).length
    simp only [sortD, insD, List.length_append, List.length_cons, List.length_take, List.length_drop]
    omega

/-- earlier, or as early and before it in the list -/
def Ahead (f : Int → Int) (a b : Int) : Prop := f a < f b ∨ f a = f b ∧ a < b
theorem Ahead.irrefl {f : Int → Int} {a : Int} (h : Ahead f a a) : False := by rcases h with h | ⟨_, h⟩ <;> omega
theorem Ahead.asymm {f : Int → Int} {a b : Int} (h : Ahead f a b) (k : Ahead f b a) : False := by rcases h with h | ⟨h1, h2⟩ <;> rcases k with k | ⟨k1, k2⟩ <;> omega
theorem Ahead.le {f : Int → Int} {a b : Int} (h : Ahead f a b) : f a ≤ f b := by rcases h with h | ⟨h, _⟩ <;> omega

theorem nm_get {xs : List Int} {i : Nat} (h : i < xs.length) : nm xs i = xs[i] := by simp [nm, List.getD_eq_getElem?_getD, List.getElem?_eq_getElem h]

theorem insD_mem (f : Int → Int) (v : Int) (xs : List Int) (x : Int) : x ∈ insD f v xs ↔ x = v ∨ x ∈ xs := by
  have h : x ∈ xs ↔ x ∈ xs.take (posD f v xs xs.length) ∨ x ∈ xs.drop (posD f v xs xs.length) := by
    rw [← List.mem_append, List.take_append_drop]
  rw [h]
  unfold insD
  simp only [List.mem_append, List.mem_cons]
  constructor
  · rintro (h | h | h)
    · exact .inr (.inl h)
    · exact .inl h
    · exact .inr (.inr h)
  · rintro (h | h | h)
    · exact .inr (.inl h)
    · exact .inl h
    · exact .inr (.inr h)
theorem sortD_mem (f : Int → Int) : ∀ n x, x ∈ sortD f n ↔ 0 ≤ x ∧ x < n := by
  intro n
  induction n with
  | zero => intro x; simp only [sortD, List.not_mem_nil, false_iff]; omega
  | succ n ih =>
    intro x
    show x ∈ insD f (n : Int) (sortD f n) ↔ _
    rw [insD_mem, ih]
    omega
theorem pair_get {R : Int → Int → Prop} {xs : List Int} (h : xs.Pairwise R) {i j : Nat} (hij : i < j) (hj : j < xs.length) : R (nm xs i) (nm xs j) := by
  rw [nm_get (by omega), nm_get hj]
  exact List.pairwise_iff_getElem.1 h i j (by omega) hj hij
theorem mem_take_nm {xs : List Int} {k : Nat} {x : Int} (h : x ∈ xs.take k) : ∃ j, j < k ∧ j < xs.length ∧ nm xs j = x := by
  obtain ⟨j, hj, e⟩ := List.mem_iff_getElem.1 h
  rw [List.length_take] at hj
  rw [List.getElem_take] at e
  exact ⟨j, by omega, by omega, (nm_get (by omega)).trans e⟩
theorem mem_drop_nm {xs : List Int} {k : Nat} {x : Int} (h : x ∈ xs.drop k) : ∃ j, k ≤ j ∧ j < xs.length ∧ nm xs j = x := by
  obtain ⟨j, hj, e⟩ := List.mem_iff_getElem.1 h
  rw [List.length_drop] at hj
  rw [List.getElem_drop] at e
  exact ⟨k + j, by omega, by omega, (nm_get (by omega)).trans e⟩
theorem insD_sorted {f : Int → Int} {v : Int} {xs : List Int} (h : xs.Pairwise (Ahead f)) (hv : ∀ x, x ∈ xs → x < v) : (insD f v xs).Pairwise (Ahead f) := by
  have hle : ∀ x, x ∈ xs.take (posD f v xs xs.length) → Ahead f x v := fun x hx => by
    obtain ⟨j, h1, h2, e⟩ := mem_take_nm hx
    have h3 := posD_lo (f := f) (v := v) (xs := xs) (k := xs.length) (by omega)
    have h4 := posD_le f v xs xs.length
    have h5 : f (nm xs j) ≤ f (nm xs (posD f v xs xs.length - 1)) := by
      by_cases ej : j = posD f v xs xs.length - 1
      · rw [← ej]; omega
      · exact (pair_get h (i := j) (by omega) (by omega)).le
    rw [e] at h5
    have h6 := hv x (List.mem_of_mem_take hx)
    unfold Ahead
    omega
  have hge : ∀ x, x ∈ xs.drop (posD f v xs xs.length) → f v < f x := fun x hx => by
    obtain ⟨j, h1, h2, e⟩ := mem_drop_nm hx
    have := posD_hi (f := f) (v := v) (xs := xs) h1 h2
    rwa [e] at this
  unfold insD
  rw [List.pairwise_append]
  refine ⟨h.sublist (List.take_sublist _ _), List.pairwise_cons.2 ⟨fun x hx => .inl (hge x hx), h.sublist (List.drop_sublist _ _)⟩, fun a ha b hb => ?_⟩
  rcases List.mem_cons.1 hb with rfl | hb
  · exact hle a ha
  · have h1 := (hle a ha).le
    have h2 := hge b hb
    exact .inl (by omega)
theorem sortD_sorted (f : Int → Int) : ∀ n, (sortD f n).Pairwise (Ahead f) := by
  intro n
  induction n with
  | zero => exact List.Pairwise.nil
  | succ n ih => exact insD_sorted ih fun x hx => by have := (sortD_mem f n x).1 hx; omega

/-- lists in one order that hold the same are the same -/
theorem sorted_ext {f : Int → Int} : ∀ {xs ys : List Int}, xs.Pairwise (Ahead f) → ys.Pairwise (Ahead f) → (∀ i, i ∈ xs ↔ i ∈ ys) → xs = ys := by
  intro xs
  induction xs with
  | nil =>
    intro ys _ _ h
    cases ys with
    | nil => rfl
    | cons y ys => exact absurd ((h y).2 (List.mem_cons_self ..)) (by simp)
  | cons x xs ih =>
    intro ys hx hy h
    cases ys with
    | nil => exact absurd ((h x).1 (List.mem_cons_self ..)) (by simp)
    | cons y ys =>
      have hx' := List.pairwise_cons.1 hx
      have hy' := List.pairwise_cons.1 hy
      have e : x = y := by
        rcases List.mem_cons.1 ((h x).1 (List.mem_cons_self ..)) with e | h1
        · exact e
        · rcases List.mem_cons.1 ((h y).2 (List.mem_cons_self ..)) with e | h2
          · exact e.symm
          · exact ((hx'.1 y h2).asymm (hy'.1 x h1)).elim
      subst e
      congr 1
      refine ih hx'.2 hy'.2 fun i => ⟨fun hi => ?_, fun hi => ?_⟩
      · rcases List.mem_cons.1 ((h i).1 (List.mem_cons_of_mem _ hi)) with e | h1
        · subst e; exact ((hx'.1 i hi).irrefl).elim
        · exact h1
      · rcases List.mem_cons.1 ((h i).2 (List.mem_cons_of_mem _ hi)) with e | h1
        · subst e; exact ((hy'.1 i hi).irrefl).elim
        · exact h1

/-- what a person does, in order -/
def startOf (p : Plot) (i : Int) : Int := (pt p.parts i.toNat).start
def ofPerson (p : Plot) (n : Int) (i : Int) : Bool := decide ((pt p.parts i.toNat).person = n)
def dayL (p : Plot) (n : Int) : List Int := (sortD (startOf p) p.parts.length).filter (ofPerson p n)

theorem dayL_sorted (p : Plot) (n : Int) : (dayL p n).Pairwise (Ahead (startOf p)) := (sortD_sorted _ _).sublist List.filter_sublist
theorem dayL_mem (p : Plot) (n i : Int) : i ∈ dayL p n ↔ (0 ≤ i ∧ i < p.parts.length) ∧ (pt p.parts i.toNat).person = n := by
  unfold dayL
  rw [List.mem_filter, sortD_mem]
  unfold ofPerson
  simp

/-- the same, minute by minute: those of the first k parts that start in minute m -/
def minuteL (p : Plot) (n m : Int) : Nat → List Int
  | 0 => []
  | k + 1 => if (pt p.parts k).person = n ∧ (pt p.parts k).start = m then minuteL p n m k ++ [(k : Int)] else minuteL p n m k
def dayR (p : Plot) (n : Int) : Nat → List Int
  | 0 => []
  | m + 1 => dayR p n m ++ minuteL p n (m : Int) p.parts.length

theorem minuteL_mem (p : Plot) (n m i : Int) : ∀ k : Nat, i ∈ minuteL p n m k ↔ (0 ≤ i ∧ i < k) ∧ (pt p.parts i.toNat).person = n ∧ (pt p.parts i.toNat).start = m := by
  intro k
  induction k with
  | zero => simp only [minuteL, List.not_mem_nil, false_iff]; rintro ⟨h, _⟩; omega
  | succ k ih =>
    simp only [minuteL]
    by_cases h : (pt p.parts k).person = n ∧ (pt p.parts k).start = m
    · rw [if_pos h, List.mem_append, ih, List.mem_singleton]
      constructor
      · rintro (⟨h1, h2⟩ | rfl)
        · exact ⟨by omega, h2⟩
        · exact ⟨by omega, by simpa using h⟩
      · rintro ⟨h1, h2⟩
        by_cases e : i = k
        · exact .inr e
        · exact .inl ⟨by omega, h2⟩
    · rw [if_neg h, ih]
      constructor
      · rintro ⟨h1, h2⟩; exact ⟨by omega, h2⟩
      · rintro ⟨h1, h2⟩
        refine ⟨⟨h1.1, ?_⟩, h2⟩
        by_cases e : i = k
        · subst e; exact absurd (by simpa using h2) h
        · omega
theorem minuteL_sorted (p : Plot) (n m : Int) : ∀ k : Nat, (minuteL p n m k).Pairwise (Ahead (startOf p)) := by
  intro k
  induction k with
  | zero => exact List.Pairwise.nil
  | succ k ih =>
    simp only [minuteL]
    by_cases h : (pt p.parts k).person = n ∧ (pt p.parts k).start = m
    · rw [if_pos h, List.pairwise_append]
      refine ⟨ih, List.pairwise_singleton _ _, fun a ha b hb => ?_⟩
      obtain rfl := List.mem_singleton.1 hb
      obtain ⟨h1, _, h3⟩ := (minuteL_mem p n m a k).1 ha
      refine .inr ⟨?_, h1.2⟩
      unfold startOf
      rw [h3, Int.toNat_natCast, h.2]
    · rw [if_neg h]; exact ih
theorem dayR_mem (p : Plot) (n i : Int) : ∀ m : Nat, i ∈ dayR p n m ↔ (0 ≤ i ∧ i < p.parts.length) ∧ (pt p.parts i.toNat).person = n ∧ 0 ≤ (pt p.parts i.toNat).start ∧ (pt p.parts i.toNat).start < m := by
  intro m
  induction m with
  | zero => simp only [dayR, List.not_mem_nil, false_iff]; rintro ⟨_, _, h⟩; omega
  | succ m ih =>
    simp only [dayR]
    rw [List.mem_append, ih, minuteL_mem]
    constructor
    · rintro (⟨h1, h2, h3⟩ | ⟨h1, h2, h3⟩)
      · exact ⟨h1, h2, by omega⟩
      · exact ⟨h1, h2, by omega⟩
    · rintro ⟨h1, h2, h3⟩
      by_cases e : (pt p.parts i.toNat).start = m
      · exact .inr ⟨h1, h2, e⟩
      · exact .inl ⟨h1, h2, by omega⟩
theorem dayR_sorted (p : Plot) (n : Int) : ∀ m : Nat, (dayR p n m).Pairwise (Ahead (startOf p)) := by
  intro m
  induction m with
  | zero => exact List.Pairwise.nil
  | succ m ih =>
    simp only [dayR]
    rw [List.pairwise_append]
    refine ⟨ih, minuteL_sorted p n m _, fun a ha b hb => ?_⟩
    have h1 := ((dayR_mem p n a m).1 ha).2.2.2
    have h2 := ((minuteL_mem p n m b _).1 hb).2.2
    unfold Ahead startOf
    omega
theorem dayL_dayR {p : Plot} {n : Int} (h : ∀ i, i < p.parts.length → 0 ≤ (pt p.parts i).start ∧ (pt p.parts i).start ≤ 1440) : dayL p n = dayR p n 1441 := by
  refine sorted_ext (dayL_sorted p n) (dayR_sorted p n 1441) fun i => ?_
  rw [dayL_mem, dayR_mem]
  constructor
  · rintro ⟨h1, h2⟩
    have := h i.toNat (by omega)
    exact ⟨h1, h2, by omega⟩
  · rintro ⟨h1, h2, _⟩; exact ⟨h1, h2⟩

/-! ### how many costumes of a kind are on at once -/
def onB (x : Part) (m : Int) : Bool := inB m x.start (x.stop - 1)
def onN (p : Plot) (kind m : Int) : Nat → Int
  | 0 => 0
  | k + 1 => if (pt p.parts k).kind = kind ∧ onB (pt p.parts k) m = true then onN p kind m k + 1 else onN p kind m k
def onAll (p : Plot) (kind m : Int) : Int := onN p kind m p.parts.length
/-- the greatest number in the first m minutes, and the first minute that has it -/
def mostN (p : Plot) (kind : Int) : Nat → Int × Int
  | 0 => (0, 0)
  | m + 1 => if (mostN p kind m).1 < onAll p kind m then (onAll p kind m, (m : Int)) else mostN p kind m
theorem onN_bd (p : Plot) (kind m : Int) : ∀ k : Nat, 0 ≤ onN p kind m k ∧ onN p kind m k ≤ k := by
  intro k
  induction k with
  | zero => simp [onN]
  | succ k ih => simp only [onN]; split <;> omega
theorem mostN_bd (p : Plot) (kind : Int) : ∀ m : Nat, 0 ≤ (mostN p kind m).1 ∧ (mostN p kind m).1 ≤ p.parts.length ∧ 0 ≤ (mostN p kind m).2 ∧ (mostN p kind m).2 ≤ m := by
  intro m
  induction m with
  | zero => simp [mostN]
  | succ m ih =>
    have := onN_bd p kind m p.parts.length
    simp only [mostN]
    split
    · show 0 ≤ onAll p kind m ∧ onAll p kind m ≤ _ ∧ 0 ≤ (m : Int) ∧ (m : Int) ≤ _
      unfold onAll; omega
    · omega
theorem mostN_max (p : Plot) (kind : Int) : ∀ m : Nat, ∀ j : Nat, j < m → onAll p kind j ≤ (mostN p kind m).1 ∧ (onAll p kind j = (mostN p kind m).1 → 0 < (mostN p kind m).1 → (mostN p kind m).2 ≤ j) := by
  intro m
  induction m with
  | zero => intro j hj; omega
  | succ m ih =>
    intro j hj
    simp only [mostN]
    by_cases h : (mostN p kind m).1 < onAll p kind m
    · rw [if_pos h]
      show _ ≤ onAll p kind m ∧ (_ → _ → (m : Int) ≤ j)
      by_cases e : j = m
      · subst e; exact ⟨Int.le_refl _, fun _ _ => Int.le_refl _⟩
      · have := (ih j (by omega)).1
        exact ⟨by omega, fun h1 => by omega⟩
    · rw [if_neg h]
      by_cases e : j = m
      · subst e
        have hb := mostN_bd p kind j
        exact ⟨by omega, fun _ _ => by omega⟩
      · exact ih j (by omega)
theorem mostN_at (p : Plot) (kind : Int) : ∀ m : Nat, 0 < (mostN p kind m).1 → ∃ j : Nat, j < m ∧ (mostN p kind m).2 = j ∧ onAll p kind j = (mostN p kind m).1 := by
  intro m
  induction m with
  | zero => intro h; simp [mostN] at h
  | succ m ih =>
    simp only [mostN]
    by_cases h : (mostN p kind m).1 < onAll p kind m
    · rw [if_pos h]; intro _; exact ⟨m, by omega, rfl, rfl⟩
    · rw [if_neg h]; intro h0
      obtain ⟨j, h1, h2, h3⟩ := ih h0
      exact ⟨j, by omega, h2, h3⟩
end Go.Proofs.YtoipcbmbhjajfaaGreatDoor
