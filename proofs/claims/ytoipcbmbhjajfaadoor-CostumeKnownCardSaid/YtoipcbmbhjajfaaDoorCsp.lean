/-
  PLAIN: lists of parts without a wear: the fewest, the first. No program in sight.
-/
import Derived.Test.YtoipcbmbhjajfaaDoorCdp
namespace Go.Proofs.YtoipcbmbhjajfaaDoor

/-- the parts of some numbers; whether there is a wear for them -/
def someL (p : Plot) (l : List Int) : List Part := l.map fun i => pt p.parts i.toNat
def worn (p : Plot) (items : List Item) (l : List Int) : Bool := (bestP p items (someL p l)).isSome
theorem worn_nil (p : Plot) (items : List Item) : worn p items [] = true := rfl

/-- a list of as many numbers comes before another one -/
def lexB : List Int → List Int → Bool
  | a :: xs, b :: bs => if a = b then lexB xs bs else decide (a < b)
  | _, _ => false
/-- fewer numbers, or as many and before -/
def befB (a b : List Int) : Bool := if a.length = b.length then lexB a b else decide (a.length < b.length)

theorem lexB_irrefl : ∀ a : List Int, lexB a a = false
  | [] => rfl
  | _ :: xs => by simp only [lexB, if_true]; exact lexB_irrefl xs
theorem lexB_total : ∀ {a b : List Int}, a.length = b.length → a ≠ b → lexB a b = true ∨ lexB b a = true
  | [], [], _, h => absurd rfl h
  | [], b :: bs, h, _ => by simp at h
  | a :: xs, [], h, _ => by simp at h
  | a :: xs, b :: bs, h, hne => by
    simp only [lexB]
    by_cases e : a = b
    · subst e
      rw [if_pos rfl, if_pos rfl]
      exact lexB_total (by simpa using h) (fun e => hne (by rw [e]))
    · rw [if_neg e, if_neg (Ne.symm e)]
      rcases Int.lt_or_gt_of_ne e with h1 | h1
      · exact .inl (decide_eq_true h1)
      · exact .inr (decide_eq_true h1)
theorem lexB_trans : ∀ {a b c : List Int}, lexB a b = true → lexB b c = true → lexB a c = true
  | [], _, _, h, _ => by simp [lexB] at h
  | _ :: _, [], _, h, _ => by simp [lexB] at h
  | _ :: _, _ :: _, [], _, h => by simp [lexB] at h
  | a :: xs, b :: bs, c :: cs, h, k => by
    simp only [lexB] at h k ⊢
    by_cases e1 : a = b
    · subst e1
      rw [if_pos rfl] at h
      by_cases e2 : a = c
      · subst e2
        rw [if_pos rfl] at k ⊢
        exact lexB_trans h k
      · rw [if_neg e2] at k ⊢; exact k
    · rw [if_neg e1] at h
      have h' := of_decide_eq_true h
      by_cases e2 : b = c
      · subst e2
        rw [if_neg e1]; exact h
      · rw [if_neg e2] at k
        have k' := of_decide_eq_true k
        rw [if_neg (by omega)]
        exact decide_eq_true (by omega)
theorem befB_total {a b : List Int} (h : a ≠ b) : befB a b = true ∨ befB b a = true := by
  unfold befB
  by_cases e : a.length = b.length
  · rw [if_pos e, if_pos e.symm]; exact lexB_total e h
  · rw [if_neg e, if_neg (Ne.symm e)]
    rcases Nat.lt_or_gt_of_ne e with h1 | h1
    · exact .inl (decide_eq_true h1)
    · exact .inr (decide_eq_true h1)
theorem befB_trans {a b c : List Int} (h : befB a b = true) (k : befB b c = true) : befB a c = true := by
  unfold befB at h k ⊢
  by_cases e1 : a.length = b.length
  · rw [if_pos e1] at h
    by_cases e2 : b.length = c.length
    · rw [if_pos e2] at k; rw [if_pos (e1.trans e2)]; exact lexB_trans h k
    · rw [if_neg e2] at k; rw [if_neg (by omega), e1]; exact k
  · rw [if_neg e1] at h
    have h' := of_decide_eq_true h
    by_cases e2 : b.length = c.length
    · rw [if_neg (by omega), ← e2]; exact h
    · rw [if_neg e2] at k
      have k' := of_decide_eq_true k
      rw [if_neg (by omega)]; exact decide_eq_true (by omega)
theorem befB_irrefl (a : List Int) : befB a a = false := by unfold befB; rw [if_pos rfl]; exact lexB_irrefl a

/-- ascending numbers below n, from m on -/
def Inc (n m : Int) (l : List Int) : Prop := l.Pairwise (· < ·) ∧ ∀ x, x ∈ l → m ≤ x ∧ x < n

/-- l is the first list without a wear of n parts' numbers, or there is none and l is empty -/
structure First (p : Plot) (items : List Item) (n : Int) (l : List Int) : Prop where
  inc : Inc n 0 l
  bad : l ≠ [] → worn p items l = false
  none : l = [] → ∀ m, Inc n 0 m → worn p items m = true
  low : l ≠ [] → ∀ m, Inc n 0 m → worn p items m = false → befB m l = false
theorem First.unique {p : Plot} {items : List Item} {n : Int} {a b : List Int} (h : First p items n a) (k : First p items n b) : a = b := by
  by_cases ea : a = []
  · by_cases eb : b = []
    · rw [ea, eb]
    · have h1 := h.none ea b k.inc
      rw [k.bad eb] at h1; cases h1
  · by_cases eb : b = []
    · have h1 := k.none eb a h.inc
      rw [h.bad ea] at h1; cases h1
    · refine Classical.byContradiction fun hne => ?_
      rcases befB_total hne with h1 | h1
      · rw [k.low eb a h.inc (h.bad ea)] at h1; cases h1
      · rw [h.low ea b k.inc (k.bad eb)] at h1; cases h1

/-! ### all sets, one by one -/
/-- the numbers below k of a set -/
def memL (s : Nat) : Nat → List Int
  | 0 => []
  | k + 1 => if s / 2 ^ k % 2 = 1 then memL s k ++ [(k : Int)] else memL s k
theorem memL_inc (s : Nat) : ∀ k : Nat, Inc k 0 (memL s k) := by
  intro k
  induction k with
  | zero => exact ⟨List.Pairwise.nil, fun x h => by simp [memL] at h⟩
  | succ k ih =>
    simp only [memL]
    split
    · refine ⟨List.pairwise_append.2 ⟨ih.1, List.pairwise_singleton _ _, fun a ha b hb => ?_⟩, fun x hx => ?_⟩
      · obtain rfl := List.mem_singleton.1 hb
        exact (ih.2 a ha).2
      · rcases List.mem_append.1 hx with h | h
        · have := ih.2 x h; omega
        · obtain rfl := List.mem_singleton.1 h; omega
    · exact ⟨ih.1, fun x hx => by have := ih.2 x hx; omega⟩
theorem memL_low {s t : Nat} : ∀ {k : Nat}, (∀ j, j < k → s / 2 ^ j % 2 = t / 2 ^ j % 2) → memL s k = memL t k := by
  intro k
  induction k with
  | zero => intro _; rfl
  | succ k ih => intro h; simp only [memL, h k (by omega), ih (fun j hj => h j (by omega))]
theorem memL_high {s k : Nat} (h : s < 2 ^ k) : ∀ d, memL s (k + d) = memL s k := by
  intro d
  induction d with
  | zero => rfl
  | succ d ih =>
    show (if s / 2 ^ (k + d) % 2 = 1 then _ else memL s (k + d)) = _
    have h1 : s / 2 ^ (k + d) = 0 := Nat.div_eq_of_lt (Nat.lt_of_lt_of_le h (Nat.pow_le_pow_right (by omega) (by omega)))
    rw [h1, if_neg (by omega), ih]
/-- every ascending list is a set's -/
theorem memL_onto : ∀ {k : Nat} {l : List Int}, Inc k 0 l → ∃ s, s < 2 ^ k ∧ memL s k = l := by
  intro k
  induction k with
  | zero =>
    intro l h
    refine ⟨0, by decide, ?_⟩
    cases l with
    | nil => rfl
    | cons x l => have := h.2 x (List.mem_cons_self ..); omega
  | succ k ih =>
    intro l h
    have hlow : ∀ {s t j : Nat}, j < k → t = s + 2 ^ k → t / 2 ^ j % 2 = s / 2 ^ j % 2 := fun {s t j} hj e => by
      have e2 : 2 ^ k = 2 ^ j * (2 * 2 ^ (k - j - 1)) := by
        rw [← Nat.pow_succ', ← Nat.pow_add]
        congr 1; omega
      rw [e, e2, Nat.add_mul_div_left _ _ (Nat.two_pow_pos j)]
      omega
    by_cases hk : (k : Int) ∈ l
    · obtain ⟨a, b, e⟩ := List.append_of_mem hk
      have hp := h.1
      rw [e] at hp
      have hb : b = [] := by
        cases b with
        | nil => rfl
        | cons y b =>
          have h1 := (List.pairwise_cons.1 (List.pairwise_append.1 hp).2.1).1 y (List.mem_cons_self ..)
          have h2 := (h.2 y (by rw [e]; simp)).2
          omega
      subst hb
      have ha : Inc k 0 a := by
        refine ⟨(List.pairwise_append.1 hp).1, fun x hx => ?_⟩
        have h1 := (List.pairwise_append.1 hp).2.2 x hx k (by simp)
        have h2 := (h.2 x (by rw [e]; simp [hx])).1
        exact ⟨h2, h1⟩
      obtain ⟨s, hs, hm⟩ := ih ha
      refine ⟨s + 2 ^ k, by rw [Nat.pow_succ]; omega, ?_⟩
      have h1 : (s + 2 ^ k) / 2 ^ k % 2 = 1 := by
        rw [Nat.add_div_right _ (Nat.two_pow_pos k), Nat.div_eq_of_lt hs]
      simp only [memL]
      rw [if_pos h1, e, memL_low (s := s + 2 ^ k) (t := s) (fun j hj => hlow hj rfl), hm]
    · have hl : Inc k 0 l := ⟨h.1, fun x hx => by
        have h1 := h.2 x hx
        have h2 : x ≠ k := fun e => hk (e ▸ hx)
        omega⟩
      obtain ⟨s, hs, hm⟩ := ih hl
      refine ⟨s, by rw [Nat.pow_succ]; omega, ?_⟩
      simp only [memL]
      rw [Nat.div_eq_of_lt hs, if_neg (by omega), hm]

/-- the program's search: all sets below m -/
def shortP (p : Plot) (items : List Item) (n : Nat) : Nat → List Int
  | 0 => []
  | m + 1 => if (shortP p items n m = [] ∨ befB (memL m n) (shortP p items n m) = true) ∧ worn p items (memL m n) = false then memL m n else shortP p items n m
structure Upto (p : Plot) (items : List Item) (n m : Nat) (l : List Int) : Prop where
  inc : Inc n 0 l
  bad : l ≠ [] → worn p items l = false
  none : l = [] → ∀ s, s < m → worn p items (memL s n) = true
  low : l ≠ [] → ∀ s, s < m → worn p items (memL s n) = false → befB (memL s n) l = false
theorem shortP_upto (p : Plot) (items : List Item) (n : Nat) : ∀ m, Upto p items n m (shortP p items n m) := by
  intro m
  induction m with
  | zero => exact ⟨⟨List.Pairwise.nil, fun x h => by simp [shortP] at h⟩, fun h => absurd rfl h, fun _ s hs => by omega, fun h => absurd rfl h⟩
  | succ m ih =>
    simp only [shortP]
    by_cases hc : (shortP p items n m = [] ∨ befB (memL m n) (shortP p items n m) = true) ∧ worn p items (memL m n) = false
    · rw [if_pos hc]
      have hne : memL m n ≠ [] := fun e => by rw [e, worn_nil] at hc; cases hc.2
      refine ⟨memL_inc m n, fun _ => hc.2, fun e => absurd e hne, fun _ s hs hw => ?_⟩
      by_cases e : s = m
      · subst e; exact befB_irrefl _
      · cases hb : befB (memL s n) (memL m n) with
        | false => rfl
        | true =>
          rcases hc.1 with h1 | h1
          · have := ih.none h1 s (by omega); rw [hw] at this; cases this
          · by_cases e2 : shortP p items n m = []
            · have := ih.none e2 s (by omega); rw [hw] at this; cases this
            · have h2 := ih.low e2 s (by omega) hw
              rw [befB_trans hb h1] at h2; cases h2
    · rw [if_neg hc]
      refine ⟨ih.inc, ih.bad, fun e s hs => ?_, fun e s hs hw => ?_⟩
      · by_cases e2 : s = m
        · subst e2
          cases hw : worn p items (memL s n) with
          | true => rfl
          | false => exact absurd ⟨.inl e, hw⟩ hc
        · exact ih.none e s (by omega)
      · by_cases e2 : s = m
        · subst e2
          cases hb : befB (memL s n) (shortP p items n s) with
          | false => rfl
          | true => exact absurd ⟨.inr hb, hw⟩ hc
        · exact ih.low e s (by omega) hw
theorem shortP_first (p : Plot) (items : List Item) (n : Nat) : First p items n (shortP p items n (2 ^ n)) := by
  have h := shortP_upto p items n (2 ^ n)
  refine ⟨h.inc, h.bad, fun e m hm => ?_, fun e m hm hw => ?_⟩
  · obtain ⟨s, hs, rfl⟩ := memL_onto hm
    exact h.none e s hs
  · obtain ⟨s, hs, rfl⟩ := memL_onto hm
    exact h.low e s hs hw

/-! ### the reference's search -/
/-- the first of k numbers from lo on that gives something -/
def firstS {α : Type} (f : Nat → Option α) (lo : Nat) : Nat → Option α
  | 0 => none
  | k + 1 => match firstS f lo k with
    | some x => some x
    | none => f (lo + k)
theorem firstS_none {α : Type} {f : Nat → Option α} {lo : Nat} : ∀ {k : Nat}, firstS f lo k = none ↔ ∀ i, i < k → f (lo + i) = none := by
  intro k
  induction k with
  | zero => simp [firstS]
  | succ k ih =>
    simp only [firstS]
    cases h : firstS f lo k with
    | some x =>
      simp only [reduceCtorEq, false_iff]
      intro hc
      have := ih.2 (fun i hi => hc i (by omega))
      rw [h] at this; cases this
    | none =>
      constructor
      · intro h1 i hi
        by_cases e : i = k
        · subst e; exact h1
        · exact ih.1 h i (by omega)
      · intro h1; exact h1 k (by omega)
theorem firstS_some {α : Type} {f : Nat → Option α} {lo : Nat} {x : α} : ∀ {k : Nat}, firstS f lo k = some x → ∃ i, i < k ∧ f (lo + i) = some x ∧ ∀ j, j < i → f (lo + j) = none := by
  intro k
  induction k with
  | zero => intro h; cases h
  | succ k ih =>
    intro h
    simp only [firstS] at h
    cases h1 : firstS f lo k with
    | some y =>
      rw [h1] at h
      obtain ⟨i, hi, h2, h3⟩ := ih (h1.trans h)
      exact ⟨i, by omega, h2, h3⟩
    | none => rw [h1] at h; exact ⟨k, by omega, h, firstS_none.1 h1⟩
theorem firstS_at {α : Type} {f : Nat → Option α} {lo i : Nat} {x : α} (h0 : ∀ j, j < i → f (lo + j) = none) (h : f (lo + i) = some x) : ∀ {k : Nat}, i < k → firstS f lo k = some x := by
  intro k
  induction k with
  | zero => intro hk; omega
  | succ k ih =>
    intro hk
    simp only [firstS]
    by_cases e : i = k
    · subst e; rw [firstS_none.2 h0]; exact h
    · rw [ih (by omega)]

def shortR (p : Plot) (items : List Item) (n : Nat) : Nat → List Int → Nat → Option (List Int)
  | 0, t, _ => if worn p items t = true then none else some t
  | m + 1, t, lo => firstS (fun i => shortR p items n m (t ++ [(i : Int)]) (i + 1)) lo (n - lo)

theorem Inc.cons {n m x : Int} {u : List Int} : Inc n m (x :: u) ↔ (m ≤ x ∧ x < n) ∧ Inc n (x + 1) u := by
  unfold Inc
  rw [List.pairwise_cons]
  constructor
  · rintro ⟨⟨h1, h2⟩, h3⟩
    exact ⟨h3 x (List.mem_cons_self ..), h2, fun y hy => ⟨by have := h1 y hy; omega, (h3 y (List.mem_cons_of_mem _ hy)).2⟩⟩
  · rintro ⟨h1, h2, h3⟩
    refine ⟨⟨fun y hy => by have := (h3 y hy).1; omega, h2⟩, fun y hy => ?_⟩
    rcases List.mem_cons.1 hy with rfl | hy
    · exact h1
    · have := h3 y hy; omega
theorem shortR_none {p : Plot} {items : List Item} {n : Nat} : ∀ {m : Nat} {t : List Int} {lo : Nat}, shortR p items n m t lo = none → ∀ u, Inc n lo u → u.length = m → worn p items (t ++ u) = true := by
  intro m
  induction m with
  | zero =>
    intro t lo h u hu hl
    obtain rfl := List.eq_nil_of_length_eq_zero hl
    simp only [shortR] at h
    rw [List.append_nil]
    by_cases hw : worn p items t = true
    · exact hw
    · rw [if_neg hw] at h; cases h
  | succ m ih =>
    intro t lo h u hu hl
    cases u with
    | nil => simp at hl
    | cons x u =>
      obtain ⟨⟨h1, h2⟩, h3⟩ := Inc.cons.1 hu
      have h4 := firstS_none.1 h (x.toNat - lo) (by omega)
      have e : lo + (x.toNat - lo) = x.toNat := by omega
      have ex : ((x.toNat : Nat) : Int) = x := Int.toNat_of_nonneg (by omega)
      rw [e] at h4
      have h5 := ih h4 u (by have : ((x.toNat + 1 : Nat) : Int) = x + 1 := by omega
                             rw [this]; exact h3) (by simpa using hl)
      rw [ex] at h5
      simpa using h5
theorem shortR_some {p : Plot} {items : List Item} {n : Nat} : ∀ {m : Nat} {t : List Int} {lo : Nat} {l : List Int}, shortR p items n m t lo = some l →
    ∃ u, l = t ++ u ∧ u.length = m ∧ Inc n lo u ∧ worn p items l = false ∧ ∀ u', Inc n lo u' → u'.length = m → worn p items (t ++ u') = false → lexB u' u = false := by
  intro m
  induction m with
  | zero =>
    intro t lo l h
    simp only [shortR] at h
    by_cases hw : worn p items t = true
    · rw [if_pos hw] at h; cases h
    · rw [if_neg hw] at h
      cases h
      exact ⟨[], by simp, rfl, ⟨List.Pairwise.nil, fun x h => by simp at h⟩, by simpa using hw, fun u' _ hl _ => by
        obtain rfl := List.eq_nil_of_length_eq_zero hl
        rfl⟩
  | succ m ih =>
    intro t lo l h
    obtain ⟨i, hi, h1, h0⟩ := firstS_some h
    obtain ⟨u, e, hl, hu, hw, hm⟩ := ih h1
    refine ⟨((lo + i : Nat) : Int) :: u, by rw [e]; simp, by simp [hl], Inc.cons.2 ⟨by omega, by
      have : ((lo + i + 1 : Nat) : Int) = ((lo + i : Nat) : Int) + 1 := by omega
      rw [← this]; exact hu⟩, hw, fun u' hu' hl' hw' => ?_⟩
    cases u' with
    | nil => simp at hl'
    | cons x u' =>
      obtain ⟨⟨g1, g2⟩, g3⟩ := Inc.cons.1 hu'
      have ex : ((x.toNat : Nat) : Int) = x := Int.toNat_of_nonneg (by omega)
      have e1 : ((x.toNat + 1 : Nat) : Int) = x + 1 := by omega
      simp only [lexB]
      by_cases e2 : x = ((lo + i : Nat) : Int)
      · rw [if_pos e2]
        refine hm u' ?_ (by simpa using hl') ?_
        · have : ((lo + i + 1 : Nat) : Int) = x + 1 := by omega
          rw [this]; exact g3
        · rw [← e2]; simpa using hw'
      · rw [if_neg e2]
        refine decide_eq_false (fun hlt => ?_)
        have h4 := h0 (x.toNat - lo) (by omega)
        have e3 : lo + (x.toNat - lo) = x.toNat := by omega
        rw [e3] at h4
        have h5 := shortR_none h4 u' (by rw [e1]; exact g3) (by simpa using hl')
        rw [ex] at h5
        have h6 : worn p items (t ++ x :: u') = true := by simpa using h5
        rw [hw'] at h6; cases h6

/-- the reference's answer -/
def shortS (p : Plot) (items : List Item) (n : Nat) : List Int := (firstS (fun m => shortR p items n m [] 0) 1 n).getD []
theorem inc_length : ∀ {n : Nat} {l : List Int}, Inc n 0 l → l.length ≤ n := by
  intro n
  induction n with
  | zero =>
    intro l h
    cases l with
    | nil => exact Nat.le_refl _
    | cons x l => have := h.2 x (List.mem_cons_self ..); omega
  | succ n ih =>
    intro l h
    by_cases hk : (n : Int) ∈ l
    · obtain ⟨a, b, e⟩ := List.append_of_mem hk
      have hp := h.1
      rw [e] at hp
      have hb : b = [] := by
        cases b with
        | nil => rfl
        | cons y b =>
          have h1 := (List.pairwise_cons.1 (List.pairwise_append.1 hp).2.1).1 y (List.mem_cons_self ..)
          have h2 := (h.2 y (by rw [e]; simp)).2
          omega
      subst hb
      have ha : Inc n 0 a := ⟨(List.pairwise_append.1 hp).1, fun x hx => ⟨(h.2 x (by rw [e]; simp [hx])).1, (List.pairwise_append.1 hp).2.2 x hx n (by simp)⟩⟩
      have := ih ha
      rw [e]; simp; omega
    · have := ih (l := l) ⟨h.1, fun x hx => by
        have h1 := h.2 x hx
        have h2 : x ≠ n := fun e => hk (e ▸ hx)
        omega⟩
      omega
theorem shortS_first (p : Plot) (items : List Item) (n : Nat) : First p items n (shortS p items n) := by
  unfold shortS
  cases h : firstS (fun m => shortR p items n m [] 0) 1 n with
  | none =>
    have h1 := firstS_none.1 h
    have hall : ∀ m, Inc n 0 m → worn p items m = true := fun m hm => by
      by_cases e : m = []
      · rw [e]; exact worn_nil _ _
      · have hl := inc_length hm
        have h0 : 0 < m.length := by cases m with | nil => exact absurd rfl e | cons _ _ => simp
        have h2 := h1 (m.length - 1) (by omega)
        have e2 : 1 + (m.length - 1) = m.length := by omega
        rw [e2] at h2
        simpa using shortR_none h2 m hm rfl
    exact ⟨⟨List.Pairwise.nil, fun x h => by simp at h⟩, fun h => absurd rfl h, fun _ => hall, fun h => absurd rfl h⟩
  | some l =>
    obtain ⟨i, hi, h1, h0⟩ := firstS_some h
    obtain ⟨u, e, hl, hu, hw, hm⟩ := shortR_some h1
    simp only [List.nil_append] at e
    subst e
    refine ⟨hu, fun _ => hw, fun e => ?_, fun _ m hm' hw' => ?_⟩
    · have e : l = [] := e
      rw [e] at hl; simp at hl; omega
    · show befB m l = false
      unfold befB
      by_cases e2 : m.length = l.length
      · rw [if_pos e2]
        exact hm m hm' (e2.trans hl) (by simpa using hw')
      · rw [if_neg e2]
        refine decide_eq_false (fun hlt => ?_)
        have h3 : 0 < m.length := by
          cases m with
          | nil => rw [worn_nil] at hw'; cases hw'
          | cons _ _ => simp
        have h4 := h0 (m.length - 1) (by omega)
        have e3 : 1 + (m.length - 1) = m.length := by omega
        rw [e3] at h4
        have h5 := shortR_none h4 m hm' rfl
        rw [List.nil_append, hw'] at h5; cases h5
theorem short_same (p : Plot) (items : List Item) (n : Nat) : shortP p items n (2 ^ n) = shortS p items n := (shortP_first p items n).unique (shortS_first p items n)
end Go.Proofs.YtoipcbmbhjajfaaDoor
