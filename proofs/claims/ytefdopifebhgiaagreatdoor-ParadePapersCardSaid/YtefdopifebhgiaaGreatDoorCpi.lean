/-
  ITEMS AND WEARS: what fits, which wears are valid, what they cost, the cheapest one. Plain; no program in sight.
-/
import Derived.Test.YtefdopifebhgiaaGreatDoorCpl
namespace Go.Proofs.YtefdopifebhgiaaGreatDoor
open Go.RowKit

structure Item where
  kind : Int
  lo : Int
  hi : Int
  cost : Int
  clean : Int

def noItem : Item := ⟨0, 0, 0, 0, 0⟩
def it (xs : List Item) (i : Nat) : Item := xs.getD i noItem
def itemCell (x : Item) (j : Nat) : Value := if j = 0 then .int .i64 x.kind else if j = 1 then .int .i64 x.lo else if j = 2 then .int .i64 x.hi else if j = 3 then .int .i64 x.cost else .int .i64 x.clean
def ItemsAt (d : Option Nat) (w : World) (v : Value) (xs : List Item) : Prop := RecAt d w v xs.length 5 fun i j => itemCell (it xs i) j

theorem ItemsAt.form {d : Option Nat} {w : World} {v : Value} {xs : List Item} (h : ItemsAt d w v xs) : ∃ a c, v = .slice a xs.length c := by
  obtain ⟨a, c, e, _⟩ := h
  exact ⟨a, c, e⟩
theorem ItemsAt.below {d : Option Nat} {w w' : World} {v : Value} {xs : List Item} (h : ItemsAt d w v xs) (hb : Below w.heap.size w w') : ItemsAt d w' v xs := RecAt.below h hb
theorem ItemsAt.cells {d : Option Nat} {w : World} {a : Option Addr} {n c : Nat} {xs : List Item} (h : ItemsAt d w (.slice a n c) xs) {i : Nat} (hi : i < xs.length) :
    ∃ b off, a = some ⟨b, off, none⟩ ∧ b < w.heap.size ∧ w.cell? ⟨b, off + i * 5, none⟩ = some (.int .i64 (it xs i).kind) ∧ w.cell? ⟨b, off + i * 5 + 1, none⟩ = some (.int .i64 (it xs i).lo) ∧ w.cell? ⟨b, off + i * 5 + 1 + 1, none⟩ = some (.int .i64 (it xs i).hi) ∧
      w.cell? ⟨b, off + i * 5 + 3, none⟩ = some (.int .i64 (it xs i).cost) ∧ w.cell? ⟨b, off + i * 5 + 4, none⟩ = some (.int .i64 (it xs i).clean) := by
  obtain ⟨a', c', e, hh⟩ := h
  cases e
  obtain ⟨b, off, rfl, _, _, _, hb, hc⟩ := hh (by omega)
  exact ⟨b, off, rfl, hb, hc i hi 0 (by omega), hc i hi 1 (by omega), hc i hi 2 (by omega), hc i hi 3 (by omega), hc i hi 4 (by omega)⟩

def fitE (x : Item) (s : Int × Int) : Int := if x.lo ≤ s.1 ∧ s.2 ≤ x.hi then 1 else if x.hi < s.1 ∨ s.2 < x.lo then 2 else 3
def itemE (p : Plot) (x : Item) : Int :=
  if inB x.kind 0 ((p.dress.length : Int) - 1) = false then 7 else if figE (x.lo, x.hi) = 0 then (if inB x.cost 0 1000000 = false then 2 else if inB x.clean 0 1440 = false then 2 else 0) else figE (x.lo, x.hi)
def itemsErr (p : Plot) (items : List Item) : Int :=
  if plotErr p = 0 then (if 30 < items.length then 5 else firstBad (fun i => itemE p (it items i)) items.length) else plotErr p

/-- an item that a part wears, without the other parts -/
def singleE (p : Plot) (items : List Item) (x : Part) (n : Int) : Int :=
  if inB n 0 ((items.length : Int) - 1) = false then 7 else if (it items n.toNat).kind = x.kind then
    (if fitE (it items n.toNat) (sp p.persons x.person.toNat) = 2 then 10 else if fitE (it items n.toNat) (sp p.persons x.person.toNat) = 3 then 15 else 0) else 3
/-- the items that two parts wear, the first of which comes first in the list -/
def doubleE (p : Plot) (items : List Item) (y x : Part) (m n : Int) : Int :=
  if y.person = x.person then (if y.kind = x.kind ∧ m ≠ n ∧ betweenP y x < wayP p y x true then 12 else 0) else (if m = n ∧ betweenP y x < (it items n.toNat).clean then 11 else 0)
def nextE (p : Plot) (items : List Item) (parts : List Part) (b : List Int) (n : Int) : Int :=
  if singleE p items (pt parts b.length) n = 0 then firstBad (fun k => doubleE p items (pt parts k) (pt parts b.length) (nm b k) n) b.length else singleE p items (pt parts b.length) n
def wearsE (p : Plot) (items : List Item) (parts : List Part) (b : List Int) : Int := firstBad (fun i => nextE p items parts (b.take i) (nm b i)) b.length
def wearErr (p : Plot) (items : List Item) (b : List Int) : Int :=
  if itemsErr p items = 0 then (if b.length = p.parts.length then wearsE p items p.parts b else 1) else itemsErr p items

theorem nm_snoc_old {b : List Int} {n : Int} {k : Nat} (h : k < b.length) : nm (b ++ [n]) k = nm b k := by
  unfold nm; rw [List.getD_eq_getElem?_getD, List.getD_eq_getElem?_getD, List.getElem?_append_left h]
theorem nm_snoc_new (b : List Int) (n : Int) : nm (b ++ [n]) b.length = n := by
  unfold nm; rw [List.getD_eq_getElem?_getD, List.getElem?_append_right (Nat.le_refl _)]; simp
theorem take_snoc_old {b : List Int} {n : Int} {k : Nat} (h : k ≤ b.length) : (b ++ [n]).take k = b.take k := List.take_append_of_le_length h
theorem firstBad_congr {f g : Nat → Int} : ∀ {n : Nat}, (∀ i, i < n → f i = g i) → firstBad f n = firstBad g n := by
  intro n
  induction n with
  | zero => intro _; rfl
  | succ n ih => intro h; simp only [firstBad, ih (fun i hi => h i (by omega)), h n (by omega)]
theorem wearsE_snoc (p : Plot) (items : List Item) (parts : List Part) (b : List Int) (n : Int) :
    wearsE p items parts (b ++ [n]) = if wearsE p items parts b = 0 then nextE p items parts b n else wearsE p items parts b := by
  have h1 : firstBad (fun i => nextE p items parts ((b ++ [n]).take i) (nm (b ++ [n]) i)) b.length = firstBad (fun i => nextE p items parts (b.take i) (nm b i)) b.length :=
    firstBad_congr fun i hi => by rw [take_snoc_old (by omega), nm_snoc_old hi]
  unfold wearsE
  rw [show (b ++ [n]).length = b.length + 1 by simp]
  simp only [firstBad]
  rw [h1, nm_snoc_new, take_snoc_old (Nat.le_refl _), List.take_length]
theorem wearsE_nil (p : Plot) (items : List Item) (parts : List Part) : wearsE p items parts [] = 0 := rfl

/-! ### cost -/
def hasN (b : List Int) (x : Int) : Nat → Bool
  | 0 => false
  | k + 1 => hasN b x k || decide (nm b k = x)
theorem hasN_true {b : List Int} {x : Int} {k : Nat} : hasN b x k = true ↔ ∃ j, j < k ∧ nm b j = x := by
  induction k with
  | zero => simp [hasN]
  | succ k ih =>
    simp only [hasN, Bool.or_eq_true, ih, decide_eq_true_eq]
    constructor
    · rintro (⟨j, hj, e⟩ | e)
      · exact ⟨j, by omega, e⟩
      · exact ⟨k, by omega, e⟩
    · rintro ⟨j, hj, e⟩
      by_cases h : j = k
      · subst h; exact .inr e
      · exact .inl ⟨j, by omega, e⟩
theorem hasN_congr {a b : List Int} {x : Int} : ∀ {k : Nat}, (∀ i, i < k → nm a i = nm b i) → hasN a x k = hasN b x k := by
  intro k
  induction k with
  | zero => intro _; rfl
  | succ k ih => intro h; simp only [hasN, ih (fun i hi => h i (by omega)), h k (by omega)]
def sumN (f : Nat → Int) : Nat → Int
  | 0 => 0
  | n + 1 => sumN f n + f n
theorem sumN_congr {f g : Nat → Int} : ∀ {n : Nat}, (∀ i, i < n → f i = g i) → sumN f n = sumN g n := by
  intro n
  induction n with
  | zero => intro _; rfl
  | succ n ih => intro h; simp only [sumN, ih (fun i hi => h i (by omega)), h n (by omega)]
theorem sumN_bound {f : Nat → Int} {M : Int} : ∀ {n : Nat}, (∀ i, i < n → 0 ≤ f i ∧ f i ≤ M) → 0 ≤ sumN f n ∧ sumN f n ≤ (n : Int) * M := by
  intro n
  induction n with
  | zero => intro _; simp [sumN]
  | succ n ih =>
    intro h
    have h1 := ih (fun i hi => h i (by omega))
    have h2 := h n (by omega)
    have h3 : ((n + 1 : Nat) : Int) * M = (n : Int) * M + M := by push_cast; rw [Int.add_mul, Int.one_mul]
    simp only [sumN]
    omega
theorem sumN_point {f g : Nat → Int} {j : Nat} {d : Int} (hd : g j = f j + d) (h : ∀ i, i ≠ j → g i = f i) : ∀ {n : Nat}, sumN g n = sumN f n + if j < n then d else 0 := by
  intro n
  induction n with
  | zero => simp [sumN]
  | succ n ih =>
    simp only [sumN, ih]
    by_cases e : n = j
    · subst e
      rw [if_neg (by omega), if_pos (by omega), hd]; omega
    · rw [h n e]
      by_cases h1 : j < n
      · rw [if_pos h1, if_pos (by omega)]; omega
      · rw [if_neg h1, if_neg (by omega)]; omega

def costAt (items : List Item) (b : List Int) (k : Nat) : Int := if hasN b (nm b k) k = true then 0 else (it items (nm b k).toNat).cost
/-- what a wear costs: each item once -/
def costW (items : List Item) (b : List Int) : Int := sumN (costAt items b) b.length
/-- the same, item by item -/
def costI (items : List Item) (b : List Int) (n : Nat) : Int := sumN (fun i => if hasN b (i : Int) n = true then (it items i).cost else 0) items.length

theorem costW_I {items : List Item} {b : List Int} : ∀ {n : Nat}, (∀ k, k < n → 0 ≤ nm b k ∧ nm b k < items.length) → sumN (costAt items b) n = costI items b n := by
  intro n
  induction n with
  | zero =>
    intro _
    unfold costI
    simp only [hasN, sumN]
    have h : ∀ m, sumN (fun i => if (false : Bool) = true then (it items i).cost else 0) m = 0 := fun m => by
      induction m with
      | zero => rfl
      | succ m ih => simp only [sumN, ih]; rfl
    exact (h _).symm
  | succ n ih =>
    intro h
    obtain ⟨h1, h2⟩ := h n (by omega)
    simp only [sumN]
    rw [ih (fun k hk => h k (by omega))]
    have hk : ((nm b n).toNat : Int) = nm b n := Int.toNat_of_nonneg h1
    unfold costI
    refine Eq.symm ((sumN_point (f := fun i => if hasN b (i : Int) n = true then (it items i).cost else 0) (j := (nm b n).toNat) (d := costAt items b n) ?_ ?_).trans ?_)
    · show (if hasN b (((nm b n).toNat : Nat) : Int) (n + 1) = true then _ else _) = (if hasN b (((nm b n).toNat : Nat) : Int) n = true then _ else _) + _
      rw [hk]
      unfold costAt
      have e1 : hasN b (nm b n) (n + 1) = true := hasN_true.2 ⟨n, by omega, rfl⟩
      rw [if_pos e1]
      by_cases e2 : hasN b (nm b n) n = true
      · rw [if_pos e2, if_pos e2]; omega
      · rw [if_neg e2, if_neg e2]; omega
    · intro i hi
      show (if hasN b (i : Int) (n + 1) = true then _ else _) = (if hasN b (i : Int) n = true then _ else _)
      have e : hasN b (i : Int) (n + 1) = hasN b (i : Int) n := by
        simp only [hasN]
        rw [decide_eq_false (by omega), Bool.or_false]
      rw [e]
    · rw [if_pos (by omega)]

theorem costW_snoc (items : List Item) (b : List Int) (n : Int) : costW items (b ++ [n]) = costW items b + if hasN b n b.length = true then 0 else (it items n.toNat).cost := by
  unfold costW
  rw [show (b ++ [n]).length = b.length + 1 by simp]
  simp only [sumN]
  have h1 : ∀ k, k < b.length → costAt items (b ++ [n]) k = costAt items b k := fun k hk => by
    unfold costAt
    rw [nm_snoc_old hk, hasN_congr fun i hi => nm_snoc_old (by omega)]
  rw [sumN_congr h1]
  unfold costAt
  rw [nm_snoc_new, hasN_congr fun i hi => nm_snoc_old hi]

/-! ### the cheapest wear -/
abbrev Bst := Option (List Int × Int)
def mergeB (s r : Bst) : Bst :=
  match s, r with
  | none, r => r
  | s, none => s
  | some (b, l), some (b', l') => if l' < l then some (b', l') else some (b, l)
theorem mergeB_none (r : Bst) : mergeB none r = r := rfl
theorem mergeB_none' (s : Bst) : mergeB s none = s := by cases s <;> rfl
theorem mergeB_assoc (s a b : Bst) : mergeB (mergeB s a) b = mergeB s (mergeB a b) := by
  cases s with
  | none => rfl
  | some s =>
    cases a with
    | none => rw [mergeB_none', mergeB_none]
    | some a =>
      cases b with
      | none => rw [mergeB_none', mergeB_none']
      | some b =>
        obtain ⟨s, ls⟩ := s
        obtain ⟨a, la⟩ := a
        obtain ⟨b, lb⟩ := b
        simp only [mergeB]
        by_cases h1 : la < ls <;> by_cases h2 : lb < la
        · rw [if_pos h1, if_pos h2]
          show (if lb < la then _ else _) = (if lb < ls then _ else _)
          rw [if_pos h2, if_pos (by omega)]
        · rw [if_pos h1, if_neg h2]
          show (if lb < la then _ else _) = (if la < ls then _ else _)
          rw [if_neg h2, if_pos h1]
        · rw [if_neg h1, if_pos h2]
        · rw [if_neg h1, if_neg h2]
          show (if lb < ls then _ else _) = (if la < ls then _ else _)
          rw [if_neg (by omega), if_neg h1]
def mergeN (f : Nat → Bst) : Nat → Bst
  | 0 => none
  | n + 1 => mergeB (mergeN f n) (f n)

/-- the cheapest valid wear that begins with b, r items more; the first of several -/
def bestR (p : Plot) (items : List Item) (parts : List Part) : Nat → List Int → Bst
  | 0, b => if wearsE p items parts b = 0 then some (b, costW items b) else none
  | r + 1, b => if wearsE p items parts b = 0 then mergeN (fun i => bestR p items parts r (b ++ [(i : Int)])) items.length else none
def bestP (p : Plot) (items : List Item) (parts : List Part) : Bst := bestR p items parts parts.length []

theorem bestR_bad {p : Plot} {items : List Item} {parts : List Part} {b : List Int} (h : wearsE p items parts b ≠ 0) : ∀ r, bestR p items parts r b = none
  | 0 => by simp only [bestR]; rw [if_neg h]
  | r + 1 => by simp only [bestR]; rw [if_neg h]
theorem wearsE_bad_snoc {p : Plot} {items : List Item} {parts : List Part} {b : List Int} {n : Int} (h : wearsE p items parts b ≠ 0) : wearsE p items parts (b ++ [n]) ≠ 0 := by
  rw [wearsE_snoc, if_neg h]; exact h

/-- items whose costs are not negative -/
def Priced (items : List Item) : Prop := ∀ i, i < items.length → 0 ≤ (it items i).cost ∧ (it items i).cost ≤ 1000000
def Within (items : List Item) (b : List Int) : Prop := ∀ k, k < b.length → 0 ≤ nm b k ∧ nm b k < items.length

theorem single_within {p : Plot} {items : List Item} {x : Part} {n : Int} (h : singleE p items x n = 0) : 0 ≤ n ∧ n < items.length := by
  unfold singleE at h
  by_cases hb : inB n 0 ((items.length : Int) - 1) = false
  · rw [if_pos hb] at h; cases h
  · have := inB_true.1 (Bool.not_eq_false _ ▸ hb); omega
theorem next_single {p : Plot} {items : List Item} {parts : List Part} {b : List Int} {n : Int} (h : nextE p items parts b n = 0) : singleE p items (pt parts b.length) n = 0 := by
  unfold nextE at h
  by_cases hb : singleE p items (pt parts b.length) n = 0
  · exact hb
  · rw [if_neg hb] at h; exact absurd h hb
theorem wears_within {p : Plot} {items : List Item} {parts : List Part} {b : List Int} (h : wearsE p items parts b = 0) : Within items b := fun k hk =>
  single_within (next_single (firstBad_zero.1 h k hk))
theorem costAt_bd {items : List Item} {b : List Int} (hp : Priced items) (hw : Within items b) {k : Nat} (hk : k < b.length) : 0 ≤ costAt items b k ∧ costAt items b k ≤ 1000000 := by
  unfold costAt
  obtain ⟨h1, h2⟩ := hw k hk
  split
  · omega
  · exact hp _ (by omega)
theorem costW_bd {items : List Item} {b : List Int} (hp : Priced items) (hw : Within items b) : 0 ≤ costW items b ∧ costW items b ≤ (b.length : Int) * 1000000 :=
  sumN_bound fun _ hk => costAt_bd hp hw hk
theorem costW_mono {items : List Item} {b : List Int} {n : Int} (hp : Priced items) (h : 0 ≤ n ∧ n < items.length) : costW items b ≤ costW items (b ++ [n]) := by
  rw [costW_snoc]
  split
  · omega
  · have := hp n.toNat (by omega); omega

theorem mergeN_some {f : Nat → Bst} {n : Nat} {x : List Int × Int} (h : mergeN f n = some x) : ∃ i, i < n ∧ f i = some x := by
  induction n with
  | zero => cases h
  | succ n ih =>
    simp only [mergeN] at h
    cases hm : mergeN f n with
    | none => rw [hm, mergeB_none] at h; exact ⟨n, by omega, h⟩
    | some m =>
      cases hf : f n with
      | none =>
        rw [hf, mergeB_none'] at h
        obtain ⟨i, hi, e⟩ := ih h
        exact ⟨i, by omega, e⟩
      | some y =>
        rw [hm, hf] at h
        obtain ⟨mb, ml⟩ := m
        obtain ⟨yb, yl⟩ := y
        simp only [mergeB] at h
        by_cases hl : yl < ml
        · rw [if_pos hl] at h; exact ⟨n, by omega, hf.trans h⟩
        · rw [if_neg hl] at h
          obtain ⟨i, hi, e⟩ := ih (hm.trans h)
          exact ⟨i, by omega, e⟩
/-- what a best wear is -/
theorem bestR_some {p : Plot} {items : List Item} {parts : List Part} : ∀ {r : Nat} {b l : List Int} {c : Int}, bestR p items parts r b = some (l, c) → wearsE p items parts l = 0 ∧ c = costW items l ∧ l.length = b.length + r ∧ (Priced items → costW items b ≤ c) := by
  intro r
  induction r with
  | zero =>
    intro b l c h
    simp only [bestR] at h
    by_cases hw : wearsE p items parts b = 0
    · rw [if_pos hw] at h
      cases h
      exact ⟨hw, rfl, rfl, fun _ => Int.le_refl _⟩
    · rw [if_neg hw] at h; cases h
  | succ r ih =>
    intro b l c h
    simp only [bestR] at h
    by_cases hw : wearsE p items parts b = 0
    · rw [if_pos hw] at h
      obtain ⟨i, hi, e⟩ := mergeN_some h
      obtain ⟨h1, h2, h3, h4⟩ := ih e
      refine ⟨h1, h2, by simp at h3; omega, fun hp => Int.le_trans (costW_mono hp (by omega)) (h4 hp)⟩
    · rw [if_neg hw] at h; cases h
/-- nothing that begins with b is less than what b costs -/
theorem merge_idle {p : Plot} {items : List Item} {parts : List Part} (hp : Priced items) {r : Nat} {b : List Int} {s : List Int} {l : Int} (h : l ≤ costW items b) : mergeB (some (s, l)) (bestR p items parts r b) = some (s, l) := by
  cases e : bestR p items parts r b with
  | none => rfl
  | some x =>
    obtain ⟨x, c⟩ := x
    have := (bestR_some e).2.2.2 hp
    simp only [mergeB]
    rw [if_neg (by omega)]

/-! ### all wears -/
def allW (n : Nat) : Nat → List Int → List (List Int)
  | 0, b => [b]
  | r + 1, b => (List.range n).flatMap fun (i : Nat) => allW n r (b ++ [(i : Int)])
end Go.Proofs.YtefdopifebhgiaaGreatDoor
