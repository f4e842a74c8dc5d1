/-
  PLAIN: the cheapest wear among all wears; one item more; one part less. No program in sight.
-/
import Derived.Test.YtdcinngdilfpnaaCen
namespace Go.Proofs.Ytdcinngdilfpnaa

def valW (p : Plot) (items : List Item) (parts : List Part) (l : List Int) : Bst := if wearsE p items parts l = 0 then some (l, costW items l) else none
def minW (p : Plot) (items : List Item) (parts : List Part) : List (List Int) → Bst
  | [] => none
  | l :: ls => mergeB (valW p items parts l) (minW p items parts ls)
theorem minW_append (p : Plot) (items : List Item) (parts : List Part) (a b : List (List Int)) : minW p items parts (a ++ b) = mergeB (minW p items parts a) (minW p items parts b) := by
  induction a with
  | nil => rfl
  | cons l a ih => simp only [List.cons_append, minW, ih, mergeB_assoc]
theorem allW_bad {p : Plot} {items : List Item} {parts : List Part} {n : Nat} : ∀ {r : Nat} {b l : List Int}, wearsE p items parts b ≠ 0 → l ∈ allW n r b → wearsE p items parts l ≠ 0 := by
  intro r
  induction r with
  | zero => intro b l h hl; rw [List.mem_singleton.1 hl]; exact h
  | succ r ih =>
    intro b l h hl
    simp only [allW, List.mem_flatMap] at hl
    obtain ⟨i, _, hi⟩ := hl
    exact ih (wearsE_bad_snoc h) hi
theorem minW_bad {p : Plot} {items : List Item} {parts : List Part} : ∀ {ls : List (List Int)}, (∀ l, l ∈ ls → wearsE p items parts l ≠ 0) → minW p items parts ls = none := by
  intro ls
  induction ls with
  | nil => intro _; rfl
  | cons l ls ih =>
    intro h
    simp only [minW]
    rw [ih (fun x hx => h x (List.mem_cons_of_mem _ hx))]
    unfold valW
    rw [if_neg (h l (List.mem_cons_self ..))]
    rfl
theorem minW_flat {p : Plot} {items : List Item} {parts : List Part} {f : Nat → Bst} {g : Nat → List (List Int)} (h : ∀ i, f i = minW p items parts (g i)) : ∀ n, mergeN f n = minW p items parts ((List.range n).flatMap g) := by
  intro n
  induction n with
  | zero => rfl
  | succ n ih =>
    rw [List.range_succ, List.flatMap_append, minW_append, ← ih]
    simp only [mergeN, List.flatMap_cons, List.flatMap_nil, List.append_nil]
    rw [h n]
theorem bestR_minW (p : Plot) (items : List Item) (parts : List Part) : ∀ (r : Nat) (b : List Int), bestR p items parts r b = minW p items parts (allW items.length r b) := by
  intro r
  induction r with
  | zero => intro b; simp only [bestR, allW, minW, valW]; rw [mergeB_none']
  | succ r ih =>
    intro b
    by_cases h : wearsE p items parts b = 0
    · simp only [bestR, allW]
      rw [if_pos h]
      exact minW_flat (fun i => ih (b ++ [(i : Int)])) items.length
    · rw [bestR_bad h, minW_bad]
      intro l hl
      exact allW_bad h hl

/-- what the least of a list of wears is -/
structure Least1 (p : Plot) (items : List Item) (parts : List Part) (L : List (List Int)) (b : List Int) (c : Int) : Prop where
  fine : wearsE p items parts b = 0
  cost : c = costW items b
  least : ∀ l, l ∈ L → wearsE p items parts l = 0 → c ≤ costW items l
  split : ∃ L1 L2, L = L1 ++ b :: L2 ∧ ∀ l, l ∈ L1 → wearsE p items parts l = 0 → c < costW items l
theorem minW_none {p : Plot} {items : List Item} {parts : List Part} : ∀ {L : List (List Int)}, minW p items parts L = none → ∀ l, l ∈ L → wearsE p items parts l ≠ 0 := by
  intro L
  induction L with
  | nil => intro _ l hl; simp at hl
  | cons x L ih =>
    intro h l hl
    simp only [minW] at h
    cases hx : valW p items parts x with
    | some y =>
      rw [hx] at h
      cases hm : minW p items parts L with
      | none => rw [hm] at h; cases h
      | some z =>
        rw [hm] at h
        obtain ⟨y1, y2⟩ := y
        obtain ⟨z1, z2⟩ := z
        simp only [mergeB] at h
        split at h <;> cases h
    | none =>
      rw [hx, mergeB_none] at h
      rcases List.mem_cons.1 hl with rfl | hl
      · intro h0
        unfold valW at hx
        rw [if_pos h0] at hx; cases hx
      · exact ih h l hl
theorem minW_some {p : Plot} {items : List Item} {parts : List Part} : ∀ {L : List (List Int)} {b : List Int} {c : Int}, minW p items parts L = some (b, c) → Least1 p items parts L b c := by
  intro L
  induction L with
  | nil => intro b c h; cases h
  | cons x L ih =>
    intro b c h
    simp only [minW] at h
    by_cases h0 : wearsE p items parts x = 0
    · have hv : valW p items parts x = some (x, costW items x) := by unfold valW; rw [if_pos h0]
      rw [hv] at h
      cases hm : minW p items parts L with
      | none =>
        rw [hm] at h
        cases h
        refine ⟨h0, rfl, fun l hl hw => ?_, [], L, rfl, fun l hl => by simp at hl⟩
        rcases List.mem_cons.1 hl with rfl | hl
        · exact Int.le_refl _
        · exact absurd hw (minW_none hm l hl)
      | some z =>
        obtain ⟨z1, z2⟩ := z
        rw [hm] at h
        have hz := ih hm
        simp only [mergeB] at h
        by_cases hlt : z2 < costW items x
        · rw [if_pos hlt] at h
          cases h
          obtain ⟨L1, L2, e, h1⟩ := hz.split
          refine ⟨hz.fine, hz.cost, fun l hl hw => ?_, x :: L1, L2, by rw [e]; rfl, fun l hl hw => ?_⟩
          · rcases List.mem_cons.1 hl with rfl | hl
            · omega
            · exact hz.least l hl hw
          · rcases List.mem_cons.1 hl with rfl | hl
            · exact hlt
            · exact h1 l hl hw
        · rw [if_neg hlt] at h
          cases h
          refine ⟨h0, rfl, fun l hl hw => ?_, [], L, rfl, fun l hl => by simp at hl⟩
          rcases List.mem_cons.1 hl with rfl | hl
          · exact Int.le_refl _
          · have := hz.least l hl hw; omega
    · have hv : valW p items parts x = none := by unfold valW; rw [if_neg h0]
      rw [hv, mergeB_none] at h
      have hz := ih h
      obtain ⟨L1, L2, e, h1⟩ := hz.split
      refine ⟨hz.fine, hz.cost, fun l hl hw => ?_, x :: L1, L2, by rw [e]; rfl, fun l hl hw => ?_⟩
      · rcases List.mem_cons.1 hl with rfl | hl
        · exact absurd hw h0
        · exact hz.least l hl hw
      · rcases List.mem_cons.1 hl with rfl | hl
        · exact absurd hw h0
        · exact h1 l hl hw

/-- all wears: every list of so many numbers of items -/
theorem allW_mem {n : Nat} : ∀ {r : Nat} {b l : List Int}, l ∈ allW n r b ↔ ∃ u, l = b ++ u ∧ u.length = r ∧ ∀ x, x ∈ u → 0 ≤ x ∧ x < n := by
  intro r
  induction r with
  | zero =>
    intro b l
    simp only [allW, List.mem_singleton]
    constructor
    · rintro rfl; exact ⟨[], by simp, rfl, fun x h => by simp at h⟩
    · rintro ⟨u, e, hl, _⟩
      obtain rfl := List.eq_nil_of_length_eq_zero hl
      simpa using e
  | succ r ih =>
    intro b l
    simp only [allW, List.mem_flatMap, List.mem_range]
    constructor
    · rintro ⟨i, hi, h⟩
      obtain ⟨u, e, hl, hb⟩ := ih.1 h
      refine ⟨(i : Int) :: u, by rw [e]; simp, by simp [hl], fun x hx => ?_⟩
      rcases List.mem_cons.1 hx with rfl | hx
      · omega
      · exact hb x hx
    · rintro ⟨u, e, hl, hb⟩
      cases u with
      | nil => simp at hl
      | cons x u =>
        have hx := hb x (List.mem_cons_self ..)
        refine ⟨x.toNat, by omega, ih.2 ⟨u, ?_, by simpa using hl, fun y hy => hb y (List.mem_cons_of_mem _ hy)⟩⟩
        have ex : ((x.toNat : Nat) : Int) = x := Int.toNat_of_nonneg hx.1
        rw [e, ex]; simp
theorem mem_nm {l : List Int} {x : Int} (h : x ∈ l) : ∃ i, i < l.length ∧ nm l i = x := by
  obtain ⟨i, hi, e⟩ := List.mem_iff_getElem.1 h
  exact ⟨i, hi, (nm_get hi).trans e⟩
/-- the cheapest wear costs no more than any valid one -/
theorem bestP_le {p : Plot} {items : List Item} {parts : List Part} {l : List Int} (hl : l.length = parts.length) (h : wearsE p items parts l = 0) : ∃ b c, bestP p items parts = some (b, c) ∧ c ≤ costW items l := by
  have hm : l ∈ allW items.length parts.length [] := allW_mem.2 ⟨l, rfl, hl, fun x hx => by
    obtain ⟨i, hi, e⟩ := mem_nm hx
    rw [← e]; exact wears_within h i hi⟩
  unfold bestP
  rw [bestR_minW]
  cases hb : minW p items parts (allW items.length parts.length []) with
  | none => exact absurd h (minW_none hb l hm)
  | some x =>
    obtain ⟨b, c⟩ := x
    exact ⟨b, c, rfl, (minW_some hb).least l hm h⟩

theorem wears_iff {p : Plot} {items : List Item} {parts : List Part} {l : List Int} : wearsE p items parts l = 0 ↔
    (∀ i, i < l.length → singleE p items (pt parts i) (nm l i) = 0) ∧ ∀ i, i < l.length → ∀ k, k < i → doubleE p items (pt parts k) (pt parts i) (nm l k) (nm l i) = 0 := by
  refine ⟨wears_parts, fun ⟨h1, h2⟩ => firstBad_zero.2 fun i hi => ?_⟩
  have hlen : (l.take i).length = i := by rw [List.length_take]; omega
  unfold nextE
  rw [hlen, if_pos (h1 i hi)]
  exact firstBad_zero.2 fun k hk => by rw [nm_take hk]; exact h2 i hi k hk

/-! ### one item more -/
theorem it_old {items : List Item} {x : Item} {i : Nat} (h : i < items.length) : it (items ++ [x]) i = it items i := by
  unfold it
  rw [List.getD_eq_getElem?_getD, List.getD_eq_getElem?_getD, List.getElem?_append_left h]
theorem it_new (items : List Item) (x : Item) : it (items ++ [x]) items.length = x := by
  unfold it
  rw [List.getD_eq_getElem?_getD, List.getElem?_append_right (Nat.le_refl _)]; simp
theorem single_more {p : Plot} {items : List Item} {x : Item} {y : Part} {n : Int} (h : singleE p items y n = 0) : singleE p (items ++ [x]) y n = 0 := by
  have hw := single_within h
  have e : it (items ++ [x]) n.toNat = it items n.toNat := it_old (by omega)
  unfold singleE at h ⊢
  rw [if_neg (by rw [inB_true.2 (show 0 ≤ n ∧ n ≤ (items.length : Int) - 1 by omega)]; simp)] at h
  rw [if_neg (by rw [inB_true.2 (show 0 ≤ n ∧ n ≤ ((items ++ [x]).length : Int) - 1 by simp; omega)]; simp), e]
  exact h
theorem wears_more {p : Plot} {items : List Item} {x : Item} {parts : List Part} {l : List Int} (h : wearsE p items parts l = 0) : wearsE p (items ++ [x]) parts l = 0 ∧ costW (items ++ [x]) l = costW items l := by
  have hw := wears_within h
  obtain ⟨h1, h2⟩ := wears_parts h
  refine ⟨wears_iff.2 ⟨fun i hi => single_more (h1 i hi), fun i hi k hk => ?_⟩, ?_⟩
  · have h3 := h2 i hi k hk
    have h4 := hw i hi
    unfold doubleE at h3 ⊢
    rw [it_old (by omega)]
    exact h3
  · unfold costW
    refine sumN_congr fun k hk => ?_
    have h4 := hw k hk
    unfold costAt
    rw [it_old (by omega)]
theorem best_more {p : Plot} {items : List Item} {x : Item} {parts : List Part} {b : List Int} {c : Int} (h : bestP p items parts = some (b, c)) : ∃ b' c', bestP p (items ++ [x]) parts = some (b', c') ∧ c' ≤ c := by
  obtain ⟨q1, q2, q3, _⟩ := bestR_some h
  obtain ⟨m1, m2⟩ := wears_more (x := x) q1
  obtain ⟨b', c', e, hle⟩ := bestP_le (by simpa using q3) m1
  exact ⟨b', c', e, by omega⟩

/-! ### one part less -/
def skip (k i : Nat) : Nat := if i < k then i else i + 1
theorem pt_erase (parts : List Part) (k i : Nat) : pt (parts.eraseIdx k) i = pt parts (skip k i) := by
  unfold pt skip
  rw [List.getD_eq_getElem?_getD, List.getD_eq_getElem?_getD, List.getElem?_eraseIdx]
  split <;> rfl
theorem nm_erase (l : List Int) (k i : Nat) : nm (l.eraseIdx k) i = nm l (skip k i) := by
  unfold nm skip
  rw [List.getD_eq_getElem?_getD, List.getD_eq_getElem?_getD, List.getElem?_eraseIdx]
  split <;> rfl
theorem skip_lt {k i n : Nat} (hk : k < n) (hi : i < n - 1) : skip k i < n := by unfold skip; split <;> omega
theorem skip_mono {k i j : Nat} (h : j < i) : skip k j < skip k i := by unfold skip; split <;> split <;> omega
theorem sumN_le {f g : Nat → Int} : ∀ {n : Nat}, (∀ i, i < n → f i ≤ g i) → sumN f n ≤ sumN g n := by
  intro n
  induction n with
  | zero => intro _; exact Int.le_refl _
  | succ n ih =>
    intro h
    have h1 := ih (fun i hi => h i (by omega))
    have h2 := h n (by omega)
    simp only [sumN]; omega
theorem wears_less {p : Plot} {items : List Item} {parts : List Part} {l : List Int} {k : Nat} (hp : Priced items) (hl : l.length = parts.length) (hk : k < parts.length) (h : wearsE p items parts l = 0) :
    wearsE p items (parts.eraseIdx k) (l.eraseIdx k) = 0 ∧ costW items (l.eraseIdx k) ≤ costW items l := by
  have hw := wears_within h
  obtain ⟨h1, h2⟩ := wears_parts h
  have hlen : (l.eraseIdx k).length = l.length - 1 := List.length_eraseIdx_of_lt (by omega)
  have hz : wearsE p items (parts.eraseIdx k) (l.eraseIdx k) = 0 := by
    refine wears_iff.2 ⟨fun i hi => ?_, fun i hi j hj => ?_⟩
    · rw [pt_erase, nm_erase]
      exact h1 _ (by rw [hlen] at hi; exact skip_lt (by omega) hi)
    · rw [pt_erase, pt_erase, nm_erase, nm_erase]
      exact h2 _ (by rw [hlen] at hi; exact skip_lt (by omega) hi) _ (skip_mono hj)
  refine ⟨hz, ?_⟩
  have e1 := costW_I (items := items) (b := l) (n := l.length) hw
  have e2 := costW_I (items := items) (b := l.eraseIdx k) (n := (l.eraseIdx k).length) (wears_within hz)
  unfold costW
  rw [e1, e2]
  unfold costI
  refine sumN_le fun i hi => ?_
  by_cases hh : hasN (l.eraseIdx k) (i : Int) (l.eraseIdx k).length = true
  · obtain ⟨j, hj, e⟩ := hasN_true.1 hh
    rw [nm_erase] at e
    have h3 : hasN l (i : Int) l.length = true := hasN_true.2 ⟨skip k j, by rw [hlen] at hj; exact skip_lt (by omega) hj, e⟩
    rw [if_pos hh, if_pos h3]
    exact Int.le_refl _
  · rw [if_neg hh]
    split
    · exact (hp i hi).1
    · exact Int.le_refl _
theorem best_less {p : Plot} {items : List Item} {parts : List Part} {k : Nat} {b : List Int} {c : Int} (hp : Priced items) (hk : k < parts.length) (h : bestP p items parts = some (b, c)) : ∃ b' c', bestP p items (parts.eraseIdx k) = some (b', c') ∧ c' ≤ c := by
  obtain ⟨q1, q2, q3, _⟩ := bestR_some h
  have q3 : b.length = parts.length := by simpa using q3
  obtain ⟨m1, m2⟩ := wears_less hp q3 hk q1
  obtain ⟨b', c', e, hle⟩ := bestP_le (by rw [List.length_eraseIdx_of_lt hk, List.length_eraseIdx_of_lt (by omega)]; omega) m1
  exact ⟨b', c', e, by omega⟩
/-- bestP looks at a plot's persons, ways and kinds alone (its parts are given) -/
theorem wearsE_parts {p q : Plot} {items : List Item} {parts : List Part} (h1 : p.persons = q.persons) (h2 : p.walk = q.walk) (h3 : p.dress = q.dress) (l : List Int) : wearsE p items parts l = wearsE q items parts l := by
  obtain ⟨a, b, c, d⟩ := p
  obtain ⟨a', b', c', d'⟩ := q
  cases h1; cases h2; cases h3
  rfl
end Go.Proofs.Ytdcinngdilfpnaa
