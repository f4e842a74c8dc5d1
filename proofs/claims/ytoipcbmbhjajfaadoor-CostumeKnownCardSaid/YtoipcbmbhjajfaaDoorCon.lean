/-
  PLAIN: a kind that has fewer items than parts of it are on at once has no valid wear. No program in sight.
  PLAIN: the cheapest wear among all wears; one item more; one part less. No program in sight.
  PLAIN: nobody is in two places; parts in any order. No program in sight.
  PLAIN: a valid wear, said pair by pair; sizes that fit. No program in sight.
  PLAIN: the list of all wears: how many, and where the cheapest stands. No program in sight.
-/
import Derived.Test.YtoipcbmbhjajfaaDoorCdp
namespace Go.Proofs.YtoipcbmbhjajfaaDoor

def cnt (P : Nat → Bool) : Nat → Int
  | 0 => 0
  | n + 1 => if P n = true then cnt P n + 1 else cnt P n
theorem cnt_congr {P Q : Nat → Bool} : ∀ {n : Nat}, (∀ i, i < n → P i = Q i) → cnt P n = cnt Q n := by
  intro n
  induction n with
  | zero => intro _; rfl
  | succ n ih => intro h; simp only [cnt, ih (fun i hi => h i (by omega)), h n (by omega)]
theorem cnt_nonneg (P : Nat → Bool) : ∀ n : Nat, 0 ≤ cnt P n ∧ cnt P n ≤ n := by
  intro n
  induction n with
  | zero => simp [cnt]
  | succ n ih => simp only [cnt]; split <;> omega
theorem cnt_remove {Q : Nat → Bool} {j : Nat} (hq : Q j = true) : ∀ {m : Nat}, j < m → cnt Q m = cnt (fun i => Q i && decide (i ≠ j)) m + 1 := by
  intro m
  induction m with
  | zero => intro h; omega
  | succ m ih =>
    intro h
    simp only [cnt]
    by_cases e : m = j
    · subst e
      have h1 : cnt (fun i => Q i && decide (i ≠ m)) m = cnt Q m := cnt_congr fun i hi => by rw [decide_eq_true (show i ≠ m by omega), Bool.and_true]
      rw [if_pos hq, if_neg (by simp), h1]
    · have h1 := ih (by omega)
      by_cases hm : Q m = true
      · rw [if_pos hm, if_pos (by simp [hm, e])]; omega
      · rw [if_neg hm, if_neg (by simp [hm])]; omega
theorem cnt_inj {P : Nat → Bool} {g : Nat → Nat} {m : Nat} : ∀ {n : Nat} {Q : Nat → Bool}, (∀ i, i < n → P i = true → g i < m ∧ Q (g i) = true) → (∀ i, i < n → ∀ k, k < i → P i = true → P k = true → g k ≠ g i) → cnt P n ≤ cnt Q m := by
  intro n
  induction n with
  | zero => intro Q _ _; exact (cnt_nonneg Q m).1
  | succ n ih =>
    intro Q h1 h2
    simp only [cnt]
    by_cases hp : P n = true
    · rw [if_pos hp]
      obtain ⟨a, b⟩ := h1 n (by omega) hp
      have h3 := ih (Q := fun i => Q i && decide (i ≠ g n)) (fun i hi hpi => by
        obtain ⟨a', b'⟩ := h1 i (by omega) hpi
        refine ⟨a', ?_⟩
        rw [b', decide_eq_true (h2 n (by omega) i hi hp hpi)]
        rfl) (fun i hi k hk => h2 i (by omega) k hk)
      have h4 := cnt_remove b a
      omega
    · rw [if_neg hp]
      exact ih (fun i hi => h1 i (by omega)) (fun i hi => h2 i (by omega))

def onK (p : Plot) (kind m : Int) (i : Nat) : Bool := decide ((pt p.parts i).kind = kind) && onB (pt p.parts i) m
theorem onN_cnt (p : Plot) (kind m : Int) : ∀ k : Nat, onN p kind m k = cnt (onK p kind m) k := by
  intro k
  induction k with
  | zero => rfl
  | succ k ih =>
    simp only [onN, cnt, ih]
    by_cases h : (pt p.parts k).kind = kind ∧ onB (pt p.parts k) m = true
    · rw [if_pos h, if_pos (by unfold onK; rw [decide_eq_true h.1, h.2]; rfl)]
    · rw [if_neg h, if_neg (by
        intro hc
        unfold onK at hc
        simp only [Bool.and_eq_true, decide_eq_true_eq] at hc
        exact h hc)]

def ofKind (items : List Item) (kind : Int) (i : Nat) : Bool := decide ((it items i).kind = kind)

/-- two parts that are on at once overlap -/
theorem between_neg {y x : Part} {m : Int} (hy : onB y m = true) (hx : onB x m = true) : betweenP y x < 0 := by
  have h1 := inB_true.1 hy
  have h2 := inB_true.1 hx
  unfold betweenP inTime
  by_cases h : x.start < y.start
  · rw [if_pos h]; show y.start - x.stop < 0; omega
  · rw [if_neg h]; show x.start - y.stop < 0; omega

theorem next_double {p : Plot} {items : List Item} {parts : List Part} {b : List Int} {n : Int} (h : nextE p items parts b n = 0) : ∀ k, k < b.length → doubleE p items (pt parts k) (pt parts b.length) (nm b k) n = 0 := by
  unfold nextE at h
  by_cases hb : singleE p items (pt parts b.length) n = 0
  · rw [if_pos hb] at h; exact firstBad_zero.1 h
  · rw [if_neg hb] at h; exact absurd h hb
theorem nm_take {b : List Int} {i k : Nat} (h : k < i) : nm (b.take i) k = nm b k := by
  unfold nm; simp [List.getD_eq_getElem?_getD, h]
/-- what a valid wear says of each part, and of each two parts -/
theorem wears_parts {p : Plot} {items : List Item} {parts : List Part} {l : List Int} (h : wearsE p items parts l = 0) :
    (∀ i, i < l.length → singleE p items (pt parts i) (nm l i) = 0) ∧ ∀ i, i < l.length → ∀ k, k < i → doubleE p items (pt parts k) (pt parts i) (nm l k) (nm l i) = 0 := by
  have h0 := firstBad_zero.1 h
  have hlen : ∀ i, i < l.length → (l.take i).length = i := fun i hi => by rw [List.length_take]; omega
  refine ⟨fun i hi => ?_, fun i hi k hk => ?_⟩
  · have h1 := next_single (h0 i hi)
    rwa [hlen i hi] at h1
  · have h1 := next_double (h0 i hi) k (by rw [hlen i hi]; exact hk)
    rwa [hlen i hi, nm_take hk] at h1
theorem single_kind {p : Plot} {items : List Item} {x : Part} {n : Int} (h : singleE p items x n = 0) : (0 ≤ n ∧ n < items.length) ∧ (it items n.toNat).kind = x.kind := by
  refine ⟨single_within h, ?_⟩
  have hw := single_within h
  unfold singleE at h
  rw [if_neg (by rw [inB_true.2 (show 0 ≤ n ∧ n ≤ (items.length : Int) - 1 by omega)]; simp)] at h
  by_cases hk : (it items n.toNat).kind = x.kind
  · exact hk
  · rw [if_neg hk] at h; cases h

theorem two_persons {p : Plot} (v : Valid p) {m : Int} {i k : Nat} (hi : i < p.parts.length) (hk : k < i) (h1 : onB (pt p.parts k) m = true) (h2 : onB (pt p.parts i) m = true) : (pt p.parts k).person ≠ (pt p.parts i).person := by
  intro hp
  have h := v.twos i hi k hk
  unfold twoE at h
  rw [if_pos hp, if_pos (between_neg h1 h2)] at h
  cases h

theorem enough_plain {p : Plot} {items : List Item} {kind m : Int} {l : List Int} (v : Valid p) (hc : ∀ i, i < items.length → 0 ≤ (it items i).clean) (hl : l.length = p.parts.length) (h : wearsE p items p.parts l = 0) :
    onAll p kind m ≤ cnt (ofKind items kind) items.length := by
  obtain ⟨h1, h2⟩ := wears_parts h
  unfold onAll
  rw [onN_cnt]
  refine cnt_inj (g := fun i => (nm l i).toNat) (fun i hi hp => ?_) (fun i hi k hk hp hpk => ?_)
  · obtain ⟨hw, hk⟩ := single_kind (h1 i (by omega))
    unfold onK at hp
    simp only [Bool.and_eq_true, decide_eq_true_eq] at hp
    refine ⟨by omega, ?_⟩
    unfold ofKind
    rw [hk, hp.1]
    exact decide_eq_true rfl
  · intro e
    have e : (nm l k).toNat = (nm l i).toNat := e
    obtain ⟨hw, _⟩ := single_kind (h1 i (by omega))
    obtain ⟨hw2, _⟩ := single_kind (h1 k (by omega))
    have e2 : nm l k = nm l i := by omega
    unfold onK at hp hpk
    simp only [Bool.and_eq_true, decide_eq_true_eq] at hp hpk
    have hd := h2 i (by omega) k hk
    unfold doubleE at hd
    rw [if_neg (two_persons v hi hk hpk.2 hp.2)] at hd
    have hcl := hc (nm l i).toNat (by omega)
    have hb := between_neg hpk.2 hp.2
    rw [if_pos ⟨e2, by omega⟩] at hd
    cases hd

/-- fewer items than parts at once: no wear -/
theorem enough_none {p : Plot} {items : List Item} {kind m : Int} (v : Valid p) (hc : ∀ i, i < items.length → 0 ≤ (it items i).clean) (h : cnt (ofKind items kind) items.length < onAll p kind m) : bestP p items p.parts = none := by
  cases hb : bestP p items p.parts with
  | none => rfl
  | some x =>
    obtain ⟨l, c⟩ := x
    obtain ⟨q1, _, q3, _⟩ := bestR_some hb
    have := enough_plain (kind := kind) (m := m) v hc (by simpa using q3) q1
    omega
end Go.Proofs.YtoipcbmbhjajfaaDoor

namespace Go.Proofs.YtoipcbmbhjajfaaDoor

def valW (p : Plot) (items : List Item) (parts : List Part) (l : List Int) : Bst := if wearsE p items parts l = 0 then some (l, costW items l) else none
def minW (p : Plot) (items : List Item) (parts : List Part) : List (List Int) → Bst
  | [] => none
  | l :: ls => mergeB (valW p items parts l) (minW p items parts ls)
theorem minW_append (p : Plot) (items : List Item) (parts : List Part) (a b : List (List Int)) : minW p items parts (a ++ b) = mergeB (minW p items parts a) (minW p items parts b) := by
  induction a with
  | nil => rfl
  | cons l a ih => simp only [List.cons_append, minW, ih, mergeB_assoc]
theorem allW_bad {p : Plot} {items : List Item} {parts : List Part} {n : Nat} : ∀ {r : Nat} {b l : List Int}, wearsE p items parts b ≠ 0 → l ∈ allW n r b → wearsE p items parts l ≠ 0 := by
  intro r
  induction r with
  | zero => intro b l h hl; rw [List.mem_singleton.1 hl]; exact h
  | succ r ih =>
    intro b l h hl
    simp only [allW, List.mem_flatMap] at hl
    obtain ⟨i, _, hi⟩ := hl
    exact ih (wearsE_bad_snoc h) hi
theorem minW_bad {p : Plot} {items : List Item} {parts : List Part} : ∀ {ls : List (List Int)}, (∀ l, l ∈ ls → wearsE p items parts l ≠ 0) → minW p items parts ls = none := by
  intro ls
  induction ls with
  | nil => intro _; rfl
  | cons l ls ih =>
    intro h
    simp only [minW]
    rw [ih (fun x hx => h x (List.mem_cons_of_mem _ hx))]
    unfold valW
    rw [if_neg (h l (List.mem_cons_self ..))]
    rfl
theorem minW_flat {p : Plot} {items : List Item} {parts : List Part} {f : Nat → Bst} {g : Nat → List (List Int)} (h : ∀ i, f i = minW p items parts (g i)) : ∀ n, mergeN f n = minW p items parts ((List.range n).flatMap g) := by
  intro n
  induction n with
  | zero => rfl
  | succ n ih =>
    rw [List.range_succ, List.flatMap_append, minW_append, ← ih]
    simp only [mergeN, List.flatMap_cons, List.flatMap_nil, List.append_nil]
    rw [h n]
theorem bestR_minW (p : Plot) (items : List Item) (parts : List Part) : ∀ (r : Nat) (b : List Int), bestR p items parts r b = minW p items parts (allW items.length r b) := by
  intro r
  induction r with
  | zero => intro b; simp only [bestR, allW, minW, valW]; rw [mergeB_none']
  | succ r ih =>
    intro b
    by_cases h : wearsE p items parts b = 0
    · simp only [bestR, allW]
      rw [if_pos h]
      exact minW_flat (fun i => ih (b ++ [(i : Int)])) items.length
    · rw [bestR_bad h, minW_bad]
      intro l hl
      exact allW_bad h hl

/-- what the least of a list of wears is -/
structure Least1 (p : Plot) (items : List Item) (parts : List Part) (L : List (List Int)) (b : List Int) (c : Int) : Prop where
  fine : wearsE p items parts b = 0
  cost : c = costW items b
  least : ∀ l, l ∈ L → wearsE p items parts l = 0 → c ≤ costW items l
  split : ∃ L1 L2, L = L1 ++ b :: L2 ∧ ∀ l, l ∈ L1 → wearsE p items parts l = 0 → c < costW items l
theorem minW_none {p : Plot} {items : List Item} {parts : List Part} : ∀ {L : List (List Int)}, minW p items parts L = none → ∀ l, l ∈ L → wearsE p items parts l ≠ 0 := by
  intro L
  induction L with
  | nil => intro _ l hl; simp at hl
  | cons x L ih =>
    intro h l hl
    simp only [minW] at h
    cases hx : valW p items parts x with
    | some y =>
      rw [hx] at h
      cases hm : minW p items parts L with
      | none => rw [hm] at h; cases h
      | some z =>
        rw [hm] at h
        obtain ⟨y1, y2⟩ := y
        obtain ⟨z1, z2⟩ := z
        simp only [mergeB] at h
        split at h <;> cases h
    | none =>
      rw [hx, mergeB_none] at h
      rcases List.mem_cons.1 hl with rfl | hl
      · intro h0
        unfold valW at hx
        rw [if_pos h0] at hx; cases hx
      · exact ih h l hl
theorem minW_some {p : Plot} {items : List Item} {parts : List Part} : ∀ {L : List (List Int)} {b : List Int} {c : Int}, minW p items parts L = some (b, c) → Least1 p items parts L b c := by
  intro L
  induction L with
  | nil => intro b c h; cases h
  | cons x L ih =>
    intro b c h
    simp only [minW] at h
    by_cases h0 : wearsE p items parts x = 0
    · have hv : valW p items parts x = some (x, costW items x) := by unfold valW; rw [if_pos h0]
      rw [hv] at h
      cases hm : minW p items parts L with
      | none =>
        rw [hm] at h
        cases h
        refine ⟨h0, rfl, fun l hl hw => ?_, [], L, rfl, fun l hl => by simp at hl⟩
        rcases List.mem_cons.1 hl with rfl | hl
        · exact Int.le_refl _
        · exact absurd hw (minW_none hm l hl)
      | some z =>
        obtain ⟨z1, z2⟩ := z
        rw [hm] at h
        have hz := ih hm
        simp only [mergeB] at h
        by_cases hlt : z2 < costW items x
        · rw [if_pos hlt] at h
          cases h
          obtain ⟨L1, L2, e, h1⟩ := hz.split
          refine ⟨hz.fine, hz.cost, fun l hl hw => ?_, x :: L1, L2, by rw [e]; rfl, fun l hl hw => ?_⟩
          · rcases List.mem_cons.1 hl with rfl | hl
            · omega
            · exact hz.least l hl hw
          · rcases List.mem_cons.1 hl with rfl | hl
            · exact hlt
            · exact h1 l hl hw
        · rw [if_neg hlt] at h
          cases h
          refine ⟨h0, rfl, fun l hl hw => ?_, [], L, rfl, fun l hl => by simp at hl⟩
          rcases List.mem_cons.1 hl with rfl | hl
          · exact Int.le_refl _
          · have := hz.least l hl hw; omega
    · have hv : valW p items parts x = none := by unfold valW; rw [if_neg h0]
      rw [hv, mergeB_none] at h
      have hz := ih h
      obtain ⟨L1, L2, e, h1⟩ := hz.split
      refine ⟨hz.fine, hz.cost, fun l hl hw => ?_, x :: L1, L2, by rw [e]; rfl, fun l hl hw => ?_⟩
      · rcases List.mem_cons.1 hl with rfl | hl
        · exact absurd hw h0
        · exact hz.least l hl hw
      · rcases List.mem_cons.1 hl with rfl | hl
        · exact absurd hw h0
        · exact h1 l hl hw

/-- all wears: every list of so many numbers of items -/
theorem allW_mem {n : Nat} : ∀ {r : Nat} {b l : List Int}, l ∈ allW n r b ↔ ∃ u, l = b ++ u ∧ u.length = r ∧ ∀ x, x ∈ u → 0 ≤ x ∧ x < n := by
  intro r
  induction r with
  | zero =>
    intro b l
    simp only [allW, List.mem_singleton]
    constructor
    · rintro rfl; exact ⟨[], by simp, rfl, fun x h => by simp at h⟩
    · rintro ⟨u, e, hl, _⟩
      obtain rfl := List.eq_nil_of_length_eq_zero hl
      simpa using e
  | succ r ih =>
    intro b l
    simp only [allW, List.mem_flatMap, List.mem_range]
    constructor
    · rintro ⟨i, hi, h⟩
      obtain ⟨u, e, hl, hb⟩ := ih.1 h
      refine ⟨(i : Int) :: u, by rw [e]; simp, by simp [hl], fun x hx => ?_⟩
      rcases List.mem_cons.1 hx with rfl | hx
      · omega
      · exact hb x hx
    · rintro ⟨u, e, hl, hb⟩
      cases u with
      | nil => simp at hl
      | cons x u =>
        have hx := hb x (List.mem_cons_self ..)
        refine ⟨x.toNat, by omega, ih.2 ⟨u, ?_, by simpa using hl, fun y hy => hb y (List.mem_cons_of_mem _ hy)⟩⟩
        have ex : ((x.toNat : Nat) : Int) = x := Int.toNat_of_nonneg hx.1
        rw [e, ex]; simp
theorem mem_nm {l : List Int} {x : Int} (h : x ∈ l) : ∃ i, i < l.length ∧ nm l i = x := by
  obtain ⟨i, hi, e⟩ := List.mem_iff_getElem.1 h
  exact ⟨i, hi, (nm_get hi).trans e⟩
/-- the cheapest wear costs no more than any valid one -/
theorem bestP_le {p : Plot} {items : List Item} {parts : List Part} {l : List Int} (hl : l.length = parts.length) (h : wearsE p items parts l = 0) : ∃ b c, bestP p items parts = some (b, c) ∧ c ≤ costW items l := by
  have hm : l ∈ allW items.length parts.length [] := allW_mem.2 ⟨l, rfl, hl, fun x hx => by
    obtain ⟨i, hi, e⟩ := mem_nm hx
    rw [← e]; exact wears_within h i hi⟩
  unfold bestP
  rw [bestR_minW]
  cases hb : minW p items parts (allW items.length parts.length []) with
  | none => exact absurd h (minW_none hb l hm)
  | some x =>
    obtain ⟨b, c⟩ := x
    exact ⟨b, c, rfl, (minW_some hb).least l hm h⟩

theorem wears_iff {p : Plot} {items : List Item} {parts : List Part} {l : List Int} : wearsE p items parts l = 0 ↔
    (∀ i, i < l.length → singleE p items (pt parts i) (nm l i) = 0) ∧ ∀ i, i < l.length → ∀ k, k < i → doubleE p items (pt parts k) (pt parts i) (nm l k) (nm l i) = 0 := by
  refine ⟨wears_parts, fun ⟨h1, h2⟩ => firstBad_zero.2 fun i hi => ?_⟩
  have hlen : (l.take i).length = i := by rw [List.length_take]; omega
  unfold nextE
  rw [hlen, if_pos (h1 i hi)]
  exact firstBad_zero.2 fun k hk => by rw [nm_take hk]; exact h2 i hi k hk

/-! ### one item more -/
theorem it_old {items : List Item} {x : Item} {i : Nat} (h : i < items.length) : it (items ++ [x]) i = it items i := by
  unfold it
  rw [List.getD_eq_getElem?_getD, List.getD_eq_getElem?_getD, List.getElem?_append_left h]
theorem it_new (items : List Item) (x : Item) : it (items ++ [x]) items.length = x := by
  unfold it
  rw [List.getD_eq_getElem?_getD, List.getElem?_append_right (Nat.le_refl _)]; simp
theorem single_more {p : Plot} {items : List Item} {x : Item} {y : Part} {n : Int} (h : singleE p items y n = 0) : singleE p (items ++ [x]) y n = 0 := by
  have hw := single_within h
  have e : it (items ++ [x]) n.toNat = it items n.toNat := it_old (by omega)
  unfold singleE at h ⊢
  rw [if_neg (by rw [inB_true.2 (show 0 ≤ n ∧ n ≤ (items.length : Int) - 1 by omega)]; simp)] at h
  rw [if_neg (by rw [inB_true.2 (show 0 ≤ n ∧ n ≤ ((items ++ [x]).length : Int) - 1 by simp; omega)]; simp), e]
  exact h
theorem wears_more {p : Plot} {items : List Item} {x : Item} {parts : List Part} {l : List Int} (h : wearsE p items parts l = 0) : wearsE p (items ++ [x]) parts l = 0 ∧ costW (items ++ [x]) l = costW items l := by
  have hw := wears_within h
  obtain ⟨h1, h2⟩ := wears_parts h
  refine ⟨wears_iff.2 ⟨fun i hi => single_more (h1 i hi), fun i hi k hk => ?_⟩, ?_⟩
  · have h3 := h2 i hi k hk
    have h4 := hw i hi
    unfold doubleE at h3 ⊢
    rw [it_old (by omega)]
    exact h3
  · unfold costW
    refine sumN_congr fun k hk => ?_
    have h4 := hw k hk
    unfold costAt
    rw [it_old (by omega)]
theorem best_more {p : Plot} {items : List Item} {x : Item} {parts : List Part} {b : List Int} {c : Int} (h : bestP p items parts = some (b, c)) : ∃ b' c', bestP p (items ++ [x]) parts = some (b', c') ∧ c' ≤ c := by
  obtain ⟨q1, q2, q3, _⟩ := bestR_some h
  obtain ⟨m1, m2⟩ := wears_more (x := x) q1
  obtain ⟨b', c', e, hle⟩ := bestP_le (by simpa using q3) m1
  exact ⟨b', c', e, by omega⟩

/-! ### one part less -/
def skip (k i : Nat) : Nat := if i < k then i else i + 1
theorem pt_erase (parts : List Part) (k i : Nat) : pt (parts.eraseIdx k) i = pt parts (skip k i) := by
  unfold pt skip
  rw [List.getD_eq_getElem?_getD, List.getD_eq_getElem?_getD, List.getElem?_eraseIdx]
  split <;> rfl
theorem nm_erase (l : List Int) (k i : Nat) : nm (l.eraseIdx k) i = nm l (skip k i) := by
  unfold nm skip
  rw [List.getD_eq_getElem?_getD, List.getD_eq_getElem?_getD, List.getElem?_eraseIdx]
  split <;> rfl
theorem skip_lt {k i n : Nat} (hk : k < n) (hi : i < n - 1) : skip k i < n := by unfold skip; split <;> omega
theorem skip_mono {k i j : Nat} (h : j < i) : skip k j < skip k i := by unfold skip; split <;> split <;> omega
theorem sumN_le {f g : Nat → Int} : ∀ {n : Nat}, (∀ i, i < n → f i ≤ g i) → sumN f n ≤ sumN g n := by
  intro n
  induction n with
  | zero => intro _; exact Int.le_refl _
  | succ n ih =>
    intro h
    have h1 := ih (fun i hi => h i (by omega))
    have h2 := h n (by omega)
    simp only [sumN]; omega
theorem wears_less {p : Plot} {items : List Item} {parts : List Part} {l : List Int} {k : Nat} (hp : Priced items) (hl : l.length = parts.length) (hk : k < parts.length) (h : wearsE p items parts l = 0) :
    wearsE p items (parts.eraseIdx k) (l.eraseIdx k) = 0 ∧ costW items (l.eraseIdx k) ≤ costW items l := by
  have hw := wears_within h
  obtain ⟨h1, h2⟩ := wears_parts h
  have hlen : (l.eraseIdx k).length = l.length - 1 := List.length_eraseIdx_of_lt (by omega)
  have hz : wearsE p items (parts.eraseIdx k) (l.eraseIdx k) = 0 := by
    refine wears_iff.2 ⟨fun i hi => ?_, fun i hi j hj => ?_⟩
    · rw [pt_erase, nm_erase]
      exact h1 _ (by rw [hlen] at hi; exact skip_lt (by omega) hi)
    · rw [pt_erase, pt_erase, nm_erase, nm_erase]
      exact h2 _ (by rw [hlen] at hi; exact skip_lt (by omega) hi) _ (skip_mono hj)
  refine ⟨hz, ?_⟩
  have e1 := costW_I (items := items) (b := l) (n := l.length) hw
  have e2 := costW_I (items := items) (b := l.eraseIdx k) (n := (l.eraseIdx k).length) (wears_within hz)
  unfold costW
  rw [e1, e2]
  unfold costI
  refine sumN_le fun i hi => ?_
  by_cases hh : hasN (l.eraseIdx k) (i : Int) (l.eraseIdx k).length = true
  · obtain ⟨j, hj, e⟩ := hasN_true.1 hh
    rw [nm_erase] at e
    have h3 : hasN l (i : Int) l.length = true := hasN_true.2 ⟨skip k j, by rw [hlen] at hj; exact skip_lt (by omega) hj, e⟩
    rw [if_pos hh, if_pos h3]
    exact Int.le_refl _
  · rw [if_neg hh]
    split
    · exact (hp i hi).1
    · exact Int.le_refl _
theorem best_less {p : Plot} {items : List Item} {parts : List Part} {k : Nat} {b : List Int} {c : Int} (hp : Priced items) (hk : k < parts.length) (h : bestP p items parts = some (b, c)) : ∃ b' c', bestP p items (parts.eraseIdx k) = some (b', c') ∧ c' ≤ c := by
  obtain ⟨q1, q2, q3, _⟩ := bestR_some h
  have q3 : b.length = parts.length := by simpa using q3
  obtain ⟨m1, m2⟩ := wears_less hp q3 hk q1
  obtain ⟨b', c', e, hle⟩ := bestP_le (by rw [List.length_eraseIdx_of_lt hk, List.length_eraseIdx_of_lt (by omega)]; omega) m1
  exact ⟨b', c', e, by omega⟩
/-- bestP looks at a plot's persons, ways and kinds alone (its parts are given) -/
theorem wearsE_parts {p q : Plot} {items : List Item} {parts : List Part} (h1 : p.persons = q.persons) (h2 : p.walk = q.walk) (h3 : p.dress = q.dress) (l : List Int) : wearsE p items parts l = wearsE q items parts l := by
  obtain ⟨a, b, c, d⟩ := p
  obtain ⟨a', b', c', d'⟩ := q
  cases h1; cases h2; cases h3
  rfl
end Go.Proofs.YtoipcbmbhjajfaaDoor

namespace Go.Proofs.YtoipcbmbhjajfaaDoor

theorem bestP_parts {p q : Plot} {items : List Item} (h1 : p.persons = q.persons) (h2 : p.walk = q.walk) (h3 : p.dress = q.dress) (parts : List Part) : bestP p items parts = bestP q items parts := by
  obtain ⟨a, b, c, d⟩ := p
  obtain ⟨a', b', c', d'⟩ := q
  cases h1; cases h2; cases h3
  have h : ∀ (r : Nat) (l : List Int), bestR ⟨a, b, c, d⟩ items parts r l = bestR ⟨a, b, c, d'⟩ items parts r l := by
    intro r
    induction r with
    | zero => intro l; rfl
    | succ r ih =>
      intro l
      simp only [bestR]
      have e : (fun i : Nat => bestR ⟨a, b, c, d⟩ items parts r (l ++ [(i : Int)])) = fun i : Nat => bestR ⟨a, b, c, d'⟩ items parts r (l ++ [(i : Int)]) := funext fun i => ih _
      rw [e]
      rfl
  exact h _ _

/-- the way from part a to part b, and into another costume -/
def needP (p : Plot) (a b : Part) : Int := nm (lst p.walk a.place.toNat) b.place.toNat + if a.kind = b.kind then 0 else nm p.dress b.kind.toNat
theorem twoE_split {p : Plot} {y x : Part} (hp : y.person = x.person) : twoE p y x = 0 ↔ 0 ≤ betweenP y x ∧ wayP p y x (decide (y.kind ≠ x.kind)) ≤ betweenP y x := by
  unfold twoE
  rw [if_pos hp]
  constructor
  · intro h
    by_cases h1 : betweenP y x < 0
    · rw [if_pos h1] at h; cases h
    · rw [if_neg h1] at h
      by_cases h2 : betweenP y x < wayP p y x (decide (y.kind ≠ x.kind))
      · rw [if_pos h2] at h; cases h
      · omega
  · rintro ⟨h1, h2⟩
    rw [if_neg (by omega), if_neg (by omega)]
/-- two parts of a person, the first of which begins first -/
def Apart2 (p : Plot) (a b : Part) : Prop := a.start < b.start ∧ 0 ≤ b.start - a.stop ∧ needP p a b ≤ b.start - a.stop
theorem inTime_lt {y x : Part} (h : y.start < x.start) : inTime y x = (y, x) := by unfold inTime; rw [if_neg (by omega)]
theorem inTime_gt {y x : Part} (h : x.start < y.start) : inTime y x = (x, y) := by unfold inTime; rw [if_pos h]
theorem way_need_lt {p : Plot} {y x : Part} (h : y.start < x.start) : wayP p y x (decide (y.kind ≠ x.kind)) = needP p y x := by
  unfold wayP needP
  rw [inTime_lt h]
  by_cases e : y.kind = x.kind
  · rw [if_pos e, if_neg (by simp [e])]
  · rw [if_neg e, if_pos (by simp [e])]
theorem way_need_gt {p : Plot} {y x : Part} (h : x.start < y.start) : wayP p y x (decide (y.kind ≠ x.kind)) = needP p x y := by
  unfold wayP needP
  rw [inTime_gt h]
  by_cases e : y.kind = x.kind
  · rw [if_pos e.symm, if_neg (by simp [e])]
  · rw [if_neg (Ne.symm e), if_pos (by simp [e])]
theorem twoE_apart {p : Plot} {y x : Part} (hp : y.person = x.person) (hy : y.start < y.stop) (_ : x.start < x.stop) : twoE p y x = 0 ↔ Apart2 p y x ∨ Apart2 p x y := by
  rw [twoE_split hp]
  rcases Int.lt_trichotomy y.start x.start with h | h | h
  · rw [way_need_lt h]
    unfold betweenP
    rw [inTime_lt h]
    constructor
    · rintro ⟨h1, h2⟩; exact .inl ⟨h, h1, h2⟩
    · rintro (⟨_, h1, h2⟩ | ⟨h1, _⟩)
      · exact ⟨h1, h2⟩
      · omega
  · constructor
    · rintro ⟨h1, _⟩
      unfold betweenP inTime at h1
      rw [if_neg (by omega)] at h1
      have h1 : 0 ≤ x.start - y.stop := h1
      omega
    · rintro (⟨h1, _⟩ | ⟨h1, _⟩) <;> omega
  · rw [way_need_gt h]
    unfold betweenP
    rw [inTime_gt h]
    constructor
    · rintro ⟨h1, h2⟩; exact .inr ⟨h, h1, h2⟩
    · rintro (⟨h1, _⟩ | ⟨_, h1, h2⟩)
      · omega
      · exact ⟨h1, h2⟩
theorem alone_span {p : Plot} {x : Part} (h : aloneE p x = 0) : x.start < x.stop := (aloneE_zero h).2.2.2.2.2
/-- what a valid plot says of two parts of one person -/
theorem valid_apart {p : Plot} (v : Valid p) {i k : Nat} (hi : i < p.parts.length) (hk : k < p.parts.length) (hne : i ≠ k) (hp : (pt p.parts i).person = (pt p.parts k).person) : Apart2 p (pt p.parts i) (pt p.parts k) ∨ Apart2 p (pt p.parts k) (pt p.parts i) := by
  have hi0 := alone_span (v.parts i hi)
  have hk0 := alone_span (v.parts k hk)
  rcases Nat.lt_or_gt_of_ne hne with h | h
  · exact (twoE_apart hp hi0 hk0).1 (v.twos k hk i h)
  · exact ((twoE_apart hp.symm hk0 hi0).1 (v.twos i hi k h)).symm
theorem apart_le {p : Plot} (v : Valid p) {i k : Nat} (hi : i < p.parts.length) (hk : k < p.parts.length) (hne : i ≠ k) (hp : (pt p.parts i).person = (pt p.parts k).person) (hs : (pt p.parts i).start ≤ (pt p.parts k).start) : Apart2 p (pt p.parts i) (pt p.parts k) := by
  rcases valid_apart v hi hk hne hp with h | h
  · exact h
  · have := h.1; omega

/-- parts that follow each other in a day -/
theorem day_apart {p : Plot} (v : Valid p) {n : Int} {i j : Nat} (hij : i < j) (hj : j < (dayL p n).length) : Apart2 p (pt p.parts (nm (dayL p n) i).toNat) (pt p.parts (nm (dayL p n) j).toNat) := by
  have hs := pair_get (dayL_sorted p n) hij hj
  have m1 := (dayL_mem p n (nm (dayL p n) i)).1 (by rw [nm_get (by omega)]; exact List.getElem_mem _)
  have m2 := (dayL_mem p n (nm (dayL p n) j)).1 (by rw [nm_get hj]; exact List.getElem_mem _)
  refine apart_le v (by omega) (by omega) (fun e => ?_) (m1.2.trans m2.2.symm) hs.le
  have e2 : nm (dayL p n) i = nm (dayL p n) j := by omega
  rw [e2] at hs
  exact hs.irrefl
theorem on_one {p : Plot} (v : Valid p) {i k : Nat} {m : Int} (hi : i < p.parts.length) (hk : k < p.parts.length) (hp : (pt p.parts i).person = (pt p.parts k).person) (h1 : onB (pt p.parts i) m = true) (h2 : onB (pt p.parts k) m = true) : i = k := by
  rcases Nat.lt_trichotomy i k with h | h | h
  · exact absurd hp (two_persons v hk h h1 h2)
  · exact h
  · exact absurd hp.symm (two_persons v hi h h2 h1)

/-! ### parts in another order -/
/-- q has p's parts in the order s -/
structure Turned (p q : Plot) (s : Nat → Nat) : Prop where
  persons : q.persons = p.persons
  walk : q.walk = p.walk
  dress : q.dress = p.dress
  len : q.parts.length = p.parts.length
  part : ∀ i, i < p.parts.length → pt q.parts i = pt p.parts (s i)
  lt : ∀ i, i < p.parts.length → s i < p.parts.length
  inj : ∀ i k, i < p.parts.length → k < p.parts.length → s i = s k → i = k
theorem need_turned {p q : Plot} {s : Nat → Nat} (t : Turned p q s) (a b : Part) : needP q a b = needP p a b := by unfold needP; rw [t.walk, t.dress]
theorem alone_turned {p q : Plot} {s : Nat → Nat} (t : Turned p q s) (x : Part) : aloneE q x = aloneE p x := by unfold aloneE; rw [t.persons, t.walk, t.dress]
theorem Turned.valid {p q : Plot} {s : Nat → Nat} (t : Turned p q s) (v : Valid p) : Valid q := by
  refine ⟨by rw [t.persons]; exact v.persons, by rw [t.persons]; exact v.figures, by rw [t.walk]; exact v.walk, ?_, by rw [t.dress]; exact v.dress, by rw [t.dress]; exact v.dresses, by rw [t.len]; exact v.few, fun i hi => ?_, fun i hi k hk => ?_⟩
  · rw [t.walk]
    intro i hi
    have h := v.rows i hi
    unfold rowE at h ⊢
    exact h
  · rw [t.len] at hi
    rw [alone_turned t, t.part i hi]
    exact v.parts _ (t.lt i hi)
  · rw [t.len] at hi
    have hk' : k < p.parts.length := by omega
    rw [t.part i hi, t.part k hk']
    have si := t.lt i hi
    have sk := t.lt k hk'
    have hne : s k ≠ s i := fun e => by have := t.inj k i hk' hi e; omega
    by_cases hp : (pt p.parts (s k)).person = (pt p.parts (s i)).person
    · have h0 := alone_span (v.parts _ si)
      have h1 := alone_span (v.parts _ sk)
      refine (twoE_apart hp h1 h0).2 ?_
      rcases valid_apart v sk si hne hp with h | h
      · exact .inl ⟨h.1, h.2.1, by rw [need_turned t]; exact h.2.2⟩
      · exact .inr ⟨h.1, h.2.1, by rw [need_turned t]; exact h.2.2⟩
    · unfold twoE; rw [if_neg hp]

theorem cnt_all : ∀ n : Nat, cnt (fun _ => true) n = n := by
  intro n
  induction n with
  | zero => rfl
  | succ n ih => simp only [cnt, ih, if_true]; omega
theorem cnt_not (P : Nat → Bool) : ∀ n : Nat, cnt P n + cnt (fun i => !P i) n = n := by
  intro n
  induction n with
  | zero => rfl
  | succ n ih =>
    simp only [cnt]
    by_cases h : P n = true
    · rw [if_pos h, if_neg (by simp [h])]; omega
    · rw [if_neg h, if_pos (by simp [h])]; omega
/-- numbers below n, each once -/
structure Perm1 (n : Nat) (s : Nat → Nat) : Prop where
  lt : ∀ i, i < n → s i < n
  inj : ∀ i k, i < n → k < n → s i = s k → i = k
theorem cnt_perm_le {n : Nat} {s : Nat → Nat} (h : Perm1 n s) (P : Nat → Bool) : cnt (fun i => P (s i)) n ≤ cnt P n :=
  cnt_inj (g := s) (fun i hi hp => ⟨h.lt i hi, hp⟩) (fun i hi k hk _ _ e => by have := h.inj k i (by omega) hi e; omega)
theorem cnt_perm {n : Nat} {s : Nat → Nat} (h : Perm1 n s) (P : Nat → Bool) : cnt (fun i => P (s i)) n = cnt P n := by
  have h1 := cnt_perm_le h P
  have h2 := cnt_perm_le h (fun i => !P i)
  have h3 := cnt_not P n
  have h4 := cnt_not (fun i => P (s i)) n
  omega
theorem perm_onto {n : Nat} {s : Nat → Nat} (h : Perm1 n s) {j : Nat} (hj : j < n) : ∃ i, i < n ∧ s i = j := by
  refine Classical.byContradiction fun hc => ?_
  have hne : ∀ i, i < n → s i ≠ j := fun i hi e => hc ⟨i, hi, e⟩
  have h1 : cnt (fun _ => true) n ≤ cnt (fun i => true && decide (i ≠ j)) n :=
    cnt_inj (g := s) (fun i hi _ => ⟨h.lt i hi, by simp [hne i hi]⟩) (fun i hi k hk _ _ e => by have := h.inj k i (by omega) hi e; omega)
  have h2 := cnt_remove (Q := fun _ => true) (j := j) rfl hj
  omega
theorem Turned.perm {p q : Plot} {s : Nat → Nat} (t : Turned p q s) : Perm1 p.parts.length s := ⟨t.lt, t.inj⟩
theorem turned_onAll {p q : Plot} {s : Nat → Nat} (t : Turned p q s) (kind m : Int) : onAll q kind m = onAll p kind m := by
  unfold onAll
  rw [onN_cnt, onN_cnt, t.len, ← cnt_perm t.perm (onK p kind m)]
  refine cnt_congr fun i hi => ?_
  unfold onK
  rw [t.part i hi]
theorem turned_most {p q : Plot} {s : Nat → Nat} (t : Turned p q s) (kind : Int) : ∀ m : Nat, mostN q kind m = mostN p kind m := by
  intro m
  induction m with
  | zero => rfl
  | succ m ih => simp only [mostN, ih, turned_onAll t]
theorem turned_day {p q : Plot} {s : Nat → Nat} (t : Turned p q s) (v : Valid p) (n : Int) : (dayL q n).map (fun i => ((s i.toNat : Nat) : Int)) = dayL p n := by
  have vq := t.valid v
  refine sorted_ext (f := startOf p) ?_ (dayL_sorted p n) fun i => ?_
  · rw [List.pairwise_map]
    refine (dayL_sorted q n).imp_of_mem fun {a b} ha hb hab => ?_
    obtain ⟨a1, a2⟩ := (dayL_mem q n a).1 ha
    obtain ⟨b1, b2⟩ := (dayL_mem q n b).1 hb
    have hne : a.toNat ≠ b.toNat := fun e => by
      have : a = b := by omega
      subst this
      exact hab.irrefl
    have h := (apart_le vq (i := a.toNat) (k := b.toNat) (by omega) (by omega) hne (a2.trans b2.symm) hab.le).1
    refine .inl ?_
    unfold startOf
    rw [Int.toNat_natCast, Int.toNat_natCast, ← t.part _ (by rw [← t.len]; omega), ← t.part _ (by rw [← t.len]; omega)]
    exact h
  · rw [List.mem_map, dayL_mem]
    constructor
    · rintro ⟨a, ha, rfl⟩
      obtain ⟨a1, a2⟩ := (dayL_mem q n a).1 ha
      have hl : a.toNat < p.parts.length := by rw [← t.len]; omega
      rw [Int.toNat_natCast, ← t.part _ hl]
      have := t.lt _ hl
      exact ⟨by omega, a2⟩
    · rintro ⟨h1, h2⟩
      obtain ⟨a, ha, e⟩ := perm_onto t.perm (j := i.toNat) (by omega)
      refine ⟨(a : Int), (dayL_mem q n _).2 ⟨by rw [t.len]; omega, ?_⟩, ?_⟩
      · rw [Int.toNat_natCast, t.part a ha, e]; exact h2
      · rw [Int.toNat_natCast, e]; exact Int.toNat_of_nonneg h1.1
end Go.Proofs.YtoipcbmbhjajfaaDoor

namespace Go.Proofs.YtoipcbmbhjajfaaDoor

/-- part i begins first (of two that begin together, the one that stands first) -/
def Lead (parts : List Part) (i k : Nat) : Prop := (pt parts i).start < (pt parts k).start ∨ (pt parts i).start = (pt parts k).start ∧ i < k
def PairOk (p : Plot) (items : List Item) (parts : List Part) (l : List Int) (i k : Nat) : Prop :=
  ((pt parts i).person ≠ (pt parts k).person → nm l i = nm l k → (pt parts i).stop + (it items (nm l i).toNat).clean ≤ (pt parts k).start) ∧
  ((pt parts i).person = (pt parts k).person → (pt parts i).kind = (pt parts k).kind → nm l i ≠ nm l k → (pt parts i).stop + nm (lst p.walk (pt parts i).place.toNat) (pt parts k).place.toNat + nm p.dress (pt parts k).kind.toNat ≤ (pt parts k).start)
theorem lead_or {parts : List Part} {i k : Nat} (h : i ≠ k) : Lead parts i k ∨ Lead parts k i := by unfold Lead; omega
theorem lead_not {parts : List Part} {i k : Nat} (h : Lead parts i k) : ¬ Lead parts k i := by unfold Lead at *; omega

theorem double_pair {p : Plot} {items : List Item} {parts : List Part} {l : List Int} {i k : Nat} (hk : k < i) :
    doubleE p items (pt parts k) (pt parts i) (nm l k) (nm l i) = 0 ↔ (Lead parts k i → PairOk p items parts l k i) ∧ (Lead parts i k → PairOk p items parts l i k) := by
  obtain ⟨y, hy⟩ : ∃ y, pt parts k = y := ⟨_, rfl⟩
  obtain ⟨x, hx⟩ : ∃ x, pt parts i = x := ⟨_, rfl⟩
  obtain ⟨m, hm⟩ : ∃ m, nm l k = m := ⟨_, rfl⟩
  obtain ⟨n, hn⟩ : ∃ n, nm l i = n := ⟨_, rfl⟩
  unfold doubleE PairOk Lead
  rw [hy, hx, hm, hn]
  by_cases hlt : x.start < y.start
  · have hb : betweenP y x = y.start - x.stop := by unfold betweenP; rw [inTime_gt hlt]
    have hw : wayP p y x true = nm (lst p.walk x.place.toNat) y.place.toNat + nm p.dress y.kind.toNat := by unfold wayP; rw [inTime_gt hlt, if_pos rfl]
    rw [hb, hw]
    by_cases hp : y.person = x.person
    · rw [if_pos hp]
      constructor
      · intro h
        refine ⟨fun hl => by omega, fun _ => ⟨fun hpn _ => absurd hp.symm hpn, fun _ hkd hmn => ?_⟩⟩
        by_cases hc : y.kind = x.kind ∧ m ≠ n ∧ y.start - x.stop < nm (lst p.walk x.place.toNat) y.place.toNat + nm p.dress y.kind.toNat
        · rw [if_pos hc] at h; cases h
        · have : ¬ (y.start - x.stop < nm (lst p.walk x.place.toNat) y.place.toNat + nm p.dress y.kind.toNat) := fun h2 => hc ⟨hkd.symm, Ne.symm hmn, h2⟩
          omega
      · rintro ⟨_, h⟩
        refine if_neg ?_
        rintro ⟨hkd, hmn, h2⟩
        have := (h (.inl hlt)).2 hp.symm hkd.symm (Ne.symm hmn)
        omega
    · rw [if_neg hp]
      constructor
      · intro h
        refine ⟨fun hl => by omega, fun _ => ⟨fun _ hmn => ?_, fun hpn => absurd hpn.symm hp⟩⟩
        by_cases hc : m = n ∧ y.start - x.stop < (it items n.toNat).clean
        · rw [if_pos hc] at h; cases h
        · have : ¬ (y.start - x.stop < (it items n.toNat).clean) := fun h2 => hc ⟨hmn.symm, h2⟩
          omega
      · rintro ⟨_, h⟩
        refine if_neg ?_
        rintro ⟨hmn, h2⟩
        have := (h (.inl hlt)).1 (Ne.symm hp) hmn.symm
        omega
  · have ht : inTime y x = (y, x) := by unfold inTime; rw [if_neg hlt]
    have hb : betweenP y x = x.start - y.stop := by unfold betweenP; rw [ht]
    have hw : wayP p y x true = nm (lst p.walk y.place.toNat) x.place.toNat + nm p.dress x.kind.toNat := by unfold wayP; rw [ht, if_pos rfl]
    have hlead : y.start < x.start ∨ y.start = x.start ∧ k < i := by omega
    rw [hb, hw]
    by_cases hp : y.person = x.person
    · rw [if_pos hp]
      constructor
      · intro h
        refine ⟨fun _ => ⟨fun hpn _ => absurd hp hpn, fun _ hkd hmn => ?_⟩, fun hl => by omega⟩
        by_cases hc : y.kind = x.kind ∧ m ≠ n ∧ x.start - y.stop < nm (lst p.walk y.place.toNat) x.place.toNat + nm p.dress x.kind.toNat
        · rw [if_pos hc] at h; cases h
        · have : ¬ (x.start - y.stop < nm (lst p.walk y.place.toNat) x.place.toNat + nm p.dress x.kind.toNat) := fun h2 => hc ⟨hkd, hmn, h2⟩
          omega
      · rintro ⟨h, _⟩
        refine if_neg ?_
        rintro ⟨hkd, hmn, h2⟩
        have := (h hlead).2 hp hkd hmn
        omega
    · rw [if_neg hp]
      constructor
      · intro h
        refine ⟨fun _ => ⟨fun _ hmn => ?_, fun hpn => absurd hpn hp⟩, fun hl => by omega⟩
        by_cases hc : m = n ∧ x.start - y.stop < (it items n.toNat).clean
        · rw [if_pos hc] at h; cases h
        · have : ¬ (x.start - y.stop < (it items n.toNat).clean) := fun h2 => hc ⟨hmn, h2⟩
          rw [hmn]; omega
      · rintro ⟨h, _⟩
        refine if_neg ?_
        rintro ⟨hmn, h2⟩
        have := (h hlead).1 hp hmn
        rw [hmn] at this
        omega

def insideB (s f : Int × Int) : Bool := decide (f.1 ≤ s.1) && decide (s.2 ≤ f.2)
theorem single_fine {p : Plot} {items : List Item} {x : Part} {n : Int} (hn : 0 ≤ n ∧ n < items.length) :
    singleE p items x n = 0 ↔ (it items n.toNat).kind = x.kind ∧ (it items n.toNat).lo ≤ (sp p.persons x.person.toNat).1 ∧ (sp p.persons x.person.toNat).2 ≤ (it items n.toNat).hi := by
  unfold singleE
  rw [if_neg (by rw [inB_true.2 (show 0 ≤ n ∧ n ≤ (items.length : Int) - 1 by omega)]; simp)]
  by_cases hk : (it items n.toNat).kind = x.kind
  · rw [if_pos hk]
    unfold fitE
    by_cases h1 : (it items n.toNat).lo ≤ (sp p.persons x.person.toNat).1 ∧ (sp p.persons x.person.toNat).2 ≤ (it items n.toNat).hi
    · rw [if_pos h1]
      exact ⟨fun _ => ⟨hk, h1⟩, fun _ => rfl⟩
    · rw [if_neg h1]
      refine ⟨fun h => ?_, fun h => absurd h.2 h1⟩
      by_cases h2 : (it items n.toNat).hi < (sp p.persons x.person.toNat).1 ∨ (sp p.persons x.person.toNat).2 < (it items n.toNat).lo
      · rw [if_pos h2] at h; cases h
      · rw [if_neg h2] at h; cases h
  · rw [if_neg hk]
    exact ⟨(fun h => by cases h), fun h => absurd h.1 hk⟩
/-- a wear of items that there are is valid just so -/
theorem wears_fine {p : Plot} {items : List Item} {parts : List Part} {l : List Int} (hw : Within items l) : wearsE p items parts l = 0 ↔
    (∀ i, i < l.length → (it items (nm l i).toNat).kind = (pt parts i).kind ∧ (it items (nm l i).toNat).lo ≤ (sp p.persons (pt parts i).person.toNat).1 ∧ (sp p.persons (pt parts i).person.toNat).2 ≤ (it items (nm l i).toNat).hi) ∧
    ∀ i, i < l.length → ∀ k, k < l.length → Lead parts i k → PairOk p items parts l i k := by
  rw [wears_iff]
  constructor
  · rintro ⟨h1, h2⟩
    refine ⟨fun i hi => (single_fine (hw i hi)).1 (h1 i hi), fun i hi k hk hl => ?_⟩
    have hne : i ≠ k := by rintro rfl; exact lead_not hl hl
    rcases Nat.lt_or_gt_of_ne hne with h | h
    · exact ((double_pair h).1 (h2 k hk i h)).1 hl
    · exact ((double_pair h).1 (h2 i hi k h)).2 hl
  · rintro ⟨h1, h2⟩
    exact ⟨fun i hi => (single_fine (hw i hi)).2 (h1 i hi), fun i hi k hk => (double_pair hk).2 ⟨h2 k (by omega) i hi, h2 i hi k (by omega)⟩⟩

/-! ### sizes -/
theorem fit_all {x : Item} {s : Int × Int} (hs : s.1 ≤ s.2) : fitE x s = 1 ↔ ∀ z, s.1 ≤ z → z ≤ s.2 → x.lo ≤ z ∧ z ≤ x.hi := by
  unfold fitE
  constructor
  · intro h z h1 h2
    by_cases h3 : x.lo ≤ s.1 ∧ s.2 ≤ x.hi
    · omega
    · rw [if_neg h3] at h
      split at h <;> cases h
  · intro h
    have h1 := h s.1 (Int.le_refl _) hs
    have h2 := h s.2 hs (Int.le_refl _)
    rw [if_pos ⟨h1.1, h2.2⟩]
theorem fit_none {x : Item} {s : Int × Int} (hs : s.1 ≤ s.2) (hx : x.lo ≤ x.hi) : fitE x s = 2 ↔ ∀ z, s.1 ≤ z → z ≤ s.2 → ¬ (x.lo ≤ z ∧ z ≤ x.hi) := by
  unfold fitE
  constructor
  · intro h z h1 h2 h3
    by_cases h4 : x.lo ≤ s.1 ∧ s.2 ≤ x.hi
    · rw [if_pos h4] at h; cases h
    · rw [if_neg h4] at h
      by_cases h5 : x.hi < s.1 ∨ s.2 < x.lo
      · omega
      · rw [if_neg h5] at h; cases h
  · intro h
    by_cases h4 : x.lo ≤ s.1 ∧ s.2 ≤ x.hi
    · exact absurd ⟨h4.1, by omega⟩ (h s.1 (Int.le_refl _) hs)
    · rw [if_neg h4]
      by_cases h5 : x.hi < s.1 ∨ s.2 < x.lo
      · rw [if_pos h5]
      · by_cases h6 : x.lo ≤ s.1
        · exact absurd ⟨h6, by omega⟩ (h s.1 (Int.le_refl _) hs)
        · exact absurd ⟨Int.le_refl _, hx⟩ (h x.lo (by omega) (by omega))
theorem fit_range (x : Item) (s : Int × Int) : 1 ≤ fitE x s ∧ fitE x s ≤ 3 := by unfold fitE; split; (· omega); split <;> omega
end Go.Proofs.YtoipcbmbhjajfaaDoor

namespace Go.Proofs.YtoipcbmbhjajfaaDoor

theorem lst_getC {L : List (List Int)} {i : Nat} (h : i < L.length) : lst L i = L[i] := by
  unfold lst; rw [List.getD_eq_getElem?_getD, List.getElem?_eq_getElem h]; rfl
theorem lst_mem {L : List (List Int)} {i : Nat} (h : i < L.length) : lst L i ∈ L := by rw [lst_getC h]; exact List.getElem_mem _
theorem flat_len {α β : Type} (f : α → List β) (m : Nat) : ∀ L : List α, (∀ x, x ∈ L → (f x).length = m) → (L.flatMap f).length = L.length * m
  | [], _ => by simp
  | x :: L, h => by
    rw [List.flatMap_cons, List.length_append, h x (List.mem_cons_self ..), flat_len f m L fun y hy => h y (List.mem_cons_of_mem _ hy), List.length_cons, Nat.succ_mul, Nat.add_comm]
theorem allW_len (n : Nat) : ∀ (r : Nat) (b : List Int), (allW n r b).length = n ^ r := by
  intro r
  induction r with
  | zero => intro b; rfl
  | succ r ih =>
    intro b
    simp only [allW]
    rw [flat_len _ (n ^ r) _ fun i _ => ih _, List.length_range, Nat.pow_succ, Nat.mul_comm]
/-- where the cheapest wear stands -/
theorem best_first {p : Plot} {items : List Item} {parts : List Part} {b : List Int} {c : Int} (h : bestP p items parts = some (b, c)) :
    ∃ j, j < (allW items.length parts.length []).length ∧ lst (allW items.length parts.length []) j = b ∧ wearsE p items parts b = 0 ∧ costW items b = c ∧
      (∀ i, i < (allW items.length parts.length []).length → wearsE p items parts (lst (allW items.length parts.length []) i) = 0 → c ≤ costW items (lst (allW items.length parts.length []) i)) ∧
      ∀ i, i < j → wearsE p items parts (lst (allW items.length parts.length []) i) = 0 → c < costW items (lst (allW items.length parts.length []) i) := by
  unfold bestP at h
  rw [bestR_minW] at h
  have hm := minW_some h
  obtain ⟨L1, L2, e, h1⟩ := hm.split
  have hl : L1.length < (allW items.length parts.length []).length := by rw [e]; simp
  refine ⟨L1.length, hl, ?_, hm.fine, hm.cost.symm, fun i hi hw => hm.least _ (lst_mem hi) hw, fun i hi hw => ?_⟩
  · unfold lst
    rw [e, List.getD_eq_getElem?_getD, List.getElem?_append_right (Nat.le_refl _)]
    simp
  · have hin : lst (allW items.length parts.length []) i ∈ L1 := by
      unfold lst
      rw [e, List.getD_eq_getElem?_getD, List.getElem?_append_left hi, List.getElem?_eq_getElem hi]
      exact List.getElem_mem _
    exact h1 _ hin hw
theorem best_none {p : Plot} {items : List Item} {parts : List Part} (h : bestP p items parts = none) {i : Nat} (hi : i < (allW items.length parts.length []).length) : wearsE p items parts (lst (allW items.length parts.length []) i) ≠ 0 := by
  unfold bestP at h
  rw [bestR_minW] at h
  exact minW_none h _ (lst_mem hi)
theorem allW_row {n r : Nat} {i : Nat} (hi : i < (allW n r []).length) : (lst (allW n r []) i).length = r := by
  obtain ⟨u, e, hu, _⟩ := allW_mem.1 (lst_mem hi)
  rw [e, List.nil_append, hu]
/-- the first parts of a list of lists -/
theorem flat_take (n r : Nat) (b : List Int) (k : Nat) : (List.range (k + 1)).flatMap (fun (i : Nat) => allW n r (b ++ [(i : Int)])) = (List.range k).flatMap (fun (i : Nat) => allW n r (b ++ [(i : Int)])) ++ allW n r (b ++ [(k : Int)]) := by
  rw [List.range_succ, List.flatMap_append]
  simp
theorem flat_size (n r : Nat) (b : List Int) (k : Nat) : ((List.range k).flatMap (fun (i : Nat) => allW n r (b ++ [(i : Int)]))).length = k * n ^ r := by
  rw [flat_len _ (n ^ r) _ fun i _ => allW_len n r _, List.length_range]
end Go.Proofs.YtoipcbmbhjajfaaDoor
