/-
  PLAIN: nobody is in two places; parts in any order. No program in sight.
-/
import Derived.Test.YtdcinngdilfpnaaCbe
namespace Go.Proofs.Ytdcinngdilfpnaa

theorem bestP_parts {p q : Plot} {items : List Item} (h1 : p.persons = q.persons) (h2 : p.walk = q.walk) (h3 : p.dress = q.dress) (parts : List Part) : bestP p items parts = bestP q items parts := by
  obtain ⟨a, b, c, d⟩ := p
  obtain ⟨a', b', c', d'⟩ := q
  cases h1; cases h2; cases h3
  have h : ∀ (r : Nat) (l : List Int), bestR ⟨a, b, c, d⟩ items parts r l = bestR ⟨a, b, c, d'⟩ items parts r l := by
    intro r
    induction r with
    | zero => intro l; rfl
    | succ r ih =>
      intro l
      simp only [bestR]
      have e : (fun i : Nat => bestR ⟨a, b, c, d⟩ items parts r (l ++ [(i : Int)])) = fun i : Nat => bestR ⟨a, b, c, d'⟩ items parts r (l ++ [(i : Int)]) := funext fun i => ih _
      rw [e]
      rfl
  exact h _ _

/-- the way from part a to part b, and into another costume -/
def needP (p : Plot) (a b : Part) : Int := nm (lst p.walk a.place.toNat) b.place.toNat + if a.kind = b.kind then 0 else nm p.dress b.kind.toNat
theorem twoE_split {p : Plot} {y x : Part} (hp : y.person = x.person) : twoE p y x = 0 ↔ 0 ≤ betweenP y x ∧ wayP p y x (decide (y.kind ≠ x.kind)) ≤ betweenP y x := by
  unfold twoE
  rw [if_pos hp]
  constructor
  · intro h
    by_cases h1 : betweenP y x < 0
    · rw [if_pos h1] at h; cases h
    · rw [if_neg h1] at h
      by_cases h2 : betweenP y x < wayP p y x (decide (y.kind ≠ x.kind))
      · rw [if_pos h2] at h; cases h
      · omega
  · rintro ⟨h1, h2⟩
    rw [if_neg (by omega), if_neg (by omega)]
/-- two parts of a person, the first of which begins first -/
def Apart2 (p : Plot) (a b : Part) : Prop := a.start < b.start ∧ 0 ≤ b.start - a.stop ∧ needP p a b ≤ b.start - a.stop
theorem inTime_lt {y x : Part} (h : y.start < x.start) : inTime y x = (y, x) := by unfold inTime; rw [if_neg (by omega)]
theorem inTime_gt {y x : Part} (h : x.start < y.start) : inTime y x = (x, y) := by unfold inTime; rw [if_pos h]
theorem way_need_lt {p : Plot} {y x : Part} (h : y.start < x.start) : wayP p y x (decide (y.kind ≠ x.kind)) = needP p y x := by
  unfold wayP needP
  rw [inTime_lt h]
  by_cases e : y.kind = x.kind
  · rw [if_pos e, if_neg (by simp [e])]
  · rw [if_neg e, if_pos (by simp [e])]
theorem way_need_gt {p : Plot} {y x : Part} (h : x.start < y.start) : wayP p y x (decide (y.kind ≠ x.kind)) = needP p x y := by
  unfold wayP needP
  rw [inTime_gt h]
  by_cases e : y.kind = x.kind
  · rw [if_pos e.symm, if_neg (by simp [e])]
  · rw [if_neg (Ne.symm e), if_pos (by simp [e])]
theorem twoE_apart {p : Plot} {y x : Part} (hp : y.person = x.person) (hy : y.start < y.stop) (_ : x.start < x.stop) : twoE p y x = 0 ↔ Apart2 p y x ∨ Apart2 p x y := by
  rw [twoE_split hp]
  rcases Int.lt_trichotomy y.start x.start with h | h | h
  · rw [way_need_lt h]
    unfold betweenP
    rw [inTime_lt h]
    constructor
    · rintro ⟨h1, h2⟩; exact .inl ⟨h, h1, h2⟩
    · rintro (⟨_, h1, h2⟩ | ⟨h1, _⟩)
      · exact ⟨h1, h2⟩
      · omega
  · constructor
    · rintro ⟨h1, _⟩
      unfold betweenP inTime at h1
      rw [if_neg (by omega)] at h1
      have h1 : 0 ≤ x.start - y.stop := h1
      omega
    · rintro (⟨h1, _⟩ | ⟨h1, _⟩) <;> omega
  · rw [way_need_gt h]
    unfold betweenP
    rw [inTime_gt h]
    constructor
    · rintro ⟨h1, h2⟩; exact .inr ⟨h, h1, h2⟩
    · rintro (⟨h1, _⟩ | ⟨_, h1, h2⟩)
      · omega
      · exact ⟨h1, h2⟩
theorem alone_span {p : Plot} {x : Part} (h : aloneE p x = 0) : x.start < x.stop := (aloneE_zero h).2.2.2.2.2
/-- what a valid plot says of two parts of one person -/
theorem valid_apart {p : Plot} (v : Valid p) {i k : Nat} (hi : i < p.parts.length) (hk : k < p.parts.length) (hne : i ≠ k) (hp : (pt p.parts i).person = (pt p.parts k).person) : Apart2 p (pt p.parts i) (pt p.parts k) ∨ Apart2 p (pt p.parts k) (pt p.parts i) := by
  have hi0 := alone_span (v.parts i hi)
  have hk0 := alone_span (v.parts k hk)
  rcases Nat.lt_or_gt_of_ne hne with h | h
  · exact (twoE_apart hp hi0 hk0).1 (v.twos k hk i h)
  · exact ((twoE_apart hp.symm hk0 hi0).1 (v.twos i hi k h)).symm
theorem apart_le {p : Plot} (v : Valid p) {i k : Nat} (hi : i < p.parts.length) (hk : k < p.parts.length) (hne : i ≠ k) (hp : (pt p.parts i).person = (pt p.parts k).person) (hs : (pt p.parts i).start ≤ (pt p.parts k).start) : Apart2 p (pt p.parts i) (pt p.parts k) := by
  rcases valid_apart v hi hk hne hp with h | h
  · exact h
  · have := h.1; omega

/-- parts that follow each other in a day -/
theorem day_apart {p : Plot} (v : Valid p) {n : Int} {i j : Nat} (hij : i < j) (hj : j < (dayL p n).length) : Apart2 p (pt p.parts (nm (dayL p n) i).toNat) (pt p.parts (nm (dayL p n) j).toNat) := by
  have hs := pair_get (dayL_sorted p n) hij hj
  have m1 := (dayL_mem p n (nm (dayL p n) i)).1 (by rw [nm_get (by omega)]; exact List.getElem_mem _)
  have m2 := (dayL_mem p n (nm (dayL p n) j)).1 (by rw [nm_get hj]; exact List.getElem_mem _)
  refine apart_le v (by omega) (by omega) (fun e => ?_) (m1.2.trans m2.2.symm) hs.le
  have e2 : nm (dayL p n) i = nm (dayL p n) j := by omega
  rw [e2] at hs
  exact hs.irrefl
theorem on_one {p : Plot} (v : Valid p) {i k : Nat} {m : Int} (hi : i < p.parts.length) (hk : k < p.parts.length) (hp : (pt p.parts i).person = (pt p.parts k).person) (h1 : onB (pt p.parts i) m = true) (h2 : onB (pt p.parts k) m = true) : i = k := by
  rcases Nat.lt_trichotomy i k with h | h | h
  · exact absurd hp (two_persons v hk h h1 h2)
  · exact h
  · exact absurd hp.symm (two_persons v hi h h2 h1)

/-! ### parts in another order -/
/-- q has p's parts in the order s -/
structure Turned (p q : Plot) (s : Nat → Nat) : Prop where
  persons : q.persons = p.persons
  walk : q.walk = p.walk
  dress : q.dress = p.dress
  len : q.parts.length = p.parts.length
  part : ∀ i, i < p.parts.length → pt q.parts i = pt p.parts (s i)
  lt : ∀ i, i < p.parts.length → s i < p.parts.length
  inj : ∀ i k, i < p.parts.length → k < p.parts.length → s i = s k → i = k
theorem need_turned {p q : Plot} {s : Nat → Nat} (t : Turned p q s) (a b : Part) : needP q a b = needP p a b := by unfold needP; rw [t.walk, t.dress]
theorem alone_turned {p q : Plot} {s : Nat → Nat} (t : Turned p q s) (x : Part) : aloneE q x = aloneE p x := by unfold aloneE; rw [t.persons, t.walk, t.dress]
theorem Turned.valid {p q : Plot} {s : Nat → Nat} (t : Turned p q s) (v : Valid p) : Valid q := by
  refine ⟨by rw [t.persons]; exact v.persons, by rw [t.persons]; exact v.figures, by rw [t.walk]; exact v.walk, ?_, by rw [t.dress]; exact v.dress, by rw [t.dress]; exact v.dresses, by rw [t.len]; exact v.few, fun i hi => ?_, fun i hi k hk => ?_⟩
  · rw [t.walk]
    intro i hi
    have h := v.rows i hi
    unfold rowE at h ⊢
    exact h
  · rw [t.len] at hi
    rw [alone_turned t, t.part i hi]
    exact v.parts _ (t.lt i hi)
  · rw [t.len] at hi
    have hk' : k < p.parts.length := by omega
    rw [t.part i hi, t.part k hk']
    have si := t.lt i hi
    have sk := t.lt k hk'
    have hne : s k ≠ s i := fun e => by have := t.inj k i hk' hi e; omega
    by_cases hp : (pt p.parts (s k)).person = (pt p.parts (s i)).person
    · have h0 := alone_span (v.parts _ si)
      have h1 := alone_span (v.parts _ sk)
      refine (twoE_apart hp h1 h0).2 ?_
      rcases valid_apart v sk si hne hp with h | h
      · exact .inl ⟨h.1, h.2.1, by rw [need_turned t]; exact h.2.2⟩
      · exact .inr ⟨h.1, h.2.1, by rw [need_turned t]; exact h.2.2⟩
    · unfold twoE; rw [if_neg hp]

theorem cnt_all : ∀ n : Nat, cnt (fun _ => true) n = n := by
  intro n
  induction n with
  | zero => rfl
  | succ n ih => simp only [cnt, ih, if_true]; omega
theorem cnt_not (P : Nat → Bool) : ∀ n : Nat, cnt P n + cnt (fun i => !P i) n = n := by
  intro n
  induction n with
  | zero => rfl
  | succ n ih =>
    simp only [cnt]
    by_cases h : P n = true
    · rw [if_pos h, if_neg (by simp [h])]; omega
    · rw [if_neg h, if_pos (by simp [h])]; omega
/-- numbers below n, each once -/
structure Perm1 (n : Nat) (s : Nat → Nat) : Prop where
  lt : ∀ i, i < n → s i < n
  inj : ∀ i k, i < n → k < n → s i = s k → i = k
theorem cnt_perm_le {n : Nat} {s : Nat → Nat} (h : Perm1 n s) (P : Nat → Bool) : cnt (fun i => P (s i)) n ≤ cnt P n :=
  cnt_inj (g := s) (fun i hi hp => ⟨h.lt i hi, hp⟩) (fun i hi k hk _ _ e => by have := h.inj k i (by omega) hi e; omega)
theorem cnt_perm {n : Nat} {s : Nat → Nat} (h : Perm1 n s) (P : Nat → Bool) : cnt (fun i => P (s i)) n = cnt P n := by
  have h1 := cnt_perm_le h P
  have h2 := cnt_perm_le h (fun i => !P i)
  have h3 := cnt_not P n
  have h4 := cnt_not (fun i => P (s i)) n
  omega
theorem perm_onto {n : Nat} {s : Nat → Nat} (h : Perm1 n s) {j : Nat} (hj : j < n) : ∃ i, i < n ∧ s i = j := by
  refine Classical.byContradiction fun hc => ?_
  have hne : ∀ i, i < n → s i ≠ j := fun i hi e => hc ⟨i, hi, e⟩
  have h1 : cnt (fun _ => true) n ≤ cnt (fun i => true && decide (i ≠ j)) n :=
    cnt_inj (g := s) (fun i hi _ => ⟨h.lt i hi, by simp [hne i hi]⟩) (fun i hi k hk _ _ e => by have := h.inj k i (by omega) hi e; omega)
  have h2 := cnt_remove (Q := fun _ => true) (j := j) rfl hj
  omega
theorem Turned.perm {p q : Plot} {s : Nat → Nat} (t : Turned p q s) : Perm1 p.parts.length s := ⟨t.lt, t.inj⟩
theorem turned_onAll {p q : Plot} {s : Nat → Nat} (t : Turned p q s) (kind m : Int) : onAll q kind m = onAll p kind m := by
  unfold onAll
  rw [onN_cnt, onN_cnt, t.len, ← cnt_perm t.perm (onK p kind m)]
  refine cnt_congr fun i hi => ?_
  unfold onK
  rw [t.part i hi]
theorem turned_most {p q : Plot} {s : Nat → Nat} (t : Turned p q s) (kind : Int) : ∀ m : Nat, mostN q kind m = mostN p kind m := by
  intro m
  induction m with
  | zero => rfl
  | succ m ih => simp only [mostN, ih, turned_onAll t]
theorem turned_day {p q : Plot} {s : Nat → Nat} (t : Turned p q s) (v : Valid p) (n : Int) : (dayL q n).map (fun i => ((s i.toNat : Nat) : Int)) = dayL p n := by
  have vq := t.valid v
  refine sorted_ext (f := startOf p) ?_ (dayL_sorted p n) fun i => ?_
  · rw [List.pairwise_map]
    refine (dayL_sorted q n).imp_of_mem fun {a b} ha hb hab => ?_
    obtain ⟨a1, a2⟩ := (dayL_mem q n a).1 ha
    obtain ⟨b1, b2⟩ := (dayL_mem q n b).1 hb
    have hne : a.toNat ≠ b.toNat := fun e => by
      have : a = b := by omega
      subst this
      exact hab.irrefl
    have h := (apart_le vq (i := a.toNat) (k := b.toNat) (by omega) (by omega) hne (a2.trans b2.symm) hab.le).1
    refine .inl ?_
    unfold startOf
    rw [Int.toNat_natCast, Int.toNat_natCast, ← t.part _ (by rw [← t.len]; omega), ← t.part _ (by rw [← t.len]; omega)]
    exact h
  · rw [List.mem_map, dayL_mem]
    constructor
    · rintro ⟨a, ha, rfl⟩
      obtain ⟨a1, a2⟩ := (dayL_mem q n a).1 ha
      have hl : a.toNat < p.parts.length := by rw [← t.len]; omega
      rw [Int.toNat_natCast, ← t.part _ hl]
      have := t.lt _ hl
      exact ⟨by omega, a2⟩
    · rintro ⟨h1, h2⟩
      obtain ⟨a, ha, e⟩ := perm_onto t.perm (j := i.toNat) (by omega)
      refine ⟨(a : Int), (dayL_mem q n _).2 ⟨by rw [t.len]; omega, ?_⟩, ?_⟩
      · rw [Int.toNat_natCast, t.part a ha, e]; exact h2
      · rw [Int.toNat_natCast, e]; exact Int.toNat_of_nonneg h1.1
end Go.Proofs.Ytdcinngdilfpnaa
