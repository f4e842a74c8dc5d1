/-
  PLAIN: a kind that has fewer items than parts of it are on at once has no valid wear. No program in sight.
-/
import Derived.Test.YtdcinngdilfpnaaCdp
namespace Go.Proofs.Ytdcinngdilfpnaa

def cnt (P : Nat → Bool) : Nat → Int
  | 0 => 0
  | n + 1 => if P n = true then cnt P n + 1 else cnt P n
theorem cnt_congr {P Q : Nat → Bool} : ∀ {n : Nat}, (∀ i, i < n → P i = Q i) → cnt P n = cnt Q n := by
  intro n
  induction n with
  | zero => intro _; rfl
  | succ n ih => intro h; simp only [cnt, ih (fun i hi => h i (by omega)), h n (by omega)]
theorem cnt_nonneg (P : Nat → Bool) : ∀ n : Nat, 0 ≤ cnt P n ∧ cnt P n ≤ n := by
  intro n
  induction n with
  | zero => simp [cnt]
  | succ n ih => simp only [cnt]; split <;> omega
theorem cnt_remove {Q : Nat → Bool} {j : Nat} (hq : Q j = true) : ∀ {m : Nat}, j < m → cnt Q m = cnt (fun i => Q i && decide (i ≠ j)) m + 1 := by
  intro m
  induction m with
  | zero => intro h; omega
  | succ m ih =>
    intro h
    simp only [cnt]
    by_cases e : m = j
    · subst e
      have h1 : cnt (fun i => Q i && decide (i ≠ m)) m = cnt Q m := cnt_congr fun i hi => by rw [decide_eq_true (show i ≠ m by omega), Bool.and_true]
      rw [if_pos hq, if_neg (by simp), h1]
    · have h1 := ih (by omega)
      by_cases hm : Q m = true
      · rw [if_pos hm, if_pos (by simp [hm, e])]; omega
      · rw [if_neg hm, if_neg (by simp [hm])]; omega
theorem cnt_inj {P : Nat → Bool} {g : Nat → Nat} {m : Nat} : ∀ {n : Nat} {Q : Nat → Bool}, (∀ i, i < n → P i = true → g i < m ∧ Q (g i) = true) → (∀ i, i < n → ∀ k, k < i → P i = true → P k = true → g k ≠ g i) → cnt P n ≤ cnt Q m := by
  intro n
  induction n with
  | zero => intro Q _ _; exact (cnt_nonneg Q m).1
  | succ n ih =>
    intro Q h1 h2
    simp only [cnt]
    by_cases hp : P n = true
    · rw [if_pos hp]
      obtain ⟨a, b⟩ := h1 n (by omega) hp
      have h3 := ih (Q := fun i => Q i && decide (i ≠ g n)) (fun i hi hpi => by
        obtain ⟨a', b'⟩ := h1 i (by omega) hpi
        refine ⟨a', ?_⟩
        rw [b', decide_eq_true (h2 n (by omega) i hi hp hpi)]
        rfl) (fun i hi k hk => h2 i (by omega) k hk)
      have h4 := cnt_remove b a
      omega
    · rw [if_neg hp]
      exact ih (fun i hi => h1 i (by omega)) (fun i hi => h2 i (by omega))

def onK (p : Plot) (kind m : Int) (i : Nat) : Bool := decide ((pt p.parts i).kind = kind) && onB (pt p.parts i) m
theorem onN_cnt (p : Plot) (kind m : Int) : ∀ k : Nat, onN p kind m k = cnt (onK p kind m) k := by
  intro k
  induction k with
  | zero => rfl
  | succ k ih =>
    simp only [onN, cnt, ih]
    by_cases h : (pt p.parts k).kind = kind ∧ onB (pt p.parts k) m = true
    · rw [if_pos h, if_pos (by unfold onK; rw [decide_eq_true h.1, h.2]; rfl)]
    · rw [if_neg h, if_neg (by
        intro hc
        unfold onK at hc
        simp only [Bool.and_eq_true, decide_eq_true_eq] at hc
        exact h hc)]

def ofKind (items : List Item) (kind : Int) (i : Nat) : Bool := decide ((it items i).kind = kind)

/-- two parts that are on at once overlap -/
theorem between_neg {y x : Part} {m : Int} (hy : onB y m = true) (hx : onB x m = true) : betweenP y x < 0 := by
  have h1 := inB_true.1 hy
  have h2 := inB_true.1 hx
  unfold betweenP inTime
  by_cases h : x.start < y.start
  · rw [if_pos h]; show y.start - x.stop < 0; omega
  · rw [if_neg h]; show x.start - y.stop < 0; omega

theorem next_double {p : Plot} {items : List Item} {parts : List Part} {b : List Int} {n : Int} (h : nextE p items parts b n = 0) : ∀ k, k < b.length → doubleE p items (pt parts k) (pt parts b.length) (nm b k) n = 0 := by
  unfold nextE at h
  by_cases hb : singleE p items (pt parts b.length) n = 0
  · rw [if_pos hb] at h; exact firstBad_zero.1 h
  · rw [if_neg hb] at h; exact absurd h hb
theorem nm_take {b : List Int} {i k : Nat} (h : k < i) : nm (b.take i) k = nm b k := by
  unfold nm; simp [List.getD_eq_getElem?_getD, h]
/-- what a valid wear says of each part, and of each two parts -/
theorem wears_parts {p : Plot} {items : List Item} {parts : List Part} {l : List Int} (h : wearsE p items parts l = 0) :
    (∀ i, i < l.length → singleE p items (pt parts i) (nm l i) = 0) ∧ ∀ i, i < l.length → ∀ k, k < i → doubleE p items (pt parts k) (pt parts i) (nm l k) (nm l i) = 0 := by
  have h0 := firstBad_zero.1 h
  have hlen : ∀ i, i < l.length → (l.take i).length = i := fun i hi => by rw [List.length_take]; omega
  refine ⟨fun i hi => ?_, fun i hi k hk => ?_⟩
  · have h1 := next_single (h0 i hi)
    rwa [hlen i hi] at h1
  · have h1 := next_double (h0 i hi) k (by rw [hlen i hi]; exact hk)
    rwa [hlen i hi, nm_take hk] at h1
theorem single_kind {p : Plot} {items : List Item} {x : Part} {n : Int} (h : singleE p items x n = 0) : (0 ≤ n ∧ n < items.length) ∧ (it items n.toNat).kind = x.kind := by
  refine ⟨single_within h, ?_⟩
  have hw := single_within h
  unfold singleE at h
  rw [if_neg (by rw [inB_true.2 (show 0 ≤ n ∧ n ≤ (items.length : Int) - 1 by omega)]; simp)] at h
  by_cases hk : (it items n.toNat).kind = x.kind
  · exact hk
  · rw [if_neg hk] at h; cases h

theorem two_persons {p : Plot} (v : Valid p) {m : Int} {i k : Nat} (hi : i < p.parts.length) (hk : k < i) (h1 : onB (pt p.parts k) m = true) (h2 : onB (pt p.parts i) m = true) : (pt p.parts k).person ≠ (pt p.parts i).person := by
  intro hp
  have h := v.twos i hi k hk
  unfold twoE at h
  rw [if_pos hp, if_pos (between_neg h1 h2)] at h
  cases h

theorem enough_plain {p : Plot} {items : List Item} {kind m : Int} {l : List Int} (v : Valid p) (hc : ∀ i, i < items.length → 0 ≤ (it items i).clean) (hl : l.length = p.parts.length) (h : wearsE p items p.parts l = 0) :
    onAll p kind m ≤ cnt (ofKind items kind) items.length := by
  obtain ⟨h1, h2⟩ := wears_parts h
  unfold onAll
  rw [onN_cnt]
  refine cnt_inj (g := fun i => (nm l i).toNat) (fun i hi hp => ?_) (fun i hi k hk hp hpk => ?_)
  · obtain ⟨hw, hk⟩ := single_kind (h1 i (by omega))
    unfold onK at hp
    simp only [Bool.and_eq_true, decide_eq_true_eq] at hp
    refine ⟨by omega, ?_⟩
    unfold ofKind
    rw [hk, hp.1]
    exact decide_eq_true rfl
  · intro e
    have e : (nm l k).toNat = (nm l i).toNat := e
    obtain ⟨hw, _⟩ := single_kind (h1 i (by omega))
    obtain ⟨hw2, _⟩ := single_kind (h1 k (by omega))
    have e2 : nm l k = nm l i := by omega
    unfold onK at hp hpk
    simp only [Bool.and_eq_true, decide_eq_true_eq] at hp hpk
    have hd := h2 i (by omega) k hk
    unfold doubleE at hd
    rw [if_neg (two_persons v hi hk hpk.2 hp.2)] at hd
    have hcl := hc (nm l i).toNat (by omega)
    have hb := between_neg hpk.2 hp.2
    rw [if_pos ⟨e2, by omega⟩] at hd
    cases hd

/-- fewer items than parts at once: no wear -/
theorem enough_none {p : Plot} {items : List Item} {kind m : Int} (v : Valid p) (hc : ∀ i, i < items.length → 0 ≤ (it items i).clean) (h : cnt (ofKind items kind) items.length < onAll p kind m) : bestP p items p.parts = none := by
  cases hb : bestP p items p.parts with
  | none => rfl
  | some x =>
    obtain ⟨l, c⟩ := x
    obtain ⟨q1, _, q3, _⟩ := bestR_some hb
    have := enough_plain (kind := kind) (m := m) v hc (by simpa using q3) q1
    omega
end Go.Proofs.Ytdcinngdilfpnaa
