/-
  PLAIN: nobody goes back; a place is passed in the first second in which a front is there. No program in sight.
  PLAIN: narrower paces, the same starts: nothing gets wider. No program in sight.
  PLAIN: whatever the true paces are, places, seconds, lasting and gaps lie within what is returned. No program in sight.
  PLAIN: what Opens and Widest say is so for all true paces, one by one. No program in sight.
  SMALL LAWS for ParadeOpen: one cell of a wing set; lists of lists that are read.
-/
import Derived.Test.YtgfipifgijohhaaDoorRwp
import Derived.Test.YtgfipifgijohhaaDoorOwn
import Derived.Test.YtgfipifgijohhaaDoorGga
import Derived.Test.YtgfipifgijohhaaDoorOrdG
import Derived.Test.YtgfipifgijohhaaDoorLca
import Derived.Test.YtgfipifgijohhaaDoorWk
namespace Go.Proofs.YtgfipifgijohhaaDoor

theorem LK.less {d : Nat} {cs cs2 : Cells} {li : List (Value × List Int)} {lw : List (Value × List Wing)} {w0 w : World} (k : LK d cs li lw w0 w) (h : ∀ x, x ∈ cs2 → x ∈ cs) : LK d cs2 li lw w0 w :=
  ⟨k.below, k.d0, k.beat, fun b o v hm => k.cell b o v (h _ hm), fun v xs hm => ⟨k.i hm, fun h0 b o u hb => (k.ints v xs hm).2 h0 b o u (h _ hb)⟩, fun v xs hm => ⟨k.g hm, fun h0 b o u hb => (k.wgs v xs hm).2 h0 b o u (h _ hb)⟩⟩
theorem pass_fine {route : Int} {ws : List Wing} {st : List Int} {wing : Nat} {place : Int} (h : checkStarts route ws st = 0) (h1 : wing < ws.length) (h2 : 0 ≤ place) (h3 : place ≤ 100000) :
    passErr route ws st (wing : Int) place = 0 ∧ passSpan route ws st (wing : Int) place = (passed (Ln ws) (nm st) (Hi ws) wing place, passed (Ln ws) (nm st) (Lo ws) wing place) := by
  have e := passErr_0 (route := route) (ws := ws) (st := st) (wing := (wing : Int)) (place := place) h (inB_true.2 ⟨by omega, by omega⟩) (inB_true.2 ⟨h2, h3⟩)
  refine ⟨e, ?_⟩
  rw [passSpan_0 e, Int.toNat_natCast]

/-- the seconds and the places that ParadeOn looks at, for one end of the paces -/
theorem on_plain {route : Int} {ws : List Wing} {st : List Int} (hcs : checkStarts route ws st = 0) (hm : MadeW ws) (hms : MadeS ws st) (h8 : ws.length ≤ 8) {k : Nat} (hk : k < ws.length) {P : Nat → Int} (hP : ∀ i, i < ws.length → 1 ≤ P i) {x : Int} (hx : 0 ≤ x) (hx2 : x ≤ 2000) :
    nm st k ≤ passed (Ln ws) (nm st) P k x ∧ passed (Ln ws) (nm st) P k x ≤ 10000 ∧ x ≤ front (Ln ws) (nm st) P k (passed (Ln ws) (nm st) P k x) ∧ front (Ln ws) (nm st) P k (passed (Ln ws) (nm st) P k x - 1) < x := by
  obtain ⟨hc, hl, hf⟩ := starts_zero hcs
  have hL : ∀ i, i < ws.length → 1 ≤ Ln ws i ∧ Ln ws i ≤ 80 := fun i hi => by have := hm i hi; unfold Ln; omega
  have hs := hms.bound
  have q1 := passed_ge_start (L := Ln ws) (S := nm st) (P := P) (k := k) (fun i hi => by have := hP i (by omega); omega) (fun i hi => by have := hL i (by omega); omega) hx k (Nat.le_refl _)
  have q2 : passed (Ln ws) (nm st) P k x ≤ 680 * (st.length : Int) + x + 80 * (k : Int) :=
    passed_low (by omega) (fun i hi => by have := hP i (by omega); omega) (fun i hi => by have := hL i (by omega); omega) (fun i hi => (hs i (by omega)).2) hx
  have hiff := fun t => passed_le_iff (L := Ln ws) (S := nm st) (P := P) (k := k) (x := x) (t := t) (fun i hi => by have := hP i (by omega); omega)
  refine ⟨q1, by omega, (hiff _).1 (Int.le_refl _), ?_⟩
  have h2 := hiff (passed (Ln ws) (nm st) P k x - 1)
  omega
end Go.Proofs.YtgfipifgijohhaaDoor

namespace Go.Proofs.YtgfipifgijohhaaDoor

/-- ws' is ws with paces that are known better -/
structure Narrow (ws ws' : List Wing) : Prop where
  len : ws'.length = ws.length
  same : ∀ i, i < ws.length → (wg ws' i).name = (wg ws i).name ∧ (wg ws' i).len = (wg ws i).len
  lo : ∀ i, i < ws.length → Lo ws i ≤ Lo ws' i ∧ Lo ws' i ≤ Hi ws' i ∧ Hi ws' i ≤ Hi ws i

theorem Narrow.refl {ws : List Wing} (h : ∀ i, i < ws.length → Lo ws i ≤ Hi ws i) : Narrow ws ws := ⟨rfl, fun _ _ => ⟨rfl, rfl⟩, fun i hi => ⟨Int.le_refl _, h i hi, Int.le_refl _⟩⟩

theorem Narrow.set {ws ws' : List Wing} (h : Narrow ws ws') {k : Nat} (hk : k < ws.length) {a b : Int} (h1 : Lo ws k ≤ a) (h2 : a ≤ b) (h3 : b ≤ Hi ws k) : Narrow ws (ws'.set k ⟨(wg ws' k).name, (wg ws' k).len, a, b⟩) := by
  have hk' : k < ws'.length := by rw [h.len]; exact hk
  refine ⟨by rw [List.length_set, h.len], fun i hi => ?_, fun i hi => ?_⟩
  · rw [wg_set _ _ _ _ hk']
    by_cases e : i = k
    · subst e; rw [if_pos rfl]; exact h.same i hi
    · rw [if_neg e]; exact h.same i hi
  · unfold Lo Hi
    rw [wg_set _ _ _ _ hk']
    by_cases e : i = k
    · subst e; rw [if_pos rfl]; exact ⟨h1, h2, h3⟩
    · rw [if_neg e]; exact h.lo i hi

theorem Narrow.ln {ws ws' : List Wing} (h : Narrow ws ws') : ∀ i, i < ws.length → Ln ws' i = Ln ws i := fun i hi => (h.same i hi).2

theorem Narrow.check {ws ws' : List Wing} (h : Narrow ws ws') (hm : MadeW ws) (h0 : 0 < ws.length) (h8 : ws.length ≤ 8) {route : Int} (hr1 : 1 ≤ route) (hr2 : route ≤ 2000) : check route ws' = 0 := by
  have hl := h.len
  refine check_ok (inB_true.2 (by omega)) (by omega) (by omega) (fun i hi => ?_)
  rw [hl] at hi
  obtain ⟨q0, q1, q2, q3, q4, q5, q6⟩ := hm i hi
  obtain ⟨s0, s1⟩ := h.same i hi
  have hlo := h.lo i hi
  unfold Lo Hi at hlo
  refine checkW_0 (by rw [s0, q0]; exact kitName_named i (by omega)) (twin_false.2 fun j hj => ?_) ?_ hlo.2.1
  · rw [(h.same j (by omega)).1, s0, (hm j (by omega)).1, q0]; exact kitName_ne i (by omega) j hj
  · unfold numsB
    simp only [Bool.and_eq_true, inB_true]
    omega

theorem passed_extL {L L' S P : Nat → Int} {k : Nat} (h : ∀ i, i < k → L i = L' i) : ∀ x, passed L S P k x = passed L' S P k x := by
  induction k with
  | zero => intro x; rfl
  | succ k ih => intro x; simp only [passed, h k (Nat.lt_succ_self _), ih (fun i hi => h i (by omega))]
theorem front_extL {L L' S P : Nat → Int} {k : Nat} (h : ∀ i, i < k → L i = L' i) : ∀ t, front L S P k t = front L' S P k t := by
  induction k with
  | zero => intro t; rfl
  | succ k ih => intro t; simp only [front, h k (Nat.lt_succ_self _), ih (fun i hi => h i (by omega))]

theorem Narrow.passed_le {ws ws' : List Wing} (h : Narrow ws ws') (hm : MadeW ws) {st : List Int} {k : Nat} (hk : k < ws.length) {x : Int} (hx : 0 ≤ x) :
    passed (Ln ws) (nm st) (Hi ws) k x ≤ passed (Ln ws') (nm st) (Hi ws') k x ∧ passed (Ln ws') (nm st) (Lo ws') k x ≤ passed (Ln ws) (nm st) (Lo ws) k x := by
  have hlo : ∀ i, i < ws.length → 1 ≤ Lo ws i := fun i hi => by have := hm i hi; unfold Lo; omega
  have hL : ∀ i, i < ws.length → 0 ≤ Ln ws i := fun i hi => by have := hm i hi; unfold Ln; omega
  have e : ∀ P, passed (Ln ws') (nm st) P k x = passed (Ln ws) (nm st) P k x := fun P => passed_extL (fun i hi => h.ln i (by omega)) x
  rw [e, e]
  exact ⟨passed_mono_P (fun i hi => by have := hlo i (by omega); have := h.lo i (by omega); omega) (fun i hi => (h.lo i (by omega)).2.2) (fun i hi => hL i (by omega)) hx,
    passed_mono_P (fun i hi => by have := hlo i (by omega); omega) (fun i hi => (h.lo i (by omega)).1) (fun i hi => hL i (by omega)) hx⟩

theorem Narrow.starts {ws ws' : List Wing} (h : Narrow ws ws') (hm : MadeW ws) (h0 : 0 < ws.length) (h8 : ws.length ≤ 8) {route : Int} (hr1 : 1 ≤ route) (hr2 : route ≤ 2000) {st : List Int} (hms : MadeS ws st) (hl : st.length = ws.length) : checkStarts route ws' st = 0 := by
  have hc := h.check hm h0 h8 hr1 hr2
  refine starts_ok hc (by rw [h.len]; exact hl) (fun i hi => ?_)
  have hs := hms i hi
  have hle : leastOf ws' st i ≤ leastOf ws st i := by
    cases i with
    | zero => exact Int.le_refl _
    | succ i =>
      show passed (Ln ws') (nm st) (Lo ws') i (Ln ws' i) ≤ passed (Ln ws) (nm st) (Lo ws) i (Ln ws i)
      rw [h.ln i (by omega)]
      have := hm i (by omega)
      exact (h.passed_le hm (by omega) (by unfold Ln; omega)).2
  unfold startErr
  rw [if_neg (by rw [inB_true.2 ⟨by omega, by omega⟩]; simp), if_neg (by omega)]

theorem Narrow.front_le {ws ws' : List Wing} (h : Narrow ws ws') {st : List Int} {k : Nat} (hk : k < ws.length) {t : Int} (ht : ∀ i, i ≤ k → nm st i ≤ t) :
    front (Ln ws) (nm st) (Lo ws) k t ≤ front (Ln ws') (nm st) (Lo ws') k t ∧ front (Ln ws') (nm st) (Hi ws') k t ≤ front (Ln ws) (nm st) (Hi ws) k t := by
  have e : ∀ P, front (Ln ws') (nm st) P k t = front (Ln ws) (nm st) P k t := fun P => front_extL (fun i hi => h.ln i (by omega)) t
  rw [e, e]
  exact ⟨front_mono_P (fun i hi => (h.lo i (by omega)).1) ht, front_mono_P (fun i hi => (h.lo i (by omega)).2.2) ht⟩

theorem Narrow.gap_le {ws ws' : List Wing} (h : Narrow ws ws') {st : List Int} {m : Nat} (hk : m + 1 < ws.length) {t : Int} (ht : ∀ i, i ≤ m + 1 → nm st i ≤ t) :
    gapAt ws st 0 m t ≤ gapAt ws' st 0 m t ∧ gapAt ws' st 1 m t ≤ gapAt ws st 1 m t := by
  obtain ⟨f1, f2⟩ := h.front_le (st := st) (k := m) (by omega) (t := t) (fun i hi => ht i (by omega))
  have hl := h.lo (m + 1) hk
  have e := h.ln m (by omega)
  have h1 := Int.mul_le_mul_of_nonneg_right (c := t - nm st (m + 1)) hl.2.2 (by have := ht (m + 1) (Nat.le_refl _); omega)
  have h2 := Int.mul_le_mul_of_nonneg_right (c := t - nm st (m + 1)) hl.1 (by have := ht (m + 1) (Nat.le_refl _); omega)
  rw [gapAt_0, gapAt_0, gapAt_1, gapAt_1, e]
  omega

theorem Narrow.long_le {ws ws' : List Wing} (h : Narrow ws ws') (hm : MadeW ws) (h0 : 0 < ws.length) {st : List Int} {route : Int} (hr1 : 1 ≤ route) :
    longOf route ws st (Hi ws) ≤ longOf route ws' st (Hi ws') ∧ longOf route ws' st (Lo ws') ≤ longOf route ws st (Lo ws) := by
  have e := h.len
  have e2 := h.ln (ws.length - 1) (by omega)
  have := hm (ws.length - 1) (by omega)
  obtain ⟨p1, p2⟩ := h.passed_le hm (st := st) (k := ws.length - 1) (by omega) (x := route + Ln ws (ws.length - 1)) (by unfold Ln; omega)
  unfold longOf
  rw [e, e2]
  omega

theorem narrow_gap {route : Int} {ws ws' : List Wing} {st : List Int} (h : Narrow ws ws') (hc : checkStarts route ws st = 0) (hc' : checkStarts route ws' st = 0) {m : Nat} (hm : m < ws.length) {t : Int} (ht : ∀ i, i ≤ m → nm st i ≤ t) (ht2 : t ≤ 100000) :
    ∃ e a b a' b' : Int, gapErr route ws st (m : Int) t = e ∧ gapErr route ws' st (m : Int) t = e ∧ ((m = 0 ∧ e = 7) ∨ (0 < m ∧ e = 0)) ∧ gapSpan route ws st (m : Int) t = (a, b) ∧ gapSpan route ws' st (m : Int) t = (a', b') ∧ a ≤ a' ∧ b' ≤ b := by
  have e1 := asked_fine (second := t) hc hm (ht m (Nat.le_refl _)) ht2
  have e2 := asked_fine (second := t) hc' (by rw [h.len]; exact hm) (ht m (Nat.le_refl _)) ht2
  cases m with
  | zero =>
    have g1 : gapErr route ws st ((0 : Nat) : Int) t = 7 := by unfold gapErr; rw [if_pos e1, if_pos (by simp)]
    have g2 : gapErr route ws' st ((0 : Nat) : Int) t = 7 := by unfold gapErr; rw [if_pos e2, if_pos (by simp)]
    exact ⟨7, 0, 0, 0, 0, g1, g2, .inl ⟨rfl, rfl⟩, by unfold gapSpan; rw [if_neg (by rw [g1]; decide)], by unfold gapSpan; rw [if_neg (by rw [g2]; decide)], Int.le_refl _, Int.le_refl _⟩
  | succ m =>
    obtain ⟨g1, s1⟩ := gap_fine e1
    obtain ⟨g2, s2⟩ := gap_fine e2
    obtain ⟨q1, q2⟩ := h.gap_le (st := st) hm ht
    exact ⟨0, _, _, _, _, g1, g2, .inr ⟨by omega, rfl⟩, s1, s2, by omega, by omega⟩

theorem starts_le {route : Int} {ws : List Wing} {st : List Int} (h : checkStarts route ws st = 0) {m : Nat} (hm : m < st.length) : ∀ i, i ≤ m → nm st i ≤ nm st m := by
  have hu := starts_up h
  intro i hi
  have key : ∀ j, i + j ≤ m → nm st i ≤ nm st (i + j) := by
    intro j
    induction j with
    | zero => intro _; exact Int.le_refl _
    | succ j ih =>
      intro hj
      have h1 := ih (by omega)
      have h2 := hu (i + j) (by omega)
      have e : i + (j + 1) = i + j + 1 := by omega
      rw [e]; omega
  have := key (m - i) (by omega)
  have e : i + (m - i) = m := by omega
  rw [e] at this
  exact this

theorem verdict_stays {a b lo hi lo' hi' : Int} (h1 : lo ≤ lo') (h2 : hi' ≤ hi) (h3 : lo' ≤ hi') : verdictOf a b lo hi = 3 ∨ verdictOf a b lo hi = verdictOf a b lo' hi' := by
  unfold verdictOf
  split
  · right; rw [if_pos (by omega)]
  · split
    · right; rw [if_neg (by omega), if_pos (by omega)]
    · left; rfl
end Go.Proofs.YtgfipifgijohhaaDoor

namespace Go.Proofs.YtgfipifgijohhaaDoor

/-- the gap of a wing behind the one before it, for true paces -/
def gapTrue (ws : List Wing) (st : List Int) (P : Nat → Int) (m : Nat) (t : Int) : Int := front (Ln ws) (nm st) P (m - 1) t - Ln ws (m - 1) - front (Ln ws) (nm st) P m t

/-- what the statement looks at in row k of its paces -/
structure RowOk (route : Int) (ws : List Wing) (st : List Int) (m : Nat) (t x a0 a1 c0 c1 d0 d1 ga gb : Int) (q : List Int) (k : Nat) : Prop where
  len : q.length = ws.length
  pace : ∀ i, i < ws.length → 1 ≤ nm q i ∧ nm q i ≤ 100
  f : a0 ≤ front (Ln ws) (nm st) (nm q) m t ∧ front (Ln ws) (nm st) (nm q) m t ≤ a1
  p : c0 ≤ passed (Ln ws) (nm st) (nm q) m x ∧ passed (Ln ws) (nm st) (nm q) m x ≤ c1
  l : d0 ≤ overAt route ws st (nm q) - nm st 0 ∧ overAt route ws st (nm q) - nm st 0 ≤ d1
  k0 : k = 0 → front (Ln ws) (nm st) (nm q) m t = a0 ∧ passed (Ln ws) (nm st) (nm q) m x = c1 ∧ overAt route ws st (nm q) - nm st 0 = d1
  k1 : k = 1 → front (Ln ws) (nm st) (nm q) m t = a1 ∧ passed (Ln ws) (nm st) (nm q) m x = c0 ∧ overAt route ws st (nm q) - nm st 0 = d0
  g : 0 < m → ga ≤ gapTrue ws st (nm q) m t ∧ gapTrue ws st (nm q) m t ≤ gb
  k3 : 0 < m → k = 3 → gapTrue ws st (nm q) m t = gb
  k4 : 0 < m → k = 4 → gapTrue ws st (nm q) m t = ga

theorem ends_mono {route : Int} {ws : List Wing} {st : List Int} (hL : ∀ i, i < ws.length → 0 ≤ Ln ws i) {P P' : Nat → Int} (h1 : ∀ i, i < ws.length → 1 ≤ P i) (h : ∀ i, i < ws.length → P i ≤ P' i) {m : Nat} (hm : m < ws.length) {t x : Int} (ht : ∀ i, i ≤ m → nm st i ≤ t) (hx : 0 ≤ x) (hr : 0 ≤ route) :
    front (Ln ws) (nm st) P m t ≤ front (Ln ws) (nm st) P' m t ∧ passed (Ln ws) (nm st) P' m x ≤ passed (Ln ws) (nm st) P m x ∧ overAt route ws st P' ≤ overAt route ws st P := by
  have hl := hL (ws.length - 1) (by omega)
  refine ⟨front_mono_P (fun i hi => h i (by omega)) ht, passed_mono_P (fun i hi => by have := h1 i (by omega); omega) (fun i hi => h i (by omega)) (fun i hi => hL i (by omega)) hx, ?_⟩
  exact passed_mono_P (fun i hi => by have := h1 i (by omega); omega) (fun i hi => h i (by omega)) (fun i hi => hL i (by omega)) (by omega)

theorem gapTrue_succ (ws : List Wing) (st : List Int) (P : Nat → Int) (m : Nat) (t : Int) : gapTrue ws st P (m + 1) t = max 0 (front (Ln ws) (nm st) P m t - Ln ws m - P (m + 1) * (t - nm st (m + 1))) := by
  unfold gapTrue
  rw [Nat.add_sub_cancel]
  simp only [front]
  omega

theorem row_ok {route : Int} {ws : List Wing} {st q : List Int} (hcs : checkStarts route ws st = 0) (hm : MadeW ws) (hlq : q.length = ws.length) (hq : ∀ i, i < ws.length → Lo ws i ≤ nm q i ∧ nm q i ≤ Hi ws i) {m : Nat} (hk : m < ws.length) {t x : Int} (ht : nm st m ≤ t) (hx : 0 ≤ x) (hr : 1 ≤ route) (k : Nat)
    (e0 : k = 0 → ∀ i, i < ws.length → nm q i = Lo ws i) (e1 : k = 1 → ∀ i, i < ws.length → nm q i = Hi ws i)
    (e3 : k = 3 → ∀ i, i < ws.length → nm q i = if i = m then Lo ws i else Hi ws i) (e4 : k = 4 → ∀ i, i < ws.length → nm q i = if i = m then Hi ws i else Lo ws i)
    {ga gb : Int} (hg : 0 < m → ga = max 0 (gapAt ws st 0 (m - 1) t) ∧ gb = max 0 (gapAt ws st 1 (m - 1) t)) :
    RowOk route ws st m t x (front (Ln ws) (nm st) (Lo ws) m t) (front (Ln ws) (nm st) (Hi ws) m t) (passed (Ln ws) (nm st) (Hi ws) m x) (passed (Ln ws) (nm st) (Lo ws) m x) (overAt route ws st (Hi ws) - nm st 0) (overAt route ws st (Lo ws) - nm st 0) ga gb q k := by
  obtain ⟨hc, hl, hf⟩ := starts_zero hcs
  have hL : ∀ i, i < ws.length → 0 ≤ Ln ws i := fun i hi => by have := hm i hi; unfold Ln; omega
  have hlo : ∀ i, i < ws.length → 1 ≤ Lo ws i ∧ Hi ws i ≤ 100 := fun i hi => by have := hm i hi; unfold Lo Hi; omega
  have hall : ∀ i, i ≤ m → nm st i ≤ t := fun i hi => by have := starts_le hcs (m := m) (by omega) i hi; omega
  have hq1 : ∀ i, i < ws.length → 1 ≤ nm q i := fun i hi => by have := hlo i hi; have := hq i hi; omega
  obtain ⟨f1, p1, l1⟩ := ends_mono (route := route) (st := st) hL (fun i hi => (hlo i hi).1) (fun i hi => (hq i hi).1) hk hall hx (by omega)
  obtain ⟨f2, p2, l2⟩ := ends_mono (route := route) (st := st) hL hq1 (fun i hi => (hq i hi).2) hk hall hx (by omega)
  refine ⟨hlq, fun i hi => ⟨hq1 i hi, by have := hlo i hi; have := hq i hi; omega⟩, ⟨f1, f2⟩, ⟨p2, p1⟩, ⟨by omega, by omega⟩, fun h => ?_, fun h => ?_, ?_, ?_, ?_⟩
  · obtain ⟨f3, p3, l3⟩ := ends_mono (route := route) (st := st) hL hq1 (P' := Lo ws) (fun i hi => by rw [e0 h i hi]; exact Int.le_refl _) hk hall hx (by omega)
    exact ⟨by omega, by omega, by omega⟩
  · obtain ⟨f3, p3, l3⟩ := ends_mono (route := route) (st := st) hL (P := Hi ws) (P' := nm q) (fun i hi => by have := hq1 i hi; have := hq i hi; omega) (fun i hi => by rw [e1 h i hi]; exact Int.le_refl _) hk hall hx (by omega)
    exact ⟨by omega, by omega, by omega⟩
  all_goals
    intro h0
    obtain ⟨n, rfl⟩ : ∃ n, m = n + 1 := ⟨m - 1, by omega⟩
    obtain ⟨rfl, rfl⟩ := hg h0
    rw [gapTrue_succ, Nat.add_sub_cancel]
    have hs : 0 ≤ t - nm st (n + 1) := by omega
    have q1 := Int.mul_le_mul_of_nonneg_right (hq (n + 1) hk).1 hs
    have q2 := Int.mul_le_mul_of_nonneg_right (hq (n + 1) hk).2 hs
    have g1 := front_mono_P (L := Ln ws) (S := nm st) (P := Lo ws) (P' := nm q) (k := n) (t := t) (fun i hi => (hq i (by omega)).1) (fun i hi => hall i (by omega))
    have g2 := front_mono_P (L := Ln ws) (S := nm st) (P := nm q) (P' := Hi ws) (k := n) (t := t) (fun i hi => (hq i (by omega)).2) (fun i hi => hall i (by omega))
  · rw [gapAt_0, gapAt_1]
    omega
  · intro h3
    rw [gapAt_1]
    have e := e3 h3
    have g3 := front_mono_P (L := Ln ws) (S := nm st) (P := Hi ws) (P' := nm q) (k := n) (t := t) (fun i hi => by rw [e i (by omega), if_neg (by omega)]; exact Int.le_refl _) (fun i hi => hall i (by omega))
    have e' := e (n + 1) hk
    rw [if_pos rfl] at e'
    rw [e']
    omega
  · intro h4
    rw [gapAt_0]
    have e := e4 h4
    have g3 := front_mono_P (L := Ln ws) (S := nm st) (P := nm q) (P' := Lo ws) (k := n) (t := t) (fun i hi => by rw [e i (by omega), if_neg (by omega)]; exact Int.le_refl _) (fun i hi => hall i (by omega))
    have e' := e (n + 1) hk
    rw [if_pos rfl] at e'
    rw [e']
    omega

theorem nm_map (f : Wing → Int) (ws : List Wing) (i : Nat) (h : i < ws.length) : nm (ws.map f) i = f (wg ws i) := by
  simp [nm, wg, List.getD_eq_getElem?_getD, h]

/-- the five rows -/
theorem rows_ok {route : Int} {ws : List Wing} {st ps : List Int} (hcs : checkStarts route ws st = 0) (hm : MadeW ws) (hlp : ps.length = ws.length) (hp : MadeP ws ps) {m : Nat} (hk : m < ws.length) {t x : Int} (ht : nm st m ≤ t) (hx : 0 ≤ x) (hr : 1 ≤ route)
    {a0 a1 c0 c1 d0 d1 ga gb : Int} (ha0 : front (Ln ws) (nm st) (Lo ws) m t = a0) (ha1 : front (Ln ws) (nm st) (Hi ws) m t = a1) (hc0 : passed (Ln ws) (nm st) (Hi ws) m x = c0) (hc1 : passed (Ln ws) (nm st) (Lo ws) m x = c1)
    (hd0 : overAt route ws st (Hi ws) - nm st 0 = d0) (hd1 : overAt route ws st (Lo ws) - nm st 0 = d1) (hg : 0 < m → ga = max 0 (gapAt ws st 0 (m - 1) t) ∧ gb = max 0 (gapAt ws st 1 (m - 1) t)) :
    RowOk route ws st m t x a0 a1 c0 c1 d0 d1 ga gb (ws.map Wing.lo) 0 ∧ RowOk route ws st m t x a0 a1 c0 c1 d0 d1 ga gb (ws.map Wing.hi) 1 ∧ RowOk route ws st m t x a0 a1 c0 c1 d0 d1 ga gb ps 2 ∧
    RowOk route ws st m t x a0 a1 c0 c1 d0 d1 ga gb ((ws.map Wing.hi).set m (wg ws m).lo) 3 ∧ RowOk route ws st m t x a0 a1 c0 c1 d0 d1 ga gb ((ws.map Wing.lo).set m (wg ws m).hi) 4 := by
  subst ha0 ha1 hc0 hc1 hd0 hd1
  have hlo : ∀ i, i < ws.length → Lo ws i ≤ Hi ws i := fun i hi => by have := hm i hi; unfold Lo Hi; omega
  have m0 : ∀ i, i < ws.length → nm (ws.map Wing.lo) i = Lo ws i := fun i hi => nm_map _ _ _ hi
  have m1 : ∀ i, i < ws.length → nm (ws.map Wing.hi) i = Hi ws i := fun i hi => nm_map _ _ _ hi
  have m3 : ∀ i, i < ws.length → nm ((ws.map Wing.hi).set m (wg ws m).lo) i = if i = m then Lo ws i else Hi ws i := fun i hi => by
    rw [nm_set _ _ _ _ (by rw [List.length_map]; exact hk)]
    split
    · rename_i e; rw [e]; rfl
    · exact m1 i hi
  have m4 : ∀ i, i < ws.length → nm ((ws.map Wing.lo).set m (wg ws m).hi) i = if i = m then Hi ws i else Lo ws i := fun i hi => by
    rw [nm_set _ _ _ _ (by rw [List.length_map]; exact hk)]
    split
    · rename_i e; rw [e]; rfl
    · exact m0 i hi
  refine ⟨?_, ?_, ?_, ?_, ?_⟩
  · exact row_ok hcs hm (by simp) (fun i hi => by rw [m0 i hi]; have := hlo i hi; omega) hk ht hx hr 0 (fun _ => m0) (by omega) (by omega) (by omega) hg
  · exact row_ok hcs hm (by simp) (fun i hi => by rw [m1 i hi]; have := hlo i hi; omega) hk ht hx hr 1 (by omega) (fun _ => m1) (by omega) (by omega) hg
  · exact row_ok hcs hm hlp (fun i hi => hp i (by omega)) hk ht hx hr 2 (by omega) (by omega) (by omega) (by omega) hg
  · exact row_ok hcs hm (by simp) (fun i hi => by rw [m3 i hi]; have := hlo i hi; split <;> omega) hk ht hx hr 3 (by omega) (by omega) (fun _ => m3) (by omega) hg
  · exact row_ok hcs hm (by simp) (fun i hi => by rw [m4 i hi]; have := hlo i hi; split <;> omega) hk ht hx hr 4 (by omega) (by omega) (by omega) (fun _ => m4) hg

/-- how large the numbers of a row are -/
theorem RowOk.bounds {route : Int} {ws : List Wing} {st q : List Int} {m k : Nat} {t x a0 a1 c0 c1 d0 d1 ga gb : Int} (h : RowOk route ws st m t x a0 a1 c0 c1 d0 d1 ga gb q k) (hcs : checkStarts route ws st = 0) (hm : MadeW ws) (hms : MadeS ws st) (h8 : ws.length ≤ 8) (hk : m < ws.length) (hx : 0 ≤ x) (hx2 : x ≤ 2000) (hr1 : 1 ≤ route) (hr2 : route ≤ 2000) (ht : nm st m ≤ t) (ht2 : t ≤ 100000) :
    (-200000000000 ≤ front (Ln ws) (nm st) (nm q) m t ∧ front (Ln ws) (nm st) (nm q) m t ≤ 200000000000) ∧ (-200000000000 ≤ front (Ln ws) (nm st) (nm q) (m - 1) t ∧ front (Ln ws) (nm st) (nm q) (m - 1) t ≤ 200000000000) ∧ (0 ≤ overAt route ws st (nm q) ∧ overAt route ws st (nm q) ≤ 20000) := by
  obtain ⟨hc, hl, hf⟩ := starts_zero hcs
  have hs := hms.bound
  have hS : Sane ws st q m := ⟨hk, by omega, by have := h.len; omega, by omega, fun i hi => by have := hm i (by omega); unfold Ln; omega, fun i hi => by have := hs i (by omega); omega, fun i hi => by have := h.pace i (by omega); omega⟩
  have hs0 := hs m (by omega)
  have b := front_bound hS (t := t) (by omega) (by omega)
  have b1 := b m (Nat.le_refl _)
  have b2 := b (m - 1) (by omega)
  have hln := hm (ws.length - 1) (by omega)
  have q2 : overAt route ws st (nm q) ≤ 680 * (st.length : Int) + (route + Ln ws (ws.length - 1)) + 80 * ((ws.length - 1 : Nat) : Int) :=
    passed_low (by omega) (fun i hi => by have := h.pace i (by omega); omega) (fun i hi => by have := hm i (by omega); unfold Ln; omega) (fun i hi => (hs i (by omega)).2) (by unfold Ln; omega)
  have q1 := passed_ge_start (L := Ln ws) (S := nm st) (P := nm q) (k := ws.length - 1) (x := route + Ln ws (ws.length - 1)) (fun i hi => by have := h.pace i (by omega); omega) (fun i hi => by have := hm i (by omega); unfold Ln; omega) (by unfold Ln; omega) 0 (by omega)
  have q3 := hs 0 (by omega)
  have e : passed (Ln ws) (nm st) (nm q) (ws.length - 1) (route + Ln ws (ws.length - 1)) = overAt route ws st (nm q) := rfl
  rw [e] at q1
  unfold Ln at q2
  refine ⟨⟨by omega, by omega⟩, ⟨by omega, by omega⟩, ⟨by omega, by omega⟩⟩
end Go.Proofs.YtgfipifgijohhaaDoor

namespace Go.Proofs.YtgfipifgijohhaaDoor

/-- one wing's paces behind those that are begun: the first n ones -/
def moreV (lo : Int) (v : List Int) : Nat → List (List Int)
  | 0 => []
  | n + 1 => moreV lo v n ++ [v ++ [lo + (n : Int)]]
/-- the same behind each of a list -/
def nextV (lo : Int) (n : Nat) (all : List (List Int)) : List (List Int) := all.flatMap fun v => moreV lo v n
/-- how many paces a wing may have -/
def manyP (ws : List Wing) (k : Nat) : Nat := (Hi ws k - Lo ws k + 1).toNat
/-- all paces of the first k wings -/
def allV (ws : List Wing) : Nat → List (List Int)
  | 0 => [[]]
  | k + 1 => nextV (Lo ws k) (manyP ws k) (allV ws k)

theorem moreV_mem {lo : Int} {v u : List Int} : ∀ {n : Nat}, u ∈ moreV lo v n ↔ ∃ j : Nat, j < n ∧ u = v ++ [lo + (j : Int)] := by
  intro n
  induction n with
  | zero => simp [moreV]
  | succ n ih =>
    simp only [moreV, List.mem_append, List.mem_singleton, ih]
    constructor
    · rintro (⟨j, hj, rfl⟩ | rfl)
      · exact ⟨j, by omega, rfl⟩
      · exact ⟨n, by omega, rfl⟩
    · rintro ⟨j, hj, rfl⟩
      by_cases e : j = n
      · subst e; exact .inr rfl
      · exact .inl ⟨j, by omega, rfl⟩
theorem moreV_length (lo : Int) (v : List Int) (n : Nat) : (moreV lo v n).length = n := by
  induction n with
  | zero => rfl
  | succ n ih => simp [moreV, ih]
theorem nextV_nil (lo : Int) (n : Nat) : nextV lo n [] = [] := rfl
theorem nextV_snoc (lo : Int) (n : Nat) (all : List (List Int)) (v : List Int) : nextV lo n (all ++ [v]) = nextV lo n all ++ moreV lo v n := by simp [nextV]
theorem nextV_length (lo : Int) (n : Nat) (all : List (List Int)) : (nextV lo n all).length = all.length * n := by
  induction all with
  | nil => simp [nextV]
  | cons v t ih =>
    simp only [nextV, List.flatMap_cons, List.length_append, moreV_length, List.length_cons] at ih ⊢
    rw [ih, Nat.add_mul]
    omega

theorem snoc_nm {v : List Int} {p : Int} {i : Nat} : nm (v ++ [p]) i = if i < v.length then nm v i else if i = v.length then p else 0 := nm_snoc v p i

theorem allV_mem {ws : List Wing} : ∀ {k : Nat} {u : List Int}, u ∈ allV ws k ↔ u.length = k ∧ ∀ i, i < k → Lo ws i ≤ nm u i ∧ nm u i ≤ Hi ws i := by
  intro k
  induction k with
  | zero =>
    intro u
    simp only [allV, List.mem_singleton, List.length_eq_zero_iff]
    exact ⟨fun h => ⟨h, fun i hi => by omega⟩, fun h => h.1⟩
  | succ k ih =>
    intro u
    simp only [allV, nextV, List.mem_flatMap]
    constructor
    · rintro ⟨v, hv, hu⟩
      obtain ⟨h1, h2⟩ := ih.1 hv
      obtain ⟨j, hj, rfl⟩ := moreV_mem.1 hu
      unfold manyP at hj
      refine ⟨by simp [h1], fun i hi => ?_⟩
      rw [snoc_nm, h1]
      by_cases e : i < k
      · rw [if_pos e]; exact h2 i e
      · have e2 : i = k := by omega
        subst e2
        rw [if_neg (by omega), if_pos rfl]; omega
    · rintro ⟨h1, h2⟩
      have hne : u ≠ [] := by intro e; subst e; simp at h1
      have hu : u.dropLast ++ [u.getLast hne] = u := List.dropLast_concat_getLast hne
      have hl : u.dropLast.length = k := by simp [h1]
      have hk := h2 k (by omega)
      have e : nm u k = u.getLast hne := by
        conv => lhs; rw [← hu]
        rw [snoc_nm, hl, if_neg (by omega), if_pos rfl]
      refine ⟨u.dropLast, ih.2 ⟨hl, fun i hi => ?_⟩, moreV_mem.2 ⟨(nm u k - Lo ws k).toNat, by unfold manyP; omega, ?_⟩⟩
      · have := h2 i (by omega)
        rw [← hu, snoc_nm, hl, if_pos hi] at this
        exact this
      · have e3 : Lo ws k + (((nm u k - Lo ws k).toNat : Nat) : Int) = u.getLast hne := by rw [← e]; omega
        rw [e3, hu]

theorem allV_length {ws : List Wing} (hp : ∀ i, i < ws.length → Hi ws i ≤ Lo ws i + 3) : ∀ k, k ≤ ws.length → (allV ws k).length ≤ 4 ^ k := by
  intro k
  induction k with
  | zero => intro _; simp [allV]
  | succ k ih =>
    intro hk
    have h1 := ih (by omega)
    have h2 := hp k (by omega)
    simp only [allV, nextV_length]
    have h3 : manyP ws k ≤ 4 := by unfold manyP; omega
    calc (allV ws k).length * manyP ws k ≤ 4 ^ k * 4 := Nat.mul_le_mul h1 h3
      _ = 4 ^ (k + 1) := by rw [Nat.pow_succ]

/-- whether something is wider than g in one of n seconds from a on -/
def wideTo (f : Int → Int) (g a : Int) : Nat → Bool
  | 0 => false
  | n + 1 => wideTo f g a n || decide (g < f (a + (n : Int)))

theorem wideTo_iff {f : Int → Int} {g a : Int} : ∀ {n : Nat}, wideTo f g a n = true ↔ ∃ t, a ≤ t ∧ t < a + (n : Int) ∧ g < f t := by
  intro n
  induction n with
  | zero =>
    refine ⟨fun h => ?_, fun h => ?_⟩
    · cases h
    · obtain ⟨t, h1, h2, _⟩ := h
      have h2' : t < a := by simpa using h2
      omega
  | succ n ih =>
    simp only [wideTo, Bool.or_eq_true, decide_eq_true_eq, ih]
    constructor
    · rintro (⟨t, h1, h2, h3⟩ | h)
      · exact ⟨t, h1, by omega, h3⟩
      · exact ⟨a + n, by omega, by omega, h⟩
    · rintro ⟨t, h1, h2, h3⟩
      by_cases e : t = a + n
      · subst e; exact .inr h3
      · exact .inl ⟨t, h1, by omega, h3⟩

/-- no gap of the seconds that are watched is wider than the widest one -/
theorem wide_top {route : Int} {ws : List Wing} {st : List Int} {e : Int} {m : Nat} {t : Int} (h1 : nm st (m + 1) ≤ t) (h2 : t < endW route ws st m) : max 0 (gapAt ws st e m t) ≤ (wideAt route ws st e m).2 := by
  have h0 := wideAt_nonneg (route := route) (ws := ws) (st := st) (e := e) (m := m)
  have hm := top_max (gapAt ws st e m) (fun t h n => gap_once t h n) (endW route ws st m - 1 - nm st (m + 1)).toNat (nm st (m + 1)) t h1 (by omega)
  have hp : top (gapAt ws st e m) (endW route ws st m - 1 - nm st (m + 1)).toNat (nm st (m + 1)) = peakAt route ws st e m := rfl
  rw [hp] at hm
  unfold wideAt at h0 ⊢
  rw [if_neg (by omega)] at h0 ⊢
  split
  · simp only; omega
  · simp only; omega

theorem wide_hit {route : Int} {ws : List Wing} {st : List Int} {e : Int} {m : Nat} (h : 0 < (wideAt route ws st e m).2) :
    nm st (m + 1) ≤ (wideAt route ws st e m).1 ∧ (wideAt route ws st e m).1 < endW route ws st m ∧ max 0 (gapAt ws st e m (wideAt route ws st e m).1) = (wideAt route ws st e m).2 := by
  unfold wideAt at h ⊢
  split at h
  · simp at h
  · rename_i h1
    rw [if_neg h1]
    split at h
    · rename_i h2
      rw [if_pos h2]
      have := peak_in (route := route) (ws := ws) (st := st) (e := e) (m := m) (by omega)
      simp only
      exact ⟨this.1, this.2, by omega⟩
    · simp at h

theorem mostN_ge (route : Int) (ws : List Wing) (st : List Int) : ∀ k j, j < k → (wideAt route ws st 1 j).2 ≤ (mostN route ws st k).2.2 := by
  intro k
  induction k with
  | zero => intro j hj; omega
  | succ k ih =>
    intro j hj
    simp only [mostN]
    by_cases e : j = k
    · subst e
      split
      · exact Int.le_refl _
      · omega
    · have := ih j (by omega)
      split
      · simp only; omega
      · exact this

theorem mostN_hit (route : Int) (ws : List Wing) (st : List Int) : ∀ k, mostN route ws st k = (-1, -1, 0) ∨ ∃ j, j < k ∧ mostN route ws st k = ((j : Int) + 1, (wideAt route ws st 1 j).1, (wideAt route ws st 1 j).2) ∧ 0 < (wideAt route ws st 1 j).2 := by
  intro k
  induction k with
  | zero => exact .inl rfl
  | succ k ih =>
    have h0 := mostN_nonneg route ws st k
    simp only [mostN]
    split
    · exact .inr ⟨k, by omega, rfl, by omega⟩
    · rcases ih with h | ⟨j, hj, h, h2⟩
      · exact .inl h
      · exact .inr ⟨j, by omega, h, h2⟩

/-- a gap for true paces lies between both ends' gaps -/
theorem gapT_between {route : Int} {ws : List Wing} {st v : List Int} (hcs : checkStarts route ws st = 0) {m : Nat} (hk : m + 1 < ws.length) (hv : ∀ i, i < ws.length → Lo ws i ≤ nm v i ∧ nm v i ≤ Hi ws i) {t : Int} (ht : nm st (m + 1) ≤ t) :
    max 0 (gapAt ws st 0 m t) ≤ gapTrue ws st (nm v) (m + 1) t ∧ gapTrue ws st (nm v) (m + 1) t ≤ max 0 (gapAt ws st 1 m t) := by
  obtain ⟨hc, hl, hf⟩ := starts_zero hcs
  have hall : ∀ i, i ≤ m + 1 → nm st i ≤ t := fun i hi => by have := starts_le hcs (m := m + 1) (by omega) i hi; omega
  rw [gapTrue_succ, gapAt_0, gapAt_1]
  have hs : 0 ≤ t - nm st (m + 1) := by omega
  have q1 := Int.mul_le_mul_of_nonneg_right (hv (m + 1) hk).1 hs
  have q2 := Int.mul_le_mul_of_nonneg_right (hv (m + 1) hk).2 hs
  have g1 := front_mono_P (L := Ln ws) (S := nm st) (P := Lo ws) (P' := nm v) (k := m) (t := t) (fun i hi => (hv i (by omega)).1) (fun i hi => hall i (by omega))
  have g2 := front_mono_P (L := Ln ws) (S := nm st) (P := nm v) (P' := Hi ws) (k := m) (t := t) (fun i hi => (hv i (by omega)).2) (fun i hi => hall i (by omega))
  omega

theorem front_extP {L S P P' : Nat → Int} {k : Nat} (h : ∀ i, i ≤ k → P i = P' i) (t : Int) : front L S P k t = front L S P' k t := by
  induction k with
  | zero => simp only [front, h 0 (Nat.le_refl _)]
  | succ k ih => simp only [front, h (k + 1) (Nat.le_refl _), ih (fun i hi => h i (by omega))]

/-- the paces at which a wing's gap is the least, and the greatest -/
def leastV (ws : List Wing) (m : Nat) : List Int := (ws.map Wing.lo).set (m + 1) (Hi ws (m + 1))
def mostV (ws : List Wing) (m : Nat) : List Int := (ws.map Wing.hi).set (m + 1) (Lo ws (m + 1))

theorem leastV_nm {ws : List Wing} {m : Nat} (hk : m + 1 < ws.length) {i : Nat} (hi : i < ws.length) : nm (leastV ws m) i = if i = m + 1 then Hi ws i else Lo ws i := by
  unfold leastV
  rw [nm_set _ _ _ _ (by rw [List.length_map]; exact hk)]
  split
  · rename_i e; rw [e]
  · exact nm_map _ _ _ hi
theorem mostV_nm {ws : List Wing} {m : Nat} (hk : m + 1 < ws.length) {i : Nat} (hi : i < ws.length) : nm (mostV ws m) i = if i = m + 1 then Lo ws i else Hi ws i := by
  unfold mostV
  rw [nm_set _ _ _ _ (by rw [List.length_map]; exact hk)]
  split
  · rename_i e; rw [e]
  · exact nm_map _ _ _ hi
theorem leastV_gap {ws : List Wing} {st : List Int} {m : Nat} (hk : m + 1 < ws.length) (t : Int) : gapTrue ws st (nm (leastV ws m)) (m + 1) t = max 0 (gapAt ws st 0 m t) := by
  rw [gapTrue_succ, gapAt_0, leastV_nm hk hk, if_pos rfl, front_extP (P' := Lo ws) (fun i hi => by rw [leastV_nm hk (by omega), if_neg (by omega)])]
theorem mostV_gap {ws : List Wing} {st : List Int} {m : Nat} (hk : m + 1 < ws.length) (t : Int) : gapTrue ws st (nm (mostV ws m)) (m + 1) t = max 0 (gapAt ws st 1 m t) := by
  rw [gapTrue_succ, gapAt_1, mostV_nm hk hk, if_pos rfl, front_extP (P' := Hi ws) (fun i hi => by rw [mostV_nm hk (by omega), if_neg (by omega)])]
theorem leastV_mem {ws : List Wing} (hlo : ∀ i, i < ws.length → Lo ws i ≤ Hi ws i) {m : Nat} (hk : m + 1 < ws.length) : leastV ws m ∈ allV ws ws.length :=
  allV_mem.2 ⟨by simp [leastV], fun i hi => by rw [leastV_nm hk hi]; have := hlo i hi; split <;> omega⟩
theorem mostV_mem {ws : List Wing} (hlo : ∀ i, i < ws.length → Lo ws i ≤ Hi ws i) {m : Nat} (hk : m + 1 < ws.length) : mostV ws m ∈ allV ws ws.length :=
  allV_mem.2 ⟨by simp [mostV], fun i hi => by rw [mostV_nm hk hi]; have := hlo i hi; split <;> omega⟩

/-- whether a wing's gap is too wide for some paces -/
def wideV (route : Int) (ws : List Wing) (st : List Int) (g : Int) (m : Nat) (v : List Int) : Bool := wideTo (fun t => gapTrue ws st (nm v) (m + 1) t) g (nm st (m + 1)) (endW route ws st m - nm st (m + 1)).toNat

theorem every_iff {route : Int} {ws : List Wing} {st : List Int} (hcs : checkStarts route ws st = 0) (hlo : ∀ i, i < ws.length → Lo ws i ≤ Hi ws i) {m : Nat} (hk : m + 1 < ws.length) {g : Int} (hg : 0 ≤ g) :
    ((allV ws ws.length).all (wideV route ws st g m)) = decide (g < (wideAt route ws st 0 m).2) := by
  rw [Bool.eq_iff_iff, List.all_eq_true, decide_eq_true_eq]
  constructor
  · intro h
    obtain ⟨t, h1, h2, h3⟩ := wideTo_iff.1 (h _ (leastV_mem hlo hk))
    rw [leastV_gap hk] at h3
    have := wide_top (route := route) (ws := ws) (st := st) (e := 0) (m := m) (t := t) h1 (by omega)
    omega
  · intro h v hv
    obtain ⟨h1, h2, h3⟩ := wide_hit (route := route) (ws := ws) (st := st) (e := 0) (m := m) (by omega)
    have := gapT_between hcs hk (allV_mem.1 hv).2 h1
    exact wideTo_iff.2 ⟨_, h1, by omega, by omega⟩
theorem some_iff {route : Int} {ws : List Wing} {st : List Int} (hcs : checkStarts route ws st = 0) (hlo : ∀ i, i < ws.length → Lo ws i ≤ Hi ws i) {m : Nat} (hk : m + 1 < ws.length) {g : Int} (hg : 0 ≤ g) :
    ((allV ws ws.length).any (wideV route ws st g m)) = decide (g < (wideAt route ws st 1 m).2) := by
  rw [Bool.eq_iff_iff, List.any_eq_true, decide_eq_true_eq]
  constructor
  · rintro ⟨v, hv, h⟩
    obtain ⟨t, h1, h2, h3⟩ := wideTo_iff.1 h
    have := gapT_between hcs hk (allV_mem.1 hv).2 h1
    have := wide_top (route := route) (ws := ws) (st := st) (e := 1) (m := m) (t := t) h1 (by omega)
    omega
  · intro h
    obtain ⟨h1, h2, h3⟩ := wide_hit (route := route) (ws := ws) (st := st) (e := 1) (m := m) (by omega)
    exact ⟨_, mostV_mem hlo hk, wideTo_iff.2 ⟨_, h1, by omega, by rw [mostV_gap hk]; omega⟩⟩

/-- the least gap is no wider than the greatest one: who is surely too wide may be so -/
theorem wide_01 {route : Int} {ws : List Wing} {st : List Int} (hcs : checkStarts route ws st = 0) (hlo : ∀ i, i < ws.length → Lo ws i ≤ Hi ws i) {m : Nat} (hk : m + 1 < ws.length) : (wideAt route ws st 0 m).2 ≤ (wideAt route ws st 1 m).2 := by
  by_cases h : 0 < (wideAt route ws st 0 m).2
  · obtain ⟨h1, h2, h3⟩ := wide_hit h
    have a := gapT_between (v := leastV ws m) hcs hk (allV_mem.1 (leastV_mem hlo hk)).2 h1
    have b := wide_top (route := route) (ws := ws) (st := st) (e := 1) (m := m) h1 h2
    omega
  · have := wideAt_nonneg (route := route) (ws := ws) (st := st) (e := 1) (m := m)
    omega

/-- the gap of Widest is met at a wing, paces and a second -/
theorem met_at {route : Int} {ws : List Wing} {st : List Int} (hlo : ∀ i, i < ws.length → Lo ws i ≤ Hi ws i) {W S G : Int} (h : mostN route ws st (ws.length - 1) = (W, S, G)) (hw : W ≠ -1) :
    ∃ m k : Nat, m + 1 < ws.length ∧ W = (m : Int) + 1 ∧ ∃ hk : k < (allV ws ws.length).length, nm st (m + 1) ≤ S ∧ S < endW route ws st m ∧ gapTrue ws st (nm ((allV ws ws.length)[k])) (m + 1) S = G := by
  rcases mostN_hit route ws st (ws.length - 1) with h0 | ⟨j, hj, h1, h2⟩
  · rw [h0] at h; cases h; exact absurd rfl hw
  · rw [h1] at h
    cases h
    have hk : j + 1 < ws.length := by omega
    obtain ⟨h3, h4, h5⟩ := wide_hit h2
    obtain ⟨k, hk2, e⟩ := List.mem_iff_getElem.1 (mostV_mem hlo hk)
    exact ⟨j, k, hk, rfl, hk2, h3, h4, by rw [e, mostV_gap hk]; exact h5⟩

/-- what Widest answers: no wing, no second, no gap, or all three -/
theorem most_signs {route : Int} {ws : List Wing} {st : List Int} (hst : ∀ i, i < ws.length → 0 ≤ nm st i) {W S G : Int} (h : mostN route ws st (ws.length - 1) = (W, S, G)) : (W = -1 ∧ S = -1 ∧ G = 0) ∨ (1 ≤ W ∧ W < ws.length ∧ 0 ≤ S ∧ 0 < G) := by
  rcases mostN_hit route ws st (ws.length - 1) with h0 | ⟨j, hj, h1, h2⟩
  · rw [h0] at h; cases h; exact .inl ⟨rfl, rfl, rfl⟩
  · rw [h1] at h
    cases h
    obtain ⟨h3, h4, h5⟩ := wide_hit h2
    have := hst (j + 1) (by omega)
    exact .inr ⟨by omega, by omega, by omega, h2⟩

/-- no gap of any true paces is below 0, nor wider than the one of Widest -/
theorem gapT_most {route : Int} {ws : List Wing} {st v : List Int} (hcs : checkStarts route ws st = 0) {m : Nat} (hk : m + 1 < ws.length) (hv : v ∈ allV ws ws.length) {t : Int} (h1 : nm st (m + 1) ≤ t) (h2 : t < endW route ws st m) :
    0 ≤ gapTrue ws st (nm v) (m + 1) t ∧ gapTrue ws st (nm v) (m + 1) t ≤ (mostN route ws st (ws.length - 1)).2.2 := by
  have a := gapT_between hcs hk (allV_mem.1 hv).2 h1
  have b := wide_top (route := route) (ws := ws) (st := st) (e := 1) (m := m) h1 h2
  have c := mostN_ge route ws st (ws.length - 1) m (by omega)
  omega
end Go.Proofs.YtgfipifgijohhaaDoor

namespace Go.Proofs.YtgfipifgijohhaaDoor
open Go.RowKit

/-- the greatest pace of one wing set -/
theorem WgAt.top {q : Option Nat} {w : World} {b off n c i : Nat} {ws : List Wing} (h : WgAt q w (.slice (some ⟨b, off, none⟩) n c) ws) (hi : i < ws.length) (hi' : Int) :
    WgAt q (w.setCell ⟨b, off + i * 4 + 3, none⟩ (.int .i64 hi')) (.slice (some ⟨b, off, none⟩) n c) (ws.set i ⟨(wg ws i).name, (wg ws i).len, (wg ws i).lo, hi'⟩) := by
  have hc := fun j hj => h.cells (i := j) hj
  obtain ⟨a, cap, e, hh⟩ := h
  cases e
  obtain ⟨b', off', e, h1, h2, h3, h4, _⟩ := hh (by omega)
  cases e
  refine ⟨_, _, by rw [List.length_set], fun _ => ⟨b, off, rfl, by rw [List.length_set]; exact h1, h2, h3, by simpa using h4, fun j hj => ?_⟩⟩
  rw [List.length_set] at hj
  obtain ⟨c0, c1, c2, c3⟩ := hc j hj
  have far : ∀ {o : Nat} {v : Value}, w.cell? ⟨b, o, none⟩ = some v → o ≠ off + i * 4 + 3 → (w.setCell ⟨b, off + i * 4 + 3, none⟩ (.int .i64 hi')).cell? ⟨b, o, none⟩ = some v := fun {o v} hv n1 =>
    (World.cell?_setCell_other _ _ _ _ (by intro e; cases e; exact n1 rfl)).trans hv
  rw [wg_set _ _ _ _ hi]
  by_cases e : j = i
  · subst e
    rw [if_pos rfl]
    exact ⟨far c0 (by omega), far c1 (by omega), far c2 (by omega), World.cell?_setCell_same _ _ _ c3⟩
  · rw [if_neg e]
    exact ⟨far c0 (by omega), far c1 (by omega), far c2 (by omega), far c3 (by omega)⟩

/-- made wings with few paces -/
theorem MadeW.top {ws : List Wing} (h : MadeW ws) {k : Nat} (hk : k < ws.length) : MadeW (ws.set k ⟨(wg ws k).name, (wg ws k).len, (wg ws k).lo, min (wg ws k).hi ((wg ws k).lo + 3)⟩) := fun i hi => by
  rw [List.length_set] at hi
  rw [wg_set _ _ _ _ hk]
  have hk' := h k hk
  by_cases e : i = k
  · subst e
    rw [if_pos rfl]
    simp only
    obtain ⟨q0, q1, q2, q3, q4, q5, q6⟩ := hk'
    exact ⟨q0, q1, q2, q3, q4, by omega, by omega⟩
  · rw [if_neg e]; exact h i hi

/-- a list of lists of numbers, read only -/
structure ReadR (base : Nat) (w : World) (v : Value) (vs : List Value) (rows : List (List Int)) : Prop where
  own : OwnSl base w v vs
  len : vs.length = rows.length
  row : ∀ (i : Nat) (u : Value) (r : List Int), vs[i]? = some u → rows[i]? = some r → OwnInts base w u r

theorem Rows2.read {base : Nat} {w : World} {v : Value} {vs : List Value} {rows : List (List Int)} (h : Rows2 base w v vs rows) : ReadR base w v vs rows := ⟨h.own, h.len, fun i u r hu hr => (h.row i u r hu hr).1⟩
theorem ReadR.later {base : Nat} {w w' : World} {v : Value} {vs : List Value} {rows : List (List Int)} (h : ReadR base w v vs rows) (hb : Below w.heap.size w w') : ReadR base w' v vs rows :=
  ⟨World.ownsRow.kept h.own (gb_below hb none) (by cases e : v.ownBlock <;> simp), h.len, fun i u r hu hr => OwnInts.later (h.row i u r hu hr) hb⟩
theorem ReadR.base' {b b' : Nat} {w : World} {v : Value} {vs : List Value} {rows : List (List Int)} (h : ReadR b w v vs rows) (hb : b' ≤ b) : ReadR b' w v vs rows :=
  ⟨h.own.base' hb, h.len, fun i u r hu hr => OwnInts.base' (h.row i u r hu hr) hb⟩
/-- the list that holds nothing but nil -/
theorem ReadR.one (w : World) : ReadR w.heap.size (w.alloc (.cells #[.slice none 0 0] 25)) (.slice (some ⟨w.heap.size, 0, none⟩) 1 1) [.slice none 0 0] [[]] where
  own := World.ownsRow_lit (e := 25) (size := 1) w #[.slice none 0 0] 1 (Nat.le_refl _) (by unfold maxLen; omega) rfl
  len := rfl
  row := fun i u r hu hr => by
    cases i with
    | zero => simp at hu hr; subst hu hr; exact own_nil _ _
    | succ i => simp at hu

/-- the row at a place -/
theorem ReadR.at {base : Nat} {w : World} {v : Value} {vs : List Value} {rows : List (List Int)} (h : ReadR base w v vs rows) {i : Nat} (hi : i < rows.length) :
    ∃ g c a c2, v = .slice (some ⟨g, 0, none⟩) rows.length c ∧ base ≤ g ∧ g < w.heap.size ∧ w.cell? ⟨g, i, none⟩ = some (.slice a (rows[i]).length c2) ∧ OwnInts base w (.slice a (rows[i]).length c2) rows[i] := by
  have hl := h.len
  obtain ⟨g, c, e, hg1, hg2, _, _, _, hc⟩ := h.own.cell (by omega)
  have hvi : vs[i]? = some (vs[i]'(by omega)) := List.getElem?_eq_getElem (by omega)
  have hri : rows[i]? = some rows[i] := List.getElem?_eq_getElem hi
  have hr := h.row i _ _ hvi hri
  obtain ⟨a, c2, e2⟩ := hr.form
  refine ⟨g, c, a, c2, by rw [e, hl], hg1, hg2, ?_, by rw [← e2]; exact hr⟩
  rw [← e2]
  exact hc i (by omega) _ hvi

theorem allV_pace {ws : List Wing} (hm : MadeW ws) {v : List Int} (hv : v ∈ allV ws ws.length) : v.length = ws.length ∧ ∀ i, i < ws.length → 1 ≤ nm v i ∧ nm v i ≤ 10000 := by
  obtain ⟨h1, h2⟩ := allV_mem.1 hv
  exact ⟨h1, fun i hi => by have := h2 i hi; have := hm i hi; unfold Lo Hi at *; omega⟩

theorem opensN_nm (route : Int) (ws : List Wing) (st : List Int) (g : Int) : ∀ {k m : Nat}, m < k → nm (opensN route ws st g k) (m + 1) = openAt route ws st g m := by
  intro k
  induction k with
  | zero => intro m h; omega
  | succ k ih =>
    intro m h
    simp only [opensN]
    rw [nm_snoc, opensN_length]
    by_cases e : m = k
    · subst e; rw [if_neg (by omega), if_pos rfl]
    · rw [if_pos (by omega)]; exact ih (by omega)
theorem opensN_zero (route : Int) (ws : List Wing) (st : List Int) (g : Int) (k : Nat) : nm (opensN route ws st g k) 0 = 2 := by
  induction k with
  | zero => rfl
  | succ k ih =>
    simp only [opensN]
    rw [nm_snoc, opensN_length, if_pos (by omega)]
    exact ih

theorem nextV_take {lo : Int} {n : Nat} {all : List (List Int)} {j : Nat} (h : j < all.length) : nextV lo n (all.take (j + 1)) = nextV lo n (all.take j) ++ moreV lo all[j] n := by
  rw [List.take_succ_eq_append_getElem h, nextV_snoc]
theorem any_take {f : List Int → Bool} {all : List (List Int)} {j : Nat} (h : j < all.length) : (all.take (j + 1)).any f = ((all.take j).any f || f all[j]) := by
  rw [List.take_succ_eq_append_getElem h, List.any_append]; simp only [List.any_cons, List.any_nil, Bool.or_false]
theorem all_take {f : List Int → Bool} {all : List (List Int)} {j : Nat} (h : j < all.length) : (all.take (j + 1)).all f = ((all.take j).all f && f all[j]) := by
  rw [List.take_succ_eq_append_getElem h, List.all_append]; simp only [List.all_cons, List.all_nil, Bool.and_true]
end Go.Proofs.YtgfipifgijohhaaDoor
