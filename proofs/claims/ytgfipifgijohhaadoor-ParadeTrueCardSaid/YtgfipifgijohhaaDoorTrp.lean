/-
  PLAIN: whatever the true paces are, places, seconds, lasting and gaps lie within what is returned. No program in sight.
-/
import Derived.Test.YtgfipifgijohhaaDoorNap
namespace Go.Proofs.YtgfipifgijohhaaDoor

/-- the gap of a wing behind the one before it, for true paces -/
def gapTrue (ws : List Wing) (st : List Int) (P : Nat → Int) (m : Nat) (t : Int) : Int := front (Ln ws) (nm st) P (m - 1) t - Ln ws (m - 1) - front (Ln ws) (nm st) P m t

/-- what the statement looks at in row k of its paces -/
structure RowOk (route : Int) (ws : List Wing) (st : List Int) (m : Nat) (t x a0 a1 c0 c1 d0 d1 ga gb : Int) (q : List Int) (k : Nat) : Prop where
  len : q.length = ws.length
  pace : ∀ i, i < ws.length → 1 ≤ nm q i ∧ nm q i ≤ 100
  f : a0 ≤ front (Ln ws) (nm st) (nm q) m t ∧ front (Ln ws) (nm st) (nm q) m t ≤ a1
  p : c0 ≤ passed (Ln ws) (nm st) (nm q) m x ∧ passed (Ln ws) (nm st) (nm q) m x ≤ c1
  l : d0 ≤ overAt route ws st (nm q) - nm st 0 ∧ overAt route ws st (nm q) - nm st 0 ≤ d1
  k0 : k = 0 → front (Ln ws) (nm st) (nm q) m t = a0 ∧ passed (Ln ws) (nm st) (nm q) m x = c1 ∧ overAt route ws st (nm q) - nm st 0 = d1
  k1 : k = 1 → front (Ln ws) (nm st) (nm q) m t = a1 ∧ passed (Ln ws) (nm st) (nm q) m x = c0 ∧ overAt route ws st (nm q) - nm st 0 = d0
  g : 0 < m → ga ≤ gapTrue ws st (nm q) m t ∧ gapTrue ws st (nm q) m t ≤ gb
  k3 : 0 < m → k = 3 → gapTrue ws st (nm q) m t = gb
  k4 : 0 < m → k = 4 → gapTrue ws st (nm q) m t = ga

theorem ends_mono {route : Int} {ws : List Wing} {st : List Int} (hL : ∀ i, i < ws.length → 0 ≤ Ln ws i) {P P' : Nat → Int} (h1 : ∀ i, i < ws.length → 1 ≤ P i) (h : ∀ i, i < ws.length → P i ≤ P' i) {m : Nat} (hm : m < ws.length) {t x : Int} (ht : ∀ i, i ≤ m → nm st i ≤ t) (hx : 0 ≤ x) (hr : 0 ≤ route) :
    front (Ln ws) (nm st) P m t ≤ front (Ln ws) (nm st) P' m t ∧ passed (Ln ws) (nm st) P' m x ≤ passed (Ln ws) (nm st) P m x ∧ overAt route ws st P' ≤ overAt route ws st P := by
  have hl := hL (ws.length - 1) (by omega)
  refine ⟨front_mono_P (fun i hi => h i (by omega)) ht, passed_mono_P (fun i hi => by have := h1 i (by omega); omega) (fun i hi => h i (by omega)) (fun i hi => hL i (by omega)) hx, ?_⟩
  exact passed_mono_P (fun i hi => by have := h1 i (by omega); omega) (fun i hi => h i (by omega)) (fun i hi => hL i (by omega)) (by omega)

theorem gapTrue_succ (ws : List Wing) (st : List Int) (P : Nat → Int) (m : Nat) (t : Int) : gapTrue ws st P (m + 1) t = max 0 (front (Ln ws) (nm st) P m t - Ln ws m - P (m + 1) * (t - nm st (m + 1))) := by
  unfold gapTrue
  rw [Nat.add_sub_cancel]
  simp only [front]
  omega

theorem row_ok {route : Int} {ws : List Wing} {st q : List Int} (hcs : checkStarts route ws st = 0) (hm : MadeW ws) (hlq : q.length = ws.length) (hq : ∀ i, i < ws.length → Lo ws i ≤ nm q i ∧ nm q i ≤ Hi ws i) {m : Nat} (hk : m < ws.length) {t x : Int} (ht : nm st m ≤ t) (hx : 0 ≤ x) (hr : 1 ≤ route) (k : Nat)
    (e0 : k = 0 → ∀ i, i < ws.length → nm q i = Lo ws i) (e1 : k = 1 → ∀ i, i < ws.length → nm q i = Hi ws i)
    (e3 : k = 3 → ∀ i, i < ws.length → nm q i = if i = m then Lo ws i else Hi ws i) (e4 : k = 4 → ∀ i, i < ws.length → nm q i = if i = m then Hi ws i else Lo ws i)
    {ga gb : Int} (hg : 0 < m → ga = max 0 (gapAt ws st 0 (m - 1) t) ∧ gb = max 0 (gapAt ws st 1 (m - 1) t)) :
    RowOk route ws st m t x (front (Ln ws) (nm st) (Lo ws) m t) (front (Ln ws) (nm st) (Hi ws) m t) (passed (Ln ws) (nm st) (Hi ws) m x) (passed (Ln ws) (nm st) (Lo ws) m x) (overAt route ws st (Hi ws) - nm st 0) (overAt route ws st (Lo ws) - nm st 0) ga gb q k := by
  obtain ⟨hc, hl, hf⟩ := starts_zero hcs
  have hL : ∀ i, i < ws.length → 0 ≤ Ln ws i := fun i hi => by have := hm i hi; unfold Ln; omega
  have hlo : ∀ i, i < ws.length → 1 ≤ Lo ws i ∧ Hi ws i ≤ 100 := fun i hi => by have := hm i hi; unfold Lo Hi; omega
  have hall : ∀ i, i ≤ m → nm st i ≤ t := fun i hi => by have := starts_le hcs (m := m) (by omega) i hi; omega
  have hq1 : ∀ i, i < ws.length → 1 ≤ nm q i := fun i hi => by have := hlo i hi; have := hq i hi; omega
  obtain ⟨f1, p1, l1⟩ := ends_mono (route := route) (st := st) hL (fun i hi => (hlo i hi).1) (fun i hi => (hq i hi).1) hk hall hx (by omega)
  obtain ⟨f2, p2, l2⟩ := ends_mono (route := route) (st := st) hL hq1 (fun i hi => (hq i hi).2) hk hall hx (by omega)
  refine ⟨hlq, fun i hi => ⟨hq1 i hi, by have := hlo i hi; have := hq i hi; omega⟩, ⟨f1, f2⟩, ⟨p2, p1⟩, ⟨by omega, by omega⟩, fun h => ?_, fun h => ?_, ?_, ?_, ?_⟩
  · obtain ⟨f3, p3, l3⟩ := ends_mono (route := route) (st := st) hL hq1 (P' := Lo ws) (fun i hi => by rw [e0 h i hi]; exact Int.le_refl _) hk hall hx (by omega)
    exact ⟨by omega, by omega, by omega⟩
  · obtain ⟨f3, p3, l3⟩ := ends_mono (route := route) (st := st) hL (P := Hi ws) (P' := nm q) (fun i hi => by have := hq1 i hi; have := hq i hi; omega) (fun i hi => by rw [e1 h i hi]; exact Int.le_refl _) hk hall hx (by omega)
    exact ⟨by omega, by omega, by omega⟩
  all_goals
    intro h0
    obtain ⟨n, rfl⟩ : ∃ n, m = n + 1 := ⟨m - 1, by omega⟩
    obtain ⟨rfl, rfl⟩ := hg h0
    rw [gapTrue_succ, Nat.add_sub_cancel]
    have hs : 0 ≤ t - nm st (n + 1) := by omega
    have q1 := Int.mul_le_mul_of_nonneg_right (hq (n + 1) hk).1 hs
    have q2 := Int.mul_le_mul_of_nonneg_right (hq (n + 1) hk).2 hs
    have g1 := front_mono_P (L := Ln ws) (S := nm st) (P := Lo ws) (P' := nm q) (k := n) (t := t) (fun i hi => (hq i (by omega)).1) (fun i hi => hall i (by omega))
    have g2 := front_mono_P (L := Ln ws) (S := nm st) (P := nm q) (P' := Hi ws) (k := n) (t := t) (fun i hi => (hq i (by omega)).2) (fun i hi => hall i (by omega))
  · rw [gapAt_0, gapAt_1]
    omega
  · intro h3
    rw [gapAt_1]
    have e := e3 h3
    have g3 := front_mono_P (L := Ln ws) (S := nm st) (P := Hi ws) (P' := nm q) (k := n) (t := t) (fun i hi => by rw [e i (by omega), if_neg (by omega)]; exact Int.le_refl _) (fun i hi => hall i (by omega))
    have e' := e (n + 1) hk
    rw [if_pos rfl] at e'
    rw [e']
    omega
  · intro h4
    rw [gapAt_0]
    have e := e4 h4
    have g3 := front_mono_P (L := Ln ws) (S := nm st) (P := nm q) (P' := Lo ws) (k := n) (t := t) (fun i hi => by rw [e i (by omega), if_neg (by omega)]; exact Int.le_refl _) (fun i hi => hall i (by omega))
    have e' := e (n + 1) hk
    rw [if_pos rfl] at e'
    rw [e']
    omega

theorem nm_map (f : Wing → Int) (ws : List Wing) (i : Nat) (h : i < ws.length) : nm (ws.map f) i = f (wg ws i) := by
  simp [nm, wg, List.getD_eq_getElem?_getD, h]

/-- the five rows -/
theorem rows_ok {route : Int} {ws : List Wing} {st ps : List Int} (hcs : checkStarts route ws st = 0) (hm : MadeW ws) (hlp : ps.length = ws.length) (hp : MadeP ws ps) {m : Nat} (hk : m < ws.length) {t x : Int} (ht : nm st m ≤ t) (hx : 0 ≤ x) (hr : 1 ≤ route)
    {a0 a1 c0 c1 d0 d1 ga gb : Int} (ha0 : front (Ln ws) (nm st) (Lo ws) m t = a0) (ha1 : front (Ln ws) (nm st) (Hi ws) m t = a1) (hc0 : passed (Ln ws) (nm st) (Hi ws) m x = c0) (hc1 : passed (Ln ws) (nm st) (Lo ws) m x = c1)
    (hd0 : overAt route ws st (Hi ws) - nm st 0 = d0) (hd1 : overAt route ws st (Lo ws) - nm st 0 = d1) (hg : 0 < m → ga = max 0 (gapAt ws st 0 (m - 1) t) ∧ gb = max 0 (gapAt ws st 1 (m - 1) t)) :
    RowOk route ws st m t x a0 a1 c0 c1 d0 d1 ga gb (ws.map Wing.lo) 0 ∧ RowOk route ws st m t x a0 a1 c0 c1 d0 d1 ga gb (ws.map Wing.hi) 1 ∧ RowOk route ws st m t x a0 a1 c0 c1 d0 d1 ga gb ps 2 ∧
    RowOk route ws st m t x a0 a1 c0 c1 d0 d1 ga gb ((ws.map Wing.hi).set m (wg ws m).lo) 3 ∧ RowOk route ws st m t x a0 a1 c0 c1 d0 d1 ga gb ((ws.map Wing.lo).set m (wg ws m).hi) 4 := by
  subst ha0 ha1 hc0 hc1 hd0 hd1
  have hlo : ∀ i, i < ws.length → Lo ws i ≤ Hi ws i := fun i hi => by have := hm i hi; unfold Lo Hi; omega
  have m0 : ∀ i, i < ws.length → nm (ws.map Wing.lo) i = Lo ws i := fun i hi => nm_map _ _ _ hi
  have m1 : ∀ i, i < ws.length → nm (ws.map Wing.hi) i = Hi ws i := fun i hi => nm_map _ _ _ hi
  have m3 : ∀ i, i < ws.length → nm ((ws.map Wing.hi).set m (wg ws m).lo) i = if i = m then Lo ws i else Hi ws i := fun i hi => by
    rw [nm_set _ _ _ _ (by rw [List.length_map]; exact hk)]
    split
    · rename_i e; rw [e]; rfl
    · exact m1 i hi
  have m4 : ∀ i, i < ws.length → nm ((ws.map Wing.lo).set m (wg ws m).hi) i = if i = m then Hi ws i else Lo ws i := fun i hi => by
    rw [nm_set _ _ _ _ (by rw [List.length_map]; exact hk)]
    split
    · rename_i e; rw [e]; rfl
    · exact m0 i hi
  refine ⟨?_, ?_, ?_, ?_, ?_⟩
  · exact row_ok hcs hm (by simp) (fun i hi => by rw [m0 i hi]; have := hlo i hi; omega) hk ht hx hr 0 (fun _ => m0) (by omega) (by omega) (by omega) hg
  · exact row_ok hcs hm (by simp) (fun i hi => by rw [m1 i hi]; have := hlo i hi; omega) hk ht hx hr 1 (by omega) (fun _ => m1) (by omega) (by omega) hg
  · exact row_ok hcs hm hlp (fun i hi => hp i (by omega)) hk ht hx hr 2 (by omega) (by omega) (by omega) (by omega) hg
  · exact row_ok hcs hm (by simp) (fun i hi => by rw [m3 i hi]; have := hlo i hi; split <;> omega) hk ht hx hr 3 (by omega) (by omega) (fun _ => m3) (by omega) hg
  · exact row_ok hcs hm (by simp) (fun i hi => by rw [m4 i hi]; have := hlo i hi; split <;> omega) hk ht hx hr 4 (by omega) (by omega) (by omega) (fun _ => m4) hg

/-- how large the numbers of a row are -/
theorem RowOk.bounds {route : Int} {ws : List Wing} {st q : List Int} {m k : Nat} {t x a0 a1 c0 c1 d0 d1 ga gb : Int} (h : RowOk route ws st m t x a0 a1 c0 c1 d0 d1 ga gb q k) (hcs : checkStarts route ws st = 0) (hm : MadeW ws) (hms : MadeS ws st) (h8 : ws.length ≤ 8) (hk : m < ws.length) (hx : 0 ≤ x) (hx2 : x ≤ 2000) (hr1 : 1 ≤ route) (hr2 : route ≤ 2000) (ht : nm st m ≤ t) (ht2 : t ≤ 100000) :
    (-200000000000 ≤ front (Ln ws) (nm st) (nm q) m t ∧ front (Ln ws) (nm st) (nm q) m t ≤ 200000000000) ∧ (-200000000000 ≤ front (Ln ws) (nm st) (nm q) (m - 1) t ∧ front (Ln ws) (nm st) (nm q) (m - 1) t ≤ 200000000000) ∧ (0 ≤ overAt route ws st (nm q) ∧ overAt route ws st (nm q) ≤ 20000) := by
  obtain ⟨hc, hl, hf⟩ := starts_zero hcs
  have hs := hms.bound
  have hS : Sane ws st q m := ⟨hk, by omega, by have := h.len; omega, by omega, fun i hi => by have := hm i (by omega); unfold Ln; omega, fun i hi => by have := hs i (by omega); omega, fun i hi => by have := h.pace i (by omega); omega⟩
  have hs0 := hs m (by omega)
  have b := front_bound hS (t := t) (by omega) (by omega)
  have b1 := b m (Nat.le_refl _)
  have b2 := b (m - 1) (by omega)
  have hln := hm (ws.length - 1) (by omega)
  have q2 : overAt route ws st (nm q) ≤ 680 * (st.length : Int) + (route + Ln ws (ws.length - 1)) + 80 * ((ws.length - 1 : Nat) : Int) :=
    passed_low (by omega) (fun i hi => by have := h.pace i (by omega); omega) (fun i hi => by have := hm i (by omega); unfold Ln; omega) (fun i hi => (hs i (by omega)).2) (by unfold Ln; omega)
  have q1 := passed_ge_start (L := Ln ws) (S := nm st) (P := nm q) (k := ws.length - 1) (x := route + Ln ws (ws.length - 1)) (fun i hi => by have := h.pace i (by omega); omega) (fun i hi => by have := hm i (by omega); unfold Ln; omega) (by unfold Ln; omega) 0 (by omega)
  have q3 := hs 0 (by omega)
  have e : passed (Ln ws) (nm st) (nm q) (ws.length - 1) (route + Ln ws (ws.length - 1)) = overAt route ws st (nm q) := rfl
  rw [e] at q1
  unfold Ln at q2
  refine ⟨⟨by omega, by omega⟩, ⟨by omega, by omega⟩, ⟨by omega, by omega⟩⟩
end Go.Proofs.YtgfipifgijohhaaDoor
