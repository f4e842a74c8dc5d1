/-
  WALKS: CheckWear, Cost, small, Fit.
-/
import Derived.Test.YtoipcbmbhjajfaaGreatDoorCwn
import Derived.Test.YtoipcbmbhjajfaaGreatDoorCco
namespace Go.Proofs.YtoipcbmbhjajfaaGreatDoor
open Go.RowKit

theorem itemE_zero {p : Plot} {x : Item} (h : itemE p x = 0) : (0 ≤ x.kind ∧ x.kind < p.dress.length) ∧ figE (x.lo, x.hi) = 0 ∧ (0 ≤ x.cost ∧ x.cost ≤ 1000000) ∧ (0 ≤ x.clean ∧ x.clean ≤ 1440) := by
  unfold itemE at h
  split at h
  · cases h
  next h1 =>
  split at h
  next h2 =>
    split at h
    · cases h
    next h3 =>
    split at h
    · cases h
    next h4 =>
    have q1 := inB_true.1 (by simpa using h1)
    have q3 := inB_true.1 (by simpa using h3)
    have q4 := inB_true.1 (by simpa using h4)
    exact ⟨⟨q1.1, by omega⟩, h2, q3, q4⟩
  next h2 => exact absurd h h2
theorem itemsErr_zero {p : Plot} {items : List Item} (h : itemsErr p items = 0) : plotErr p = 0 ∧ items.length ≤ 30 ∧ ∀ i, i < items.length → itemE p (it items i) = 0 := by
  unfold itemsErr at h
  split at h
  next h1 =>
    split at h
    · cases h
    next h2 => exact ⟨h1, by omega, firstBad_zero.1 h⟩
  next h1 => exact absurd h h1
theorem items_priced {p : Plot} {items : List Item} (h : itemsErr p items = 0) : Priced items := fun i hi => (itemE_zero ((itemsErr_zero h).2.2 i hi)).2.2.1
theorem items_clean {p : Plot} {items : List Item} (h : itemsErr p items = 0) : ∀ i, i < items.length → 0 ≤ (it items i).clean ∧ (it items i).clean ≤ 1440 := fun i hi => (itemE_zero ((itemsErr_zero h).2.2 i hi)).2.2.2

theorem nm_takeC {xs : List Int} {i k : Nat} (h : k < i) : nm (xs.take i) k = nm xs k := by
  unfold nm
  rw [List.getD_eq_getElem?_getD, List.getD_eq_getElem?_getD, List.getElem?_take_of_lt h]
theorem IntsAt.take {d : Option Nat} {w : World} {a : Option Addr} {n c : Nat} {xs : List Int} (h : IntsAt d w (.slice a n c) xs) {i : Nat} (hi : i ≤ xs.length) : IntsAt d w (.slice a i c) (xs.take i) := by
  obtain ⟨a', c', e, hh⟩ := h
  cases e
  have hl : (xs.take i).length = i := by simp; omega
  refine ⟨a, c, by rw [hl], fun h0 => ?_⟩
  rw [hl] at h0 ⊢
  obtain ⟨b, off, e, h1, h2, h3, h4, h5⟩ := hh (by omega)
  exact ⟨b, off, e, by omega, h2, h3, h4, fun k hk => by rw [nm_takeC hk]; exact h5 k (by omega)⟩

theorem wear_fine {p : Plot} {items : List Item} {b : List Int} (h : wearErr p items b = 0) : itemsErr p items = 0 ∧ b.length = p.parts.length ∧ wearsE p items p.parts b = 0 := by
  unfold wearErr at h
  split at h
  next h1 =>
    split at h
    next h2 => exact ⟨h1, h2, h⟩
    next h2 => cases h
  next h1 => exact absurd h h1

def costRes (p : Plot) (items : List Item) (b : List Int) : Int := if wearErr p items b = 0 then costW items b else 0
def smallErr (p : Plot) (items : List Item) : Int := if itemsErr p items = 0 then (if 6 < p.parts.length ∨ 10 < items.length then 5 else 0) else itemsErr p items
set_option maxHeartbeats 2000000 in
set_option maxRecDepth 100000 in
theorem small_any (p : Plot) (items : List Item) (vp vw vd vq vi : Value) (w : World) (h : PlotAt none w vp vw vd vq p) (hI : ItemsAt none w vi items) :
    Calls Tryz.prog 48 #[plotV vp vw vd vq, vi] w fun e w' => e = .returned (.int .i64 (smallErr p items)) ∧ Below w.heap.size w w' := by
  have H := hid h
  have HI := hid hI
  have HC := hid (fun W' hb => citems_any p items vp vw vd vq vi W' (H.out.below hb) (HI.out.below hb))
  obtain ⟨ap, cp, rfl⟩ := h.persons.form
  obtain ⟨aw, cw, rfl⟩ := h.walk.form
  obtain ⟨ad, cd, ed, _⟩ := h.dress
  subst ed
  obtain ⟨aq, cq, rfl⟩ := h.parts.form
  obtain ⟨ai, ci, rfl⟩ := hI.form
  clear h hI
  have K := hid ((HK.start w).box4m (n := w.heap.size) rfl (.slice ap p.persons.length cp) (.slice aw p.walk.length cw) (.slice ad p.dress.length cd) (.slice aq p.parts.length cq) 27)
  by_cases hi : itemsErr p items = 0
  rotate_left
  · obtain ⟨e1, e2⟩ := ne_bool hi
    have HE := hid (show smallErr p items = itemsErr p items from by unfold smallErr; rw [if_neg hi])
    clear hi
    go_enter Tryz.func48, Tryz.ntmps48
    go_wp2_with (go_at_call 68; refine (HC.out _ K.out.below).mono ?_; rintro e w2 ⟨rfl, hb2⟩; have K := hid (K.out.later hb2); clear hb2)
    go_ret
    exact ⟨ret_int HE.out.symm, K.out.below⟩
  rw [hi] at HC
  have HS := hid (show smallErr p items = if 6 < p.parts.length ∨ 10 < items.length then 5 else 0 from by unfold smallErr; rw [if_pos hi])
  clear hi
  by_cases h6 : (6 : Int) < (p.parts.length : Int)
  · have HE := hid (HS.out.trans (if_pos (.inl (by omega))))
    go_enter Tryz.func48, Tryz.ntmps48
    go_wp2_with (go_at_call 68; refine (HC.out _ K.out.below).mono ?_; rintro e w2 ⟨rfl, hb2⟩; have K := hid (K.out.later hb2); clear hb2; have p3 := K.out.c (b := w.heap.size) (o := 3) (v := .slice aq p.parts.length cq) (by simp))
    go_ret
    exact ⟨ret_int HE.out.symm, K.out.below⟩
  by_cases h10 : (10 : Int) < (items.length : Int)
  · have HE := hid (HS.out.trans (if_pos (.inr (by omega))))
    go_enter Tryz.func48, Tryz.ntmps48
    go_wp2_with (go_at_call 68; refine (HC.out _ K.out.below).mono ?_; rintro e w2 ⟨rfl, hb2⟩; have K := hid (K.out.later hb2); clear hb2; have p3 := K.out.c (b := w.heap.size) (o := 3) (v := .slice aq p.parts.length cq) (by simp))
    go_ret
    exact ⟨ret_int HE.out.symm, K.out.below⟩
  · have HE := hid (HS.out.trans (if_neg (by omega)))
    go_enter Tryz.func48, Tryz.ntmps48
    go_wp2_with (go_at_call 68; refine (HC.out _ K.out.below).mono ?_; rintro e w2 ⟨rfl, hb2⟩; have K := hid (K.out.later hb2); clear hb2; have p3 := K.out.c (b := w.heap.size) (o := 3) (v := .slice aq p.parts.length cq) (by simp))
    go_ret
    exact ⟨ret_int HE.out.symm, K.out.below⟩

def fitcErr (p : Plot) (items : List Item) (person number : Int) : Int := if itemsErr p items = 0 then (if inB person 0 ((p.persons.length : Int) - 1) = true ∧ inB number 0 ((items.length : Int) - 1) = true then 0 else 7) else itemsErr p items
def fitcRes (p : Plot) (items : List Item) (person number : Int) : Int := if fitcErr p items person number = 0 then fitE (it items number.toNat) (sp p.persons person.toNat) else 0
end Go.Proofs.YtoipcbmbhjajfaaGreatDoor
