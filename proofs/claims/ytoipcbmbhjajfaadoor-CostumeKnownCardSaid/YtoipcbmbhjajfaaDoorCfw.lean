/-
  WALKS: CheckWear, Cost, small, Fit.
-/
import Derived.Test.YtoipcbmbhjajfaaDoorCwn
import Derived.Test.YtoipcbmbhjajfaaDoorCco
namespace Go.Proofs.YtoipcbmbhjajfaaDoor
open Go.RowKit

theorem itemE_zero {p : Plot} {x : Item} (h : itemE p x = 0) : (0 ≤ x.kind ∧ x.kind < p.dress.length) ∧ figE (x.lo, x.hi) = 0 ∧ (0 ≤ x.cost ∧ x.cost ≤ 1000000) ∧ (0 ≤ x.clean ∧ x.clean ≤ 1440) := by
  unfold itemE at h
  split at h
  · cases h
  next h1 =>
  split at h
  next h2 =>
    split at h
    · cases h
    next h3 =>
    split at h
    · cases h
    next h4 =>
    have q1 := inB_true.1 (by simpa using h1)
    have q3 := inB_true.1 (by simpa using h3)
    have q4 := inB_true.1 (by simpa using h4)
    exact ⟨⟨q1.1, by omega⟩, h2, q3, q4⟩
  next h2 => exact absurd h h2
theorem itemsErr_zero {p : Plot} {items : List Item} (h : itemsErr p items = 0) : plotErr p = 0 ∧ items.length ≤ 30 ∧ ∀ i, i < items.length → itemE p (it items i) = 0 := by
  unfold itemsErr at h
  split at h
  next h1 =>
    split at h
    · cases h
    next h2 => exact ⟨h1, by omega, firstBad_zero.1 h⟩
  next h1 => exact absurd h h1
theorem items_priced {p : Plot} {items : List Item} (h : itemsErr p items = 0) : Priced items := fun i hi => (itemE_zero ((itemsErr_zero h).2.2 i hi)).2.2.1
theorem items_clean {p : Plot} {items : List Item} (h : itemsErr p items = 0) : ∀ i, i < items.length → 0 ≤ (it items i).clean ∧ (it items i).clean ≤ 1440 := fun i hi => (itemE_zero ((itemsErr_zero h).2.2 i hi)).2.2.2

theorem nm_takeC {xs : List Int} {i k : Nat} (h : k < i) : nm (xs.take i) k = nm xs k := by
  unfold nm
  rw [List.getD_eq_getElem?_getD, List.getD_eq_getElem?_getD, List.getElem?_take_of_lt h]
theorem IntsAt.take {d : Option Nat} {w : World} {a : Option Addr} {n c : Nat} {xs : List Int} (h : IntsAt d w (.slice a n c) xs) {i : Nat} (hi : i ≤ xs.length) : IntsAt d w (.slice a i c) (xs.take i) := by
  obtain ⟨a', c', e, hh⟩ := h
  cases e
  have hl : (xs.take i).length = i := by simp; omega
  refine ⟨a, c, by rw [hl], fun h0 => ?_⟩
  rw [hl] at h0 ⊢
  obtain ⟨b, off, e, h1, h2, h3, h4, h5⟩ := hh (by omega)
  exact ⟨b, off, e, by omega, h2, h3, h4, fun k hk => by rw [nm_takeC hk]; exact h5 k (by omega)⟩

set_option maxHeartbeats 4000000 in
set_option maxRecDepth 100000 in
theorem wear_any (p : Plot) (items : List Item) (b : List Int) (vp vw vd vq vi vb : Value) (w : World) (h : PlotAt none w vp vw vd vq p) (hI : ItemsAt none w vi items) (hB : IntsAt none w vb b) :
    Calls Tryd.prog 12 #[plotV vp vw vd vq, vi, vb] w fun e w' => e = .returned (.int .i64 (wearErr p items b)) ∧ Below w.heap.size w w' := by
  have H := hid h
  have HI := hid hI
  have HBv := hid hB
  have HC := hid (fun W' hb => citems_any p items vp vw vd vq vi W' (H.out.below hb) (HI.out.below hb))
  obtain ⟨ap, cp, rfl⟩ := h.persons.form
  obtain ⟨aw, cw, rfl⟩ := h.walk.form
  obtain ⟨ad, cd, ed, _⟩ := h.dress
  subst ed
  obtain ⟨aq, cq, rfl⟩ := h.parts.form
  obtain ⟨ai, ci, rfl⟩ := hI.form
  obtain ⟨ab, cb, eb, _⟩ := hB
  subst eb
  clear h hI
  have K := hid ((HK.start w).box4m (n := w.heap.size) rfl (.slice ap p.persons.length cp) (.slice aw p.walk.length cw) (.slice ad p.dress.length cd) (.slice aq p.parts.length cq) 27)
  by_cases hi : itemsErr p items = 0
  rotate_left
  · obtain ⟨e1, e2⟩ := ne_bool hi
    have HE := hid (show wearErr p items b = itemsErr p items from by unfold wearErr; rw [if_neg hi])
    clear hi
    go_enter Tryd.func12, Tryd.ntmps12
    go_wp2_with (go_at_call 30; refine (HC.out _ K.out.below).mono ?_; rintro e w2 ⟨rfl, hb2⟩; have K := hid (K.out.later hb2); clear hb2)
    go_ret
    exact ⟨ret_int HE.out.symm, K.out.below⟩
  have Hi := hid hi
  rw [hi] at HC
  by_cases hl : b.length = p.parts.length
  rotate_left
  · obtain ⟨e1, e2⟩ := ne_bool (a := (b.length : Int)) (b := (p.parts.length : Int)) (by omega)
    have HE := hid (show wearErr p items b = 1 from by unfold wearErr; rw [if_pos hi, if_neg hl])
    clear hi hl
    go_enter Tryd.func12, Tryd.ntmps12
    go_wp2_with (go_at_call 30; refine (HC.out _ K.out.below).mono ?_; rintro e w2 ⟨rfl, hb2⟩; have K := hid (K.out.later hb2); clear hb2; have p3 := K.out.c (b := w.heap.size) (o := 3) (v := .slice aq p.parts.length cq) (by simp))
    go_ret
    exact ⟨ret_int HE.out.symm, K.out.below⟩
  have HE := hid (show wearErr p items b = firstBad (fun i => nextE p items p.parts (b.take i) (nm b i)) b.length from by unfold wearErr; rw [if_pos hi, if_pos hl]; rfl)
  have Hl := hid hl
  obtain ⟨e1, e2⟩ := eq_bool (a := (b.length : Int)) (b := (p.parts.length : Int)) (by omega)
  have hfew := (plotErr_zero.1 (itemsErr_zero hi).1).few
  clear hi hl
  go_enter Tryd.func12, Tryd.ntmps12
  go_wp2_with (go_at_call 30; refine (HC.out _ K.out.below).mono ?_; rintro e w2 ⟨rfl, hb2⟩; have K := hid (K.out.later hb2); clear hb2; have p3 := K.out.c (b := w.heap.size) (o := 3) (v := .slice aq p.parts.length cq) (by simp))
  clear p3 e1 e2
  go_loopw [25] (fun a wr => ∃ k : Nat, k ≤ b.length ∧ a = .int .i64 k ∧ (∀ j, j < k → nextE p items p.parts (b.take j) (nm b j) = 0) ∧ HK [(w.heap.size, 0, .slice ap p.persons.length cp), (w.heap.size, 1, .slice aw p.walk.length cw), (w.heap.size, 2, .slice ad p.dress.length cd), (w.heap.size, 3, .slice aq p.parts.length cq)] w wr) (fun a _ => b.length - (intOf a).toNat)
  case atStart => exact ⟨0, by omega, rfl, fun j hj => absurd hj (by omega), K.out⟩
  case round =>
    obtain ⟨k, hk, rfl, hf, KK⟩ := hrel
    have K := hid KK
    have HF := hid hf
    clear KK hf
    obtain ⟨wo, rfl⟩ : ∃ wo : World, wo = wr := ⟨_, rfl⟩
    by_cases hlt : k < b.length
    rotate_left
    · obtain rfl : k = b.length := by omega
      have HR := hid (HE.out.trans (firstBad_zero.2 HF.out))
      clear HF
      go_wp2_with fail
      go_ret
      exact ⟨ret_int HR.out.symm, K.out.below⟩
    obtain ⟨bb, ob, c', e, hcl, hcm⟩ := (IntsAt.below HBv.out K.out.below).slice (by omega)
    cases e
    have hcell := IntsAt.cell (IntsAt.below HBv.out K.out.below) hlt
    have hll := Hl.out
    have htl : (b.take k).length = k := by simp; omega
    have HNx := hid (fun (W' : World) (hb : Below w.heap.size w W') => next_any p items (b.take k) (nm b k) _ _ _ _ _ _ W' (H.out.below hb) (HI.out.below hb) (IntsAt.take (HBv.out.below hb) (Nat.le_of_lt hlt)) (itemsErr_zero Hi.out).1 (by rw [htl]; omega) (itemsErr_zero Hi.out).2.1 (items_clean Hi.out))
    have i1 : (k : Int) < (b.length : Int) := by omega
    have i2 : (k : Int) ≤ (cb : Int) := by omega
    have z1 : IntKind.i64.wrap ((k : Int) + 1) = (k : Int) + 1 := IntWalk.i64_in _ (by omega)
    have HX := hid (fun (v : Int) (hv : nextE p items p.parts (b.take k) (nm b k) = v) (h0 : v ≠ 0) => HE.out.trans ((firstBad_at (f := fun i => nextE p items p.parts (b.take i) (nm b i)) hlt HF.out (by show nextE p items p.parts (b.take k) (nm b k) ≠ 0; rw [hv]; exact h0)).trans hv))
    have HN := hid (fun (hv : nextE p items p.parts (b.take k) (nm b k) = 0) (j : Nat) (hj : j < k + 1) => show nextE p items p.parts (b.take j) (nm b j) = 0 from by
      by_cases e : j = k
      · rw [e]; exact hv
      · exact HF.out j (by omega))
    obtain ⟨x, hx⟩ : ∃ x, nm b k = x := ⟨_, rfl⟩
    rw [hx] at hcell HX HN HNx
    obtain ⟨ge, hge⟩ : ∃ ge, nextE p items p.parts (b.take k) x = ge := ⟨_, rfl⟩
    rw [hge] at HX HN HNx
    clear hx hge HF htl hll
    go_upto_region 9 with fail
    obtain ⟨wy, hwy, KY⟩ := K.out.name
    rw [hwy]
    have K := hid KY.drew
    clear hwy KY hcell
    go_region_held3 (fun w' => w'.cell? ⟨w.heap.size, 0, none⟩ = some (.slice ap p.persons.length cp) ∧ w'.cell? ⟨w.heap.size, 1, none⟩ = some (.slice aw p.walk.length cw) ∧ w'.cell? ⟨w.heap.size, 2, none⟩ = some (.slice ad p.dress.length cd) ∧ w'.cell? ⟨w.heap.size, 3, none⟩ = some (.slice aq p.parts.length cq))
      (first | exact ⟨K.out.c (by simp), K.out.c (by simp), K.out.c (by simp), K.out.c (by simp)⟩) (first
      | (go_at_call 32; refine (HNx.out _ K.out.below).mono ?_; rintro e w4 ⟨rfl, hb2⟩; have K := hid (K.out.later hb2); clear hb2))
    by_cases hpz : ge = 0
    · have HF := hid (HN.out hpz)
      subst hpz
      clear HX HN
      go_wp2_with fail
      go_roundw
      case rel => exact ⟨k + 1, by omega, by go_num, HF.out, K.out⟩
      case measure => simp [intOf] <;> omega
    · obtain ⟨e1, e2⟩ := ne_bool hpz
      have HE := hid (HX.out ge rfl hpz)
      clear hpz HX HN
      go_wp2_with fail
      go_ret
      exact ⟨ret_int HE.out.symm, K.out.below⟩

theorem wear_fine {p : Plot} {items : List Item} {b : List Int} (h : wearErr p items b = 0) : itemsErr p items = 0 ∧ b.length = p.parts.length ∧ wearsE p items p.parts b = 0 := by
  unfold wearErr at h
  split at h
  next h1 =>
    split at h
    next h2 => exact ⟨h1, h2, h⟩
    next h2 => cases h
  next h1 => exact absurd h h1

def costRes (p : Plot) (items : List Item) (b : List Int) : Int := if wearErr p items b = 0 then costW items b else 0
def smallErr (p : Plot) (items : List Item) : Int := if itemsErr p items = 0 then (if 6 < p.parts.length ∨ 10 < items.length then 5 else 0) else itemsErr p items
set_option maxHeartbeats 2000000 in
set_option maxRecDepth 100000 in
theorem small_any (p : Plot) (items : List Item) (vp vw vd vq vi : Value) (w : World) (h : PlotAt none w vp vw vd vq p) (hI : ItemsAt none w vi items) :
    Calls Tryd.prog 33 #[plotV vp vw vd vq, vi] w fun e w' => e = .returned (.int .i64 (smallErr p items)) ∧ Below w.heap.size w w' := by
  have H := hid h
  have HI := hid hI
  have HC := hid (fun W' hb => citems_any p items vp vw vd vq vi W' (H.out.below hb) (HI.out.below hb))
  obtain ⟨ap, cp, rfl⟩ := h.persons.form
  obtain ⟨aw, cw, rfl⟩ := h.walk.form
  obtain ⟨ad, cd, ed, _⟩ := h.dress
  subst ed
  obtain ⟨aq, cq, rfl⟩ := h.parts.form
  obtain ⟨ai, ci, rfl⟩ := hI.form
  clear h hI
  have K := hid ((HK.start w).box4m (n := w.heap.size) rfl (.slice ap p.persons.length cp) (.slice aw p.walk.length cw) (.slice ad p.dress.length cd) (.slice aq p.parts.length cq) 27)
  by_cases hi : itemsErr p items = 0
  rotate_left
  · obtain ⟨e1, e2⟩ := ne_bool hi
    have HE := hid (show smallErr p items = itemsErr p items from by unfold smallErr; rw [if_neg hi])
    clear hi
    go_enter Tryd.func33, Tryd.ntmps33
    go_wp2_with (go_at_call 30; refine (HC.out _ K.out.below).mono ?_; rintro e w2 ⟨rfl, hb2⟩; have K := hid (K.out.later hb2); clear hb2)
    go_ret
    exact ⟨ret_int HE.out.symm, K.out.below⟩
  rw [hi] at HC
  have HS := hid (show smallErr p items = if 6 < p.parts.length ∨ 10 < items.length then 5 else 0 from by unfold smallErr; rw [if_pos hi])
  clear hi
  by_cases h6 : (6 : Int) < (p.parts.length : Int)
  · have HE := hid (HS.out.trans (if_pos (.inl (by omega))))
    go_enter Tryd.func33, Tryd.ntmps33
    go_wp2_with (go_at_call 30; refine (HC.out _ K.out.below).mono ?_; rintro e w2 ⟨rfl, hb2⟩; have K := hid (K.out.later hb2); clear hb2; have p3 := K.out.c (b := w.heap.size) (o := 3) (v := .slice aq p.parts.length cq) (by simp))
    go_ret
    exact ⟨ret_int HE.out.symm, K.out.below⟩
  by_cases h10 : (10 : Int) < (items.length : Int)
  · have HE := hid (HS.out.trans (if_pos (.inr (by omega))))
    go_enter Tryd.func33, Tryd.ntmps33
    go_wp2_with (go_at_call 30; refine (HC.out _ K.out.below).mono ?_; rintro e w2 ⟨rfl, hb2⟩; have K := hid (K.out.later hb2); clear hb2; have p3 := K.out.c (b := w.heap.size) (o := 3) (v := .slice aq p.parts.length cq) (by simp))
    go_ret
    exact ⟨ret_int HE.out.symm, K.out.below⟩
  · have HE := hid (HS.out.trans (if_neg (by omega)))
    go_enter Tryd.func33, Tryd.ntmps33
    go_wp2_with (go_at_call 30; refine (HC.out _ K.out.below).mono ?_; rintro e w2 ⟨rfl, hb2⟩; have K := hid (K.out.later hb2); clear hb2; have p3 := K.out.c (b := w.heap.size) (o := 3) (v := .slice aq p.parts.length cq) (by simp))
    go_ret
    exact ⟨ret_int HE.out.symm, K.out.below⟩

def fitcErr (p : Plot) (items : List Item) (person number : Int) : Int := if itemsErr p items = 0 then (if inB person 0 ((p.persons.length : Int) - 1) = true ∧ inB number 0 ((items.length : Int) - 1) = true then 0 else 7) else itemsErr p items
def fitcRes (p : Plot) (items : List Item) (person number : Int) : Int := if fitcErr p items person number = 0 then fitE (it items number.toNat) (sp p.persons person.toNat) else 0
set_option maxHeartbeats 4000000 in
set_option maxRecDepth 100000 in
theorem fitc_any (p : Plot) (items : List Item) (person number : Int) (vp vw vd vq vi : Value) (w : World) (h : PlotAt none w vp vw vd vq p) (hI : ItemsAt none w vi items) :
    Calls Tryd.prog 11 #[plotV vp vw vd vq, vi, .int .i64 person, .int .i64 number] w fun e w' => e = .returned (.tuple #[.int .i64 (fitcRes p items person number), .int .i64 (fitcErr p items person number)]) ∧ Below w.heap.size w w' := by
  have H := hid h
  have HI := hid hI
  have HC := hid (fun W' hb => citems_any p items vp vw vd vq vi W' (H.out.below hb) (HI.out.below hb))
  obtain ⟨ap, cp, rfl⟩ := h.persons.form
  obtain ⟨aw, cw, rfl⟩ := h.walk.form
  obtain ⟨ad, cd, ed, _⟩ := h.dress
  subst ed
  obtain ⟨aq, cq, rfl⟩ := h.parts.form
  obtain ⟨ai, ci, rfl⟩ := hI.form
  clear h hI
  have K := hid ((HK.start w).box4m (n := w.heap.size) rfl (.slice ap p.persons.length cp) (.slice aw p.walk.length cw) (.slice ad p.dress.length cd) (.slice aq p.parts.length cq) 27)
  by_cases hi : itemsErr p items = 0
  rotate_left
  · obtain ⟨e1, e2⟩ := ne_bool hi
    have HE := hid (show fitcErr p items person number = itemsErr p items from by unfold fitcErr; rw [if_neg hi])
    have HR := hid (show fitcRes p items person number = 0 from by unfold fitcRes; rw [HE.out, if_neg hi])
    clear hi
    go_enter Tryd.func11, Tryd.ntmps11
    go_wp2_with (go_at_call 30; refine (HC.out _ K.out.below).mono ?_; rintro e w2 ⟨rfl, hb2⟩; have K := hid (K.out.later hb2); clear hb2)
    exact bodyPost_ret (v := .tuple #[.int .i64 0, .int .i64 (itemsErr p items)]) (by simp [results, Tryd.results11, go_sem]) rfl ⟨by rw [HR.out, HE.out], K.out.below⟩
  have hpl := (plotErr_zero.1 (itemsErr_zero hi).1).persons.2
  have hil := (itemsErr_zero hi).2.1
  have z1 : IntKind.i64.wrap ((p.persons.length : Int) - 1) = (p.persons.length : Int) - 1 := IntWalk.i64_in _ (by omega)
  have z2 : IntKind.i64.wrap ((items.length : Int) - 1) = (items.length : Int) - 1 := IntWalk.i64_in _ (by omega)
  have HS := hid (show fitcErr p items person number = if inB person 0 ((p.persons.length : Int) - 1) = true ∧ inB number 0 ((items.length : Int) - 1) = true then 0 else 7 from by unfold fitcErr; rw [if_pos hi])
  rw [hi] at HC
  clear hi
  cases ha : inB person 0 ((p.persons.length : Int) - 1) with
  | false =>
    have HE := hid (HS.out.trans (if_neg (fun h => by rw [ha] at h; cases h.1)))
    have HR := hid (show fitcRes p items person number = 0 from by unfold fitcRes; rw [HE.out]; rfl)
    clear HS
    go_enter Tryd.func11, Tryd.ntmps11
    go_wp2_with (first
      | (go_at_call 30; refine (HC.out _ K.out.below).mono ?_; rintro e w2 ⟨rfl, hb2⟩; have K := hid (K.out.later hb2); clear hb2; have p0 := K.out.c (b := w.heap.size) (o := 0) (v := .slice ap p.persons.length cp) (by simp))
      | (go_at_call 28; refine (cin_any _ _ _ _).mono ?_; rintro e w' ⟨rfl, rfl⟩; rw [ha]))
    exact bodyPost_ret (v := .tuple #[.int .i64 0, .int .i64 7]) (by simp [results, Tryd.results11, go_sem]) rfl ⟨by rw [HR.out, HE.out], K.out.below⟩
  | true =>
    have hn1 := inB_true.1 ha
    cases hb : inB number 0 ((items.length : Int) - 1) with
    | false =>
      have HE := hid (HS.out.trans (if_neg (fun h => by rw [hb] at h; cases h.2)))
      have HR := hid (show fitcRes p items person number = 0 from by unfold fitcRes; rw [HE.out]; rfl)
      clear HS
      go_enter Tryd.func11, Tryd.ntmps11
      go_wp2_with (first
        | (go_at_call 30; refine (HC.out _ K.out.below).mono ?_; rintro e w2 ⟨rfl, hb2⟩; have K := hid (K.out.later hb2); clear hb2; have p0 := K.out.c (b := w.heap.size) (o := 0) (v := .slice ap p.persons.length cp) (by simp))
        | (go_at_call 28; refine (cin_any _ _ _ _).mono ?_; rintro e w' ⟨rfl, rfl⟩; first | rw [ha] | rw [hb]))
      exact bodyPost_ret (v := .tuple #[.int .i64 0, .int .i64 7]) (by simp [results, Tryd.results11, go_sem]) rfl ⟨by rw [HR.out, HE.out], K.out.below⟩
    | true =>
      have hn2 := inB_true.1 hb
      have HE := hid (HS.out.trans (if_pos ⟨ha, hb⟩))
      have HR := hid (show fitcRes p items person number = fitE (it items number.toNat) (sp p.persons person.toNat) from by unfold fitcRes; rw [HE.out]; rfl)
      obtain ⟨m, rfl⟩ := Int.eq_ofNat_of_zero_le hn1.1
      obtain ⟨n, rfl⟩ := Int.eq_ofNat_of_zero_le hn2.1
      have hm : m < p.persons.length := by omega
      have hn : n < items.length := by omega
      rw [Int.toNat_natCast, Int.toNat_natCast] at HR
      have hci := ItemsAt.cells HI.out hn
      obtain ⟨bi, oi, e, hbi, g0, g1, g2, g3, g4⟩ := hci
      subst e
      have hcs := SpansAt.cells H.out.persons hm
      obtain ⟨bs, os, e, hbs, s0, s1⟩ := hcs
      subst e
      have i1 : (m : Int) < (p.persons.length : Int) := by omega
      have i2 : (n : Int) < (items.length : Int) := by omega
      obtain ⟨⟨sl, sh⟩, hsp⟩ : ∃ s, sp p.persons m = s := ⟨_, rfl⟩
      obtain ⟨g, hg⟩ : ∃ g, it items n = g := ⟨_, rfl⟩
      rw [hsp, hg] at HR
      rw [hsp] at s0 s1
      rw [hg] at g0 g1 g2 g3 g4
      dsimp only at s0 s1
      have HG := hid (show ∀ W', Below w.heap.size w W' → (W'.cell? ⟨bi, oi + n * 5, none⟩ = some (.int .i64 g.kind) ∧ W'.cell? ⟨bi, oi + n * 5 + 1, none⟩ = some (.int .i64 g.lo) ∧ W'.cell? ⟨bi, oi + n * 5 + 2, none⟩ = some (.int .i64 g.hi) ∧ W'.cell? ⟨bi, oi + n * 5 + 3, none⟩ = some (.int .i64 g.cost) ∧ W'.cell? ⟨bi, oi + n * 5 + 4, none⟩ = some (.int .i64 g.clean)) ∧ W'.cell? ⟨bs, os + m * 2, none⟩ = some (.int .i64 sl) ∧ W'.cell? ⟨bs, os + m * 2 + 1, none⟩ = some (.int .i64 sh) from
        fun W' hb => ⟨⟨cell_back hb hbi g0, cell_back hb hbi g1, cell_back hb hbi g2, cell_back hb hbi g3, cell_back hb hbi g4⟩, cell_back hb hbs s0, cell_back hb hbs s1⟩)
      have HFt := hid (fun W' => fit_of g sl sh W')
      obtain ⟨fe, hfe⟩ : ∃ fe, fitE g (sl, sh) = fe := ⟨_, rfl⟩
      rw [hfe] at HFt HR
      clear hsp hg hfe HS g0 g1 g2 g3 g4 s0 s1
      go_enter Tryd.func11, Tryd.ntmps11
      go_upto_region 6 with (first
        | (go_at_call 30; refine (HC.out _ K.out.below).mono ?_; rintro e w2 ⟨rfl, hb2⟩; have K := hid (K.out.later hb2); clear hb2; have p0 := K.out.c (b := w.heap.size) (o := 0) (v := .slice (some ⟨bs, os, none⟩) p.persons.length cp) (by simp))
        | (go_at_call 28; refine (cin_any _ _ _ _).mono ?_; rintro e w' ⟨rfl, rfl⟩; first | rw [ha] | rw [hb]))
      obtain ⟨wy, hwy, KY⟩ := K.out.name
      rw [hwy]
      have K := hid KY.drew
      clear hwy KY p0 ha hb
      go_region_held3 (fun w' => w'.cell? ⟨w.heap.size, 0, none⟩ = some (.slice (some ⟨bs, os, none⟩) p.persons.length cp) ∧ (w'.cell? ⟨bi, oi + n * 5, none⟩ = some (.int .i64 g.kind) ∧ w'.cell? ⟨bi, oi + n * 5 + 1, none⟩ = some (.int .i64 g.lo) ∧ w'.cell? ⟨bi, oi + n * 5 + 2, none⟩ = some (.int .i64 g.hi) ∧ w'.cell? ⟨bi, oi + n * 5 + 3, none⟩ = some (.int .i64 g.cost) ∧ w'.cell? ⟨bi, oi + n * 5 + 4, none⟩ = some (.int .i64 g.clean)) ∧ w'.cell? ⟨bs, os + m * 2, none⟩ = some (.int .i64 sl) ∧ w'.cell? ⟨bs, os + m * 2 + 1, none⟩ = some (.int .i64 sh))
        (first | exact ⟨K.out.c (by simp), HG.out _ K.out.below⟩) (first
        | (go_at_call 31; refine (HFt.out _).mono ?_; rintro e w4 ⟨rfl, hb2⟩; have K := hid (K.out.later hb2); clear hb2))
      go_wp2_with fail
      exact bodyPost_ret (v := .tuple #[.int .i64 fe, .int .i64 0]) (by simp [results, Tryd.results11, go_sem]) rfl ⟨by rw [HR.out, HE.out], K.out.below⟩
end Go.Proofs.YtoipcbmbhjajfaaDoor
