/-
  WALKS: the reference's least starts: LeastOf, CheckStarts, Least.
-/
import Derived.Test.YtgfipifgijohhaaDoorPsd
import Derived.Deep.RegionHeld3
namespace Go.Proofs.YtgfipifgijohhaaDoor
open Go.RowKit

def Lo (ws : List Wing) (i : Nat) : Int := (wg ws i).lo
def Hi (ws : List Wing) (i : Nat) : Int := (wg ws i).hi

theorem nm_lo (ws : List Wing) : nm (ws.map Wing.lo) = Lo ws := by
  funext i
  simp only [nm, Lo, wg, List.getD_eq_getElem?_getD, List.getElem?_map]
  cases ws[i]? <;> rfl
theorem nm_hi (ws : List Wing) : nm (ws.map Wing.hi) = Hi ws := by
  funext i
  simp only [nm, Hi, wg, List.getD_eq_getElem?_getD, List.getElem?_map]
  cases ws[i]? <;> rfl

/-- a school whose numbers are small -/
structure Small (ws : List Wing) : Prop where
  n : ws.length ≤ 100
  len : ∀ i, i < ws.length → 0 ≤ Ln ws i ∧ Ln ws i ≤ 100000
  lo : ∀ i, i < ws.length → 1 ≤ Lo ws i ∧ Lo ws i ≤ 10000
  hi : ∀ i, i < ws.length → 1 ≤ Hi ws i ∧ Hi ws i ≤ 10000

theorem Small.of_check {route : Int} {ws : List Wing} (h : check route ws = 0) : Small ws := by
  obtain ⟨_, _, _, h8, hh⟩ := check_zero h
  exact ⟨by omega, fun i hi => by have := hh i hi; unfold Ln; omega, fun i hi => by have := hh i hi; unfold Lo; omega, fun i hi => by have := hh i hi; unfold Hi; omega⟩

theorem Small.slow {ws : List Wing} (h : Small ws) {st : List Int} {k : Nat} (hk : k < ws.length) (hks : k < st.length) (hst : ∀ i, i ≤ k → 0 ≤ nm st i ∧ nm st i ≤ 1000000) : Sane ws st (ws.map Wing.lo) k :=
  ⟨hk, hks, by simpa using hk, h.n, fun i hi => h.len i (by omega), hst, fun i hi => by rw [nm_lo]; exact h.lo i (by omega)⟩
theorem Small.fast {ws : List Wing} (h : Small ws) {st : List Int} {k : Nat} (hk : k < ws.length) (hks : k < st.length) (hst : ∀ i, i ≤ k → 0 ≤ nm st i ∧ nm st i ≤ 1000000) : Sane ws st (ws.map Wing.hi) k :=
  ⟨hk, hks, by simpa using hk, h.n, fun i hi => h.len i (by omega), hst, fun i hi => by rw [nm_hi]; exact h.hi i (by omega)⟩

/-- the least start of a wing -/
def leastOf (ws : List Wing) (st : List Int) : Nat → Int
  | 0 => 0
  | k + 1 => passed (Ln ws) (nm st) (Lo ws) k (Ln ws k)

set_option maxHeartbeats 1000000 in
set_option maxRecDepth 100000 in
theorem rleastOf_any (ws : List Wing) (st : List Int) (kk route : Int) (vw vs : Value) (w : World) (hW : WgAt none w vw ws) (hS : IntsAt none w vs st)
    (h0 : 0 ≤ kk) (hs : Small ws) (hk : kk.toNat ≤ ws.length) (hks : kk.toNat ≤ st.length) (hst : ∀ i, i < kk.toNat → 0 ≤ nm st i ∧ nm st i ≤ 1000000) :
    Calls Tryd.prog 72 #[.agg #[.int .i64 route, vw], vs, .int .i64 kk] w
     fun e w' => e = .returned (.int .i64 (leastOf ws st kk.toNat)) ∧ Below w.heap.size w w' := by
  obtain ⟨k, rfl⟩ := Int.eq_ofNat_of_zero_le h0
  rw [Int.toNat_natCast] at *
  cases k with
  | zero =>
    go_enter Tryd.func72, Tryd.ntmps72
    go_wp2
    go_ret
    exact ⟨rfl, (Below.refl _ _).alloc (Nat.le_refl _) _⟩
  | succ k =>
    have e1 : ((k + 1 : Nat) : Int) = (k : Int) + 1 := by omega
    rw [e1]
    have hW2 := hid hW
    have hS2 := hid hS
    obtain ⟨aw, cap, rfl, hh⟩ := hW
    obtain ⟨b, off, rfl, _, _, _, hb, hL⟩ := hh (by omega)
    have f1 := (hL k (by omega)).2.1
    have g1 : 0 ≤ (wg ws k).len ∧ (wg ws k).len ≤ 100000 := hs.len k (by omega)
    have hn := hs.n
    have e0 : (((k : Int) + 1) == 0) = false := beq_eq_false_iff_ne.2 (by omega)
    have hb0 := hid ((Below.refl (w.heap.size + 1) (w.alloc (.cells #[.int .i64 route, .slice (some ⟨b, off, none⟩) ws.length cap] 24))).drew)
    have hkw : k < ws.length := by omega
    have Hst := hid hst
    have hw1 : IntKind.i64.wrap (k : Int) = (k : Int) := by rw [IntWalk.i64_in _ (by omega)]
    clear hh hL hS e1 hst
    go_enter Tryd.func72, Tryd.ntmps72
    go_wp2
    go_region_held3 (fun w' => w'.cell? ⟨w.heap.size, 0, none⟩ = some (.int .i64 route) ∧ w'.cell? ⟨w.heap.size, 1, none⟩ = some (.slice (some ⟨b, off, none⟩) ws.length cap) ∧ w'.cell? ⟨b, off + k * 4 + 1, none⟩ = some (.int .i64 (wg ws k).len))
      (first | exact ⟨q0, q1, q2⟩ | exact ⟨p0, p1, p2⟩ | exact ⟨(boxed2 hb0.out).1, (boxed2 hb0.out).2.1, cell_back (boxed2 hb0.out).2.2.1 hb f1⟩) (first
      | (go_at_call 50; refine (slow_any ws route _ none _ (hW2.out.below (boxed2 hb0.out).2.2.1) (by omega)).mono ?_; rintro e w1 ⟨v1, rfl, ho1, hb1⟩; have hk1 := hid (below_go hb0.out hb1 (by simp)); obtain ⟨p0, p1, p2', p3⟩ := boxed2 hk1.out; have p2 := cell_back p2' hb f1)
      | (go_at_call 44; refine (passed_any ws st (ws.map Wing.lo) _ _ route _ _ _ none _ (hW2.out.below p2') (hS2.out.below p2') (ho1.at (by simp)) (by omega) (by rw [Int.toNat_natCast]; exact hs.slow hkw (by omega) (fun i hi => Hst.out i (by omega))) (by omega) (by omega)).mono ?_; rintro e w2 ⟨rfl, hb2⟩; have hk2 := hid (below_go hk1.out hb2 (by omega)); obtain ⟨q0, q1, q2', q3⟩ := boxed2 hk2.out; have q2 := cell_back q2' hb f1))
    go_wp2
    go_ret
    exact ⟨ret_int (by rw [nm_lo]; rfl), q2'⟩

/-- the error of start i -/
def startErr (ws : List Wing) (st : List Int) (i : Nat) : Int := if inB (nm st i) 0 20000 = false then 2 else if nm st i < leastOf ws st i then 12 else 0

/-- the error of a school and starts -/
def checkStarts (route : Int) (ws : List Wing) (st : List Int) : Int :=
  if check route ws = 0 then (if st.length = ws.length then firstBad (startErr ws st) st.length else 1) else check route ws

/-- all starts before start i are fine -/
def FineS (ws : List Wing) (st : List Int) (i : Nat) : Prop := ∀ j, j < i → startErr ws st j = 0

theorem FineS.zero (ws : List Wing) (st : List Int) : FineS ws st 0 := fun j h => by omega
theorem FineS.succ {ws : List Wing} {st : List Int} {i : Nat} (h : FineS ws st i) (h1 : startErr ws st i = 0) : FineS ws st (i + 1) := fun j hj => by
  by_cases e : j = i
  · subst e; exact h1
  · exact h j (by omega)
theorem FineS.bound {ws : List Wing} {st : List Int} {i : Nat} (h : FineS ws st i) : ∀ j, j < i → 0 ≤ nm st j ∧ nm st j ≤ 1000000 := fun j hj => by
  have := h j hj
  unfold startErr at this
  split at this
  · omega
  · rename_i hb
    have hb' : inB (nm st j) 0 20000 = true := by simpa using hb
    rw [inB_true] at hb'
    omega

theorem starts_bad {route : Int} {ws : List Wing} {st : List Int} {i : Nat} (hc : check route ws = 0) (hl : st.length = ws.length) (hi : i < st.length) (h : FineS ws st i) {e : Int} (he : startErr ws st i = e) (hne : e ≠ 0) : checkStarts route ws st = e := by
  unfold checkStarts
  rw [if_pos hc, if_pos hl, firstBad_at hi h (by rw [he]; exact hne), he]
theorem starts_ok {route : Int} {ws : List Wing} {st : List Int} (hc : check route ws = 0) (hl : st.length = ws.length) (h : FineS ws st st.length) : checkStarts route ws st = 0 := by
  unfold checkStarts
  rw [if_pos hc, if_pos hl]
  exact firstBad_zero.2 h
theorem starts_zero {route : Int} {ws : List Wing} {st : List Int} (h : checkStarts route ws st = 0) : check route ws = 0 ∧ st.length = ws.length ∧ FineS ws st st.length := by
  unfold checkStarts at h
  by_cases hc : check route ws = 0
  · rw [if_pos hc] at h
    by_cases hl : st.length = ws.length
    · rw [if_pos hl] at h
      exact ⟨hc, hl, firstBad_zero.1 h⟩
    · rw [if_neg hl] at h; omega
  · rw [if_neg hc] at h; exact absurd h hc

theorem ne_bool {a b : Int} (h : a ≠ b) : (a == b) = false ∧ (a != b) = true := ⟨beq_eq_false_iff_ne.2 h, by simp [h]⟩
theorem eq_bool {a b : Int} (h : a = b) : (a == b) = true ∧ (a != b) = false := ⟨by simp [h], by simp [h]⟩

set_option maxHeartbeats 1000000 in
set_option maxRecDepth 100000 in
theorem rstarts_any (ws : List Wing) (st : List Int) (route : Int) (vw vs : Value) (w : World) (hW : WgAt none w vw ws) (hS : IntsAt none w vs st) (hn : ws.length ≤ 100) (hnm : ∀ i, i < ws.length → (wg ws i).name.size ≤ 1000000) (hns : st.length ≤ 1000000) :
    Calls Tryd.prog 30 #[.agg #[.int .i64 route, vw], vs] w
     fun e w' => e = .returned (.int .i64 (checkStarts route ws st)) ∧ Below w.heap.size w w' := by
  have hb0 := hid (Below.refl (w.heap.size + 1) (w.alloc (.cells #[.int .i64 route, vw] 24)))
  have hW2 := hid hW
  have hS2 := hid hS
  obtain ⟨aw, cap, rfl, _⟩ := hW
  obtain ⟨ags, caps, rfl, hh2⟩ := hS
  have hh2 := hid hh2
  by_cases hc : check route ws = 0
  · obtain ⟨c1, c2⟩ := eq_bool hc
    have Hc := hid hc
    clear hc
    by_cases hl : st.length = ws.length
    · have Hl := hid hl
      obtain ⟨l1, l2⟩ := eq_bool (a := (st.length : Int)) (b := (ws.length : Int)) (by omega)
      have hsm := Small.of_check Hc.out
      clear hl
      go_enter Tryd.func30, Tryd.ntmps30
      go_wp2_with (go_at_call 28; refine (rcheck_any ws route _ none _ (hW2.out.below (boxed2 hb0.out).2.2.1) hn hnm).mono ?_; rintro e w1 ⟨rfl, hb1⟩; have hk1 := hid (below_go hb0.out hb1 (by simp)); obtain ⟨p0, p1, p2', p3⟩ := boxed2 hk1.out)
      go_loopw [6] (fun i wr => ∃ k : Nat, k ≤ st.length ∧ i = .int .i64 k ∧ FineS ws st k ∧ Below (w.heap.size + 1) (w.alloc (.cells #[.int .i64 route, .slice aw ws.length cap] 24)) wr)
        (fun i _ => st.length - (intOf i).toNat)
      case atStart => exact ⟨0, by omega, rfl, FineS.zero _ _, hk1.out⟩
      case round =>
        obtain ⟨k, hk, rfl, hf, hkr⟩ := hrel
        obtain ⟨wo, rfl⟩ : ∃ wo : World, wo = wr := ⟨_, rfl⟩
        have hkr' := hid hkr
        obtain ⟨r0, r1, r2', r3⟩ := boxed2 hkr
        clear hkr hb1 p0 p1 p2' p3
        by_cases hlt : k < st.length
        · obtain ⟨bs, offs, rfl, _, _, _, hbs, hSc⟩ := hh2.out (by omega)
          have sc := hSc k hlt
          have r4 := cell_back r2' hbs sc
          have hkw : k ≤ ws.length := by have := Hl.out; omega
          clear hSc
          cases hin : inB (nm st k) 0 20000 with
          | false =>
            go_wp2_with (go_at_call 78; refine (within_any _ _ _ _).mono ?_; rintro e w' ⟨rfl, rfl⟩)
            go_ret
            exact ⟨ret_int (starts_bad Hc.out Hl.out hlt hf (by unfold startErr; rw [if_pos hin]) (by decide)).symm, r2'⟩
          | true =>
            have hbd := hid hf.bound
            by_cases hq : nm st k < leastOf ws st k
            · go_wp2_with (go_at_call 78; refine (within_any _ _ _ _).mono ?_; rintro e w' ⟨rfl, rfl⟩)
              have hkd := hid (hkr'.out.drew)
              go_region_held3 (fun w' => w'.cell? ⟨w.heap.size, 0, none⟩ = some (.int .i64 route) ∧ w'.cell? ⟨w.heap.size, 1, none⟩ = some (.slice aw ws.length cap) ∧ w'.cell? ⟨bs, offs + k, none⟩ = some (.int .i64 (nm st k)))
                (first | exact ⟨q0, q1, q2⟩ | exact ⟨r0, r1, r4⟩) (first
                | (go_at_call 72; refine (rleastOf_any ws st _ route _ _ _ (hW2.out.below (boxed2 hkd.out).2.2.1) (hS2.out.below (boxed2 hkd.out).2.2.1) (by omega) hsm (by rw [Int.toNat_natCast]; exact hkw) (by rw [Int.toNat_natCast]; exact hk) (by rw [Int.toNat_natCast]; exact hbd.out)).mono ?_; rw [Int.toNat_natCast]; rintro e w2 ⟨rfl, hb2⟩; have hk2 := hid (below_go hkd.out hb2 r3); obtain ⟨q0, q1, q2', q3⟩ := boxed2 hk2.out; have q2 := cell_back q2' hbs sc))
              go_wp2
              go_ret
              exact ⟨ret_int (starts_bad Hc.out Hl.out hlt hf (by unfold startErr; rw [if_neg (by simp [hin]), if_pos hq]) (by decide)).symm, q2'⟩
            · go_wp2_with (go_at_call 78; refine (within_any _ _ _ _).mono ?_; rintro e w' ⟨rfl, rfl⟩)
              have hkd := hid (hkr'.out.drew)
              go_region_held3 (fun w' => w'.cell? ⟨w.heap.size, 0, none⟩ = some (.int .i64 route) ∧ w'.cell? ⟨w.heap.size, 1, none⟩ = some (.slice aw ws.length cap) ∧ w'.cell? ⟨bs, offs + k, none⟩ = some (.int .i64 (nm st k)))
                (first | exact ⟨q0, q1, q2⟩ | exact ⟨r0, r1, r4⟩) (first
                | (go_at_call 72; refine (rleastOf_any ws st _ route _ _ _ (hW2.out.below (boxed2 hkd.out).2.2.1) (hS2.out.below (boxed2 hkd.out).2.2.1) (by omega) hsm (by rw [Int.toNat_natCast]; exact hkw) (by rw [Int.toNat_natCast]; exact hk) (by rw [Int.toNat_natCast]; exact hbd.out)).mono ?_; rw [Int.toNat_natCast]; rintro e w2 ⟨rfl, hb2⟩; have hk2 := hid (below_go hkd.out hb2 r3); obtain ⟨q0, q1, q2', q3⟩ := boxed2 hk2.out; have q2 := cell_back q2' hbs sc))
              go_wp2
              go_roundw
              case rel => exact ⟨k + 1, by omega, by go_num, hf.succ (by unfold startErr; rw [if_neg (by simp [hin]), if_neg (by omega)]), hk2.out⟩
              case measure => simp [intOf] <;> omega
        · go_wp2
          go_ret
          obtain rfl : k = st.length := by omega
          exact ⟨ret_int (starts_ok Hc.out Hl.out hf).symm, r2'⟩
    · have Hl := hid hl
      obtain ⟨l1, l2⟩ := ne_bool (a := (st.length : Int)) (b := (ws.length : Int)) (by omega)
      clear hl
      go_enter Tryd.func30, Tryd.ntmps30
      go_wp2_with (go_at_call 28; refine (rcheck_any ws route _ none _ (hW2.out.below (boxed2 hb0.out).2.2.1) hn hnm).mono ?_; rintro e w1 ⟨rfl, hb1⟩; have hk1 := hid (below_go hb0.out hb1 (by simp)); obtain ⟨p0, p1, p2', p3⟩ := boxed2 hk1.out)
      go_ret
      exact ⟨ret_int (by unfold checkStarts; rw [if_pos Hc.out, if_neg Hl.out]), p2'⟩
  · obtain ⟨c1, c2⟩ := ne_bool hc
    have Hc := hid hc
    clear hc
    go_enter Tryd.func30, Tryd.ntmps30
    go_wp2_with (go_at_call 28; refine (rcheck_any ws route _ none _ (hW2.out.below (boxed2 hb0.out).2.2.1) hn hnm).mono ?_; rintro e w1 ⟨rfl, hb1⟩; have hk1 := hid (below_go hb0.out hb1 (by simp)); obtain ⟨p0, p1, p2', p3⟩ := boxed2 hk1.out)
    go_ret
    exact ⟨ret_int (by unfold checkStarts; rw [if_neg Hc.out]), p2'⟩
end Go.Proofs.YtgfipifgijohhaaDoor
