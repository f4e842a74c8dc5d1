/-
  WALKS: the program's least starts: clear, least, CheckStarts, Least.
  WALKS: the program's asked and Where.
-/
import Derived.Test.YtefdopifebhgiaaGreatDoorPFr
import Derived.Test.YtefdopifebhgiaaGreatDoorPChk
namespace Go.Proofs.YtefdopifebhgiaaGreatDoor
open Go.RowKit

/-- the box of a struct of three cells, in a later world -/
theorem boxed3 {w w' : World} {x y z : Value} {t : TypeId} (h : Below (w.heap.size + 1) (w.alloc (.cells #[x, y, z] t)) w') :
    w'.cell? ⟨w.heap.size, 0, none⟩ = some x ∧ w'.cell? ⟨w.heap.size, 1, none⟩ = some y ∧ w'.cell? ⟨w.heap.size, 2, none⟩ = some z ∧ Below w.heap.size w w' ∧ w.heap.size + 1 ≤ w'.heap.size :=
  ⟨cell_back h (Nat.lt_succ_self _) (cell_at rfl rfl), cell_back h (Nat.lt_succ_self _) (cell_at rfl rfl), cell_back h (Nat.lt_succ_self _) (cell_at rfl rfl), ((Below.refl _ w).alloc (Nat.le_refl _) _).trans (h.mono (Nat.le_succ _)), by have := h.size; simpa using this⟩

set_option maxHeartbeats 1000000 in
set_option maxRecDepth 100000 in
theorem clear_any (ws : List Wing) (st : List Int) (kk place e : Int) (vw vs : Value) (w : World) (hW : WgAt none w vw ws) (hS : IntsAt none w vs st)
    (h0 : 0 ≤ kk) (ht : Tr ws st kk.toNat e) (hpl : 0 ≤ place) (hpl2 : place ≤ 1000000) :
    Calls Tryz.prog 57 #[.agg #[vw, vs, .int .i64 e], .int .i64 kk, .int .i64 place] w
     fun e' w' => e' = .returned (.int .i64 (passed (Ln ws) (nm st) (endOf ws e) kk.toNat (place + Ln ws kk.toNat))) ∧ Below w.heap.size w w' := by
  obtain ⟨k, rfl⟩ := Int.eq_ofNat_of_zero_le h0
  rw [Int.toNat_natCast] at *
  have hW2 := hid hW
  have hS2 := hid hS
  obtain ⟨aw, cap, rfl, hh⟩ := hW
  obtain ⟨b, off, rfl, _, _, _, hb, hL⟩ := hh (by have := ht.kw; omega)
  obtain ⟨ags, caps, rfl, hh2⟩ := hS
  have f1 := (hL k ht.kw).2.1
  have g1 : 0 ≤ (wg ws k).len ∧ (wg ws k).len ≤ 100000 := ht.small.len k ht.kw
  have hn := ht.small.n
  have hkw := ht.kw
  have hb0 := hid ((Below.refl (w.heap.size + 1) (w.alloc (.cells #[.slice (some ⟨b, off, none⟩) ws.length cap, .slice ags st.length caps, .int .i64 e] 90))).drew)
  have z1 : IntKind.i64.wrap (place + (wg ws k).len) = place + (wg ws k).len := IntWalk.i64_in _ (by omega)
  clear hh hL hh2
  go_enter Tryz.func57, Tryz.ntmps57
  go_wp2
  go_region_held3 (fun w' => w'.cell? ⟨w.heap.size, 0, none⟩ = some (.slice (some ⟨b, off, none⟩) ws.length cap) ∧ w'.cell? ⟨w.heap.size, 1, none⟩ = some (.slice ags st.length caps) ∧ w'.cell? ⟨w.heap.size, 2, none⟩ = some (.int .i64 e) ∧ w'.cell? ⟨b, off + k * 4 + 1, none⟩ = some (.int .i64 (wg ws k).len))
    (first | exact ⟨q0, q1, q2, q3⟩ | exact ⟨(boxed3 hb0.out).1, (boxed3 hb0.out).2.1, (boxed3 hb0.out).2.2.1, cell_back (boxed3 hb0.out).2.2.2.1 hb f1⟩) (first
    | (go_at_call 79; refine (passes_any ws st _ _ e _ _ _ (hW2.out.below (boxed3 hb0.out).2.2.2.1) (hS2.out.below (boxed3 hb0.out).2.2.2.1) (by omega) (by rw [Int.toNat_natCast]; exact ht) (by omega) (by omega)).mono ?_; rintro e' w2 ⟨rfl, hb2⟩; have hk2 := hid (below_go hb0.out hb2 (by simp)); obtain ⟨q0, q1, q2, q3', q4⟩ := boxed3 hk2.out; have q3 := cell_back q3' hb f1))
  go_wp2
  go_ret
  exact ⟨rfl, q3'⟩

set_option maxHeartbeats 1000000 in
set_option maxRecDepth 100000 in
theorem pleast_any (ws : List Wing) (st : List Int) (kk route : Int) (vw vs : Value) (w : World) (hW : WgAt none w vw ws) (hS : IntsAt none w vs st)
    (h0 : 0 ≤ kk) (hs : Small ws) (hk : kk.toNat ≤ ws.length) (hks : kk.toNat ≤ st.length) (hst : ∀ i, i < kk.toNat → 0 ≤ nm st i ∧ nm st i ≤ 1000000) :
    Calls Tryz.prog 40 #[.agg #[.int .i64 route, vw], vs, .int .i64 kk] w
     fun e w' => e = .returned (.int .i64 (leastOf ws st kk.toNat)) ∧ Below w.heap.size w w' := by
  obtain ⟨k, rfl⟩ := Int.eq_ofNat_of_zero_le h0
  rw [Int.toNat_natCast] at *
  have hW2 := hid hW
  have hS2 := hid hS
  obtain ⟨aw, cap, rfl, _⟩ := hW
  obtain ⟨ags, caps, rfl, _⟩ := hS
  cases k with
  | zero =>
    go_enter Tryz.func40, Tryz.ntmps40
    go_wp2
    go_ret
    exact ⟨rfl, (Below.refl _ _).alloc (Nat.le_refl _) _⟩
  | succ k =>
    have e1 : ((k + 1 : Nat) : Int) = (k : Int) + 1 := by omega
    rw [e1]
    have e0 : (((k : Int) + 1) == 0) = false := beq_eq_false_iff_ne.2 (by omega)
    have hn := hs.n
    have hTr : Tr ws st k 0 := ⟨hs, by omega, by omega, fun i hi => hst i (by omega), .inl rfl⟩
    have hb0 := hid (Below.refl (w.heap.size + 1) (w.alloc (.cells #[.int .i64 route, .slice aw ws.length cap] 24)))
    clear e1 hst
    go_enter Tryz.func40, Tryz.ntmps40
    go_wp2_with (first
      | (go_at_call 42; refine (truthOf_any _ _ _ _ _ _ _ _ _).mono ?_; rintro e w1 ⟨rfl, hb1⟩; have hk1 := hid (below_go hb0.out hb1 (by simp)))
      | (go_at_call 57; refine (clear_any ws st _ _ _ _ _ _ (hW2.out.below (boxed2 hk1.out).2.2.1) (hS2.out.below (boxed2 hk1.out).2.2.1) (by omega) (by rw [Int.toNat_natCast]; exact hTr) (by omega) (by omega)).mono ?_; rintro e w2 ⟨rfl, hb2⟩))
    go_ret
    exact ⟨ret_int (by simp [leastOf, endOf]), (boxed2 hk1.out).2.2.1.trans (hb2.mono (boxed2 hk1.out).2.2.1.size)⟩
set_option maxHeartbeats 1000000 in
set_option maxRecDepth 100000 in
theorem pstarts_any (ws : List Wing) (st : List Int) (route : Int) (vw vs : Value) (w : World) (hW : WgAt none w vw ws) (hS : IntsAt none w vs st) (hn : ws.length ≤ 100) (hnm : ∀ i, i < ws.length → (wg ws i).name.size ≤ 1000000) (hns : st.length ≤ 1000000) :
    Calls Tryz.prog 58 #[.agg #[.int .i64 route, vw], vs] w
     fun e w' => e = .returned (.int .i64 (checkStarts route ws st)) ∧ Below w.heap.size w w' := by
  have hb0 := hid (Below.refl (w.heap.size + 1) (w.alloc (.cells #[.int .i64 route, vw] 24)))
  have hW2 := hid hW
  have hS2 := hid hS
  obtain ⟨aw, cap, rfl, _⟩ := hW
  obtain ⟨ags, caps, rfl, hh2⟩ := hS
  have hh2 := hid hh2
  by_cases hc : check route ws = 0
  · obtain ⟨c1, c2⟩ := eq_bool hc
    have Hc := hid hc
    clear hc
    by_cases hl : st.length = ws.length
    · have Hl := hid hl
      obtain ⟨l1, l2⟩ := eq_bool (a := (st.length : Int)) (b := (ws.length : Int)) (by omega)
      have hsm := Small.of_check Hc.out
      clear hl
      go_enter Tryz.func58, Tryz.ntmps58
      go_wp2_with (go_at_call 27; refine (pcheck_any ws route _ none _ (hW2.out.below (boxed2 hb0.out).2.2.1) hn hnm).mono ?_; rintro e w1 ⟨rfl, hb1⟩; have hk1 := hid (below_go hb0.out hb1 (by simp)); obtain ⟨p0, p1, p2', p3⟩ := boxed2 hk1.out)
      go_loopw [21] (fun i wr => ∃ k : Nat, k ≤ st.length ∧ i = .int .i64 k ∧ FineS ws st k ∧ Below (w.heap.size + 1) (w.alloc (.cells #[.int .i64 route, .slice aw ws.length cap] 24)) wr)
        (fun i _ => st.length - (intOf i).toNat)
      case atStart => exact ⟨0, by omega, rfl, FineS.zero _ _, hk1.out⟩
      case round =>
        obtain ⟨k, hk, rfl, hf, hkr⟩ := hrel
        obtain ⟨wo, rfl⟩ : ∃ wo : World, wo = wr := ⟨_, rfl⟩
        have hkr' := hid hkr
        obtain ⟨r0, r1, r2', r3⟩ := boxed2 hkr
        clear hkr hb1 p0 p1 p2' p3
        by_cases hlt : k < st.length
        · obtain ⟨bs, offs, rfl, _, _, _, hbs, hSc⟩ := hh2.out (by omega)
          have sc := hSc k hlt
          have r4 := cell_back r2' hbs sc
          have hkw : k ≤ ws.length := by have := Hl.out; omega
          clear hSc
          cases hin : inB (nm st k) 0 20000 with
          | false =>
            go_wp2_with (go_at_call 46; refine (in_any _ _ _ _).mono ?_; rintro e w' ⟨rfl, rfl⟩)
            go_ret
            exact ⟨ret_int (starts_bad Hc.out Hl.out hlt hf (by unfold startErr; rw [if_pos hin]) (by decide)).symm, r2'⟩
          | true =>
            have hbd := hid hf.bound
            by_cases hq : nm st k < leastOf ws st k
            · go_wp2_with (first | (go_at_call 46; refine (in_any _ _ _ _).mono ?_; rintro e w' ⟨rfl, rfl⟩) | (go_at_call 40; refine (pleast_any ws st _ route _ _ _ (hW2.out.below r2') (hS2.out.below r2') (by omega) hsm (by rw [Int.toNat_natCast]; exact hkw) (by rw [Int.toNat_natCast]; exact hk) (by rw [Int.toNat_natCast]; exact hbd.out)).mono ?_; rw [Int.toNat_natCast]; rintro e w2 ⟨rfl, hb2⟩; have hk2 := hid (below_go hkr'.out hb2 r3); obtain ⟨q0, q1, q2', q3⟩ := boxed2 hk2.out))
              go_ret
              exact ⟨ret_int (starts_bad Hc.out Hl.out hlt hf (by unfold startErr; rw [if_neg (by simp [hin]), if_pos hq]) (by decide)).symm, q2'⟩
            · go_wp2_with (first | (go_at_call 46; refine (in_any _ _ _ _).mono ?_; rintro e w' ⟨rfl, rfl⟩) | (go_at_call 40; refine (pleast_any ws st _ route _ _ _ (hW2.out.below r2') (hS2.out.below r2') (by omega) hsm (by rw [Int.toNat_natCast]; exact hkw) (by rw [Int.toNat_natCast]; exact hk) (by rw [Int.toNat_natCast]; exact hbd.out)).mono ?_; rw [Int.toNat_natCast]; rintro e w2 ⟨rfl, hb2⟩; have hk2 := hid (below_go hkr'.out hb2 r3); obtain ⟨q0, q1, q2', q3⟩ := boxed2 hk2.out))
              go_roundw
              case rel => exact ⟨k + 1, by omega, by go_num, hf.succ (by unfold startErr; rw [if_neg (by simp [hin]), if_neg (by omega)]), hk2.out⟩
              case measure => simp [intOf] <;> omega
        · go_wp2
          go_ret
          obtain rfl : k = st.length := by omega
          exact ⟨ret_int (starts_ok Hc.out Hl.out hf).symm, r2'⟩
    · have Hl := hid hl
      obtain ⟨l1, l2⟩ := ne_bool (a := (st.length : Int)) (b := (ws.length : Int)) (by omega)
      clear hl
      go_enter Tryz.func58, Tryz.ntmps58
      go_wp2_with (go_at_call 27; refine (pcheck_any ws route _ none _ (hW2.out.below (boxed2 hb0.out).2.2.1) hn hnm).mono ?_; rintro e w1 ⟨rfl, hb1⟩; have hk1 := hid (below_go hb0.out hb1 (by simp)); obtain ⟨p0, p1, p2', p3⟩ := boxed2 hk1.out)
      go_ret
      exact ⟨ret_int (by unfold checkStarts; rw [if_pos Hc.out, if_neg Hl.out]), p2'⟩
  · obtain ⟨c1, c2⟩ := ne_bool hc
    have Hc := hid hc
    clear hc
    go_enter Tryz.func58, Tryz.ntmps58
    go_wp2_with (go_at_call 27; refine (pcheck_any ws route _ none _ (hW2.out.below (boxed2 hb0.out).2.2.1) hn hnm).mono ?_; rintro e w1 ⟨rfl, hb1⟩; have hk1 := hid (below_go hb0.out hb1 (by simp)); obtain ⟨p0, p1, p2', p3⟩ := boxed2 hk1.out)
    go_ret
    exact ⟨ret_int (by unfold checkStarts; rw [if_neg Hc.out]), p2'⟩
set_option maxHeartbeats 1000000 in
set_option maxRecDepth 100000 in
theorem pleasts_any (ws : List Wing) (route : Int) (vw : Value) (w : World) (hW : WgAt none w vw ws) (hn : ws.length ≤ 100) (hnm : ∀ i, i < ws.length → (wg ws i).name.size ≤ 1000000) :
    Calls Tryz.prog 15 #[.agg #[.int .i64 route, vw]] w (LeastPost route ws w) := by
  have hb0 := hid (Below.refl (w.heap.size + 1) (w.alloc (.cells #[.int .i64 route, vw] 24)))
  have hW2 := hid hW
  obtain ⟨aw, cap, rfl, _⟩ := hW
  by_cases hc : check route ws = 0
  · obtain ⟨c1, c2⟩ := eq_bool hc
    have Hc := hid hc
    have hsm := Small.of_check Hc.out
    clear hc
    go_enter Tryz.func15, Tryz.ntmps15
    go_wp2_with (go_at_call 27; refine (pcheck_any ws route _ none _ (hW2.out.below (boxed2 hb0.out).2.2.1) hn hnm).mono ?_; rintro e w1 ⟨rfl, hb1⟩; have hk1 := hid (below_go hb0.out hb1 (by simp)); obtain ⟨p0, p1, p2', p3⟩ := boxed2 hk1.out)
    go_loopw [5, 16] (fun v i wr => ∃ k : Nat, k ≤ ws.length ∧ i = .int .i64 k ∧ FineL ws k ∧ OwnInts (w.heap.size + 1) wr v (leasts ws k) ∧ Below (w.heap.size + 1) (w.alloc (.cells #[.int .i64 route, .slice aw ws.length cap] 24)) wr)
      (fun _ i _ => ws.length - (intOf i).toNat)
    case atStart => exact ⟨0, by omega, rfl, FineL.zero _, own_nil _ _, hk1.out⟩
    case round =>
      obtain ⟨k, hk, rfl, hf, hown, hkr⟩ := hrel
      obtain ⟨wo, rfl⟩ : ∃ wo : World, wo = wr := ⟨_, rfl⟩
      have hkr' := hid hkr
      obtain ⟨r0, r1, r2', r3⟩ := boxed2 hkr
      clear hkr hb1 p0 p1 p2' p3
      by_cases hlt : k < ws.length
      · have hbd := hid (leasts_bound hsm hk hf)
        have hlen := hid (leasts_length ws k)
        have Hown := hid hown
        clear hown
        by_cases hq : 20000 < leastOf ws (leasts ws k) k
        · go_wp2_with (first
            | (go_at_call 40; refine (pleast_any ws (leasts ws k) _ route _ _ _ (hW2.out.below r2') (Hown.out.at (by simp)) (by omega) hsm (by rw [Int.toNat_natCast]; exact hk) (by rw [Int.toNat_natCast, hlen.out]; exact Nat.le_refl _) (by rw [Int.toNat_natCast]; exact hbd.out)).mono ?_; rw [Int.toNat_natCast]; rintro e w2 ⟨rfl, hb2⟩; have hk2 := hid (below_go hkr'.out hb2 r3); obtain ⟨q0, q1, q2', q3⟩ := boxed2 hk2.out; have hown2 := hid (World.ownsRow.kept Hown.out (gb_below hb2 none) (by cases h : u5.ownBlock <;> simp)))
            | (at_builtin; refine app_int rfl _ _ rfl (w.heap.size + 1) (leasts ws k) (leastOf ws (leasts ws k) k) _ hown2.out rfl rfl (by rw [hlen.out]; omega) q3 ?_; intro v1 w3 hown1 hbel1 _ _))
          go_ret2
          obtain ⟨x1, x2⟩ := least_bad Hc.out hlt hf (by unfold lateErr; rw [if_pos hq])
          exact ⟨_, tuple_err x1.symm, by rw [x2]; exact own_nil _ _, q2'⟩
        · go_wp2_with (first
            | (go_at_call 40; refine (pleast_any ws (leasts ws k) _ route _ _ _ (hW2.out.below r2') (Hown.out.at (by simp)) (by omega) hsm (by rw [Int.toNat_natCast]; exact hk) (by rw [Int.toNat_natCast, hlen.out]; exact Nat.le_refl _) (by rw [Int.toNat_natCast]; exact hbd.out)).mono ?_; rw [Int.toNat_natCast]; rintro e w2 ⟨rfl, hb2⟩; have hk2 := hid (below_go hkr'.out hb2 r3); obtain ⟨q0, q1, q2', q3⟩ := boxed2 hk2.out; have hown2 := hid (World.ownsRow.kept Hown.out (gb_below hb2 none) (by cases h : u5.ownBlock <;> simp)))
            | (at_builtin; refine app_int rfl _ _ rfl (w.heap.size + 1) (leasts ws k) (leastOf ws (leasts ws k) k) _ hown2.out rfl rfl (by rw [hlen.out]; omega) q3 ?_; intro v1 w3 hown1 hbel1 _ _))
          go_roundw
          case rel => exact ⟨k + 1, by omega, by go_num, hf.succ (by unfold lateErr; rw [if_neg (by omega)]), hown1, hk2.out.trans hbel1⟩
          case measure => simp [intOf] <;> omega
      · go_wp2
        go_ret2
        obtain rfl : k = ws.length := by omega
        obtain ⟨x1, x2⟩ := least_ok Hc.out hf
        exact ⟨_, tuple_err x1.symm, by rw [x2]; exact hown.base (Nat.le_succ _), r2'⟩
  · obtain ⟨c1, c2⟩ := ne_bool hc
    have Hc := hid hc
    clear hc
    go_enter Tryz.func15, Tryz.ntmps15
    go_wp2_with (go_at_call 27; refine (pcheck_any ws route _ none _ (hW2.out.below (boxed2 hb0.out).2.2.1) hn hnm).mono ?_; rintro e w1 ⟨rfl, hb1⟩; have hk1 := hid (below_go hb0.out hb1 (by simp)); obtain ⟨p0, p1, p2', p3⟩ := boxed2 hk1.out)
    go_ret2
    obtain ⟨x1, x2⟩ := least_check Hc.out
    exact ⟨_, tuple_err x1.symm, by rw [x2]; exact own_nil _ _, p2'⟩
end Go.Proofs.YtefdopifebhgiaaGreatDoor

namespace Go.Proofs.YtefdopifebhgiaaGreatDoor
open Go.RowKit

theorem hb_go {w wx w2 : World} (h : Hid (Below w.heap.size w wx)) (k : Below wx.heap.size wx w2) : Hid (Below w.heap.size w w2) := below_trans h.out k

theorem twoBelow {w w' : World} {X Y : Obj} (h : Below (w.heap.size + 2) ((w.alloc X).alloc Y) w') : Below w.heap.size w w' :=
  (((Below.refl _ w).alloc (Nat.le_refl _) X).alloc (by simp) Y).trans (h.mono (by omega))

/-- the error of a school, starts, a wing and a second -/
def askedErr (route : Int) (ws : List Wing) (st : List Int) (wing second : Int) : Int :=
  if checkStarts route ws st = 0 then (if inB wing 0 ((ws.length : Int) - 1) = false then 7 else if second < nm st wing.toNat then 12 else if 100000 < second then 2 else 0) else checkStarts route ws st

theorem asked_starts {route : Int} {ws : List Wing} {st : List Int} {wing second : Int} (h : checkStarts route ws st ≠ 0) : askedErr route ws st wing second = checkStarts route ws st := by unfold askedErr; rw [if_neg h]

/-- what starts that are valid are good for -/
theorem starts_tr {route : Int} {ws : List Wing} {st : List Int} (h : checkStarts route ws st = 0) {k : Nat} (hk : k < ws.length) {e : Int} (he : e = 0 ∨ e = 1) : Tr ws st k e := by
  obtain ⟨h1, h2, h3⟩ := starts_zero h
  exact ⟨Small.of_check h1, hk, by omega, fun i hi => h3.bound i (by omega), he⟩

theorem asked_zero {route : Int} {ws : List Wing} {st : List Int} {wing second : Int} (h : askedErr route ws st wing second = 0) :
    checkStarts route ws st = 0 ∧ 0 ≤ wing ∧ wing.toNat < ws.length ∧ nm st wing.toNat ≤ second ∧ second ≤ 100000 := by
  unfold askedErr at h
  by_cases hc : checkStarts route ws st = 0
  · rw [if_pos hc] at h
    split at h
    · omega
    · rename_i h1
      have h1' : inB wing 0 ((ws.length : Int) - 1) = true := by simpa using h1
      rw [inB_true] at h1'
      split at h
      · omega
      · split at h
        · omega
        · exact ⟨hc, h1'.1, by omega, by omega, by omega⟩
  · rw [if_neg hc] at h; exact absurd h hc

set_option maxHeartbeats 1000000 in
set_option maxRecDepth 100000 in
theorem asked_any (ws : List Wing) (st : List Int) (route wing second : Int) (vw vs : Value) (w : World) (hW : WgAt none w vw ws) (hS : IntsAt none w vs st) (hn : ws.length ≤ 100) (hnm : ∀ i, i < ws.length → (wg ws i).name.size ≤ 1000000) (hns : st.length ≤ 1000000) :
    Calls Tryz.prog 41 #[.agg #[.int .i64 route, vw], vs, .int .i64 wing, .int .i64 second] w
     fun e w' => e = .returned (.int .i64 (askedErr route ws st wing second)) ∧ Below w.heap.size w w' := by
  have hb0 := hid (Below.refl (w.heap.size + 1) (w.alloc (.cells #[.int .i64 route, vw] 24)))
  have hW2 := hid hW
  have hS2 := hid hS
  obtain ⟨aw, cap, rfl, _⟩ := hW
  obtain ⟨ags, caps, rfl, hh2⟩ := hS
  have hh2 := hid hh2
  have z1 : IntKind.i64.wrap ((ws.length : Int) - 1) = (ws.length : Int) - 1 := IntWalk.i64_in _ (by omega)
  by_cases hc : checkStarts route ws st = 0
  · obtain ⟨c1, c2⟩ := eq_bool hc
    have Hc := hid hc
    clear hc
    cases hin : inB wing 0 ((ws.length : Int) - 1) with
    | false =>
      go_enter Tryz.func41, Tryz.ntmps41
      go_wp2_with (first
        | (go_at_call 58; refine (pstarts_any ws st route _ _ _ (hW2.out.below (boxed2 hb0.out).2.2.1) (hS2.out.below (boxed2 hb0.out).2.2.1) hn hnm hns).mono ?_; rintro e w1 ⟨rfl, hb1⟩; have hk1 := hid (below_go hb0.out hb1 (by simp)); obtain ⟨p0, p1, p2', p3⟩ := boxed2 hk1.out)
        | (go_at_call 46; refine (in_any _ _ _ _).mono ?_; rintro e w' ⟨rfl, rfl⟩))
      go_ret
      exact ⟨ret_int (by unfold askedErr; rw [if_pos Hc.out, if_pos hin]), p2'⟩
    | true =>
      have hin2 := inB_true.1 hin
      obtain ⟨k, rfl⟩ := Int.eq_ofNat_of_zero_le hin2.1
      have hkw : k < ws.length := by omega
      have hlen := (starts_zero Hc.out).2.1
      have hks : k < st.length := by omega
      obtain ⟨bs, offs, rfl, _, _, _, hbs, hSc⟩ := hh2.out (by omega)
      have sc := hSc k hks
      clear hSc hlen
      by_cases h1 : second < nm st k
      · go_enter Tryz.func41, Tryz.ntmps41
        go_wp2_with (first
          | (go_at_call 58; refine (pstarts_any ws st route _ _ _ (hW2.out.below (boxed2 hb0.out).2.2.1) (hS2.out.below (boxed2 hb0.out).2.2.1) hn hnm hns).mono ?_; rintro e w1 ⟨rfl, hb1⟩; have hk1 := hid (below_go hb0.out hb1 (by simp)); obtain ⟨p0, p1, p2', p3⟩ := boxed2 hk1.out; have p4 := cell_back p2' hbs sc)
          | (go_at_call 46; refine (in_any _ _ _ _).mono ?_; rintro e w' ⟨rfl, rfl⟩))
        go_ret
        exact ⟨ret_int (by unfold askedErr; rw [if_pos Hc.out, if_neg (by simp [hin]), if_pos (by simpa using h1)]), p2'⟩
      · by_cases h2 : 100000 < second
        · go_enter Tryz.func41, Tryz.ntmps41
          go_wp2_with (first
            | (go_at_call 58; refine (pstarts_any ws st route _ _ _ (hW2.out.below (boxed2 hb0.out).2.2.1) (hS2.out.below (boxed2 hb0.out).2.2.1) hn hnm hns).mono ?_; rintro e w1 ⟨rfl, hb1⟩; have hk1 := hid (below_go hb0.out hb1 (by simp)); obtain ⟨p0, p1, p2', p3⟩ := boxed2 hk1.out; have p4 := cell_back p2' hbs sc)
            | (go_at_call 46; refine (in_any _ _ _ _).mono ?_; rintro e w' ⟨rfl, rfl⟩))
          go_ret
          exact ⟨ret_int (by unfold askedErr; rw [if_pos Hc.out, if_neg (by simp [hin]), if_neg (by simp; omega), if_pos h2]), p2'⟩
        · go_enter Tryz.func41, Tryz.ntmps41
          go_wp2_with (first
            | (go_at_call 58; refine (pstarts_any ws st route _ _ _ (hW2.out.below (boxed2 hb0.out).2.2.1) (hS2.out.below (boxed2 hb0.out).2.2.1) hn hnm hns).mono ?_; rintro e w1 ⟨rfl, hb1⟩; have hk1 := hid (below_go hb0.out hb1 (by simp)); obtain ⟨p0, p1, p2', p3⟩ := boxed2 hk1.out; have p4 := cell_back p2' hbs sc)
            | (go_at_call 46; refine (in_any _ _ _ _).mono ?_; rintro e w' ⟨rfl, rfl⟩))
          go_ret
          exact ⟨ret_int (by unfold askedErr; rw [if_pos Hc.out, if_neg (by simp [hin]), if_neg (by simp; omega), if_neg (by omega)]), p2'⟩
  · obtain ⟨c1, c2⟩ := ne_bool hc
    have Hc := hid hc
    clear hc
    go_enter Tryz.func41, Tryz.ntmps41
    go_wp2_with (go_at_call 58; refine (pstarts_any ws st route _ _ _ (hW2.out.below (boxed2 hb0.out).2.2.1) (hS2.out.below (boxed2 hb0.out).2.2.1) hn hnm hns).mono ?_; rintro e w1 ⟨rfl, hb1⟩; have hk1 := hid (below_go hb0.out hb1 (by simp)); obtain ⟨p0, p1, p2', p3⟩ := boxed2 hk1.out)
    go_ret
    exact ⟨ret_int (asked_starts Hc.out).symm, p2'⟩

/-- the least and the greatest place -/
def whereSpan (route : Int) (ws : List Wing) (st : List Int) (wing second : Int) : Int × Int :=
  if askedErr route ws st wing second = 0 then (front (Ln ws) (nm st) (Lo ws) wing.toNat second, front (Ln ws) (nm st) (Hi ws) wing.toNat second) else (0, 0)

theorem endOf_0 (ws : List Wing) : endOf ws 0 = Lo ws := rfl
theorem endOf_1 (ws : List Wing) : endOf ws 1 = Hi ws := rfl

set_option maxHeartbeats 2000000 in
set_option maxRecDepth 100000 in
theorem where_any (ws : List Wing) (st : List Int) (route wing second : Int) (vw vs : Value) (w : World) (hW : WgAt none w vw ws) (hS : IntsAt none w vs st) (hn : ws.length ≤ 100) (hnm : ∀ i, i < ws.length → (wg ws i).name.size ≤ 1000000) (hns : st.length ≤ 1000000) :
    Calls Tryz.prog 17 #[.agg #[.int .i64 route, vw], vs, .int .i64 wing, .int .i64 second] w
     fun e w' => e = .returned (.tuple #[.agg #[.int .i64 (whereSpan route ws st wing second).1, .int .i64 (whereSpan route ws st wing second).2], .int .i64 (askedErr route ws st wing second)]) ∧ Below w.heap.size w w' := by
  have hW2 := hid hW
  have hS2 := hid hS
  obtain ⟨aw, cap, rfl, _⟩ := hW
  obtain ⟨ags, caps, rfl, _⟩ := hS
  have hb0 := hid (Below.refl (w.heap.size + 2) ((w.alloc (.cells #[.int .i64 route, .slice aw ws.length cap] 24)).alloc (.cells #[.int .i64 0, .int .i64 0] 43)))
  by_cases hc : askedErr route ws st wing second = 0
  · obtain ⟨c1, c2⟩ := eq_bool hc
    have Hc := hid hc
    clear hc
    obtain ⟨a1, a2, a3, a4, a5⟩ := asked_zero Hc.out
    have T0 := hid (starts_tr a1 a3 (e := 0) (.inl rfl))
    have T1 := hid (starts_tr a1 a3 (e := 1) (.inr rfl))
    have a6 : -10000000 ≤ second := by
      have := T0.out.start wing.toNat (Nat.le_refl _); omega
    clear a1 a3 a4
    go_enter Tryz.func17, Tryz.ntmps17
    go_wp2_with (go_at_call 41; refine (asked_any ws st route _ _ _ _ _ (hW2.out.below (by exact twoBelow hb0.out)) (hS2.out.below (by exact twoBelow hb0.out)) hn hnm hns).mono ?_; rintro e w1 ⟨rfl, hb1⟩; have hk1 := hid (below_go hb0.out hb1 (by simp)))
    have kb : Hid (Below w.heap.size w w1) := hid (twoBelow hk1.out)
    have s0 : w1.cell? ⟨w.heap.size, 0, none⟩ = some (.int .i64 route) := cell_back hk1.out (by omega) (cell_up (cell_at rfl rfl))
    have s1 : w1.cell? ⟨w.heap.size, 1, none⟩ = some (.slice aw ws.length cap) := cell_back hk1.out (by omega) (cell_up (cell_at rfl rfl))
    have rc0 : w1.cell? ⟨w.heap.size + 1, 0, none⟩ = some (.int .i64 0) := cell_back hk1.out (by omega) (cell_at (by simp) rfl)
    have rc1 : w1.cell? ⟨w.heap.size + 1, 1, none⟩ = some (.int .i64 0) := cell_back hk1.out (by omega) (cell_at (by simp) rfl)
    have rf : w1.frozen? ⟨w.heap.size + 1, 0, none⟩ = false := (hk1.out.frozen (p := ⟨w.heap.size + 1, 0, none⟩) (by simp)).trans (frozen_at (by simp))
    have rf1 : w1.frozen? ⟨w.heap.size + 1, 1, none⟩ = false := (hk1.out.frozen (p := ⟨w.heap.size + 1, 1, none⟩) (by simp)).trans (frozen_at (by simp))
    have kb := hid kb.out.drew
    have s0 : w1.drew.cell? ⟨w.heap.size, 0, none⟩ = some (.int .i64 route) := s0
    have s1 : w1.drew.cell? ⟨w.heap.size, 1, none⟩ = some (.slice aw ws.length cap) := s1
    have rc0 : w1.drew.cell? ⟨w.heap.size + 1, 0, none⟩ = some (.int .i64 0) := rc0
    have rc1 : w1.drew.cell? ⟨w.heap.size + 1, 1, none⟩ = some (.int .i64 0) := rc1
    have rf : w1.drew.frozen? ⟨w.heap.size + 1, 0, none⟩ = false := rf
    have rf1 : w1.drew.frozen? ⟨w.heap.size + 1, 1, none⟩ = false := rf1
    clear hb0 hb1 hk1
    go_region_held3 (fun w' => w'.cell? ⟨w.heap.size, 0, none⟩ = some (.int .i64 route) ∧ w'.cell? ⟨w.heap.size, 1, none⟩ = some (.slice aw ws.length cap))
      (first | exact ⟨s0, s1⟩ | go_keep) (first
      | (go_at_call 42; refine (truthOf_any _ _ _ _ _ _ _ _ _).mono ?_; rintro e w2 ⟨rfl, hb2⟩; have kb := hb_go (by assumption) hb2; have s0 := cell_now (b := w.heap.size) (o := 0) (v := .int .i64 route) hb2 (by first | assumption | exact s0); have s1 := cell_now (b := w.heap.size) (o := 1) (v := .slice aw ws.length cap) hb2 (by first | assumption | exact s1); have rf := frozen_now (b := w.heap.size + 1) (o := 0) (v := .int .i64 0) hb2 (by first | assumption | exact rc0) (by first | assumption | exact rf); have rf1 := frozen_now (b := w.heap.size + 1) (o := 1) (v := .int .i64 0) hb2 (by first | assumption | exact rc1) (by first | assumption | exact rf1); have rc0 := cell_now (b := w.heap.size + 1) (o := 0) (v := .int .i64 0) hb2 (by first | assumption | exact rc0); have rc1 := cell_now (b := w.heap.size + 1) (o := 1) (v := .int .i64 0) hb2 (by first | assumption | exact rc1))
      | (go_at_call 43; refine (pfront_any ws st _ _ _ _ _ _ (hW2.out.below (Hid.out (by assumption))) (hS2.out.below (Hid.out (by assumption))) (by assumption) (by first | exact T0.out | exact T1.out) (by omega) (by omega)).mono ?_; rintro e w2 ⟨rfl, hb2⟩; have kb := hb_go (by assumption) hb2; have s0 := cell_now (b := w.heap.size) (o := 0) (v := .int .i64 route) hb2 (by first | assumption | exact s0); have s1 := cell_now (b := w.heap.size) (o := 1) (v := .slice aw ws.length cap) hb2 (by first | assumption | exact s1); have rf := frozen_now (b := w.heap.size + 1) (o := 0) (v := .int .i64 0) hb2 (by first | assumption | exact rc0) (by first | assumption | exact rf); have rf1 := frozen_now (b := w.heap.size + 1) (o := 1) (v := .int .i64 0) hb2 (by first | assumption | exact rc1) (by first | assumption | exact rf1); have rc0 := cell_now (b := w.heap.size + 1) (o := 0) (v := .int .i64 0) hb2 (by first | assumption | exact rc0); have rc1 := cell_now (b := w.heap.size + 1) (o := 1) (v := .int .i64 0) hb2 (by first | assumption | exact rc1)))
    all_goals (
      go_wp2
      refine bodyPost_ret (v := .tuple #[.agg #[.int .i64 (front (Ln ws) (nm st) (Lo ws) wing.toNat second), .int .i64 (front (Ln ws) (nm st) (Hi ws) wing.toNat second)], .int .i64 0]) (by simp [results, Tryz.results17, go_sem, rc0, rc1, endOf_0, endOf_1]) rfl ⟨by unfold whereSpan; rw [if_pos Hc.out, Hc.out], ?_⟩
      exact (kb.out.setCell (p := ⟨w.heap.size + 1, 0, none⟩) (by simp) _).setCell (p := ⟨w.heap.size + 1, 1, none⟩) (by simp) _)
  · obtain ⟨c1, c2⟩ := ne_bool hc
    have Hc := hid hc
    clear hc
    go_enter Tryz.func17, Tryz.ntmps17
    go_wp2_with (go_at_call 41; refine (asked_any ws st route _ _ _ _ _ (hW2.out.below (by exact twoBelow hb0.out)) (hS2.out.below (by exact twoBelow hb0.out)) hn hnm hns).mono ?_; rintro e w1 ⟨rfl, hb1⟩; have hk1 := hid (below_go hb0.out hb1 (by simp)); have rc0 : w1.cell? ⟨w.heap.size + 1, 0, none⟩ = some (.int .i64 0) := cell_back hk1.out (by omega) (cell_at (by simp) rfl); have rc1 : w1.cell? ⟨w.heap.size + 1, 1, none⟩ = some (.int .i64 0) := cell_back hk1.out (by omega) (cell_at (by simp) rfl); have rf : w1.frozen? ⟨w.heap.size + 1, 0, none⟩ = false := (hk1.out.frozen (p := ⟨w.heap.size + 1, 0, none⟩) (by simp)).trans (frozen_at (by simp)); have rf1 : w1.frozen? ⟨w.heap.size + 1, 1, none⟩ = false := (hk1.out.frozen (p := ⟨w.heap.size + 1, 1, none⟩) (by simp)).trans (frozen_at (by simp)))
    refine bodyPost_ret (v := .tuple #[.agg #[.int .i64 0, .int .i64 0], .int .i64 (askedErr route ws st wing second)]) (by simp [results, Tryz.results17, go_sem, rc0, rc1]) rfl ⟨by unfold whereSpan; rw [if_neg Hc.out], ?_⟩
    exact ((twoBelow hk1.out).setCell (p := ⟨w.heap.size + 1, 0, none⟩) (by simp) _).setCell (p := ⟨w.heap.size + 1, 1, none⟩) (by simp) _
end Go.Proofs.YtefdopifebhgiaaGreatDoor
