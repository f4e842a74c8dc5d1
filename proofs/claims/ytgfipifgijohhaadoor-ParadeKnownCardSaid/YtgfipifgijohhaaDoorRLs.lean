/-
  WALKS: the reference's Least.
-/
import Derived.Test.YtgfipifgijohhaaDoorRSt
namespace Go.Proofs.YtgfipifgijohhaaDoor
open Go.RowKit

/-- the least starts of the first wings -/
def leasts (ws : List Wing) : Nat → List Int
  | 0 => []
  | k + 1 => leasts ws k ++ [leastOf ws (leasts ws k) k]

theorem leasts_length (ws : List Wing) (k : Nat) : (leasts ws k).length = k := by
  induction k with
  | zero => rfl
  | succ k ih => simp [leasts, ih]

def lateErr (ws : List Wing) (k : Nat) : Int := if 20000 < leastOf ws (leasts ws k) k then 2 else 0
def leastErr (route : Int) (ws : List Wing) : Int := if check route ws = 0 then firstBad (lateErr ws) ws.length else check route ws
def leastRes (route : Int) (ws : List Wing) : List Int := if leastErr route ws = 0 then leasts ws ws.length else []

def FineL (ws : List Wing) (k : Nat) : Prop := ∀ j, j < k → lateErr ws j = 0

theorem FineL.zero (ws : List Wing) : FineL ws 0 := fun j h => by omega
theorem FineL.succ {ws : List Wing} {i : Nat} (h : FineL ws i) (h1 : lateErr ws i = 0) : FineL ws (i + 1) := fun j hj => by
  by_cases e : j = i
  · subst e; exact h1
  · exact h j (by omega)

theorem nm_snoc (l : List Int) (x : Int) (i : Nat) : nm (l ++ [x]) i = if i < l.length then nm l i else if i = l.length then x else 0 := by
  unfold nm
  rw [List.getD_eq_getElem?_getD, List.getElem?_append]
  split
  · rw [List.getD_eq_getElem?_getD]
  · rename_i h
    by_cases e : i = l.length
    · subst e; simp
    · rw [if_neg e, List.getElem?_eq_none (by simp; omega)]; rfl

theorem leastOf_nonneg {ws : List Wing} {st : List Int} {k : Nat} (hs : Small ws) (hk : k ≤ ws.length) (hst : ∀ i, i < k → 0 ≤ nm st i) : 0 ≤ leastOf ws st k := by
  cases k with
  | zero => exact Int.le_refl _
  | succ k =>
    have := passed_ge_start (L := Ln ws) (S := nm st) (P := Lo ws) (k := k) (x := Ln ws k) (fun i hi => by have := hs.lo i (by omega); omega) (fun i hi => (hs.len i (by omega)).1) (hs.len k (by omega)).1 k (Nat.le_refl _)
    have := hst k (by omega)
    simp only [leastOf]; omega

theorem leasts_bound {ws : List Wing} (hs : Small ws) {k : Nat} (hk : k ≤ ws.length) (h : FineL ws k) : ∀ i, i < k → 0 ≤ nm (leasts ws k) i ∧ nm (leasts ws k) i ≤ 1000000 := by
  induction k with
  | zero => intro i hi; omega
  | succ k ih =>
    intro i hi
    have ih' := ih (by omega) (fun j hj => h j (by omega))
    simp only [leasts, nm_snoc, leasts_length]
    split
    · exact ih' i ‹_›
    · rw [if_pos (by omega)]
      have h1 := leastOf_nonneg (st := leasts ws k) hs (by omega) (fun i hi => (ih' i hi).1)
      have h2 := h k (by omega)
      unfold lateErr at h2
      split at h2 <;> omega

theorem least_bad {route : Int} {ws : List Wing} {i : Nat} (hc : check route ws = 0) (hi : i < ws.length) (h : FineL ws i) (he : lateErr ws i = 2) : leastErr route ws = 2 ∧ leastRes route ws = [] := by
  have e : leastErr route ws = 2 := by unfold leastErr; rw [if_pos hc, firstBad_at hi h (by rw [he]; decide), he]
  exact ⟨e, by unfold leastRes; rw [e]; rfl⟩
theorem least_ok {route : Int} {ws : List Wing} (hc : check route ws = 0) (h : FineL ws ws.length) : leastErr route ws = 0 ∧ leastRes route ws = leasts ws ws.length := by
  have e : leastErr route ws = 0 := by unfold leastErr; rw [if_pos hc]; exact firstBad_zero.2 h
  exact ⟨e, by unfold leastRes; rw [if_pos e]⟩
theorem least_check {route : Int} {ws : List Wing} (hc : check route ws ≠ 0) : leastErr route ws = check route ws ∧ leastRes route ws = [] := by
  have e : leastErr route ws = check route ws := by unfold leastErr; rw [if_neg hc]
  exact ⟨e, by unfold leastRes; rw [if_neg (by rw [e]; exact hc)]⟩

def LeastPost (route : Int) (ws : List Wing) (w : World) (e : Ending) (w' : World) : Prop :=
  ∃ v, e = .returned (.tuple #[v, .int .i64 (leastErr route ws)]) ∧ OwnInts w.heap.size w' v (leastRes route ws) ∧ Below w.heap.size w w'

theorem own_nil (b : Nat) (w : World) : OwnInts b w (.slice none 0 0) [] := World.ownsRow_nil w b _ _

theorem tuple_err {v : Value} {a b : Int} (h : a = b) : Ending.returned (.tuple #[v, .int .i64 a]) = .returned (.tuple #[v, .int .i64 b]) := by rw [h]

set_option maxHeartbeats 1000000 in
set_option maxRecDepth 100000 in
theorem rleast_any (ws : List Wing) (route : Int) (vw : Value) (w : World) (hW : WgAt none w vw ws) (hn : ws.length ≤ 100) (hnm : ∀ i, i < ws.length → (wg ws i).name.size ≤ 1000000) :
    Calls Tryd.prog 26 #[.agg #[.int .i64 route, vw]] w (LeastPost route ws w) := by
  have hb0 := hid (Below.refl (w.heap.size + 1) (w.alloc (.cells #[.int .i64 route, vw] 24)))
  have hW2 := hid hW
  obtain ⟨aw, cap, rfl, _⟩ := hW
  by_cases hc : check route ws = 0
  · obtain ⟨c1, c2⟩ := eq_bool hc
    have Hc := hid hc
    have hsm := Small.of_check Hc.out
    clear hc
    go_enter Tryd.func26, Tryd.ntmps26
    go_wp2_with (go_at_call 28; refine (rcheck_any ws route _ none _ (hW2.out.below (boxed2 hb0.out).2.2.1) hn hnm).mono ?_; rintro e w1 ⟨rfl, hb1⟩; have hk1 := hid (below_go hb0.out hb1 (by simp)); obtain ⟨p0, p1, p2', p3⟩ := boxed2 hk1.out)
    go_loopw [5, 6] (fun v i wr => ∃ k : Nat, k ≤ ws.length ∧ i = .int .i64 k ∧ FineL ws k ∧ OwnInts (w.heap.size + 1) wr v (leasts ws k) ∧ Below (w.heap.size + 1) (w.alloc (.cells #[.int .i64 route, .slice aw ws.length cap] 24)) wr)
      (fun _ i _ => ws.length - (intOf i).toNat)
    case atStart => exact ⟨0, by omega, rfl, FineL.zero _, own_nil _ _, hk1.out⟩
    case round =>
      obtain ⟨k, hk, rfl, hf, hown, hkr⟩ := hrel
      obtain ⟨wo, rfl⟩ : ∃ wo : World, wo = wr := ⟨_, rfl⟩
      have hkr' := hid hkr
      obtain ⟨r0, r1, r2', r3⟩ := boxed2 hkr
      clear hkr hb1 p0 p1 p2' p3
      by_cases hlt : k < ws.length
      · have hbd := hid (leasts_bound hsm hk hf)
        have hlen := hid (leasts_length ws k)
        have Hown := hid hown
        clear hown
        by_cases hq : 20000 < leastOf ws (leasts ws k) k
        · go_wp2_with (first
            | (go_at_call 72; refine (rleastOf_any ws (leasts ws k) _ route _ _ _ (hW2.out.below r2') (Hown.out.at (by simp)) (by omega) hsm (by rw [Int.toNat_natCast]; exact hk) (by rw [Int.toNat_natCast, hlen.out]; exact Nat.le_refl _) (by rw [Int.toNat_natCast]; exact hbd.out)).mono ?_; rw [Int.toNat_natCast]; rintro e w2 ⟨rfl, hb2⟩; have hk2 := hid (below_go hkr'.out hb2 r3); obtain ⟨q0, q1, q2', q3⟩ := boxed2 hk2.out; have hown2 := hid (World.ownsRow.kept Hown.out (gb_below hb2 none) (by cases h : u5.ownBlock <;> simp)))
            | (at_builtin; refine app_int rfl _ _ rfl (w.heap.size + 1) (leasts ws k) (leastOf ws (leasts ws k) k) _ hown2.out rfl rfl (by rw [hlen.out]; omega) q3 ?_; intro v1 w3 hown1 hbel1 _ _))
          go_ret2
          obtain ⟨x1, x2⟩ := least_bad Hc.out hlt hf (by unfold lateErr; rw [if_pos hq])
          exact ⟨_, tuple_err x1.symm, by rw [x2]; exact own_nil _ _, q2'⟩
        · go_wp2_with (first
            | (go_at_call 72; refine (rleastOf_any ws (leasts ws k) _ route _ _ _ (hW2.out.below r2') (Hown.out.at (by simp)) (by omega) hsm (by rw [Int.toNat_natCast]; exact hk) (by rw [Int.toNat_natCast, hlen.out]; exact Nat.le_refl _) (by rw [Int.toNat_natCast]; exact hbd.out)).mono ?_; rw [Int.toNat_natCast]; rintro e w2 ⟨rfl, hb2⟩; have hk2 := hid (below_go hkr'.out hb2 r3); obtain ⟨q0, q1, q2', q3⟩ := boxed2 hk2.out; have hown2 := hid (World.ownsRow.kept Hown.out (gb_below hb2 none) (by cases h : u5.ownBlock <;> simp)))
            | (at_builtin; refine app_int rfl _ _ rfl (w.heap.size + 1) (leasts ws k) (leastOf ws (leasts ws k) k) _ hown2.out rfl rfl (by rw [hlen.out]; omega) q3 ?_; intro v1 w3 hown1 hbel1 _ _))
          go_roundw
          case rel => exact ⟨k + 1, by omega, by go_num, hf.succ (by unfold lateErr; rw [if_neg (by omega)]), hown1, hk2.out.trans hbel1⟩
          case measure => simp [intOf] <;> omega
      · go_wp2
        go_ret2
        obtain rfl : k = ws.length := by omega
        obtain ⟨x1, x2⟩ := least_ok Hc.out hf
        exact ⟨_, tuple_err x1.symm, by rw [x2]; exact hown.base (Nat.le_succ _), r2'⟩
  · obtain ⟨c1, c2⟩ := ne_bool hc
    have Hc := hid hc
    clear hc
    go_enter Tryd.func26, Tryd.ntmps26
    go_wp2_with (go_at_call 28; refine (rcheck_any ws route _ none _ (hW2.out.below (boxed2 hb0.out).2.2.1) hn hnm).mono ?_; rintro e w1 ⟨rfl, hb1⟩; have hk1 := hid (below_go hb0.out hb1 (by simp)); obtain ⟨p0, p1, p2', p3⟩ := boxed2 hk1.out)
    go_ret2
    obtain ⟨x1, x2⟩ := least_check Hc.out
    exact ⟨_, tuple_err x1.symm, by rw [x2]; exact own_nil _ _, p2'⟩
end Go.Proofs.YtgfipifgijohhaaDoor
