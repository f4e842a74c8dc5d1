/-
  WALKS: the program's truths: truthOf, paces, and the wings handed out from one wing down to the first one, with the distance to it.
  WALKS: the program's seconds: passes, clear, least.
  WALKS: the program's places: front.
-/
import Derived.Test.YtefdopifebhgiaaGreatDoorRLs
import Derived.Test.YtefdopifebhgiaaGreatDoorRoundHeld
import Derived.RangeFuncFrom
import Derived.Shelf.Abstract
namespace Go.Proofs.YtefdopifebhgiaaGreatDoor
open Go.RowKit

/-! ### the distances -/

/-- the distance from the front of wing k - m to the front of wing k -/
def distN (L : Nat → Int) (k : Nat) : Nat → Int
  | 0 => 0
  | m + 1 => distN L k m + L (k - (m + 1))
def dist (L : Nat → Int) (k i : Nat) : Int := distN L k (k - i)

theorem dist_self (L : Nat → Int) (k : Nat) : dist L k k = 0 := by simp [dist, distN]
theorem dist_step (L : Nat → Int) {k i : Nat} (h : i + 1 ≤ k) : dist L k i = dist L k (i + 1) + L i := by
  unfold dist
  obtain ⟨m, rfl⟩ : ∃ m, k = i + 1 + m := ⟨k - (i + 1), by omega⟩
  have e1 : i + 1 + m - i = m + 1 := by omega
  have e2 : i + 1 + m - (i + 1) = m := by omega
  have e3 : i + 1 + m - (m + 1) = i := by omega
  rw [e1, e2, distN, e3]

theorem distN_bound {L : Nat → Int} {k : Nat} (hL : ∀ i, i ≤ k → 0 ≤ L i ∧ L i ≤ 100000) : ∀ m, m ≤ k → 0 ≤ distN L k m ∧ distN L k m ≤ 100000 * (m : Int) := by
  intro m
  induction m with
  | zero => intro _; simp [distN]
  | succ m ih =>
    intro hm
    have := ih (by omega)
    have := hL (k - (m + 1)) (by omega)
    simp only [distN]; omega
theorem dist_bound {L : Nat → Int} {k : Nat} (hL : ∀ i, i ≤ k → 0 ≤ L i ∧ L i ≤ 100000) (hk : k ≤ 100) (i : Nat) : 0 ≤ dist L k i ∧ dist L k i ≤ 10000000 := by
  have := distN_bound hL (k - i) (by omega)
  unfold dist; omega

/-- from wing k down: the first m of them -/
def down (k m : Nat) : List (Fin (k + 1)) := (List.range m).map fun j => ⟨k - j, by omega⟩

theorem down_succ (k m : Nat) : down k (m + 1) = down k m ++ [⟨k - m, by omega⟩] := by simp [down, List.range_succ]
theorem down_length (k m : Nat) : (down k m).length = m := by simp [down]

/-- all wings from wing j down -/
def fromTop : Nat → List Nat
  | 0 => [0]
  | j + 1 => (j + 1) :: fromTop j

theorem down_all (k : Nat) : (down k (k + 1)).map Fin.val = fromTop k := by
  have : ∀ k, (List.range (k + 1)).map (fun j => k - j) = fromTop k := by
    intro k
    induction k with
    | zero => rfl
    | succ k ih =>
      rw [List.range_succ_eq_map]
      simp only [List.map_cons, List.map_map, fromTop, ← ih]
      simp only [Nat.sub_zero, List.cons.injEq, true_and]
      refine List.map_congr_left fun j _ => ?_
      simp only [Function.comp_apply]; omega
  rw [← this]
  simp [down, Function.comp_def]

section
variable (L S P : Nat → Int) (k : Nat)
def accF (t : Int) (y : Int) (l : List Nat) : Int := l.foldl (fun y i => min y (P i * (t - S i) - dist L k i)) y
def accP (x : Int) (y : Int) (l : List Nat) : Int := l.foldl (fun y i => max y (S i + cdiv (x + dist L k i) (P i))) y
end

theorem accF_top {L S P : Nat → Int} {k : Nat} {t : Int} : ∀ j, j ≤ k → ∀ y, accF L S P k t y (fromTop j) = min y (front L S P j t - dist L k j) := by
  intro j
  induction j with
  | zero => intro _ y; simp [accF, fromTop, front]
  | succ j ih =>
    intro hj y
    have h := ih (by omega) (min y (P (j + 1) * (t - S (j + 1)) - dist L k (j + 1)))
    have hd := dist_step L (i := j) (k := k) hj
    have e : accF L S P k t y (fromTop (j + 1)) = accF L S P k t (min y (P (j + 1) * (t - S (j + 1)) - dist L k (j + 1))) (fromTop j) := rfl
    rw [e, h]
    simp only [front]
    omega

theorem accP_top {L S P : Nat → Int} {k : Nat} {x : Int} : ∀ j, j ≤ k → ∀ y, accP L S P k x y (fromTop j) = max y (passed L S P j (x + dist L k j)) := by
  intro j
  induction j with
  | zero => intro _ y; simp [accP, fromTop, passed]
  | succ j ih =>
    intro hj y
    have h := ih (by omega) (max y (S (j + 1) + cdiv (x + dist L k (j + 1)) (P (j + 1))))
    have hd := dist_step L (i := j) (k := k) hj
    have e : accP L S P k x y (fromTop (j + 1)) = accP L S P k x (max y (S (j + 1) + cdiv (x + dist L k (j + 1)) (P (j + 1)))) (fromTop j) := rfl
    rw [e, h]
    simp only [passed]
    have e2 : x + dist L k (j + 1) + L j = x + dist L k j := by omega
    rw [e2]
    omega

/-! ### the small functions -/

theorem ret_agg3 {a b c : Value} : Ending.returned (.agg #[a, b, c]) = .returned (.agg #[a, b, c]) := rfl

set_option maxHeartbeats 400000 in
theorem truthOf_any (aw ags : Option Addr) (nw cw ns cs : Nat) (route e : Int) (w : World) :
    Calls Tryz.prog 42 #[.agg #[.int .i64 route, .slice aw nw cw], .slice ags ns cs, .int .i64 e] w fun e' w' => e' = .returned (.agg #[.slice aw nw cw, .slice ags ns cs, .int .i64 e]) ∧ Below w.heap.size w w' := by
  go_enter Tryz.func42, Tryz.ntmps42
  go_wp2
  exact bodyPost_ret (v := .agg #[.slice aw nw cw, .slice ags ns cs, .int .i64 e]) (by simp [results, Tryz.results42, go_sem]) rfl ⟨rfl, ((Below.refl _ _).alloc (Nat.le_refl _) _).alloc (by simp) _⟩

set_option maxHeartbeats 400000 in
theorem paces_any (x : Wing) (w : World) :
    Calls Tryz.prog 60 #[.agg #[.string x.name, .int .i64 x.len, .int .i64 x.lo, .int .i64 x.hi]] w fun e' w' => e' = .returned (.agg #[.int .i64 x.lo, .int .i64 x.hi]) ∧ Below w.heap.size w w' := by
  go_enter Tryz.func60, Tryz.ntmps60
  go_wp2
  exact bodyPost_ret (v := .agg #[.int .i64 x.lo, .int .i64 x.hi]) (by simp [results, Tryz.results60, go_sem]) rfl ⟨rfl, ((Below.refl _ _).alloc (Nat.le_refl _) _).alloc (by simp) _⟩

set_option maxHeartbeats 400000 in
theorem ahead_any (aw ags : Option Addr) (nw cw ns cs : Nat) (k e : Int) (w : World) :
    Calls Tryz.prog 59 #[.agg #[.slice aw nw cw, .slice ags ns cs, .int .i64 e], .int .i64 k] w
      fun e' w' => e' = .returned (.func (.func 80) #[] #[.pointer (some ⟨w.heap.size + 1, 0, none⟩), .pointer (some ⟨w.heap.size, 0, none⟩)]) ∧
        (w.alloc (.cells #[.slice aw nw cw, .slice ags ns cs, .int .i64 e] 90)).alloc (.cells #[.int .i64 k] 3) = w' := by
  have hmf : ∀ (fn : Fn) (first cap : Array Value) (w : World), (Instr.makeFunc fn first cap).run Tryz.prog w = .ok (.func fn first cap) w := fun _ _ _ _ => rfl
  go_enter Tryz.func59, Tryz.ntmps59
  go_wp2
  go_ret
  exact ⟨rfl, rfl⟩

/-- what a round of a loop over the wings keeps: all old blocks but one -/
structure KeepB (n₁ lb : Nat) (W W' : World) : Prop where
  size : W.heap.size ≤ W'.heap.size
  same : ∀ i, i < n₁ → i ≠ lb → W'.heap[i]? = W.heap[i]?

theorem KeepB.refl (n₁ lb : Nat) (W : World) : KeepB n₁ lb W W := ⟨Nat.le_refl _, fun _ _ _ => rfl⟩
theorem KeepB.trans {n₁ lb : Nat} {A B C : World} (h : KeepB n₁ lb A B) (k : KeepB n₁ lb B C) : KeepB n₁ lb A C :=
  ⟨Nat.le_trans h.size k.size, fun i hi hn => (k.same i hi hn).trans (h.same i hi hn)⟩
theorem KeepB.cell {n₁ lb : Nat} {W W' : World} (h : KeepB n₁ lb W W') {b o : Nat} (hb : b < n₁) (hne : b ≠ lb) {v : Value} (hc : W.cell? ⟨b, o, none⟩ = some v) : W'.cell? ⟨b, o, none⟩ = some v :=
  (World.cell?_of_block (a := ⟨b, o, none⟩) (h.same b hb hne)).trans hc

attribute [local go_sem] Oper.semAt_some

set_option maxHeartbeats 2000000 in
set_option maxRecDepth 100000 in
/-- THE ITERATOR: from wing k down to the first one, each with its distance -/
theorem ahead_stops (n : Nat) (hn : 1 ≤ n) (ws : List Wing) (k b off cap Bt Bk n₁ lb : Nat) (w : World) (hk : k < ws.length) (hk2 : k ≤ 100) (hlen : ∀ i, i ≤ k → 0 ≤ Ln ws i ∧ Ln ws i ≤ 100000)
    (h1 : b < n₁) (h2 : b ≠ lb) (h3 : Bt < n₁) (h4 : Bt ≠ lb) (hbw : b < w.heap.size) (hBt : Bt < w.heap.size) (hBk : Bk < w.heap.size)
    (hL : ∀ i, i < ws.length → w.cell? ⟨b, off + i * 4 + 1, none⟩ = some (.int .i64 (wg ws i).len))
    (ht : w.cell? ⟨Bt, 0, none⟩ = some (.slice (some ⟨b, off, none⟩) ws.length cap)) (hkc : w.cell? ⟨Bk, 0, none⟩ = some (.int .i64 (k : Int))) :
    SeqStopsK Fence.wide n Tryz.prog 80 #[.pointer (some ⟨Bk, 0, none⟩), .pointer (some ⟨Bt, 0, none⟩)]
      (fun x : Fin (k + 1) => #[.int .i64 ((x.val : Nat) : Int), .int .i64 (dist (Ln ws) k x.val)]) (KeepB n₁ lb) (fun xs => xs = down k (k + 1)) (fun _ => True) (k + 1) w := fun l J Jx W hW hJ hJx hY h0 => by
  refine callsIn_of_wp Tryz.func80 rfl trivial ?_ rfl
  simp only [Tryz.ntmps80, List.size_toArray, List.length_cons, List.length_nil, Nat.reduceAdd, Nat.reduceSub, Array.replicate_succ, Array.replicate_zero, List.push_toArray, List.append_toArray, List.nil_append, List.cons_append]
  have hkW := (hW.cell (p := ⟨Bk, 0, none⟩) hBk).trans hkc
  have htW := (hW.cell (p := ⟨Bt, 0, none⟩) hBt).trans ht
  have hLW := hid (fun i hi => (hW.cell (p := ⟨b, off + i * 4 + 1, none⟩) hbw).trans (hL i hi))
  clear hL ht hkc
  gi_wp2
  gi_loopw [4, 5] (fun far i wr => ∃ j : Nat, j ≤ k + 1 ∧ i = .int .i64 ((j : Int) - 1) ∧ (∀ q, j = q + 1 → far = .int .i64 (dist (Ln ws) k q)) ∧ J (down k (k + 1 - j)) wr ∧ KeepB n₁ lb W wr)
    (fun _ i _ => (intOf i + 1).toNat)
  case atStart =>
    refine ⟨k + 1, Nat.le_refl _, by congr 1; omega, fun q hq => ?_, by rw [Nat.sub_self]; exact h0, KeepB.refl _ _ _⟩
    obtain rfl : k = q := by omega
    rw [dist_self]
  case round =>
    obtain ⟨j, hj, rfl, hfar, hJs, hkp⟩ := hrel
    cases j with
    | zero =>
      gi_wp2
      go_end0
      exact ⟨⟨_, rfl⟩, .inl ⟨_, rfl, hJs⟩⟩
    | succ j =>
      obtain rfl := hfar j rfl
      have e0 : ((j + 1 : Nat) : Int) - 1 = (j : Int) := by omega
      rw [e0]
      have e2 : k + 1 - (j + 1) = k - j := by omega
      rw [e2] at hJs
      obtain ⟨fn, tmps, assign, body, hy, hR⟩ := hY (down k (k - j)) ⟨j, by omega⟩ wr hJs (by rw [down_length]; omega)
      dsimp only at hy
      have e3 : down k (k - j) ++ [⟨j, by omega⟩] = down k (k + 1 - j) := by
        have e : k + 1 - j = (k - j) + 1 := by omega
        rw [e, down_succ]
        congr 3; omega
      rw [e3] at hR
      have HR := hid hR
      clear e0 e2 e3 hR hfar hJs
      gi_wp2
      refine HR.out.mono ?_
      rintro e W3 (⟨rfl, hJ3, hk3⟩ | ⟨rfl, hJx3⟩)
      · have hk4 := hkp.trans hk3
        cases j with
        | zero =>
          gi_wp2
          go_roundw
          case rel => exact ⟨0, by omega, by simp, fun q hq => by omega, hJ3, hk4⟩
          case measure => simp [intOf]
        | succ p =>
          have c1 := hk4.cell h3 h4 htW
          have c2 := hk4.cell h1 h2 (hLW.out p (by omega))
          have hl : 0 ≤ (wg ws p).len ∧ (wg ws p).len ≤ 100000 := hlen p (by omega)
          have hd := dist_bound hlen hk2 (p + 1)
          have hst := hid (dist_step (Ln ws) (i := p) (k := k) (by omega))
          have hpw : p < ws.length := by omega
          gi_wp2
          go_roundw
          case rel =>
            refine ⟨p + 1, by omega, by simp, fun q hq => ?_, hJ3, hk4⟩
            obtain rfl : p = q := by omega
            rw [hst.out]; rfl
          case measure => simp [intOf] <;> omega
      · gi_wp2
        refine bodyPost_ret (results_none rfl _ _ _) rfl ?_
        exact ⟨⟨_, rfl⟩, .inr ⟨_, trivial, hJx3⟩⟩
end Go.Proofs.YtefdopifebhgiaaGreatDoor

namespace Go.Proofs.YtefdopifebhgiaaGreatDoor
open Go.RowKit
attribute [local go_sem] Oper.semAt_some

theorem accP_snoc (L S P : Nat → Int) (k : Nat) (x y : Int) (l : List Nat) (i : Nat) : accP L S P k x y (l ++ [i]) = max (accP L S P k x y l) (S i + cdiv (x + dist L k i) (P i)) := by simp [accP]
theorem accF_snoc (L S P : Nat → Int) (k : Nat) (t y : Int) (l : List Nat) (i : Nat) : accF L S P k t y (l ++ [i]) = min (accF L S P k t y l) (P i * (t - S i) - dist L k i) := by simp [accF]

/-- the pace of an end: 0 the slow one, 1 the fast one -/
def endOf (ws : List Wing) (e : Int) : Nat → Int := if e = 0 then Lo ws else Hi ws

/-- a truth's numbers are small -/
structure Tr (ws : List Wing) (st : List Int) (k : Nat) (e : Int) : Prop where
  small : Small ws
  kw : k < ws.length
  ks : k < st.length
  start : ∀ i, i ≤ k → 0 ≤ nm st i ∧ nm st i ≤ 1000000
  e : e = 0 ∨ e = 1

set_option maxHeartbeats 2000000 in
set_option maxRecDepth 100000 in
theorem passes_any (ws : List Wing) (st : List Int) (kk place e : Int) (vw vs : Value) (w : World) (hW : WgAt none w vw ws) (hS : IntsAt none w vs st)
    (h0 : 0 ≤ kk) (ht : Tr ws st kk.toNat e) (hpl : 0 ≤ place) (hpl2 : place ≤ 10000000) :
    Calls Tryz.prog 79 #[.agg #[vw, vs, .int .i64 e], .int .i64 kk, .int .i64 place] w
     fun e' w' => e' = .returned (.int .i64 (passed (Ln ws) (nm st) (endOf ws e) kk.toNat place)) ∧ Below w.heap.size w w' := by
  obtain ⟨k, rfl⟩ := Int.eq_ofNat_of_zero_le h0
  rw [Int.toNat_natCast] at *
  obtain ⟨aw, cap, rfl, hh⟩ := hW
  obtain ⟨b, off, rfl, _, _, _, hb, hL⟩ := hh (by have := ht.kw; omega)
  obtain ⟨ags, caps, rfl, hh2⟩ := hS
  obtain ⟨bs, offs, rfl, _, _, _, hbs, hS⟩ := hh2 (by have := ht.ks; omega)
  clear hh hh2
  have hk := ht.kw
  have hks := ht.ks
  have hn := ht.small.n
  have h1 := hS k hks
  have HL := hid hL
  have HS := hid hS
  clear hL hS
  refine (callsIn_wide (n := 3)).1 ?_
  refine callsIn_of_wp_marks Tryz.func79 rfl trivial ?_ rfl
  simp only [Tryz.ntmps79, List.size_toArray, List.length_cons, List.length_nil, Nat.reduceAdd, Nat.reduceSub, Array.replicate_succ, Array.replicate_zero, List.push_toArray, List.append_toArray, List.nil_append, List.cons_append]
  gi_wp2_with (refine ⟨trivial, ?_⟩; gi_at_call 59; refine (callsIn_wide.2 (ahead_any _ _ _ _ _ _ _ _ _)).mono ?_; rintro e' w' ⟨rfl, rfl⟩)
  obtain ⟨w5, hw5⟩ : ∃ w5, (((((w.alloc (.cells #[.slice (some ⟨b, off, none⟩) ws.length cap, .slice (some ⟨bs, offs, none⟩) st.length caps, .int .i64 e] 90)).alloc (.cells #[.int .i64 place] 3)).alloc (.cells #[.int .i64 (nm st k)] 3)).alloc
      (.cells #[.slice (some ⟨b, off, none⟩) ws.length cap, .slice (some ⟨bs, offs, none⟩) st.length caps, .int .i64 e] 90)).alloc (.cells #[.int .i64 (k : Int)] 3)) = w5 := ⟨_, rfl⟩
  have hsz : w5.heap.size = w.heap.size + 5 := by rw [← hw5]; simp
  have hB0 : Below w.heap.size w w5 := by rw [← hw5]; exact (((((Below.refl _ w).alloc (Nat.le_refl _) _).alloc (by simp) _).alloc (by simp; omega) _).alloc (by simp; omega) _).alloc (by simp; omega) _
  have c0 : w5.cell? ⟨w.heap.size, 0, none⟩ = some (.slice (some ⟨b, off, none⟩) ws.length cap) := by rw [← hw5]; exact cell_up (cell_up (cell_up (cell_up (cell_at rfl rfl))))
  have c1 : w5.cell? ⟨w.heap.size, 1, none⟩ = some (.slice (some ⟨bs, offs, none⟩) st.length caps) := by rw [← hw5]; exact cell_up (cell_up (cell_up (cell_up (cell_at rfl rfl))))
  have c2 : w5.cell? ⟨w.heap.size, 2, none⟩ = some (.int .i64 e) := by rw [← hw5]; exact cell_up (cell_up (cell_up (cell_up (cell_at rfl rfl))))
  have c3 : w5.cell? ⟨w.heap.size + 1, 0, none⟩ = some (.int .i64 place) := by rw [← hw5]; exact cell_up (cell_up (cell_up (cell_at (by simp) rfl)))
  have c4 : w5.cell? ⟨w.heap.size + 1 + 1, 0, none⟩ = some (.int .i64 (nm st k)) := by rw [← hw5]; exact cell_up (cell_up (cell_at (by simp) rfl))
  have c4f : w5.frozen? ⟨w.heap.size + 1 + 1, 0, none⟩ = false := by rw [← hw5]; exact frozen_up (by simp) (frozen_up (by simp) (frozen_at (by simp)))
  have c5 : w5.cell? ⟨w.heap.size + 1 + 1 + 1, 0, none⟩ = some (.slice (some ⟨b, off, none⟩) ws.length cap) := by rw [← hw5]; exact cell_up (cell_at (by simp) rfl)
  have c6 : w5.cell? ⟨w.heap.size + 1 + 1 + 1 + 1, 0, none⟩ = some (.int .i64 (k : Int)) := by rw [← hw5]; exact cell_at (by simp) rfl
  rw [hw5]
  clear hw5
  refine wpIn_rangeFunc_ownF (F := Fence.wide) (n := 3) rfl (by omega) (gf := 80) (lb := #[.pointer (some ⟨w.heap.size + 1 + 1 + 1 + 1, 0, none⟩), .pointer (some ⟨w.heap.size + 1 + 1 + 1, 0, none⟩)]) rfl trivial (enters_of Tryz.func80 (by kernel_rfl) rfl)
    (ahead_stops 2 (by omega) ws k b off cap (w.heap.size + 1 + 1 + 1) (w.heap.size + 1 + 1 + 1 + 1) (w.heap.size + 5) (w.heap.size + 1 + 1) w5 hk (by omega) (fun i hi => ht.small.len i (by omega)) (by omega) (by omega) (by omega) (by omega) (by omega) (by omega) (by omega)
      (fun i hi => cell_back hB0 hb (HL.out i hi).2.1) c5 c6)
    KeepB.trans (fun W l o o' hl _ _ _ => ⟨by simp, fun i hi _ => World.putObj_heap_other (by omega)⟩) (Below.refl _ _) (fun _ => rfl)
    (fun pre W => (W.cell? ⟨w.heap.size, 0, none⟩ = some (.slice (some ⟨b, off, none⟩) ws.length cap) ∧ W.cell? ⟨w.heap.size, 1, none⟩ = some (.slice (some ⟨bs, offs, none⟩) st.length caps) ∧ W.cell? ⟨w.heap.size, 2, none⟩ = some (.int .i64 e) ∧
      W.cell? ⟨w.heap.size + 1, 0, none⟩ = some (.int .i64 place) ∧ W.cell? ⟨w.heap.size + 1 + 1, 0, none⟩ = some (.int .i64 (accP (Ln ws) (nm st) (endOf ws e) k place (nm st k) (pre.map Fin.val))) ∧ W.frozen? ⟨w.heap.size + 1 + 1, 0, none⟩ = false ∧ W.cell? ⟨w.heap.size + 1 + 1 + 1 + 1, 0, none⟩ = some (.int .i64 (k : Int))) ∧ Below w.heap.size w W)
    (fun _ _ _ => False)
    (OwnFrom.and (Own.from (fun s A B row hs hg hr => ⟨cell_kept hs.1 hg hr, cell_kept hs.2.1 hg hr, cell_kept hs.2.2.1 hg hr, cell_kept hs.2.2.2.1 hg hr, cell_kept hs.2.2.2.2.1 hg hr, (frozen_kept hs.2.2.2.2.1 hg hr).trans hs.2.2.2.2.2.1, cell_kept hs.2.2.2.2.2.2 hg hr⟩) _) (ownFrom_below (Nat.le_refl _) (by omega)))
    (fun _ _ _ _ _ hs _ _ => hs)
    ⟨⟨c0, c1, c2, c3, c4, c4f, c6⟩, hB0⟩ ?a1 ?assign ?body ?done ?stop
  case assign =>
    intro l x W K hK
    gi_wp2
    exact hK
  case body =>
    rintro l pre x W ⟨⟨r0, r1, r2, r3, r4, r4f, r5⟩, hB⟩ _
    obtain ⟨i, hi⟩ := x
    obtain ⟨g0, g1, g2, g3⟩ := HL.out i (by omega)
    have q0 := cell_back hB hb g0
    have q1 := cell_back hB hb g1
    have q2 := cell_back hB hb g2
    have q3 := cell_back hB hb g3
    have q4 := cell_back hB hbs (HS.out i (by omega))
    have hiw : i < ws.length := by omega
    have hx0 : ∀ w, (Instr.index 107 (.agg #[.int .i64 (wg ws i).lo, .int .i64 (wg ws i).hi]) (.int .i64 e)).run Tryz.prog w = .ok (.int .i64 (endOf ws e i)) w := by
      rcases ht.e with rfl | rfl
      · exact fun _ => by kernel_rfl
      · exact fun _ => by kernel_rfl
    clear g0 g1 g2 g3
    gi_wp2
    refine wpIn_region_held (S := fun W' => W'.cell? ⟨w.heap.size, 0, none⟩ = some (.slice (some ⟨b, off, none⟩) ws.length cap) ∧ W'.cell? ⟨w.heap.size, 2, none⟩ = some (.int .i64 e) ∧ W'.cell? ⟨b, off + i * 4, none⟩ = some (.string (wg ws i).name) ∧ W'.cell? ⟨b, off + i * 4 + 1, none⟩ = some (.int .i64 (wg ws i).len) ∧
      W'.cell? ⟨b, off + i * 4 + 2, none⟩ = some (.int .i64 (wg ws i).lo) ∧ W'.cell? ⟨b, off + i * 4 + 2 + 1, none⟩ = some (.int .i64 (wg ws i).hi)) (by kernel_rfl) (by kernel_rfl) ?hno1 ⟨r0, r2, q0, q1, q2, q3⟩ (fun hHeld => ?_)
    case hno1 => exact fun ⟨_, _, h⟩ => h
    refine held_take (i := 0) (v := ?v1) rfl (by kernel_rfl) (by kernel_rfl) (by kernel_rfl) (fun _ _ _ h => h) hHeld (by rfl) ?hy1 ?_
    case hy1 => (intro w hSw; (try dsimp only at hSw); go_simp; (try with_reducible rfl))
    simp only [Act.put, List.setIfInBounds_toArray, List.set_cons_zero, List.set_cons_succ]
    refine held_take (i := 1) (v := ?v2) rfl (by kernel_rfl) (by kernel_rfl) (by kernel_rfl) (fun _ _ _ h => h) hHeld (by rfl) ?hy2 ?_
    case hy2 => (intro w hSw; (try dsimp only at hSw); go_simp; (try with_reducible rfl))
    simp only [Act.put, List.setIfInBounds_toArray, List.set_cons_zero, List.set_cons_succ]
    refine held_take (i := 2) (v := ?v3) rfl (by kernel_rfl) (by kernel_rfl) (by kernel_rfl) (fun _ _ _ h => h) hHeld (by rfl) ?hy3 ?_
    case hy3 => (intro w hSw; (try dsimp only at hSw); go_simp; (try with_reducible rfl))
    simp only [Act.put, List.setIfInBounds_toArray, List.set_cons_zero, List.set_cons_succ]
    refine held_take (i := 3) (v := ?v4) rfl (by kernel_rfl) (by kernel_rfl) (by kernel_rfl) (fun _ _ _ h => h) hHeld (by rfl) ?hy4 ?_
    case hy4 => (intro w hSw; (try dsimp only at hSw); go_simp; (try with_reducible rfl))
    simp only [Act.put, List.setIfInBounds_toArray, List.set_cons_zero, List.set_cons_succ]
    refine held_take (i := 4) (v := ?v5) rfl (by kernel_rfl) (by kernel_rfl) (by kernel_rfl) (fun _ _ _ h => h) hHeld (by rfl) ?hy5 ?_
    case hy5 => (intro w hSw; (try dsimp only at hSw); go_simp; (try with_reducible rfl))
    simp only [Act.put, List.setIfInBounds_toArray, List.set_cons_zero, List.set_cons_succ]
    refine held_take (i := 6) (v := ?v6) rfl (by kernel_rfl) (by kernel_rfl) (by kernel_rfl) (fun _ _ _ h => h) hHeld (by rfl) ?hy6 ?_
    case hy6 => (intro w hSw; (try dsimp only at hSw); go_simp; (try with_reducible rfl))
    simp only [Act.put, List.setIfInBounds_toArray, List.set_cons_zero, List.set_cons_succ]
    refine held_take (i := 7) (v := ?v7) rfl (by kernel_rfl) (by kernel_rfl) (by kernel_rfl) (fun _ _ _ h => h) hHeld (by rfl) ?hy7 ?_
    case hy7 => (intro w hSw; (try dsimp only at hSw); go_simp; (try with_reducible rfl))
    simp only [Act.put, List.setIfInBounds_toArray, List.set_cons_zero, List.set_cons_succ]
    refine held_step (i := 5) rfl (by kernel_rfl) (by rfl) (fun K hK => ?_)
    go_simp
    refine (paces_any (wg ws i) _).mono ?_
    rintro e' w1 ⟨rfl, hb1d⟩
    have hb1 : Below W.heap.size W w1 := ⟨hb1d.os, hb1d.tape, hb1d.output, hb1d.size, hb1d.block⟩
    clear hb1d
    refine hK.out _ _ ⟨cell_now hb1 r0, cell_now hb1 r2, cell_now hb1 q0, cell_now hb1 q1, cell_now hb1 q2, cell_now hb1 q3⟩ (fun hHeld => ?_)
    clear hK K
    try simp only [Act.put, List.setIfInBounds_toArray, List.set_cons_zero, List.set_cons_succ]
    refine held_take (i := 8) (v := ?v8) rfl (by kernel_rfl) (by kernel_rfl) (by kernel_rfl) (fun _ _ _ h => h) hHeld (by rfl) ?hy8 ?_
    case hy8 => (intro w hSw; (try dsimp only at hSw); go_simp; (try with_reducible rfl))
    simp only [Act.put, List.setIfInBounds_toArray, List.set_cons_zero, List.set_cons_succ]
    refine held_take (i := 9) (v := ?v9) rfl (by kernel_rfl) (by kernel_rfl) (by kernel_rfl) (fun _ _ _ h => h) hHeld (by rfl) ?hy9 ?_
    case hy9 => (intro w hSw; (try dsimp only at hSw); go_simp; (try with_reducible rfl))
    simp only [Act.put, List.setIfInBounds_toArray, List.set_cons_zero, List.set_cons_succ]
    refine wpAnyH_done (by kernel_rfl) ?_ _
    gi_wp2
    have s1 := cell_now hb1 r1
    have s3 := cell_now hb1 r3
    have s4 := cell_now hb1 r4
    have s4f := frozen_now hb1 r4 r4f
    have t4 := cell_now hb1 q4
    have hp : 1 ≤ endOf ws e i ∧ endOf ws e i ≤ 10000 := by have := ht.small.lo i hiw; have := ht.small.hi i hiw; unfold endOf; split <;> omega
    have hdd := dist_bound (L := Ln ws) (k := k) (fun i hi => ht.small.len i (by omega)) (by omega) i
    have hss := ht.start i (by omega)
    have his : i < st.length := by omega
    have Hacc := hid (accP_snoc (Ln ws) (nm st) (endOf ws e) k place (nm st k) (pre.map Fin.val) i)
    generalize accP (Ln ws) (nm st) (endOf ws e) k place (nm st k) (pre.map Fin.val) = acc at *
    generalize hdg : dist (Ln ws) k i = dd at *
    clear hdg
    generalize hpg : endOf ws e i = p at *
    clear hpg
    have z1 : IntKind.i64.wrap (place + dd) = place + dd := IntWalk.i64_in _ (by omega)
    have z2 : IntKind.i64.wrap (place + dd + p) = place + dd + p := IntWalk.i64_in _ (by omega)
    have z3 : IntKind.i64.wrap (place + dd + p - 1) = place + dd + p - 1 := IntWalk.i64_in _ (by omega)
    have hp0 : ¬ (p = 0) := by omega
    have hcd := cdiv_bound (x := place + dd) (p := p) (by omega) (by omega) (by omega)
    have z4 : IntKind.i64.wrap ((place + dd + p - 1).tdiv p) = cdiv (place + dd) p := by rw [IntWalk.i64_quo _ _ (by omega)]; rfl
    have z5 : IntKind.i64.wrap (nm st i + cdiv (place + dd) p) = nm st i + cdiv (place + dd) p := IntWalk.i64_in _ (by omega)
    refine wpIn_region_still_tail 16 (by kernel_rfl) (by kernel_rfl) (by kernel_rfl) (fun ⟨_, _, h⟩ => h) ?_
    simp only [List.take_succ_cons, List.take_zero, List.drop_succ_cons, List.drop_zero]
    repeat still_step
    try refine wpStill_nil ?_
    change wpList _ _ _ _ _ w1.drew
    rw [max_if]
    go_wp2
    exact ⟨((others_of_below hb1).trans (KeepsOthers.setCell _ _ _)).trans (KeepsOthers.drew _),
      ⟨by have := hb1.size; simpa [World.setCell] using this, fun j hj hne => (Below.heap_setCell w1 _ _ j hne).trans (hb1.block j (by have := hB.size; have h5 := World.block_lt_of_cell? W ⟨w.heap.size + 1 + 1 + 1 + 1, 0, none⟩ r5; simp only at h5; omega))⟩,
      ⟨cell_far (by simp; omega) (cell_now hb1 r0), cell_far (by simp; omega) s1, cell_far (by simp; omega) (cell_now hb1 r2), cell_far (by simp) s3, by
        rw [List.map_append, List.map_cons, List.map_nil, Hacc.out]
        exact World.cell?_setCell_same' _ _ _ (by rw [s4]; rfl), by
        show (World.setCell _ _ _).frozen? _ = _
        rw [World.frozen?_setCell]; exact s4f, cell_far (by simp; omega) (cell_now hb1 r5)⟩,
      ((hB.trans (hb1.mono hB.size)).setCell (p := ⟨w.heap.size + 1 + 1, 0, none⟩) (by simp; omega) _).drew⟩
  case done =>
    rintro D ys W hD rfl ⟨⟨_, _, _, _, hc, _⟩, hB⟩ hK
    have hfin : max (nm st k) (passed (Ln ws) (nm st) (endOf ws e) k (place + dist (Ln ws) k k)) = passed (Ln ws) (nm st) (endOf ws e) k place := by
      have := passed_ge_start (L := Ln ws) (S := nm st) (P := endOf ws e) (k := k) (x := place) (fun i hi => by have := ht.small.lo i (by omega); have := ht.small.hi i (by omega); unfold endOf; split <;> omega) (fun i hi => (ht.small.len i (by omega)).1) hpl k (Nat.le_refl _)
      rw [dist_self, Int.add_zero]
      omega
    rw [down_all, accP_top k (Nat.le_refl _), hfin] at hc
    clear hfin
    gi_wp2
    refine ⟨by simp, .inl ⟨_, _, rfl, run_takeDeferred hK, ?_⟩⟩
    exact ⟨_, results_tmp rfl _ _ _, rfl, hB.trans (belowK_b (w := w) (Nat.le_refl _) W D _ _ (by omega) hK rfl rfl)⟩
  case stop =>
    rintro D c pre W _ _ h _
    exact h.elim
end Go.Proofs.YtefdopifebhgiaaGreatDoor

namespace Go.Proofs.YtefdopifebhgiaaGreatDoor
open Go.RowKit
attribute [local go_sem] Oper.semAt_some

theorem end_bound {ws : List Wing} {st : List Int} {k : Nat} {e t : Int} (ht : Tr ws st k e) (h1 : -10000000 ≤ t) (h2 : t ≤ 10000000) :
    -200000000000 ≤ front (Ln ws) (nm st) (endOf ws e) k t ∧ front (Ln ws) (nm st) (endOf ws e) k t ≤ 200000000000 := by
  have hn := ht.small.n
  have hk := ht.kw
  rcases ht.e with rfl | rfl
  · have := front_bound (ht.small.slow ht.kw ht.ks ht.start) h1 h2 k (Nat.le_refl _)
    rw [nm_lo] at this
    show _ ≤ front (Ln ws) (nm st) (Lo ws) k t ∧ front (Ln ws) (nm st) (Lo ws) k t ≤ _
    omega
  · have := front_bound (ht.small.fast ht.kw ht.ks ht.start) h1 h2 k (Nat.le_refl _)
    rw [nm_hi] at this
    show _ ≤ front (Ln ws) (nm st) (Hi ws) k t ∧ front (Ln ws) (nm st) (Hi ws) k t ≤ _
    omega

set_option maxHeartbeats 2000000 in
set_option maxRecDepth 100000 in
theorem pfront_any (ws : List Wing) (st : List Int) (kk t e : Int) (vw vs : Value) (w : World) (hW : WgAt none w vw ws) (hS : IntsAt none w vs st)
    (h0 : 0 ≤ kk) (ht : Tr ws st kk.toNat e) (hpl : -10000000 ≤ t) (hpl2 : t ≤ 10000000) :
    Calls Tryz.prog 43 #[.agg #[vw, vs, .int .i64 e], .int .i64 kk, .int .i64 t] w
     fun e' w' => e' = .returned (.int .i64 (front (Ln ws) (nm st) (endOf ws e) kk.toNat t)) ∧ Below w.heap.size w w' := by
  obtain ⟨k, rfl⟩ := Int.eq_ofNat_of_zero_le h0
  rw [Int.toNat_natCast] at *
  obtain ⟨aw, cap, rfl, hh⟩ := hW
  obtain ⟨b, off, rfl, _, _, _, hb, hL⟩ := hh (by have := ht.kw; omega)
  obtain ⟨ags, caps, rfl, hh2⟩ := hS
  obtain ⟨bs, offs, rfl, _, _, _, hbs, hS⟩ := hh2 (by have := ht.ks; omega)
  clear hh hh2
  have hk := ht.kw
  have hks := ht.ks
  have hn := ht.small.n
  have h1 := hS k hks
  have HL := hid hL
  have HS := hid hS
  clear hL hS
  refine (callsIn_wide (n := 3)).1 ?_
  refine callsIn_of_wp_marks Tryz.func43 rfl trivial ?_ rfl
  simp only [Tryz.ntmps43, List.size_toArray, List.length_cons, List.length_nil, Nat.reduceAdd, Nat.reduceSub, Array.replicate_succ, Array.replicate_zero, List.push_toArray, List.append_toArray, List.nil_append, List.cons_append]
  gi_wp2_with (refine ⟨trivial, ?_⟩; gi_at_call 59; refine (callsIn_wide.2 (ahead_any _ _ _ _ _ _ _ _ _)).mono ?_; rintro e' w' ⟨rfl, rfl⟩)
  obtain ⟨w5, hw5⟩ : ∃ w5, (((((w.alloc (.cells #[.slice (some ⟨b, off, none⟩) ws.length cap, .slice (some ⟨bs, offs, none⟩) st.length caps, .int .i64 e] 90)).alloc (.cells #[.int .i64 t] 3)).alloc (.cells #[.int .i64 1152921504606846976] 3)).alloc
      (.cells #[.slice (some ⟨b, off, none⟩) ws.length cap, .slice (some ⟨bs, offs, none⟩) st.length caps, .int .i64 e] 90)).alloc (.cells #[.int .i64 (k : Int)] 3)) = w5 := ⟨_, rfl⟩
  have hsz : w5.heap.size = w.heap.size + 5 := by rw [← hw5]; simp
  have hB0 : Below w.heap.size w w5 := by rw [← hw5]; exact (((((Below.refl _ w).alloc (Nat.le_refl _) _).alloc (by simp) _).alloc (by simp; omega) _).alloc (by simp; omega) _).alloc (by simp; omega) _
  have c0 : w5.cell? ⟨w.heap.size, 0, none⟩ = some (.slice (some ⟨b, off, none⟩) ws.length cap) := by rw [← hw5]; exact cell_up (cell_up (cell_up (cell_up (cell_at rfl rfl))))
  have c1 : w5.cell? ⟨w.heap.size, 1, none⟩ = some (.slice (some ⟨bs, offs, none⟩) st.length caps) := by rw [← hw5]; exact cell_up (cell_up (cell_up (cell_up (cell_at rfl rfl))))
  have c2 : w5.cell? ⟨w.heap.size, 2, none⟩ = some (.int .i64 e) := by rw [← hw5]; exact cell_up (cell_up (cell_up (cell_up (cell_at rfl rfl))))
  have c3 : w5.cell? ⟨w.heap.size + 1, 0, none⟩ = some (.int .i64 t) := by rw [← hw5]; exact cell_up (cell_up (cell_up (cell_at (by simp) rfl)))
  have c4 : w5.cell? ⟨w.heap.size + 1 + 1, 0, none⟩ = some (.int .i64 1152921504606846976) := by rw [← hw5]; exact cell_up (cell_up (cell_at (by simp) rfl))
  have c4f : w5.frozen? ⟨w.heap.size + 1 + 1, 0, none⟩ = false := by rw [← hw5]; exact frozen_up (by simp) (frozen_up (by simp) (frozen_at (by simp)))
  have c5 : w5.cell? ⟨w.heap.size + 1 + 1 + 1, 0, none⟩ = some (.slice (some ⟨b, off, none⟩) ws.length cap) := by rw [← hw5]; exact cell_up (cell_at (by simp) rfl)
  have c6 : w5.cell? ⟨w.heap.size + 1 + 1 + 1 + 1, 0, none⟩ = some (.int .i64 (k : Int)) := by rw [← hw5]; exact cell_at (by simp) rfl
  rw [hw5]
  clear hw5
  refine wpIn_rangeFunc_ownF (F := Fence.wide) (n := 3) rfl (by omega) (gf := 80) (lb := #[.pointer (some ⟨w.heap.size + 1 + 1 + 1 + 1, 0, none⟩), .pointer (some ⟨w.heap.size + 1 + 1 + 1, 0, none⟩)]) rfl trivial (enters_of Tryz.func80 (by kernel_rfl) rfl)
    (ahead_stops 2 (by omega) ws k b off cap (w.heap.size + 1 + 1 + 1) (w.heap.size + 1 + 1 + 1 + 1) (w.heap.size + 5) (w.heap.size + 1 + 1) w5 hk (by omega) (fun i hi => ht.small.len i (by omega)) (by omega) (by omega) (by omega) (by omega) (by omega) (by omega) (by omega)
      (fun i hi => cell_back hB0 hb (HL.out i hi).2.1) c5 c6)
    KeepB.trans (fun W l o o' hl _ _ _ => ⟨by simp, fun i hi _ => World.putObj_heap_other (by omega)⟩) (Below.refl _ _) (fun _ => rfl)
    (fun pre W => (W.cell? ⟨w.heap.size, 0, none⟩ = some (.slice (some ⟨b, off, none⟩) ws.length cap) ∧ W.cell? ⟨w.heap.size, 1, none⟩ = some (.slice (some ⟨bs, offs, none⟩) st.length caps) ∧ W.cell? ⟨w.heap.size, 2, none⟩ = some (.int .i64 e) ∧
      W.cell? ⟨w.heap.size + 1, 0, none⟩ = some (.int .i64 t) ∧ W.cell? ⟨w.heap.size + 1 + 1, 0, none⟩ = some (.int .i64 (accF (Ln ws) (nm st) (endOf ws e) k t 1152921504606846976 (pre.map Fin.val))) ∧ W.frozen? ⟨w.heap.size + 1 + 1, 0, none⟩ = false ∧ W.cell? ⟨w.heap.size + 1 + 1 + 1 + 1, 0, none⟩ = some (.int .i64 (k : Int))) ∧ Below w.heap.size w W)
    (fun _ _ _ => False)
    (OwnFrom.and (Own.from (fun s A B row hs hg hr => ⟨cell_kept hs.1 hg hr, cell_kept hs.2.1 hg hr, cell_kept hs.2.2.1 hg hr, cell_kept hs.2.2.2.1 hg hr, cell_kept hs.2.2.2.2.1 hg hr, (frozen_kept hs.2.2.2.2.1 hg hr).trans hs.2.2.2.2.2.1, cell_kept hs.2.2.2.2.2.2 hg hr⟩) _) (ownFrom_below (Nat.le_refl _) (by omega)))
    (fun _ _ _ _ _ hs _ _ => hs)
    ⟨⟨c0, c1, c2, c3, c4, c4f, c6⟩, hB0⟩ ?a1 ?assign ?body ?done ?stop
  case assign =>
    intro l x W K hK
    gi_wp2
    exact hK
  case body =>
    rintro l pre x W ⟨⟨r0, r1, r2, r3, r4, r4f, r5⟩, hB⟩ _
    obtain ⟨i, hi⟩ := x
    obtain ⟨g0, g1, g2, g3⟩ := HL.out i (by omega)
    have q0 := cell_back hB hb g0
    have q1 := cell_back hB hb g1
    have q2 := cell_back hB hb g2
    have q3 := cell_back hB hb g3
    have q4 := cell_back hB hbs (HS.out i (by omega))
    have hiw : i < ws.length := by omega
    have hx0 : ∀ w, (Instr.index 107 (.agg #[.int .i64 (wg ws i).lo, .int .i64 (wg ws i).hi]) (.int .i64 e)).run Tryz.prog w = .ok (.int .i64 (endOf ws e i)) w := by
      rcases ht.e with rfl | rfl
      · exact fun _ => by kernel_rfl
      · exact fun _ => by kernel_rfl
    clear g0 g1 g2 g3
    have hp : 1 ≤ endOf ws e i ∧ endOf ws e i ≤ 10000 := by have := ht.small.lo i hiw; have := ht.small.hi i hiw; unfold endOf; split <;> omega
    have hdd := dist_bound (L := Ln ws) (k := k) (fun i hi => ht.small.len i (by omega)) (by omega) i
    have hss := ht.start i (by omega)
    have his : i < st.length := by omega
    have Hacc := hid (accF_snoc (Ln ws) (nm st) (endOf ws e) k t 1152921504606846976 (pre.map Fin.val) i)
    generalize accF (Ln ws) (nm st) (endOf ws e) k t 1152921504606846976 (pre.map Fin.val) = acc at *
    have hmb := mul_bound (p := endOf ws e i) (q := t - nm st i) (by omega) (by omega) (by omega) (by omega)
    have z1 : IntKind.i64.wrap (t - nm st i) = t - nm st i := IntWalk.i64_in _ (by omega)
    have z2 : IntKind.i64.wrap (endOf ws e i * (t - nm st i)) = endOf ws e i * (t - nm st i) := IntWalk.i64_in _ (by omega)
    have z3 : IntKind.i64.wrap (endOf ws e i * (t - nm st i) - dist (Ln ws) k i) = endOf ws e i * (t - nm st i) - dist (Ln ws) k i := IntWalk.i64_in _ (by omega)
    have hbl : b ≠ w.heap.size + 1 + 1 := by omega
    have hbsl : bs ≠ w.heap.size + 1 + 1 := by omega
    gi_wp2
    refine wpIn_region_held (S := fun W' => W'.cell? ⟨w.heap.size, 0, none⟩ = some (.slice (some ⟨b, off, none⟩) ws.length cap) ∧ W'.cell? ⟨w.heap.size, 1, none⟩ = some (.slice (some ⟨bs, offs, none⟩) st.length caps) ∧ W'.cell? ⟨w.heap.size, 2, none⟩ = some (.int .i64 e) ∧ W'.cell? ⟨w.heap.size + 1, 0, none⟩ = some (.int .i64 t) ∧
      W'.cell? ⟨b, off + i * 4, none⟩ = some (.string (wg ws i).name) ∧ W'.cell? ⟨b, off + i * 4 + 1, none⟩ = some (.int .i64 (wg ws i).len) ∧
      W'.cell? ⟨b, off + i * 4 + 2, none⟩ = some (.int .i64 (wg ws i).lo) ∧ W'.cell? ⟨b, off + i * 4 + 2 + 1, none⟩ = some (.int .i64 (wg ws i).hi) ∧ W'.cell? ⟨bs, offs + i, none⟩ = some (.int .i64 (nm st i))) (by kernel_rfl) (by kernel_rfl) (fun ⟨_, _, h⟩ => h) ⟨r0, r1, r2, r3, q0, q1, q2, q3, q4⟩ (fun hHeld => ?_)
    refine held_take (i := 1) (v := ?v1) rfl (by kernel_rfl) (by kernel_rfl) (by kernel_rfl) (fun _ _ _ h => h) hHeld (by rfl) ?hy1 ?_
    case hy1 => (intro w hSw; (try dsimp only at hSw); go_simp; (try with_reducible rfl))
    simp only [Act.put, List.setIfInBounds_toArray, List.set_cons_zero, List.set_cons_succ]
    refine held_take (i := 2) (v := ?v2) rfl (by kernel_rfl) (by kernel_rfl) (by kernel_rfl) (fun _ _ _ h => h) hHeld (by rfl) ?hy2 ?_
    case hy2 => (intro w hSw; (try dsimp only at hSw); go_simp; (try with_reducible rfl))
    simp only [Act.put, List.setIfInBounds_toArray, List.set_cons_zero, List.set_cons_succ]
    refine held_take (i := 3) (v := ?v3) rfl (by kernel_rfl) (by kernel_rfl) (by kernel_rfl) (fun _ _ _ h => h) hHeld (by rfl) ?hy3 ?_
    case hy3 => (intro w hSw; (try dsimp only at hSw); go_simp; (try with_reducible rfl))
    simp only [Act.put, List.setIfInBounds_toArray, List.set_cons_zero, List.set_cons_succ]
    refine held_take (i := 4) (v := ?v4) rfl (by kernel_rfl) (by kernel_rfl) (by kernel_rfl) (fun _ _ _ h => h) hHeld (by rfl) ?hy4 ?_
    case hy4 => (intro w hSw; (try dsimp only at hSw); go_simp; (try with_reducible rfl))
    simp only [Act.put, List.setIfInBounds_toArray, List.set_cons_zero, List.set_cons_succ]
    refine held_take (i := 5) (v := ?v5) rfl (by kernel_rfl) (by kernel_rfl) (by kernel_rfl) (fun _ _ _ h => h) hHeld (by rfl) ?hy5 ?_
    case hy5 => (intro w hSw; (try dsimp only at hSw); go_simp; (try with_reducible rfl))
    simp only [Act.put, List.setIfInBounds_toArray, List.set_cons_zero, List.set_cons_succ]
    refine held_take (i := 7) (v := ?v6) rfl (by kernel_rfl) (by kernel_rfl) (by kernel_rfl) (fun _ _ _ h => h) hHeld (by rfl) ?hy6 ?_
    case hy6 => (intro w hSw; (try dsimp only at hSw); go_simp; (try with_reducible rfl))
    simp only [Act.put, List.setIfInBounds_toArray, List.set_cons_zero, List.set_cons_succ]
    refine held_take (i := 8) (v := ?v7) rfl (by kernel_rfl) (by kernel_rfl) (by kernel_rfl) (fun _ _ _ h => h) hHeld (by rfl) ?hy7 ?_
    case hy7 => (intro w hSw; (try dsimp only at hSw); go_simp; (try with_reducible rfl))
    simp only [Act.put, List.setIfInBounds_toArray, List.set_cons_zero, List.set_cons_succ]
    refine held_take (i := 10) (v := ?v8) rfl (by kernel_rfl) (by kernel_rfl) (by kernel_rfl) (fun _ _ _ h => h) hHeld (by rfl) ?hy8 ?_
    case hy8 => (intro w hSw; (try dsimp only at hSw); go_simp; (try with_reducible rfl))
    simp only [Act.put, List.setIfInBounds_toArray, List.set_cons_zero, List.set_cons_succ]
    refine held_take (i := 11) (v := ?v9) rfl (by kernel_rfl) (by kernel_rfl) (by kernel_rfl) (fun _ _ _ h => h) hHeld (by rfl) ?hy9 ?_
    case hy9 => (intro w hSw; (try dsimp only at hSw); go_simp; (try with_reducible rfl))
    simp only [Act.put, List.setIfInBounds_toArray, List.set_cons_zero, List.set_cons_succ]
    refine held_take (i := 12) (v := ?v10) rfl (by kernel_rfl) (by kernel_rfl) (by kernel_rfl) (fun _ _ _ h => h) hHeld (by rfl) ?hy10 ?_
    case hy10 => (intro w hSw; (try dsimp only at hSw); go_simp; (try with_reducible rfl))
    simp only [Act.put, List.setIfInBounds_toArray, List.set_cons_zero, List.set_cons_succ]
    refine held_take (i := 13) (v := ?v11) rfl (by kernel_rfl) (by kernel_rfl) (by kernel_rfl) (fun _ _ _ h => h) hHeld (by rfl) ?hy11 ?_
    case hy11 => (intro w hSw; (try dsimp only at hSw); go_simp; (try with_reducible rfl))
    simp only [Act.put, List.setIfInBounds_toArray, List.set_cons_zero, List.set_cons_succ]
    refine held_take (i := 14) (v := ?v12) rfl (by kernel_rfl) (by kernel_rfl) (by kernel_rfl) (fun _ _ _ h => h) hHeld (by rfl) ?hy12 ?_
    case hy12 => (intro w hSw; (try dsimp only at hSw); go_simp; (try with_reducible rfl))
    simp only [Act.put, List.setIfInBounds_toArray, List.set_cons_zero, List.set_cons_succ]
    refine held_take (i := 15) (v := ?v13) rfl (by kernel_rfl) (by kernel_rfl) (by kernel_rfl) (fun _ _ _ h => h) hHeld (by rfl) ?hy13 ?_
    case hy13 => (intro w hSw; (try dsimp only at hSw); go_simp; (try with_reducible rfl))
    simp only [Act.put, List.setIfInBounds_toArray, List.set_cons_zero, List.set_cons_succ]
    refine held_take (i := 16) (v := ?v14) rfl (by kernel_rfl) (by kernel_rfl) (by kernel_rfl) (fun _ _ _ h => h) hHeld (by rfl) ?hy14 ?_
    case hy14 => (intro w hSw; (try dsimp only at hSw); go_simp; (try with_reducible rfl))
    simp only [Act.put, List.setIfInBounds_toArray, List.set_cons_zero, List.set_cons_succ]
    refine held_take (i := 18) (v := ?v15) rfl (by kernel_rfl) (by kernel_rfl) (by kernel_rfl) (fun _ _ _ h => h) hHeld (by rfl) ?hy15 ?_
    case hy15 => (intro w hSw; (try dsimp only at hSw); go_simp; (try with_reducible rfl))
    simp only [Act.put, List.setIfInBounds_toArray, List.set_cons_zero, List.set_cons_succ]
    refine held_two (i := 0) (j := 6) rfl rfl (by kernel_rfl) (by rfl) (by rfl) (fun K hK => ?_) (fun K hK => ?_)
    · go_simp
      refine hK.out _ _ ⟨r0, r1, r2, r3, q0, q1, q2, q3, q4⟩ (fun hHeld => ?_)
      clear hK K
      try simp only [Act.put, List.setIfInBounds_toArray, List.set_cons_zero, List.set_cons_succ]
      refine held_step (i := 6) rfl (by kernel_rfl) (by rfl) (fun K hK => ?_)
      go_simp
      refine (paces_any (wg ws i) _).mono ?_
      rintro e' w1 ⟨rfl, hb1d⟩
      have hb1 : Below W.heap.size W w1 := ⟨hb1d.os, hb1d.tape, hb1d.output, hb1d.size, hb1d.block⟩
      clear hb1d
      have s0 := cell_now hb1 r0
      have s1 := cell_now hb1 r1
      have s2 := cell_now hb1 r2
      have s3 := cell_now hb1 r3
      have s4 := cell_now hb1 r4
      have s4f := frozen_now hb1 r4 r4f
      have u0 := cell_now hb1 q0
      have u1 := cell_now hb1 q1
      have u2 := cell_now hb1 q2
      have u3 := cell_now hb1 q3
      have u4 := cell_now hb1 q4
      refine hK.out _ _ ⟨s0, s1, s2, s3, u0, u1, u2, u3, u4⟩ (fun hHeld => ?_)
      clear hK K
      try simp only [Act.put, List.setIfInBounds_toArray, List.set_cons_zero, List.set_cons_succ]
      refine held_take (i := 9) (v := ?v16) rfl (by kernel_rfl) (by kernel_rfl) (by kernel_rfl) (fun _ _ _ h => h) hHeld (by rfl) ?hy16 ?_
      case hy16 => (intro w hSw; (try dsimp only at hSw); go_simp; (try with_reducible rfl))
      simp only [Act.put, List.setIfInBounds_toArray, List.set_cons_zero, List.set_cons_succ]
      refine held_take (i := 17) (v := ?v17) rfl (by kernel_rfl) (by kernel_rfl) (by kernel_rfl) (fun _ _ _ h => h) hHeld (by rfl) ?hy17 ?_
      case hy17 => (intro w hSw; (try dsimp only at hSw); go_simp; (try with_reducible rfl))
      simp only [Act.put, List.setIfInBounds_toArray, List.set_cons_zero, List.set_cons_succ]
      refine held_take (i := 19) (v := ?v18) rfl (by kernel_rfl) (by kernel_rfl) (by kernel_rfl) (fun _ _ _ h => h) hHeld (by rfl) ?hy18 ?_
      case hy18 => (intro w hSw; (try dsimp only at hSw); go_simp; (try with_reducible rfl))
      simp only [Act.put, List.setIfInBounds_toArray, List.set_cons_zero, List.set_cons_succ]
      refine held_take (i := 20) (v := ?v19) rfl (by kernel_rfl) (by kernel_rfl) (by kernel_rfl) (fun _ _ _ h => h) hHeld (by rfl) ?hy19 ?_
      case hy19 => (intro w hSw; (try dsimp only at hSw); go_simp; (try with_reducible rfl))
      simp only [Act.put, List.setIfInBounds_toArray, List.set_cons_zero, List.set_cons_succ]
      refine held_step (i := 21) rfl (by kernel_rfl) (by rfl) (fun K hK => ?_)
      rw [min_if]
      go_simp
      refine hK.out _ _ ⟨cell_far (by simp; omega) s0, cell_far (by simp; omega) s1, cell_far (by simp; omega) s2, cell_far (by simp) s3, cell_far (by simp; omega) u0, cell_far (by simp; omega) u1, cell_far (by simp; omega) u2, cell_far (by simp; omega) u3, cell_far (by simp; omega) u4⟩ (fun hHeld => ?_)
      clear hK K hHeld
      refine wpAnyH_done (by kernel_rfl) ?_ _
      gi_wp2
      exact ⟨(others_of_below hb1).trans (KeepsOthers.setCell _ _ _),
        ⟨by have := hb1.size; simpa [World.setCell] using this, fun j hj hne => (Below.heap_setCell w1 _ _ j hne).trans (hb1.block j (by have h5 := World.block_lt_of_cell? W ⟨w.heap.size + 1 + 1 + 1 + 1, 0, none⟩ r5; simp only at h5; omega))⟩,
        ⟨cell_far (by simp; omega) s0, cell_far (by simp; omega) s1, cell_far (by simp; omega) s2, cell_far (by simp) s3, by
          rw [List.map_append, List.map_cons, List.map_nil, Hacc.out]
          exact World.cell?_setCell_same' _ _ _ (by rw [s4]; rfl), by
          rw [World.frozen?_setCell]; exact s4f, cell_far (by simp; omega) (cell_now hb1 r5)⟩,
        (hB.trans (hb1.mono hB.size)).setCell (p := ⟨w.heap.size + 1 + 1, 0, none⟩) (by simp; omega) _⟩
    · go_simp
      refine (paces_any (wg ws i) _).mono ?_
      rintro e' w1 ⟨rfl, hb1d⟩
      have hb1 : Below W.heap.size W w1 := ⟨hb1d.os, hb1d.tape, hb1d.output, hb1d.size, hb1d.block⟩
      clear hb1d
      have s0 := cell_now hb1 r0
      have s1 := cell_now hb1 r1
      have s2 := cell_now hb1 r2
      have s3 := cell_now hb1 r3
      have s4 := cell_now hb1 r4
      have s4f := frozen_now hb1 r4 r4f
      have u0 := cell_now hb1 q0
      have u1 := cell_now hb1 q1
      have u2 := cell_now hb1 q2
      have u3 := cell_now hb1 q3
      have u4 := cell_now hb1 q4
      refine hK.out _ _ ⟨s0, s1, s2, s3, u0, u1, u2, u3, u4⟩ (fun hHeld => ?_)
      clear hK K
      try simp only [Act.put, List.setIfInBounds_toArray, List.set_cons_zero, List.set_cons_succ]
      refine held_take (i := 9) (v := ?v20) rfl (by kernel_rfl) (by kernel_rfl) (by kernel_rfl) (fun _ _ _ h => h) hHeld (by rfl) ?hy20 ?_
      case hy20 => (intro w hSw; (try dsimp only at hSw); go_simp; (try with_reducible rfl))
      simp only [Act.put, List.setIfInBounds_toArray, List.set_cons_zero, List.set_cons_succ]
      refine held_take (i := 17) (v := ?v21) rfl (by kernel_rfl) (by kernel_rfl) (by kernel_rfl) (fun _ _ _ h => h) hHeld (by rfl) ?hy21 ?_
      case hy21 => (intro w hSw; (try dsimp only at hSw); go_simp; (try with_reducible rfl))
      simp only [Act.put, List.setIfInBounds_toArray, List.set_cons_zero, List.set_cons_succ]
      refine held_take (i := 19) (v := ?v22) rfl (by kernel_rfl) (by kernel_rfl) (by kernel_rfl) (fun _ _ _ h => h) hHeld (by rfl) ?hy22 ?_
      case hy22 => (intro w hSw; (try dsimp only at hSw); go_simp; (try with_reducible rfl))
      simp only [Act.put, List.setIfInBounds_toArray, List.set_cons_zero, List.set_cons_succ]
      refine held_step (i := 0) rfl (by kernel_rfl) (by rfl) (fun K hK => ?_)
      go_simp
      refine hK.out _ _ ⟨s0, s1, s2, s3, u0, u1, u2, u3, u4⟩ (fun hHeld => ?_)
      clear hK K
      try simp only [Act.put, List.setIfInBounds_toArray, List.set_cons_zero, List.set_cons_succ]
      refine held_take (i := 20) (v := ?v23) rfl (by kernel_rfl) (by kernel_rfl) (by kernel_rfl) (fun _ _ _ h => h) hHeld (by rfl) ?hy23 ?_
      case hy23 => (intro w hSw; (try dsimp only at hSw); go_simp; (try with_reducible rfl))
      simp only [Act.put, List.setIfInBounds_toArray, List.set_cons_zero, List.set_cons_succ]
      refine held_step (i := 21) rfl (by kernel_rfl) (by rfl) (fun K hK => ?_)
      rw [min_if]
      go_simp
      refine hK.out _ _ ⟨cell_far (by simp; omega) s0, cell_far (by simp; omega) s1, cell_far (by simp; omega) s2, cell_far (by simp) s3, cell_far (by simp; omega) u0, cell_far (by simp; omega) u1, cell_far (by simp; omega) u2, cell_far (by simp; omega) u3, cell_far (by simp; omega) u4⟩ (fun hHeld => ?_)
      clear hK K hHeld
      refine wpAnyH_done (by kernel_rfl) ?_ _
      gi_wp2
      exact ⟨(others_of_below hb1).trans (KeepsOthers.setCell _ _ _),
        ⟨by have := hb1.size; simpa [World.setCell] using this, fun j hj hne => (Below.heap_setCell w1 _ _ j hne).trans (hb1.block j (by have h5 := World.block_lt_of_cell? W ⟨w.heap.size + 1 + 1 + 1 + 1, 0, none⟩ r5; simp only at h5; omega))⟩,
        ⟨cell_far (by simp; omega) s0, cell_far (by simp; omega) s1, cell_far (by simp; omega) s2, cell_far (by simp) s3, by
          rw [List.map_append, List.map_cons, List.map_nil, Hacc.out]
          exact World.cell?_setCell_same' _ _ _ (by rw [s4]; rfl), by
          rw [World.frozen?_setCell]; exact s4f, cell_far (by simp; omega) (cell_now hb1 r5)⟩,
        (hB.trans (hb1.mono hB.size)).setCell (p := ⟨w.heap.size + 1 + 1, 0, none⟩) (by simp; omega) _⟩
  case done =>
    rintro D ys W hD rfl ⟨⟨_, _, _, _, hc, _⟩, hB⟩ hK
    have hfb := end_bound ht hpl hpl2
    have hfin : min 1152921504606846976 (front (Ln ws) (nm st) (endOf ws e) k t - dist (Ln ws) k k) = front (Ln ws) (nm st) (endOf ws e) k t := by
      rw [dist_self]
      omega
    rw [down_all, accF_top k (Nat.le_refl _), hfin] at hc
    clear hfin
    gi_wp2
    refine ⟨by simp, .inl ⟨_, _, rfl, run_takeDeferred hK, ?_⟩⟩
    exact ⟨_, results_tmp rfl _ _ _, rfl, hB.trans (belowK_b (w := w) (Nat.le_refl _) W D _ _ (by omega) hK rfl rfl)⟩
  case stop =>
    rintro D c pre W _ _ h _
    exact h.elim
end Go.Proofs.YtefdopifebhgiaaGreatDoor
