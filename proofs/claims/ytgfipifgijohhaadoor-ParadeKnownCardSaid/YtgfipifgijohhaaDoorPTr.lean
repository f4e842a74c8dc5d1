/-
  WALKS: the program's truths: truthOf, paces, and the wings handed out from one wing down to the first one, with the distance to it.
-/
import Derived.Test.YtgfipifgijohhaaDoorRLs
import Derived.Test.YtgfipifgijohhaaDoorRoundHeld
namespace Go.Proofs.YtgfipifgijohhaaDoor
open Go.RowKit

/-! ### the distances -/

/-- the distance from the front of wing k - m to the front of wing k -/
def distN (L : Nat → Int) (k : Nat) : Nat → Int
  | 0 => 0
  | m + 1 => distN L k m + L (k - (m + 1))
def dist (L : Nat → Int) (k i : Nat) : Int := distN L k (k - i)

theorem dist_self (L : Nat → Int) (k : Nat) : dist L k k = 0 := by simp [dist, distN]
theorem dist_step (L : Nat → Int) {k i : Nat} (h : i + 1 ≤ k) : dist L k i = dist L k (i + 1) + L i := by
  unfold dist
  obtain ⟨m, rfl⟩ : ∃ m, k = i + 1 + m := ⟨k - (i + 1), by omega⟩
  have e1 : i + 1 + m - i = m + 1 := by omega
  have e2 : i + 1 + m - (i + 1) = m := by omega
  have e3 : i + 1 + m - (m + 1) = i := by omega
  rw [e1, e2, distN, e3]

theorem distN_bound {L : Nat → Int} {k : Nat} (hL : ∀ i, i ≤ k → 0 ≤ L i ∧ L i ≤ 100000) : ∀ m, m ≤ k → 0 ≤ distN L k m ∧ distN L k m ≤ 100000 * (m : Int) := by
  intro m
  induction m with
  | zero => intro _; simp [distN]
  | succ m ih =>
    intro hm
    have := ih (by omega)
    have := hL (k - (m + 1)) (by omega)
    simp only [distN]; omega
theorem dist_bound {L : Nat → Int} {k : Nat} (hL : ∀ i, i ≤ k → 0 ≤ L i ∧ L i ≤ 100000) (hk : k ≤ 100) (i : Nat) : 0 ≤ dist L k i ∧ dist L k i ≤ 10000000 := by
  have := distN_bound hL (k - i) (by omega)
  unfold dist; omega

/-- from wing k down: the first m of them -/
def down (k m : Nat) : List (Fin (k + 1)) := (List.range m).map fun j => ⟨k - j, by omega⟩

theorem down_succ (k m : Nat) : down k (m + 1) = down k m ++ [⟨k - m, by omega⟩] := by simp [down, List.range_succ]
theorem down_length (k m : Nat) : (down k m).length = m := by simp [down]

/-- all wings from wing j down -/
def fromTop : Nat → List Nat
  | 0 => [0]
  | j + 1 => (j + 1) :: fromTop j

theorem down_all (k : Nat) : (down k (k + 1)).map Fin.val = fromTop k := by
  have : ∀ k, (List.range (k + 1)).map (fun j => k - j) = fromTop k := by
    intro k
    induction k with
    | zero => rfl
    | succ k ih =>
      rw [List.range_succ_eq_map]
      simp only [List.map_cons, List.map_map, fromTop, ← ih]
      simp only [Nat.sub_zero, List.cons.injEq, true_and]
      refine List.map_congr_left fun j _ => ?_
      simp only [Function.comp_apply]; omega
  rw [← this]
  simp [down, Function.comp_def]

section
variable (L S P : Nat → Int) (k : Nat)
def accF (t : Int) (y : Int) (l : List Nat) : Int := l.foldl (fun y i => min y (P i * (t - S i) - dist L k i)) y
def accP (x : Int) (y : Int) (l : List Nat) : Int := l.foldl (fun y i => max y (S i + cdiv (x + dist L k i) (P i))) y
end

theorem accF_top {L S P : Nat → Int} {k : Nat} {t : Int} : ∀ j, j ≤ k → ∀ y, accF L S P k t y (fromTop j) = min y (front L S P j t - dist L k j) := by
  intro j
  induction j with
  | zero => intro _ y; simp [accF, fromTop, front]
  | succ j ih =>
    intro hj y
    have h := ih (by omega) (min y (P (j + 1) * (t - S (j + 1)) - dist L k (j + 1)))
    have hd := dist_step L (i := j) (k := k) hj
    have e : accF L S P k t y (fromTop (j + 1)) = accF L S P k t (min y (P (j + 1) * (t - S (j + 1)) - dist L k (j + 1))) (fromTop j) := rfl
    rw [e, h]
    simp only [front]
    omega

theorem accP_top {L S P : Nat → Int} {k : Nat} {x : Int} : ∀ j, j ≤ k → ∀ y, accP L S P k x y (fromTop j) = max y (passed L S P j (x + dist L k j)) := by
  intro j
  induction j with
  | zero => intro _ y; simp [accP, fromTop, passed]
  | succ j ih =>
    intro hj y
    have h := ih (by omega) (max y (S (j + 1) + cdiv (x + dist L k (j + 1)) (P (j + 1))))
    have hd := dist_step L (i := j) (k := k) hj
    have e : accP L S P k x y (fromTop (j + 1)) = accP L S P k x (max y (S (j + 1) + cdiv (x + dist L k (j + 1)) (P (j + 1)))) (fromTop j) := rfl
    rw [e, h]
    simp only [passed]
    have e2 : x + dist L k (j + 1) + L j = x + dist L k j := by omega
    rw [e2]
    omega

/-! ### the small functions -/

theorem ret_agg3 {a b c : Value} : Ending.returned (.agg #[a, b, c]) = .returned (.agg #[a, b, c]) := rfl

set_option maxHeartbeats 400000 in
theorem truthOf_any (aw ags : Option Addr) (nw cw ns cs : Nat) (route e : Int) (w : World) :
    Calls Tryd.prog 97 #[.agg #[.int .i64 route, .slice aw nw cw], .slice ags ns cs, .int .i64 e] w fun e' w' => e' = .returned (.agg #[.slice aw nw cw, .slice ags ns cs, .int .i64 e]) ∧ Below w.heap.size w w' := by
  go_enter Tryd.func97, Tryd.ntmps97
  go_wp2
  exact bodyPost_ret (v := .agg #[.slice aw nw cw, .slice ags ns cs, .int .i64 e]) (by simp [results, Tryd.results97, go_sem]) rfl ⟨rfl, ((Below.refl _ _).alloc (Nat.le_refl _) _).alloc (by simp) _⟩

set_option maxHeartbeats 400000 in
theorem paces_any (x : Wing) (w : World) :
    Calls Tryd.prog 124 #[.agg #[.string x.name, .int .i64 x.len, .int .i64 x.lo, .int .i64 x.hi]] w fun e' w' => e' = .returned (.agg #[.int .i64 x.lo, .int .i64 x.hi]) ∧ Below w.heap.size w w' := by
  go_enter Tryd.func124, Tryd.ntmps124
  go_wp2
  exact bodyPost_ret (v := .agg #[.int .i64 x.lo, .int .i64 x.hi]) (by simp [results, Tryd.results124, go_sem]) rfl ⟨rfl, ((Below.refl _ _).alloc (Nat.le_refl _) _).alloc (by simp) _⟩

set_option maxHeartbeats 400000 in
theorem ahead_any (aw ags : Option Addr) (nw cw ns cs : Nat) (k e : Int) (w : World) :
    Calls Tryd.prog 123 #[.agg #[.slice aw nw cw, .slice ags ns cs, .int .i64 e], .int .i64 k] w
      fun e' w' => e' = .returned (.func (.func 146) #[] #[.pointer (some ⟨w.heap.size + 1, 0, none⟩), .pointer (some ⟨w.heap.size, 0, none⟩)]) ∧
        (w.alloc (.cells #[.slice aw nw cw, .slice ags ns cs, .int .i64 e] 109)).alloc (.cells #[.int .i64 k] 3) = w' := by
  have hmf : ∀ (fn : Fn) (first cap : Array Value) (w : World), (Instr.makeFunc fn first cap).run Tryd.prog w = .ok (.func fn first cap) w := fun _ _ _ _ => rfl
  go_enter Tryd.func123, Tryd.ntmps123
  go_wp2
  go_ret
  exact ⟨rfl, rfl⟩

/-- what a round of a loop over the wings keeps: all old blocks but one -/
structure KeepB (n₁ lb : Nat) (W W' : World) : Prop where
  size : W.heap.size ≤ W'.heap.size
  same : ∀ i, i < n₁ → i ≠ lb → W'.heap[i]? = W.heap[i]?

theorem KeepB.refl (n₁ lb : Nat) (W : World) : KeepB n₁ lb W W := ⟨Nat.le_refl _, fun _ _ _ => rfl⟩
theorem KeepB.trans {n₁ lb : Nat} {A B C : World} (h : KeepB n₁ lb A B) (k : KeepB n₁ lb B C) : KeepB n₁ lb A C :=
  ⟨Nat.le_trans h.size k.size, fun i hi hn => (k.same i hi hn).trans (h.same i hi hn)⟩
theorem KeepB.cell {n₁ lb : Nat} {W W' : World} (h : KeepB n₁ lb W W') {b o : Nat} (hb : b < n₁) (hne : b ≠ lb) {v : Value} (hc : W.cell? ⟨b, o, none⟩ = some v) : W'.cell? ⟨b, o, none⟩ = some v :=
  (World.cell?_of_block (a := ⟨b, o, none⟩) (h.same b hb hne)).trans hc

attribute [local go_sem] Oper.semAt_some

set_option maxHeartbeats 2000000 in
set_option maxRecDepth 100000 in
/-- THE ITERATOR: from wing k down to the first one, each with its distance -/
theorem ahead_stops (n : Nat) (hn : 1 ≤ n) (ws : List Wing) (k b off cap Bt Bk n₁ lb : Nat) (w : World) (hk : k < ws.length) (hk2 : k ≤ 100) (hlen : ∀ i, i ≤ k → 0 ≤ Ln ws i ∧ Ln ws i ≤ 100000)
    (h1 : b < n₁) (h2 : b ≠ lb) (h3 : Bt < n₁) (h4 : Bt ≠ lb) (hbw : b < w.heap.size) (hBt : Bt < w.heap.size) (hBk : Bk < w.heap.size)
    (hL : ∀ i, i < ws.length → w.cell? ⟨b, off + i * 4 + 1, none⟩ = some (.int .i64 (wg ws i).len))
    (ht : w.cell? ⟨Bt, 0, none⟩ = some (.slice (some ⟨b, off, none⟩) ws.length cap)) (hkc : w.cell? ⟨Bk, 0, none⟩ = some (.int .i64 (k : Int))) :
    SeqStopsK Fence.wide n Tryd.prog 146 #[.pointer (some ⟨Bk, 0, none⟩), .pointer (some ⟨Bt, 0, none⟩)]
      (fun x : Fin (k + 1) => #[.int .i64 ((x.val : Nat) : Int), .int .i64 (dist (Ln ws) k x.val)]) (KeepB n₁ lb) (fun xs => xs = down k (k + 1)) (fun _ => True) (k + 1) w := fun l J Jx W hW hJ hJx hY h0 => by
  refine callsIn_of_wp Tryd.func146 rfl trivial ?_ rfl
  simp only [Tryd.ntmps146, List.size_toArray, List.length_cons, List.length_nil, Nat.reduceAdd, Nat.reduceSub, Array.replicate_succ, Array.replicate_zero, List.push_toArray, List.append_toArray, List.nil_append, List.cons_append]
  have hkW := (hW.cell (p := ⟨Bk, 0, none⟩) hBk).trans hkc
  have htW := (hW.cell (p := ⟨Bt, 0, none⟩) hBt).trans ht
  have hLW := hid (fun i hi => (hW.cell (p := ⟨b, off + i * 4 + 1, none⟩) hbw).trans (hL i hi))
  clear hL ht hkc
  gi_wp2
  gi_loopw [4, 5] (fun far i wr => ∃ j : Nat, j ≤ k + 1 ∧ i = .int .i64 ((j : Int) - 1) ∧ (∀ q, j = q + 1 → far = .int .i64 (dist (Ln ws) k q)) ∧ J (down k (k + 1 - j)) wr ∧ KeepB n₁ lb W wr)
    (fun _ i _ => (intOf i + 1).toNat)
  case atStart =>
    refine ⟨k + 1, Nat.le_refl _, by congr 1; omega, fun q hq => ?_, by rw [Nat.sub_self]; exact h0, KeepB.refl _ _ _⟩
    obtain rfl : k = q := by omega
    rw [dist_self]
  case round =>
    obtain ⟨j, hj, rfl, hfar, hJs, hkp⟩ := hrel
    cases j with
    | zero =>
      gi_wp2
      go_end0
      exact ⟨⟨_, rfl⟩, .inl ⟨_, rfl, hJs⟩⟩
    | succ j =>
      obtain rfl := hfar j rfl
      have e0 : ((j + 1 : Nat) : Int) - 1 = (j : Int) := by omega
      rw [e0]
      have e2 : k + 1 - (j + 1) = k - j := by omega
      rw [e2] at hJs
      obtain ⟨fn, tmps, assign, body, hy, hR⟩ := hY (down k (k - j)) ⟨j, by omega⟩ wr hJs (by rw [down_length]; omega)
      dsimp only at hy
      have e3 : down k (k - j) ++ [⟨j, by omega⟩] = down k (k + 1 - j) := by
        have e : k + 1 - j = (k - j) + 1 := by omega
        rw [e, down_succ]
        congr 3; omega
      rw [e3] at hR
      have HR := hid hR
      clear e0 e2 e3 hR hfar hJs
      gi_wp2
      refine HR.out.mono ?_
      rintro e W3 (⟨rfl, hJ3, hk3⟩ | ⟨rfl, hJx3⟩)
      · have hk4 := hkp.trans hk3
        cases j with
        | zero =>
          gi_wp2
          go_roundw
          case rel => exact ⟨0, by omega, by simp, fun q hq => by omega, hJ3, hk4⟩
          case measure => simp [intOf]
        | succ p =>
          have c1 := hk4.cell h3 h4 htW
          have c2 := hk4.cell h1 h2 (hLW.out p (by omega))
          have hl : 0 ≤ (wg ws p).len ∧ (wg ws p).len ≤ 100000 := hlen p (by omega)
          have hd := dist_bound hlen hk2 (p + 1)
          have hst := hid (dist_step (Ln ws) (i := p) (k := k) (by omega))
          have hpw : p < ws.length := by omega
          gi_wp2
          go_roundw
          case rel =>
            refine ⟨p + 1, by omega, by simp, fun q hq => ?_, hJ3, hk4⟩
            obtain rfl : p = q := by omega
            rw [hst.out]; rfl
          case measure => simp [intOf] <;> omega
      · gi_wp2
        refine bodyPost_ret (results_none rfl _ _ _) rfl ?_
        exact ⟨⟨_, rfl⟩, .inr ⟨_, trivial, hJx3⟩⟩
end Go.Proofs.YtgfipifgijohhaaDoor
