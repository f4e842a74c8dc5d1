/-
  WALKS: the reference's Fast, Passed, Front, for true paces.
-/
import Derived.Test.YtgfipifgijohhaaDoorRef1
import Derived.Test.YtgfipifgijohhaaDoorPd
import Derived.Test.YtgfipifgijohhaaDoorChk
namespace Go.Proofs.YtgfipifgijohhaaDoor
open Go.RowKit

def Ln (ws : List Wing) (i : Nat) : Int := (wg ws i).len

/-- numbers small enough for the arithmetic of the first k wings, k itself included -/
structure Sane (ws : List Wing) (st ps : List Int) (k : Nat) : Prop where
  kw : k < ws.length
  ks : k < st.length
  kp : k < ps.length
  n : ws.length ≤ 100
  len : ∀ i, i ≤ k → 0 ≤ Ln ws i ∧ Ln ws i ≤ 100000
  start : ∀ i, i ≤ k → 0 ≤ nm st i ∧ nm st i ≤ 1000000
  pace : ∀ i, i ≤ k → 1 ≤ nm ps i ∧ nm ps i ≤ 10000

theorem max_if {y z : Int} : (if y < z then z else y) = max y z := by split <;> omega
theorem pos_if {x : Int} (h : 0 ≤ x) : (if 0 < x then x else 0) = x := by split <;> omega
theorem wrap_small {z : Int} (h : -1000000000000 ≤ z) (h2 : z ≤ 1000000000000) : wrap64 z = z := by unfold wrap64; omega

theorem cdiv_bound {x p : Int} (hx : 0 ≤ x) (hp : 1 ≤ p) (hx2 : x ≤ 100000000) : 0 ≤ cdiv x p ∧ cdiv x p ≤ 100000000 := by
  have h1 := cdiv_nonneg (p := p) (by omega) hx
  have h2 := cdiv_le_self (p := p) (by omega) hx
  omega

/-- one round of the seconds, as the walk spells it -/
theorem psd_round {x y s p : Int} (hx : 0 ≤ x) (hx2 : x ≤ 100000000) (hp : 1 ≤ p) (hs : 0 ≤ s) (hs2 : s ≤ 1000000) :
    (if y < wrap64 (s + ((if 0 < x then x else 0) + p - 1) / p) then wrap64 (s + ((if 0 < x then x else 0) + p - 1) / p) else y) = max y (s + cdiv x p) := by
  have hc := cdiv_bound hx hp hx2
  have e : s + ((if 0 < x then x else 0) + p - 1) / p = s + cdiv x p := by rw [pos_if hx]; rfl
  rw [e, wrap_small (by omega) (by omega), max_if]

set_option maxHeartbeats 1000000 in
set_option maxRecDepth 100000 in
theorem passed_any (ws : List Wing) (st ps : List Int) (kk place route : Int) (vw vs vp : Value) (d : Option Nat) (w : World) (hW : WgAt d w vw ws) (hS : IntsAt d w vs st) (hP : IntsAt d w vp ps)
    (h0 : 0 ≤ kk) (hs : Sane ws st ps kk.toNat) (hpl : 0 ≤ place) (hpl2 : place ≤ 10000000) :
    Calls Tryd.prog 44 #[.agg #[.int .i64 route, vw], vs, vp, .int .i64 kk, .int .i64 place] w
     fun e w' => e = .returned (.int .i64 (passed (Ln ws) (nm st) (nm ps) kk.toNat place)) ∧ Below w.heap.size w w' := by
  obtain ⟨k, rfl⟩ := Int.eq_ofNat_of_zero_le h0
  rw [Int.toNat_natCast] at *
  obtain ⟨aw, cap, rfl, hh⟩ := hW
  obtain ⟨b, off, rfl, _, _, _, hb, hL⟩ := hh (by have := hs.kw; omega)
  obtain ⟨ags, caps, rfl, hh2⟩ := hS
  obtain ⟨bs, offs, rfl, _, _, _, hbs, hS⟩ := hh2 (by have := hs.ks; omega)
  obtain ⟨agp, capp, rfl, hh3⟩ := hP
  obtain ⟨bp, offp, rfl, _, _, _, hbp, hP⟩ := hh3 (by have := hs.kp; omega)
  clear hh hh2 hh3
  have hk := hs.kw
  have hks := hs.ks
  have hkp := hs.kp
  have hn := hs.n
  have h1 := hS k hks
  have hfin := fin_start (L := Ln ws) (S := nm st) (P := nm ps) (k := k) (x := place) (fun i hi => by have := hs.pace i hi; omega) (fun i hi => (hs.len i (by omega)).1) hpl
  have Hfin := hid hfin
  have HL := hid hL
  have HS := hid hS
  have HP := hid hP
  clear hfin hL hS hP
  go_enter Tryd.func44, Tryd.ntmps44
  go_wp2
  go_loopw [4, 11, 12] (fun pl sec i wr => ∃ (j : Nat) (x y : Int), j ≤ k + 1 ∧ 0 ≤ x ∧ x ≤ place + 100000 * (k + 1 - j) ∧ fin (Ln ws) (nm st) (nm ps) k j x y = passed (Ln ws) (nm st) (nm ps) k place ∧ pl = .int .i64 x ∧ sec = .int .i64 y ∧ i = .int .i64 ((j : Int) - 1) ∧ Below w.heap.size w wr ∧ wr.cell? ⟨w.heap.size, 1, none⟩ = some (.slice (some ⟨b, off, none⟩) ws.length cap))
    (fun _ _ i _ => (intOf i + 1).toNat)
  case atStart =>
    exact ⟨k+1, place, nm st k, by omega, by omega, by omega, Hfin.out, rfl, rfl, by congr 1; omega, (Below.refl _ _).alloc (Nat.le_refl _) _, by simp⟩
  case round =>
    obtain ⟨j, x, y, hj, hx, hx2, hf, rfl, rfl, rfl, hbel, hcb⟩ := hrel
    have Hf := hid hf
    clear hf
    cases j with
    | zero =>
      go_wp2
      go_ret
      exact ⟨ret_int (by rw [← Hf.out]; rfl), hbel⟩
    | succ j =>
      have e : (((j+1 : Nat) : Int)) - 1 = (j : Int) := by omega
      rw [e]
      clear e
      have f1 := cell_back hbel hb (HL.out j (by omega)).2.1
      have f2 := cell_back hbel hbs (HS.out j (by omega))
      have f3 := cell_back hbel hbp (HP.out j (by omega))
      have g1 : 0 ≤ (wg ws j).len ∧ (wg ws j).len ≤ 100000 := hs.len j (by omega)
      have g2 := hs.start j (by omega)
      have g3 := hs.pace j (by omega)
      have hstep := hid (fin_step (L := Ln ws) (S := nm st) (P := nm ps) (k := k) (j := j) (x := x) (y := y) (by omega))
      by_cases hjk : j < k
      · go_wp2
        go_quiet (fail)
        go_wp2
        go_roundw
        case rel =>
          refine ⟨j, x + Ln ws j, max y (nm st j + cdiv (x + Ln ws j) (nm ps j)), by omega, by unfold Ln; omega, by unfold Ln; omega, ?_, rfl, ?_, rfl, below_drewN hbel _, hcb⟩
          · rw [← Hf.out, hstep.out, if_pos hjk]
          · rw [psd_round (by omega) (by omega) (by omega) (by omega) (by omega)]; rfl
        case measure => simp [intOf] <;> omega
      · go_wp2
        go_quiet (fail)
        go_wp2
        go_roundw
        case rel =>
          refine ⟨j, x, max y (nm st j + cdiv x (nm ps j)), by omega, by omega, by omega, ?_, rfl, ?_, rfl, below_drewN hbel _, hcb⟩
          · rw [← Hf.out, hstep.out, if_neg hjk]
          · rw [psd_round (by omega) (by omega) (by omega) (by omega) (by omega)]
        case measure => simp [intOf] <;> omega

theorem min_if {y z : Int} : (if z < y then z else y) = min y z := by split <;> omega

theorem mul_bound {p q : Int} (h0 : 0 ≤ p) (h1 : p ≤ 10000) (h2 : -11000000 ≤ q) (h3 : q ≤ 11000000) : -110000000000 ≤ p * q ∧ p * q ≤ 110000000000 := by
  have a := Int.mul_le_mul_of_nonneg_left h3 h0
  have b := Int.mul_le_mul_of_nonneg_left h2 h0
  have c := Int.mul_le_mul_of_nonneg_right h1 (c := 11000000) (by omega)
  have e1 : p * -11000000 = -(p * 11000000) := by rw [Int.mul_neg]
  rw [e1] at b
  omega

theorem front_bound {ws : List Wing} {st ps : List Int} {k : Nat} (hs : Sane ws st ps k) {t : Int} (ht : -10000000 ≤ t) (ht2 : t ≤ 10000000) :
    ∀ j, j ≤ k → -110000000000 - 100000 * (j : Int) ≤ front (Ln ws) (nm st) (nm ps) j t ∧ front (Ln ws) (nm st) (nm ps) j t ≤ 110000000000 := by
  intro j
  induction j with
  | zero =>
    intro hj
    have g2 := hs.start 0 hj
    have g3 := hs.pace 0 hj
    have := mul_bound (p := nm ps 0) (q := t - nm st 0) (by omega) (by omega) (by omega) (by omega)
    simp only [front]; omega
  | succ j ih =>
    intro hj
    have g2 := hs.start (j + 1) hj
    have g3 := hs.pace (j + 1) hj
    have g1 := hs.len j (by omega)
    have := mul_bound (p := nm ps (j + 1)) (q := t - nm st (j + 1)) (by omega) (by omega) (by omega) (by omega)
    have := ih (by omega)
    simp only [front]; omega

set_option maxHeartbeats 1000000 in
set_option maxRecDepth 100000 in
theorem front_any (ws : List Wing) (st ps : List Int) (kk t route : Int) (vw vs vp : Value) (d : Option Nat) (w : World) (hW : WgAt d w vw ws) (hS : IntsAt d w vs st) (hP : IntsAt d w vp ps)
    (h0 : 0 ≤ kk) (hs : Sane ws st ps kk.toNat) (ht : -10000000 ≤ t) (ht2 : t ≤ 10000000) :
    Calls Tryd.prog 58 #[.agg #[.int .i64 route, vw], vs, vp, .int .i64 kk, .int .i64 t] w
     fun e w' => e = .returned (.int .i64 (front (Ln ws) (nm st) (nm ps) kk.toNat t)) ∧ Below w.heap.size w w' := by
  obtain ⟨k, rfl⟩ := Int.eq_ofNat_of_zero_le h0
  rw [Int.toNat_natCast] at *
  obtain ⟨aw, cap, rfl, hh⟩ := hW
  obtain ⟨b, off, rfl, _, _, _, hb, hL⟩ := hh (by have := hs.kw; omega)
  obtain ⟨ags, caps, rfl, hh2⟩ := hS
  obtain ⟨bs, offs, rfl, _, _, _, hbs, hS⟩ := hh2 (by have := hs.ks; omega)
  obtain ⟨agp, capp, rfl, hh3⟩ := hP
  obtain ⟨bp, offp, rfl, _, _, _, hbp, hP⟩ := hh3 (by have := hs.kp; omega)
  clear hh hh2 hh3
  have hk := hs.kw
  have hks := hs.ks
  have hkp := hs.kp
  have hn := hs.n
  have h1 := hS 0 (by omega)
  have h2 := hP 0 (by omega)
  rw [Nat.add_zero] at h1 h2
  have g2 := hs.start 0 (by omega)
  have g3 := hs.pace 0 (by omega)
  have i1 : (0 : Int) < (st.length : Int) := by omega
  have i2 : (0 : Int) < (ps.length : Int) := by omega
  have hm0 := mul_bound (p := nm ps 0) (q := t - nm st 0) (by omega) (by omega) (by omega) (by omega)
  have HL := hid hL
  have HS := hid hS
  have HP := hid hP
  clear hL hS hP
  go_enter Tryd.func58, Tryd.ntmps58
  go_wp2
  go_quiet (fail)
  go_wp2
  go_loopw [11, 12] (fun xx i wr => ∃ j : Nat, j ≤ k ∧ xx = .int .i64 (front (Ln ws) (nm st) (nm ps) j t) ∧ i = .int .i64 ((j : Int) + 1) ∧ Below w.heap.size w wr ∧ wr.cell? ⟨w.heap.size, 1, none⟩ = some (.slice (some ⟨b, off, none⟩) ws.length cap))
    (fun _ i _ => (k + 1 - intOf i).toNat)
  case atStart =>
    exact ⟨0, by omega, rfl, rfl, below_drewN ((Below.refl _ _).alloc (Nat.le_refl _) _) _, by simp⟩
  case round =>
    obtain ⟨j, hj, rfl, rfl, hbel, hcb⟩ := hrel
    by_cases hjk : j < k
    · have f1 := cell_back hbel hb (HL.out j (by omega)).2.1
      have f2 := cell_back hbel hbs (HS.out (j + 1) (by omega))
      have f3 := cell_back hbel hbp (HP.out (j + 1) (by omega))
      have g1 : 0 ≤ (wg ws j).len ∧ (wg ws j).len ≤ 100000 := hs.len j (by omega)
      have g2 := hs.start (j + 1) (by omega)
      have g3 := hs.pace (j + 1) (by omega)
      have hm := mul_bound (p := nm ps (j + 1)) (q := t - nm st (j + 1)) (by omega) (by omega) (by omega) (by omega)
      have hfb := front_bound hs ht ht2 j (by omega)
      go_wp2
      go_quiet (fail)
      go_wp2
      go_roundw
      case rel => exact ⟨j + 1, by omega, by rw [min_if]; rfl, by go_num, below_drewN hbel _, hcb⟩
      case measure => simp [intOf] <;> omega
    · go_wp2
      go_ret
      obtain rfl : j = k := by omega
      exact ⟨rfl, hbel⟩
end Go.Proofs.YtgfipifgijohhaaDoor
