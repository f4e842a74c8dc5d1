/-
  WALK: EqInts of two equal lists.
-/
import Derived.Test.YtefdopifebhgiaaGreatDoorChk
namespace Go.Proofs.YtefdopifebhgiaaGreatDoor
open Go.RowKit

set_option maxHeartbeats 2000000 in
set_option maxRecDepth 100000 in
theorem eqInts_same (xs : List Int) (va vb : Value) (d d' : Option Nat) (w : World) (hA : IntsAt d w va xs) (hB : IntsAt d' w vb xs) (hn : xs.length ≤ 1000000) :
    Calls Tryz.prog 20 #[va, vb] w fun e w' => e = .returned (.bool true) ∧ Below w.heap.size w w' := by
  obtain ⟨aa, ca, rfl, ha⟩ := hA
  obtain ⟨ab, cb, rfl, hb⟩ := hB
  obtain ⟨l1, l2⟩ := eq_bool (a := (xs.length : Int)) (b := (xs.length : Int)) rfl
  go_enter Tryz.func20, Tryz.ntmps20
  go_wp2
  go_loopw [5] (fun i wr => ∃ k : Nat, k ≤ xs.length ∧ i = .int .i64 k ∧ Below w.heap.size w wr)
    (fun i _ => xs.length - (intOf i).toNat)
  case atStart => exact ⟨0, by omega, rfl, Below.refl _ w⟩
  case round =>
    obtain ⟨k, hk, rfl, hkr⟩ := hrel
    obtain ⟨wo, rfl⟩ : ∃ wo : World, wo = wr := ⟨_, rfl⟩
    by_cases hlt : k < xs.length
    · obtain ⟨b1, o1, rfl, _, _, _, hb1, hL1⟩ := ha (by omega)
      obtain ⟨b2, o2, rfl, _, _, _, hb2, hL2⟩ := hb (by omega)
      have r1 := cell_back hkr hb1 (hL1 k hlt)
      have r2 := cell_back hkr hb2 (hL2 k hlt)
      obtain ⟨e1, e2⟩ := eq_bool (a := nm xs k) (b := nm xs k) rfl
      have Hkr := hid hkr
      clear hL1 hL2 ha hb hkr
      go_wp2
      go_quiet (fail)
      go_wp2
      go_roundw
      case rel => exact ⟨k + 1, by omega, by go_num, below_drewN Hkr.out _⟩
      case measure => simp [intOf] <;> omega
    · go_wp2
      go_ret
      exact ⟨rfl, hkr⟩
end Go.Proofs.YtefdopifebhgiaaGreatDoor
