/-
  WALKS: long: whether a school has more wings, or a longer name, than the statements go through.
-/
import Derived.Test.YtgfipifgijohhaaDoorRLb
namespace Go.Proofs.YtgfipifgijohhaaDoor
open Go.RowKit

set_option maxHeartbeats 2000000 in
set_option maxRecDepth 100000 in
theorem long_any (ws : List Wing) (route : Int) (vw : Value) (w : World) (hW : WgAt none w vw ws) :
    Calls Tryd.prog 17 #[.agg #[.int .i64 route, vw]] w
     fun e w' => ∃ b : Bool, e = .returned (.bool b) ∧ (b = false → ws.length ≤ 15 ∧ ∀ i, i < ws.length → (wg ws i).name.size ≤ 30) ∧ Below w.heap.size w w' := by
  have K := hid ((HK.start w).box2 (.int .i64 route) vw 24)
  obtain ⟨aw, cap, rfl, hh⟩ := hW
  go_enter Tryd.func17, Tryd.ntmps17
  go_wp2
  go_loopw [3] (fun i wr => ∃ k : Nat, k ≤ ws.length ∧ i = .int .i64 k ∧ (∀ j, j < k → (wg ws j).name.size ≤ 30) ∧ HK [(w.heap.size, 0, .int .i64 route), (w.heap.size, 1, .slice aw ws.length cap)] w wr)
    (fun i _ => ws.length - (intOf i).toNat)
  case atStart => exact ⟨0, by omega, rfl, fun j h => by omega, K.out⟩
  case round =>
    obtain ⟨k, hk, rfl, hf, KK⟩ := hrel
    have s1 := KK.c (b := w.heap.size) (o := 1) (v := .slice aw ws.length cap) (by simp)
    have K := hid KK
    clear KK
    by_cases hlt : k < ws.length
    · obtain ⟨b, off, rfl, h1, h2, _, hb, hL⟩ := hh (by omega)
      have c0 := cell_back K.out.below hb (hL k hlt).1
      clear hL hh
      have hcl : cap ≤ 9223372036854775807 := h2
      have Hf := hid hf
      clear hf
      by_cases hs : 30 < (wg ws k).name.size
      · go_wp2
        go_ret
        exact ⟨true, rfl, (fun h => by cases h), K.out.below⟩
      · go_wp2
        go_roundw
        case rel => exact ⟨k + 1, by omega, by go_num, fun j hj => by
          by_cases e : j = k
          · subst e; omega
          · exact Hf.out j (by omega), K.out⟩
        case measure => simp [intOf] <;> omega
    · obtain rfl : k = ws.length := by omega
      have Hf := hid hf
      clear hf
      go_wp2
      go_ret
      exact ⟨decide ((15 : Int) < (ws.length : Int)), rfl, (fun h => ⟨by have := of_decide_eq_false h; omega, Hf.out⟩), K.out.below⟩
end Go.Proofs.YtgfipifgijohhaaDoor
