/-
  WALKS: the reference's look at a school: within, named, Check.
-/
import Derived.Test.YtefdopifebhgiaaGreatDoorSpec
import Derived.Test.YtefdopifebhgiaaGreatDoorApp
import Derived.WalkSpells
import Derived.WalkLawsBesides
import Derived.BigQuiet
namespace Go.Proofs.YtefdopifebhgiaaGreatDoor
open Go.RowKit

theorem ret_bool {a b : Bool} (h : a = b) : Ending.returned (.bool a) = .returned (.bool b) := by rw [h]
theorem ret_int {a b : Int} (h : a = b) : Ending.returned (.int .i64 a) = .returned (.int .i64 b) := by rw [h]

set_option maxHeartbeats 400000 in
theorem within_any (n lo hi : Int) (w : World) :
    Calls Tryz.prog 52 #[.int .i64 n, .int .i64 lo, .int .i64 hi] w fun e w' => e = .returned (.bool (inB n lo hi)) ∧ w = w' := by
  go_enter Tryz.func52, Tryz.ntmps52
  go_wp2
  · go_ret
    exact ⟨ret_bool (by unfold inB; simp [*]), rfl⟩
  · go_ret
    exact ⟨ret_bool (by unfold inB; simp; omega), rfl⟩

set_option maxHeartbeats 400000 in
theorem in_any (n lo hi : Int) (w : World) :
    Calls Tryz.prog 46 #[.int .i64 n, .int .i64 lo, .int .i64 hi] w fun e w' => e = .returned (.bool (inB n lo hi)) ∧ w = w' := by
  go_enter Tryz.func46, Tryz.ntmps46
  go_wp2
  · go_ret
    exact ⟨ret_bool (by unfold inB; simp [*]), rfl⟩
  · go_ret
    exact ⟨ret_bool (by unfold inB; simp; omega), rfl⟩

def LettersTo (s : ByteArray) (k : Nat) : Prop := (s.data.toList.take k).all letter = true

theorem letters_succ {s : ByteArray} {k : Nat} (h : LettersTo s k) (hk : k < s.size) (hl : letter s[k] = true) : LettersTo s (k + 1) := by
  unfold LettersTo at *
  rw [List.take_succ_eq_append_getElem (by simpa using hk), List.all_append, h]
  simpa [ByteArray.getElem_eq_getElem_data] using hl
theorem letters_bad {s : ByteArray} {k : Nat} (hk : k < s.size) (hl : letter s[k] = false) : namedB s = false := by
  unfold namedB
  have : s.data.toList.all letter = false := by
    rw [List.all_eq_false]
    exact ⟨s[k], by simp [ByteArray.getElem_eq_getElem_data], by simp [hl]⟩
  simp [this]
theorem letters_all {s : ByteArray} (h : LettersTo s s.size) : namedB s = inB s.size 1 8 := by
  unfold LettersTo at h
  unfold namedB
  rw [List.take_of_length_le (by simp)] at h
  rw [h]; simp

set_option maxHeartbeats 400000 in
theorem named_any (s : ByteArray) (w : World) (hs : s.size ≤ 1000000) :
    Calls Tryz.prog 53 #[.string s] w fun e w' => e = .returned (.bool (namedB s)) ∧ w = w' := by
  go_enter Tryz.func53, Tryz.ntmps53
  go_wp2
  go_loop [3] (fun i => ∃ k : Nat, k ≤ s.size ∧ i = .int .i64 k ∧ LettersTo s k) (fun i => s.size - (intOf i).toNat)
  case atStart => exact ⟨0, Nat.zero_le _, rfl, by simp [LettersTo]⟩
  case round =>
    obtain ⟨k, hk, rfl, hl⟩ := hrel
    by_cases hlt : k < s.size
    · go_wp2
      · go_ret
        exact ⟨ret_bool (letters_bad hlt (by simp only [letter, decide_eq_false_iff_not]; omega)).symm, rfl⟩
      · go_round
        case rel => exact ⟨k + 1, by omega, by go_num, letters_succ hl hlt (by simp only [letter, decide_eq_true_eq]; omega)⟩
        case measure => simp [intOf]; omega
      · go_ret
        exact ⟨ret_bool (letters_bad hlt (by simp only [letter, decide_eq_false_iff_not]; omega)).symm, rfl⟩
    · go_wp2_with (go_at_call 52; refine (within_any _ _ _ _).mono ?_; rintro e w' ⟨rfl, rfl⟩)
      go_ret
      obtain rfl : k = s.size := by omega
      exact ⟨ret_bool (letters_all hl).symm, rfl⟩

set_option maxHeartbeats 1000000 in
set_option maxRecDepth 100000 in
theorem rcheck_loop (ws : List Wing) (route : Int) (vw : Value) (d : Option Nat) (w : World) (hW : WgAt d w vw ws) (h0 : 0 < ws.length) (hn : ws.length ≤ 8) (hr : inB route 1 100000 = true) (hnm : ∀ i, i < ws.length → (wg ws i).name.size ≤ 1000000) :
    Calls Tryz.prog 32 #[.agg #[.int .i64 route, vw]] w fun e w' => e = .returned (.int .i64 (check route ws)) ∧ Below w.heap.size w w' := by
  obtain ⟨a, cap, rfl, hh⟩ := hW
  obtain ⟨b, off, rfl, h1, h2, _, h4, h5⟩ := hh h0
  clear hh
  have e0 : ((ws.length : Int) == 0) = false := beq_eq_false_iff_ne.2 (by omega)
  have e1 : ¬ (8 < ws.length) := by omega
  go_enter Tryz.func32, Tryz.ntmps32
  go_wp2_with (go_at_call 52; refine (within_any _ _ _ _).mono ?_; rintro e w' ⟨rfl, rfl⟩)
  go_loopw [3] (fun i wr => ∃ k : Nat, k ≤ ws.length ∧ i = .int .i64 k ∧ Fine ws k ∧ Below w.heap.size w wr ∧
      wr.cell? ⟨w.heap.size, 1, none⟩ = some (.slice (some ⟨b, off, none⟩) ws.length cap) ∧ w.heap.size + 1 ≤ wr.heap.size)
    (fun i _ => ws.length - (intOf i).toNat)
  case atStart => exact ⟨0, by omega, rfl, Fine.zero _, (Below.refl _ _).alloc (Nat.le_refl _) _, by simp, by simp⟩
  case round =>
    obtain ⟨k, hk, rfl, hf, hbel, hcb, hsz⟩ := hrel
    by_cases hlt : k < ws.length
    · obtain ⟨f0, f1, f2, f3⟩ := h5 k hlt
      have g0 := (hbel.cell (p := ⟨b, off + k * 4, none⟩) h4).trans f0
      have g1 := (hbel.cell (p := ⟨b, off + k * 4 + 1, none⟩) h4).trans f1
      have g2 := (hbel.cell (p := ⟨b, off + k * 4 + 2, none⟩) h4).trans f2
      have g3 := (hbel.cell (p := ⟨b, off + k * 4 + 2 + 1, none⟩) h4).trans f3
      have hnk := hnm k hlt
      clear f0 f1 f2 f3
      cases hnb : namedB (wg ws k).name with
      | false =>
        go_wp2_with (go_at_call 53; refine (named_any _ _ hnk).mono ?_; rintro e w' ⟨rfl, rfl⟩)
        go_ret
        exact ⟨ret_int (check_bad hr hn hlt hf (checkW_1 hnb) (by decide)).symm, hbel.alloc (by omega) _⟩
      | true =>
        go_wp2_with (go_at_call 53; refine (named_any _ _ hnk).mono ?_; rintro e w' ⟨rfl, rfl⟩)
        obtain ⟨wo, rfl⟩ : ∃ wo : World, wo = wr := ⟨_, rfl⟩
        go_loopw [5] (fun j wi => ∃ m : Nat, m ≤ k ∧ j = .int .i64 m ∧ twin ws k m = false ∧ Below w.heap.size w wi ∧
            wi.cell? ⟨w.heap.size, 1, none⟩ = some (.slice (some ⟨b, off, none⟩) ws.length cap) ∧ w.heap.size + 1 ≤ wi.heap.size ∧
            wi.cell? ⟨wo.heap.size, 0, none⟩ = some (.string (wg ws k).name) ∧ wi.cell? ⟨wo.heap.size, 1, none⟩ = some (.int .i64 (wg ws k).len) ∧
            wi.cell? ⟨wo.heap.size, 2, none⟩ = some (.int .i64 (wg ws k).lo) ∧ wi.cell? ⟨wo.heap.size, 2 + 1, none⟩ = some (.int .i64 (wg ws k).hi))
          (fun j _ => k - (intOf j).toNat)
        case atStart => exact ⟨0, by omega, rfl, rfl, hbel.alloc (by omega) _, by rw [World.cell?_alloc_past _ _ _ (by show w.heap.size < wo.heap.size; omega)]; exact hcb, by simp; omega, by simp, by simp, by simp, by simp⟩
        case round =>
          obtain ⟨m, hm, rfl, htw, hbi, hci, hsi, q0, q1, q2, q3⟩ := hrel
          clear g0 g1 g2 g3 hcb
          by_cases hmk : m < k
          · have p0 := (hbi.cell (p := ⟨b, off + m * 4, none⟩) h4).trans (h5 m (by omega)).1
            have htt := twin_succ (k := m) htw
            have htt2 := @twin_true ws k k m hmk
            have Htw := hid htw
            have Htt := hid htt
            have Htt2 := hid htt2
            clear htw htt htt2
            cases hq : ((wg ws m).name.toList == (wg ws k).name.toList) with
            | true =>
              go_wp2
              go_quiet (fail)
              go_wp2
              go_ret
              exact ⟨ret_int (check_bad hr hn hlt hf (checkW_8 hnb (Htt2.out hq)) (by decide)).symm, below_drewN hbi _⟩
            | false =>
              go_wp2
              go_quiet (fail)
              go_wp2
              go_roundw
              case rel => exact ⟨m + 1, by omega, by go_num, Htt.out hq, below_drewN hbi _, hci, hsi, q0, q1, q2, q3⟩
              case measure => simp [intOf]; omega
          · obtain rfl : m = k := by omega
            have Htw := hid htw
            clear htw
            cases n1 : inB (wg ws m).len 1 5000 with
            | false =>
              go_wp2_with (go_at_call 52; refine (within_any _ _ _ _).mono ?_; rintro e w' ⟨rfl, rfl⟩)
              go_ret
              exact ⟨ret_int (check_bad hr hn hlt hf (checkW_2 hnb Htw.out (by simp [numsB, n1])) (by decide)).symm, hbi⟩
            | true =>
              cases n2 : inB (wg ws m).lo 1 200 with
              | false =>
                go_wp2_with (go_at_call 52; refine (within_any _ _ _ _).mono ?_; rintro e w' ⟨rfl, rfl⟩)
                go_ret
                exact ⟨ret_int (check_bad hr hn hlt hf (checkW_2 hnb Htw.out (by simp [numsB, n2])) (by decide)).symm, hbi⟩
              | true =>
                cases n3 : inB (wg ws m).hi 1 200 with
                | false =>
                  go_wp2_with (go_at_call 52; refine (within_any _ _ _ _).mono ?_; rintro e w' ⟨rfl, rfl⟩)
                  go_ret
                  exact ⟨ret_int (check_bad hr hn hlt hf (checkW_2 hnb Htw.out (by simp [numsB, n3])) (by decide)).symm, hbi⟩
                | true =>
                  by_cases n4 : (wg ws m).hi < (wg ws m).lo
                  · go_wp2_with (go_at_call 52; refine (within_any _ _ _ _).mono ?_; rintro e w' ⟨rfl, rfl⟩)
                    go_ret
                    exact ⟨ret_int (check_bad hr hn hlt hf (checkW_9 hnb Htw.out (by simp [numsB, n1, n2, n3]) n4) (by decide)).symm, hbi⟩
                  · go_wp2_with (go_at_call 52; refine (within_any _ _ _ _).mono ?_; rintro e w' ⟨rfl, rfl⟩)
                    go_roundw
                    case rel => exact ⟨m + 1, by omega, by go_num, hf.succ (checkW_0 hnb Htw.out (by simp [numsB, n1, n2, n3]) (by omega)), hbi, hci, hsi⟩
                    case measure => simp [intOf]; omega
    · go_wp2
      go_ret
      obtain rfl : k = ws.length := by omega
      exact ⟨ret_int (check_ok hr h0 hn hf).symm, hbel⟩

set_option maxHeartbeats 400000 in
theorem rcheck_route (ws : List Wing) (route : Int) (vw : Value) (w : World) (hr : inB route 1 100000 = false) :
    Calls Tryz.prog 32 #[.agg #[.int .i64 route, vw]] w fun e w' => e = .returned (.int .i64 (check route ws)) ∧ Below w.heap.size w w' := by
  go_enter Tryz.func32, Tryz.ntmps32
  go_wp2_with (go_at_call 52; refine (within_any _ _ _ _).mono ?_; rintro e w' ⟨rfl, rfl⟩)
  go_ret
  exact ⟨ret_int (by unfold check; rw [if_pos hr]), (Below.refl _ _).alloc (Nat.le_refl _) _⟩

set_option maxHeartbeats 400000 in
theorem rcheck_short (ws : List Wing) (route : Int) (a : Option Addr) (cap : Nat) (w : World) (hr : inB route 1 100000 = true) (hn : ws.length = 0) :
    Calls Tryz.prog 32 #[.agg #[.int .i64 route, .slice a ws.length cap]] w fun e w' => e = .returned (.int .i64 (check route ws)) ∧ Below w.heap.size w w' := by
  have hc : check route ws = 4 := by unfold check; rw [if_neg (by simp [hr]), if_pos hn]
  rw [hc, hn]
  clear hc hn
  go_enter Tryz.func32, Tryz.ntmps32
  go_wp2_with (go_at_call 52; refine (within_any _ _ _ _).mono ?_; rintro e w' ⟨rfl, rfl⟩)
  go_ret
  exact ⟨rfl, (Below.refl _ _).alloc (Nat.le_refl _) _⟩

set_option maxHeartbeats 400000 in
theorem rcheck_full (ws : List Wing) (route : Int) (a : Option Addr) (cap : Nat) (w : World) (hr : inB route 1 100000 = true) (hn : 8 < ws.length) (hn2 : ws.length ≤ 100) :
    Calls Tryz.prog 32 #[.agg #[.int .i64 route, .slice a ws.length cap]] w fun e w' => e = .returned (.int .i64 (check route ws)) ∧ Below w.heap.size w w' := by
  have hc : check route ws = 5 := by unfold check; rw [if_neg (by simp [hr]), if_neg (by omega), if_pos hn]
  rw [hc]
  clear hc
  have e0 : ((ws.length : Int) == 0) = false := beq_eq_false_iff_ne.2 (by omega)
  go_enter Tryz.func32, Tryz.ntmps32
  go_wp2_with (go_at_call 52; refine (within_any _ _ _ _).mono ?_; rintro e w' ⟨rfl, rfl⟩)
  go_ret
  exact ⟨rfl, (Below.refl _ _).alloc (Nat.le_refl _) _⟩

/-- THE CONTRACT of the reference's Check -/
theorem rcheck_any (ws : List Wing) (route : Int) (vw : Value) (d : Option Nat) (w : World) (hW : WgAt d w vw ws) (hn : ws.length ≤ 100) (hnm : ∀ i, i < ws.length → (wg ws i).name.size ≤ 1000000) :
    Calls Tryz.prog 32 #[.agg #[.int .i64 route, vw]] w fun e w' => e = .returned (.int .i64 (check route ws)) ∧ Below w.heap.size w w' := by
  cases hr : inB route 1 100000 with
  | false => exact rcheck_route ws route vw w hr
  | true =>
    by_cases h0 : ws.length = 0
    · obtain ⟨a, cap, rfl, _⟩ := hW
      exact rcheck_short ws route a cap w hr h0
    · by_cases h8 : 8 < ws.length
      · obtain ⟨a, cap, rfl, _⟩ := hW
        exact rcheck_full ws route a cap w hr h8 hn
      · exact rcheck_loop ws route vw d w hW (by omega) (by omega) hr hnm
end Go.Proofs.YtefdopifebhgiaaGreatDoor
