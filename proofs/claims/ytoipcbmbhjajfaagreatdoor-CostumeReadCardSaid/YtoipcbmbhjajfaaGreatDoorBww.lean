/-
  WALKS: costume.Write: its rows, the sheet.
-/
import Derived.Test.YtoipcbmbhjajfaaGreatDoorBld
import Derived.Test.YtoipcbmbhjajfaaGreatDoorBwl
import Derived.Test.YtoipcbmbhjajfaaGreatDoorCwc
import Derived.Test.YtoipcbmbhjajfaaGreatDoorApn
namespace Go.Proofs.YtoipcbmbhjajfaaGreatDoor
open Go.RowKit

theorem own_kept {base b B : Nat} {l : List UInt8} {w w' : World} {v : Value} {xs : List Int} (h : OwnInts base w v xs) (hB : Bd B b l w) (hk : Lib.OthersKept 5 (some b) w w') : OwnInts base w' v xs := by
  obtain ⟨h1, h2⟩ := h
  refine ⟨h1, ?_⟩
  rcases h2 with h2 | ⟨g, cap, cur, e, hg, hh, hr⟩
  · exact .inl h2
  · refine .inr ⟨g, cap, cur, e, hg, hk g _ hh (fun e => ?_) (fun _ _ e => by cases e), hr⟩
    have eb : g = b := Option.some.inj e
    have go : ∀ p, Lib.BuilderAtF 69 5 B b p (Lib.byteCells l) w → False := fun p ⟨h1, v, h2, h3, h4⟩ => by
      rw [← eb, hh] at h2
      cases h2
    exact hB.elim (go _) (go _)
theorem own_lit (w : World) (xs : List Int) (cs : Array Value) (hcs : cs.toList = xs.map (Value.int .i64)) (hm : xs.length ≤ 100) {n g : Nat} (hn : xs.length = n) (hg : g = w.heap.size) : OwnInts g (w.alloc (.cells cs 3)) (.slice (some ⟨g, 0, none⟩) n n) xs := by
  subst hn hg
  have hl : cs.size = xs.length := by rw [← Array.length_toList, hcs, List.length_map]
  exact ⟨by simp, .inr ⟨_, _, cs, rfl, Nat.le_refl _, heap_alloc_new w _, Nat.le_refl _, by unfold maxLen; omega, by omega, by rw [hcs]; exact List.take_of_length_le (by simp)⟩⟩

/-- numbers that stay as long as a builder alone is written to -/
def Stay (B b : Nat) (w : World) (v : Value) (xs : List Int) : Prop := ∀ W', Below B w W' → Lib.OthersKept 5 (some b) w W' → IntsAt none W' v xs
theorem Stay.own {base B b : Nat} {l : List UInt8} {w : World} {v : Value} {xs : List Int} (h : OwnInts base w v xs) (hB : Bd B b l w) : Stay B b w v xs := fun _ _ hk => OwnInts.at (own_kept h hB hk) (by simp)
theorem Stay.low {B b : Nat} {w0 w : World} {v : Value} {xs : List Int} (h : IntsAt none w0 v xs) (hb : Below B w0 w) (hB : B = w0.heap.size) : Stay B b w v xs := fun _ hk _ => h.below (hB ▸ hb.trans hk)

set_option maxHeartbeats 2000000 in
set_option maxRecDepth 100000 in
theorem row_any (word : List UInt8) (xs : List Int) (vl : Value) (b B : Nat) (l : List UInt8) (w : World) (hL : Stay B b w vl xs) (hx : NumsOk xs) (hB : Bd B b l w) (ht : Tb B w) (hl : l.length + word.length + 22 * xs.length ≤ 900000) (hBw : B ≤ w.heap.size) :
    Calls Tryz.prog 27 #[.string ⟨word.toArray⟩, vl, .pointer (some ⟨b, 0, none⟩)] w fun e w' => e = .returned (.tuple #[]) ∧ Wrote B b (rowL word xs l) w w' := by
  have HX := hid hx
  have HS := hid hL
  obtain ⟨al, cl, rfl, _⟩ := hL w (Below.refl _ _) (Lib.OthersKept.refl _ _ _)
  have K := hid (Wrote.start hB)
  have HT := hid ht
  have HBW := hid hBw
  have HLEN := hid hl
  clear hx hL hB ht hl hBw
  go_enter Tryz.func27, Tryz.ntmps27
  go_wp2_with (go_at_call 28; refine (writeS_any B b l ⟨word.toArray⟩ _ K.out.bd ?_ HBW.out).mono ?_; (have := HLEN.out; simp [ByteArray.size]; omega); rintro e w1 ⟨rfl, g1, g2, g3⟩; have K := hid (K.out.go ⟨g1, g2, g3⟩); clear g1 g2 g3)
  go_loopw [11] (fun i wr => ∃ k : Nat, k ≤ xs.length ∧ i = .int .i64 k ∧ Wrote B b (numsL xs (l ++ word) k) w wr) (fun i _ => xs.length - (intOf i).toNat)
  case atStart => exact ⟨0, by omega, rfl, by simpa [numsL] using K.out⟩
  case round =>
    obtain ⟨k, hk, rfl, hkw⟩ := hrel
    have KR := hid hkw
    have HL := hid (numsL_len (b := l ++ word) HX.out hk)
    clear hkw
    by_cases hlt : k < xs.length
    · have hi := HS.out _ KR.out.below KR.out.kept
      obtain ⟨bl, ol, c', e, _, _⟩ := hi.slice (by omega)
      cases e
      have n0 := hi.cell hlt
      have hf := HX.out k hlt
      have HST := hid (show numsL xs (l ++ word) (k + 1) = numsL xs (l ++ word) k ++ 32 :: Lib.itoa (nm xs k) from rfl)
      obtain ⟨n, hn⟩ : ∃ n, nm xs k = n := ⟨_, rfl⟩
      rw [hn] at n0 hf HST
      have i1 : (k : Int) < (xs.length : Int) := by omega
      have z2 : IntKind.i64.wrap ((k : Int) + 1) = (k : Int) + 1 := IntWalk.i64_in _ (by have := HLEN.out; omega)
      have HI := hid (itoa_len n hf.1 (by omega))
      have hadd : ∀ W : World, (Op.stringOp .add ⟨#[32]⟩ ⟨(Lib.itoa n).toArray⟩).run Tryz.prog W = .ok (.string ⟨(32 :: Lib.itoa n).toArray⟩) W := fun W => by
        have hlen := HI.out
        rw [run_string_add_sum W _ _ (by simp [ByteArray.size]; omega), ByteArray.mk_append_mk]
        simp
      have HF := hid hf
      clear hn hi hf
      go_wp2_with (first
        | (go_at_call 29; refine (itoa_any n _ HF.out.1 (by have := HF.out; omega) (HT.out.go KR.out.below).tab).mono ?_; rintro e w2 ⟨rfl, hb1⟩; have KR := hid (KR.out.later hb1 (Nat.le_trans HBW.out KR.out.below.size)); clear hb1 n0)
        | (go_at_call 28; refine (writeS_any B b _ _ _ KR.out.bd ?_ (Nat.le_trans HBW.out KR.out.below.size)).mono ?_; (have := HI.out; have := HL.out; have := HLEN.out; simp [ByteArray.size] at *; omega); rintro e w3 ⟨rfl, g1, g2, g3⟩; have KR := hid (KR.out.go ⟨g1, g2, g3⟩); clear g1 g2 g3))
      go_roundw
      case rel => exact ⟨k + 1, by omega, by go_num, by rw [HST.out]; exact KR.out⟩
      case measure => simp [intOf] <;> omega
    · obtain rfl : k = xs.length := by omega
      go_wp2_with (go_at_call 28; refine (writeS_any B b _ ⟨#[10]⟩ _ KR.out.bd ?_ (Nat.le_trans HBW.out KR.out.below.size)).mono ?_; (have := HL.out; have := HLEN.out; simp [ByteArray.size] at *; omega); rintro e w3 ⟨rfl, g1, g2, g3⟩; have KR := hid (KR.out.go ⟨g1, g2, g3⟩); clear g1 g2 g3)
      go_end0
      exact ⟨rfl, KR.out⟩
end Go.Proofs.YtoipcbmbhjajfaaGreatDoor
