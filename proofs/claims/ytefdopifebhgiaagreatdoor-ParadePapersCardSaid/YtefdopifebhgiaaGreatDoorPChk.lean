/-
  WALKS: the program's look at a school: Check and what it calls.
-/
import Derived.Test.YtefdopifebhgiaaGreatDoorChk
import Derived.Test.YtefdopifebhgiaaGreatDoorSh
namespace Go.Proofs.YtefdopifebhgiaaGreatDoor
open Go.RowKit

def alphabet : ByteArray := ⟨#[97, 98, 99, 100, 101, 102, 103, 104, 105, 106, 107, 108, 109, 110, 111, 112, 113, 114, 115, 116, 117, 118, 119, 120, 121, 122]⟩

set_option maxRecDepth 100000 in
theorem letter_mem (c : UInt8) : (alphabet.data.toList.contains c) = letter c := by
  have h : ∀ n : Fin 256, (alphabet.data.toList.contains (UInt8.ofNat n.val)) = letter (UInt8.ofNat n.val) := by decide +kernel
  have := h ⟨c.toNat, c.toNat_lt⟩
  simpa using this

theorem all_drop (p : UInt8 → Bool) (l : List UInt8) : (l.dropWhile p).all p = l.all p := by
  induction l with
  | nil => rfl
  | cons c l ih =>
    simp only [List.dropWhile_cons]
    cases h : p c <;> simp [h, ih]

theorem drop_empty (p : UInt8 → Bool) (l : List UInt8) : (l.dropWhile p).isEmpty = l.all p := by
  induction l with
  | nil => rfl
  | cons c l ih =>
    simp only [List.dropWhile_cons]
    cases h : p c <;> simp [h, ih]

theorem trim_empty (l : List UInt8) : (Lib.trimS l alphabet.data.toList).isEmpty = l.all letter := by
  have e : (fun c => alphabet.data.toList.contains c) = letter := funext letter_mem
  unfold Lib.trimS Lib.trimLeftS Lib.trimRightS
  rw [e, drop_empty, List.all_reverse, all_drop, List.all_reverse]

theorem trim_any (s : ByteArray) (w : World) (hs : s.size ≤ 1000000) :
    Calls Tryz.prog 47 #[.string s, .string alphabet] w fun e w' => ∃ r, e = .returned (.string r) ∧ r.toList.isEmpty = s.data.toList.all letter ∧ Below w.heap.size w w' :=
  (Any.strings_Trim_laid Tryz.lays160 (by kernel_rfl) s alphabet w (by omega) (by decide) (ascii_of_all (by decide))).mono fun e w' ⟨h1, h2⟩ => ⟨_, h1, by rw [← trim_empty, ByteArray.toList_eq], h2⟩

set_option maxHeartbeats 400000 in
theorem twin1_any (x : Wing) (B : Nat) (name : ByteArray) (w : World) (hB : B < w.heap.size) (hc : w.cell? ⟨B, 0, none⟩ = some (.string name)) :
    Calls Tryz.prog 49 #[.agg #[.string x.name, .int .i64 x.len, .int .i64 x.lo, .int .i64 x.hi], .pointer (some ⟨B, 0, none⟩)] w fun e w' => e = .returned (.bool (x.name.toList == name.toList)) ∧ Below w.heap.size w w' := by
  go_enter Tryz.func49, Tryz.ntmps49
  go_wp2
  go_ret
  exact ⟨rfl, (Below.refl _ _).alloc (Nat.le_refl _) _⟩

set_option maxHeartbeats 400000 in
set_option maxRecDepth 100000 in
/-- the program looks for the first of k wings with a name -/
theorem idxW_any (ws : List Wing) (i k b off cap B : Nat) (w : World) (hk : k ≤ 100) (hB : B < w.heap.size) (hc : w.cell? ⟨B, 0, none⟩ = some (.string (wg ws i).name)) (hb : b < w.heap.size)
    (h5 : ∀ i, i < k → w.cell? ⟨b, off + i * 4, none⟩ = some (.string (wg ws i).name) ∧ w.cell? ⟨b, off + i * 4 + 1, none⟩ = some (.int .i64 (wg ws i).len) ∧
      w.cell? ⟨b, off + i * 4 + 2, none⟩ = some (.int .i64 (wg ws i).lo) ∧ w.cell? ⟨b, off + i * 4 + 2 + 1, none⟩ = some (.int .i64 (wg ws i).hi)) :
    Calls Tryz.prog 71 #[.slice (some ⟨b, off, none⟩) k cap, .func (.func 49) #[] #[.pointer (some ⟨B, 0, none⟩)]] w fun e w' =>
      ∃ r : Int, e = .returned (.int .i64 r) ∧ decide (0 ≤ r) = twin ws i k ∧ Below w.heap.size w w' := by
  go_enter Tryz.func71, Tryz.ntmps71
  go_wp2
  go_loopw [8] (fun j wr => ∃ m : Nat, m ≤ k ∧ j = .int .i64 m ∧ twin ws i m = false ∧ Below w.heap.size w wr) (fun j _ => k - (intOf j).toNat)
  case atStart => exact ⟨0, by omega, rfl, rfl, Below.refl _ _⟩
  case round =>
    obtain ⟨m, hm, rfl, htw, hbel⟩ := hrel
    by_cases hlt : m < k
    · obtain ⟨f0, f1, f2, f3⟩ := h5 m hlt
      have g0 := (hbel.cell (p := ⟨b, off + m * 4, none⟩) hb).trans f0
      have g1 := (hbel.cell (p := ⟨b, off + m * 4 + 1, none⟩) hb).trans f1
      have g2 := (hbel.cell (p := ⟨b, off + m * 4 + 2, none⟩) hb).trans f2
      have g3 := (hbel.cell (p := ⟨b, off + m * 4 + 2 + 1, none⟩) hb).trans f3
      have gB := (hbel.cell (p := ⟨B, 0, none⟩) hB).trans hc
      have hsz := hbel.size
      have htt := twin_succ (k := m) htw
      have htt2 := @twin_true ws i k m hlt
      have Htt := hid htt
      have Htt2 := hid htt2
      clear htw htt htt2 h5 f0 f1 f2 f3
      have hcall := twin1_any (wg ws m) B (wg ws i).name wr (by omega) gB
      have Hcall := hid hcall
      clear hcall gB
      cases hq : ((wg ws m).name.toList == (wg ws i).name.toList) with
      | true =>
        go_wp2_with (go_at_call 49; refine Hcall.out.mono ?_; rintro e w' ⟨rfl, hb1⟩)
        go_ret
        exact ⟨_, rfl, by rw [Htt2.out hq]; simp, hbel.trans (hb1.mono hsz)⟩
      | false =>
        go_wp2_with (go_at_call 49; refine Hcall.out.mono ?_; rintro e w' ⟨rfl, hb1⟩)
        go_roundw
        case rel => exact ⟨m + 1, by omega, by go_num, Htt.out hq, hbel.trans (hb1.mono hsz)⟩
        case measure => simp [intOf]; omega
    · go_wp2
      go_ret
      obtain rfl : m = k := by omega
      exact ⟨-1, rfl, by rw [htw]; simp, hbel⟩

set_option maxHeartbeats 400000 in
theorem hasW_any (ws : List Wing) (i k b off cap B : Nat) (w : World) (hk : k ≤ 100) (hB : B < w.heap.size) (hc : w.cell? ⟨B, 0, none⟩ = some (.string (wg ws i).name)) (hb : b < w.heap.size)
    (h5 : ∀ i, i < k → w.cell? ⟨b, off + i * 4, none⟩ = some (.string (wg ws i).name) ∧ w.cell? ⟨b, off + i * 4 + 1, none⟩ = some (.int .i64 (wg ws i).len) ∧
      w.cell? ⟨b, off + i * 4 + 2, none⟩ = some (.int .i64 (wg ws i).lo) ∧ w.cell? ⟨b, off + i * 4 + 2 + 1, none⟩ = some (.int .i64 (wg ws i).hi)) :
    Calls Tryz.prog 48 #[.slice (some ⟨b, off, none⟩) k cap, .func (.func 49) #[] #[.pointer (some ⟨B, 0, none⟩)]] w fun e w' =>
      e = .returned (.bool (twin ws i k)) ∧ Below w.heap.size w w' := by
  have hcall := hid (idxW_any ws i k b off cap B w hk hB hc hb h5)
  clear h5 hc
  go_enter Tryz.func48, Tryz.ntmps48
  go_wp2_with (go_at_call 71; refine hcall.out.mono ?_; rintro e w' ⟨r, rfl, hr, hb1⟩)
  go_ret
  exact ⟨rfl, hb1⟩


theorem named_of {s : ByteArray} (h1 : inB s.size 1 8 = true) : namedB s = s.data.toList.all letter := by unfold namedB; rw [h1]; simp
theorem named_not {s : ByteArray} (h1 : inB s.size 1 8 = false) : namedB s = false := by unfold namedB; rw [h1]; simp


theorem box_later {wo w1 : World} {x : Wing} {t : TypeId} (hb1 : Below (wo.alloc (.cells #[.string x.name, .int .i64 x.len, .int .i64 x.lo, .int .i64 x.hi] t)).heap.size (wo.alloc (.cells #[.string x.name, .int .i64 x.len, .int .i64 x.lo, .int .i64 x.hi] t)) w1) :
    w1.cell? ⟨wo.heap.size, 0, none⟩ = some (.string x.name) ∧ w1.cell? ⟨wo.heap.size, 1, none⟩ = some (.int .i64 x.len) ∧ w1.cell? ⟨wo.heap.size, 2, none⟩ = some (.int .i64 x.lo) ∧ w1.cell? ⟨wo.heap.size, 2 + 1, none⟩ = some (.int .i64 x.hi) ∧
    Below wo.heap.size wo w1 ∧ wo.heap.size + 1 ≤ w1.heap.size := by
  have hs : wo.heap.size < (wo.alloc (.cells #[.string x.name, .int .i64 x.len, .int .i64 x.lo, .int .i64 x.hi] t)).heap.size := by simp
  refine ⟨cell_back hb1 hs (by simp), cell_back hb1 hs (by simp), cell_back hb1 hs (by simp), cell_back hb1 hs (by simp), ((Below.refl _ wo).alloc (Nat.le_refl _) _).trans (hb1.mono (by simp)), ?_⟩
  have := hb1.size
  simpa using this

set_option maxHeartbeats 2000000 in
set_option maxRecDepth 100000 in
theorem pcheck_loop (ws : List Wing) (route : Int) (vw : Value) (d : Option Nat) (w : World) (hW : WgAt d w vw ws) (h0 : 0 < ws.length) (hn : ws.length ≤ 8) (hr : inB route 1 100000 = true) (hnm : ∀ i, i < ws.length → (wg ws i).name.size ≤ 1000000) :
    Calls Tryz.prog 27 #[.agg #[.int .i64 route, vw]] w fun e w' => e = .returned (.int .i64 (check route ws)) ∧ Below w.heap.size w w' := by
  obtain ⟨a, cap, rfl, hh⟩ := hW
  obtain ⟨b, off, rfl, h1, h2, _, h4, h5⟩ := hh h0
  clear hh
  have e0 : ((ws.length : Int) == 0) = false := beq_eq_false_iff_ne.2 (by omega)
  have e1 : ¬ (8 < ws.length) := by omega
  have hmf : ∀ (fn : Fn) (first cap : Array Value) (w : World), (Instr.makeFunc fn first cap).run Tryz.prog w = .ok (.func fn first cap) w := fun _ _ _ _ => rfl
  go_enter Tryz.func27, Tryz.ntmps27
  go_wp2_with (go_at_call 46; refine (in_any _ _ _ _).mono ?_; rintro e w' ⟨rfl, rfl⟩)
  go_loopw [23] (fun i wr => ∃ k : Nat, k ≤ ws.length ∧ i = .int .i64 k ∧ Fine ws k ∧ Below w.heap.size w wr ∧
      wr.cell? ⟨w.heap.size, 1, none⟩ = some (.slice (some ⟨b, off, none⟩) ws.length cap) ∧ w.heap.size + 1 ≤ wr.heap.size)
    (fun i _ => ws.length - (intOf i).toNat)
  case atStart => exact ⟨0, by omega, rfl, Fine.zero _, (Below.refl _ _).alloc (Nat.le_refl _) _, by simp, by simp⟩
  case round =>
    obtain ⟨k, hk, rfl, hf, hbel, hcb, hsz⟩ := hrel
    obtain ⟨wo, rfl⟩ : ∃ wo : World, wo = wr := ⟨_, rfl⟩
    by_cases hlt : k < ws.length
    · obtain ⟨f0, f1, f2, f3⟩ := h5 k hlt
      have g0 := (hbel.cell (p := ⟨b, off + k * 4, none⟩) h4).trans f0
      have g1 := (hbel.cell (p := ⟨b, off + k * 4 + 1, none⟩) h4).trans f1
      have g2 := (hbel.cell (p := ⟨b, off + k * 4 + 2, none⟩) h4).trans f2
      have g3 := (hbel.cell (p := ⟨b, off + k * 4 + 2 + 1, none⟩) h4).trans f3
      have hnk := hnm k hlt
      have hbw := hid hbel
      clear f0 f1 f2 f3
      cases hs8 : inB (wg ws k).name.size 1 8 with
      | false =>
        go_wp2_with (go_at_call 46; refine (in_any _ _ _ _).mono ?_; rintro e w' ⟨rfl, rfl⟩)
        go_ret
        exact ⟨ret_int (check_bad hr hn hlt hf (checkW_1 (named_not hs8)) (by decide)).symm, hbel.alloc (by omega) _⟩
      | true =>
        cases hnb : (wg ws k).name.data.toList.all letter with
        | false =>
          go_wp2_with (first | (go_at_call 46; refine (in_any _ _ _ _).mono ?_; rintro e w' ⟨rfl, rfl⟩) | (go_at_call 47; refine (trim_any _ _ hnk).mono ?_; rintro e w1 ⟨r, rfl, hre, hb1⟩))
          go_ret
          exact ⟨ret_int (check_bad hr hn hlt hf (checkW_1 (by rw [named_of hs8]; exact hnb)) (by decide)).symm, hbel.trans ((box_later hb1).2.2.2.2.1.mono (by omega))⟩
        | true =>
          have hnB : namedB (wg ws k).name = true := by rw [named_of hs8]; exact hnb
          have HnB := hid hnB
          have H5 := hid h5
          clear hnB h5
          cases htw : twin ws k k with
          | true =>
            go_wp2_with (first | (go_at_call 46; refine (in_any _ _ _ _).mono ?_; rintro e w' ⟨rfl, rfl⟩) | (go_at_call 47; refine (trim_any _ _ hnk).mono ?_; rintro e w1 ⟨r, rfl, hre, hb1⟩; obtain ⟨q0, q1, q2, q3, qb, qs⟩ := box_later hb1; have hc1 := cell_back qb (by omega) hcb; have Hcall := hid (hasW_any ws k k b off cap wo.heap.size w1 (by omega) (by omega) q0 (by omega) (fun i hi => by obtain ⟨r0, r1, r2, r3⟩ := H5.out i (by omega); exact ⟨cell_back (hbw.out.trans (qb.mono (by omega))) h4 r0, cell_back (hbw.out.trans (qb.mono (by omega))) h4 r1, cell_back (hbw.out.trans (qb.mono (by omega))) h4 r2, cell_back (hbw.out.trans (qb.mono (by omega))) h4 r3⟩))) | (go_at_call 48; refine Hcall.out.mono ?_; rintro e w2 ⟨rfl, hb2⟩; have p1 := cell_back hb2 (by omega) q1; have p2 := cell_back hb2 (by omega) q2; have p3 := cell_back hb2 (by omega) q3; have hc2 := cell_back hb2 (by omega) hc1; have hbl := hid ((hbw.out.trans (qb.mono (by omega))).trans (hb2.mono (by omega))); have hsz2 := hb2.size))
            go_ret
            exact ⟨ret_int (check_bad hr hn hlt hf (checkW_8 HnB.out htw) (by decide)).symm, hbl.out⟩
          | false =>
            have Htw := hid htw
            cases n1 : inB (wg ws k).len 1 5000 with
            | false =>
              go_wp2_with (first | (go_at_call 46; refine (in_any _ _ _ _).mono ?_; rintro e w' ⟨rfl, rfl⟩) | (go_at_call 47; refine (trim_any _ _ hnk).mono ?_; rintro e w1 ⟨r, rfl, hre, hb1⟩; obtain ⟨q0, q1, q2, q3, qb, qs⟩ := box_later hb1; have hc1 := cell_back qb (by omega) hcb; have Hcall := hid (hasW_any ws k k b off cap wo.heap.size w1 (by omega) (by omega) q0 (by omega) (fun i hi => by obtain ⟨r0, r1, r2, r3⟩ := H5.out i (by omega); exact ⟨cell_back (hbw.out.trans (qb.mono (by omega))) h4 r0, cell_back (hbw.out.trans (qb.mono (by omega))) h4 r1, cell_back (hbw.out.trans (qb.mono (by omega))) h4 r2, cell_back (hbw.out.trans (qb.mono (by omega))) h4 r3⟩))) | (go_at_call 48; refine Hcall.out.mono ?_; rintro e w2 ⟨rfl, hb2⟩; have p1 := cell_back hb2 (by omega) q1; have p2 := cell_back hb2 (by omega) q2; have p3 := cell_back hb2 (by omega) q3; have hc2 := cell_back hb2 (by omega) hc1; have hbl := hid ((hbw.out.trans (qb.mono (by omega))).trans (hb2.mono (by omega))); have hsz2 := hb2.size))
              go_ret
              exact ⟨ret_int (check_bad hr hn hlt hf (checkW_2 HnB.out Htw.out (by simp [numsB, n1])) (by decide)).symm, hbl.out⟩
            | true =>
              cases n2 : inB (wg ws k).lo 1 200 with
              | false =>
                go_wp2_with (first | (go_at_call 46; refine (in_any _ _ _ _).mono ?_; rintro e w' ⟨rfl, rfl⟩) | (go_at_call 47; refine (trim_any _ _ hnk).mono ?_; rintro e w1 ⟨r, rfl, hre, hb1⟩; obtain ⟨q0, q1, q2, q3, qb, qs⟩ := box_later hb1; have hc1 := cell_back qb (by omega) hcb; have Hcall := hid (hasW_any ws k k b off cap wo.heap.size w1 (by omega) (by omega) q0 (by omega) (fun i hi => by obtain ⟨r0, r1, r2, r3⟩ := H5.out i (by omega); exact ⟨cell_back (hbw.out.trans (qb.mono (by omega))) h4 r0, cell_back (hbw.out.trans (qb.mono (by omega))) h4 r1, cell_back (hbw.out.trans (qb.mono (by omega))) h4 r2, cell_back (hbw.out.trans (qb.mono (by omega))) h4 r3⟩))) | (go_at_call 48; refine Hcall.out.mono ?_; rintro e w2 ⟨rfl, hb2⟩; have p1 := cell_back hb2 (by omega) q1; have p2 := cell_back hb2 (by omega) q2; have p3 := cell_back hb2 (by omega) q3; have hc2 := cell_back hb2 (by omega) hc1; have hbl := hid ((hbw.out.trans (qb.mono (by omega))).trans (hb2.mono (by omega))); have hsz2 := hb2.size))
                go_ret
                exact ⟨ret_int (check_bad hr hn hlt hf (checkW_2 HnB.out Htw.out (by simp [numsB, n2])) (by decide)).symm, hbl.out⟩
              | true =>
                cases n3 : inB (wg ws k).hi 1 200 with
                | false =>
                  go_wp2_with (first | (go_at_call 46; refine (in_any _ _ _ _).mono ?_; rintro e w' ⟨rfl, rfl⟩) | (go_at_call 47; refine (trim_any _ _ hnk).mono ?_; rintro e w1 ⟨r, rfl, hre, hb1⟩; obtain ⟨q0, q1, q2, q3, qb, qs⟩ := box_later hb1; have hc1 := cell_back qb (by omega) hcb; have Hcall := hid (hasW_any ws k k b off cap wo.heap.size w1 (by omega) (by omega) q0 (by omega) (fun i hi => by obtain ⟨r0, r1, r2, r3⟩ := H5.out i (by omega); exact ⟨cell_back (hbw.out.trans (qb.mono (by omega))) h4 r0, cell_back (hbw.out.trans (qb.mono (by omega))) h4 r1, cell_back (hbw.out.trans (qb.mono (by omega))) h4 r2, cell_back (hbw.out.trans (qb.mono (by omega))) h4 r3⟩))) | (go_at_call 48; refine Hcall.out.mono ?_; rintro e w2 ⟨rfl, hb2⟩; have p1 := cell_back hb2 (by omega) q1; have p2 := cell_back hb2 (by omega) q2; have p3 := cell_back hb2 (by omega) q3; have hc2 := cell_back hb2 (by omega) hc1; have hbl := hid ((hbw.out.trans (qb.mono (by omega))).trans (hb2.mono (by omega))); have hsz2 := hb2.size))
                  go_ret
                  exact ⟨ret_int (check_bad hr hn hlt hf (checkW_2 HnB.out Htw.out (by simp [numsB, n3])) (by decide)).symm, hbl.out⟩
                | true =>
                  by_cases n4 : (wg ws k).hi < (wg ws k).lo
                  · go_wp2_with (first | (go_at_call 46; refine (in_any _ _ _ _).mono ?_; rintro e w' ⟨rfl, rfl⟩) | (go_at_call 47; refine (trim_any _ _ hnk).mono ?_; rintro e w1 ⟨r, rfl, hre, hb1⟩; obtain ⟨q0, q1, q2, q3, qb, qs⟩ := box_later hb1; have hc1 := cell_back qb (by omega) hcb; have Hcall := hid (hasW_any ws k k b off cap wo.heap.size w1 (by omega) (by omega) q0 (by omega) (fun i hi => by obtain ⟨r0, r1, r2, r3⟩ := H5.out i (by omega); exact ⟨cell_back (hbw.out.trans (qb.mono (by omega))) h4 r0, cell_back (hbw.out.trans (qb.mono (by omega))) h4 r1, cell_back (hbw.out.trans (qb.mono (by omega))) h4 r2, cell_back (hbw.out.trans (qb.mono (by omega))) h4 r3⟩))) | (go_at_call 48; refine Hcall.out.mono ?_; rintro e w2 ⟨rfl, hb2⟩; have p1 := cell_back hb2 (by omega) q1; have p2 := cell_back hb2 (by omega) q2; have p3 := cell_back hb2 (by omega) q3; have hc2 := cell_back hb2 (by omega) hc1; have hbl := hid ((hbw.out.trans (qb.mono (by omega))).trans (hb2.mono (by omega))); have hsz2 := hb2.size))
                    go_ret
                    exact ⟨ret_int (check_bad hr hn hlt hf (checkW_9 HnB.out Htw.out (by simp [numsB, n1, n2, n3]) n4) (by decide)).symm, hbl.out⟩
                  · go_wp2_with (first | (go_at_call 46; refine (in_any _ _ _ _).mono ?_; rintro e w' ⟨rfl, rfl⟩) | (go_at_call 47; refine (trim_any _ _ hnk).mono ?_; rintro e w1 ⟨r, rfl, hre, hb1⟩; obtain ⟨q0, q1, q2, q3, qb, qs⟩ := box_later hb1; have hc1 := cell_back qb (by omega) hcb; have Hcall := hid (hasW_any ws k k b off cap wo.heap.size w1 (by omega) (by omega) q0 (by omega) (fun i hi => by obtain ⟨r0, r1, r2, r3⟩ := H5.out i (by omega); exact ⟨cell_back (hbw.out.trans (qb.mono (by omega))) h4 r0, cell_back (hbw.out.trans (qb.mono (by omega))) h4 r1, cell_back (hbw.out.trans (qb.mono (by omega))) h4 r2, cell_back (hbw.out.trans (qb.mono (by omega))) h4 r3⟩))) | (go_at_call 48; refine Hcall.out.mono ?_; rintro e w2 ⟨rfl, hb2⟩; have p1 := cell_back hb2 (by omega) q1; have p2 := cell_back hb2 (by omega) q2; have p3 := cell_back hb2 (by omega) q3; have hc2 := cell_back hb2 (by omega) hc1; have hbl := hid ((hbw.out.trans (qb.mono (by omega))).trans (hb2.mono (by omega))); have hsz2 := hb2.size))
                    go_roundw
                    case rel => exact ⟨k + 1, by omega, by go_num, hf.succ (checkW_0 HnB.out Htw.out (by simp [numsB, n1, n2, n3]) (by omega)), hbl.out, hc2, by omega⟩
                    case measure => simp [intOf]; omega
    · go_wp2
      go_ret
      obtain rfl : k = ws.length := by omega
      exact ⟨ret_int (check_ok hr h0 hn hf).symm, hbel⟩

set_option maxHeartbeats 400000 in
theorem pcheck_route (ws : List Wing) (route : Int) (vw : Value) (w : World) (hr : inB route 1 100000 = false) :
    Calls Tryz.prog 27 #[.agg #[.int .i64 route, vw]] w fun e w' => e = .returned (.int .i64 (check route ws)) ∧ Below w.heap.size w w' := by
  go_enter Tryz.func27, Tryz.ntmps27
  go_wp2_with (go_at_call 46; refine (in_any _ _ _ _).mono ?_; rintro e w' ⟨rfl, rfl⟩)
  go_ret
  exact ⟨ret_int (by unfold check; rw [if_pos hr]), (Below.refl _ _).alloc (Nat.le_refl _) _⟩

set_option maxHeartbeats 400000 in
theorem pcheck_short (ws : List Wing) (route : Int) (a : Option Addr) (cap : Nat) (w : World) (hr : inB route 1 100000 = true) (hn : ws.length = 0) :
    Calls Tryz.prog 27 #[.agg #[.int .i64 route, .slice a ws.length cap]] w fun e w' => e = .returned (.int .i64 (check route ws)) ∧ Below w.heap.size w w' := by
  have hc : check route ws = 4 := by unfold check; rw [if_neg (by simp [hr]), if_pos hn]
  rw [hc, hn]
  clear hc hn
  go_enter Tryz.func27, Tryz.ntmps27
  go_wp2_with (go_at_call 46; refine (in_any _ _ _ _).mono ?_; rintro e w' ⟨rfl, rfl⟩)
  go_ret
  exact ⟨rfl, (Below.refl _ _).alloc (Nat.le_refl _) _⟩

set_option maxHeartbeats 400000 in
theorem pcheck_full (ws : List Wing) (route : Int) (a : Option Addr) (cap : Nat) (w : World) (hr : inB route 1 100000 = true) (hn : 8 < ws.length) (hn2 : ws.length ≤ 1000000) :
    Calls Tryz.prog 27 #[.agg #[.int .i64 route, .slice a ws.length cap]] w fun e w' => e = .returned (.int .i64 (check route ws)) ∧ Below w.heap.size w w' := by
  have hc : check route ws = 5 := by unfold check; rw [if_neg (by simp [hr]), if_neg (by omega), if_pos hn]
  rw [hc]
  clear hc
  have e0 : ((ws.length : Int) == 0) = false := beq_eq_false_iff_ne.2 (by omega)
  go_enter Tryz.func27, Tryz.ntmps27
  go_wp2_with (go_at_call 46; refine (in_any _ _ _ _).mono ?_; rintro e w' ⟨rfl, rfl⟩)
  go_ret
  exact ⟨rfl, (Below.refl _ _).alloc (Nat.le_refl _) _⟩

/-- THE CONTRACT of the program's Check -/
theorem pcheck_wide (ws : List Wing) (route : Int) (vw : Value) (d : Option Nat) (w : World) (hW : WgAt d w vw ws) (hn : ws.length ≤ 1000000) (hnm : ∀ i, i < ws.length → (wg ws i).name.size ≤ 1000000) :
    Calls Tryz.prog 27 #[.agg #[.int .i64 route, vw]] w fun e w' => e = .returned (.int .i64 (check route ws)) ∧ Below w.heap.size w w' := by
  cases hr : inB route 1 100000 with
  | false => exact pcheck_route ws route vw w hr
  | true =>
    by_cases h0 : ws.length = 0
    · obtain ⟨a, cap, rfl, _⟩ := hW
      exact pcheck_short ws route a cap w hr h0
    · by_cases h8 : 8 < ws.length
      · obtain ⟨a, cap, rfl, _⟩ := hW
        exact pcheck_full ws route a cap w hr h8 hn
      · exact pcheck_loop ws route vw d w hW (by omega) (by omega) hr hnm
theorem pcheck_any (ws : List Wing) (route : Int) (vw : Value) (d : Option Nat) (w : World) (hW : WgAt d w vw ws) (hn : ws.length ≤ 100) (hnm : ∀ i, i < ws.length → (wg ws i).name.size ≤ 1000000) :
    Calls Tryz.prog 27 #[.agg #[.int .i64 route, vw]] w fun e w' => e = .returned (.int .i64 (check route ws)) ∧ Below w.heap.size w w' :=
  pcheck_wide ws route vw d w hW (by omega) hnm
end Go.Proofs.YtefdopifebhgiaaGreatDoor
