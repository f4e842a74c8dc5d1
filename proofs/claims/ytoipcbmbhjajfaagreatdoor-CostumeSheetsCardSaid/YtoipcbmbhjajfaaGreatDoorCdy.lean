/-
  WALKS: what a person does, in order: sorted, DeleteFunc, Day.
-/
import Derived.Test.YtoipcbmbhjajfaaGreatDoorCwd
import Derived.Test.YtoipcbmbhjajfaaGreatDoorCdp
import Derived.Test.YtoipcbmbhjajfaaGreatDoorCpo
import Derived.Test.YtoipcbmbhjajfaaGreatDoorIns
import Derived.BigQuiet
import Derived.Deep.QuietTactic
import Derived.Lib.SliceRun
namespace Go.Proofs.YtoipcbmbhjajfaaGreatDoor
open Go.RowKit

set_option maxHeartbeats 1000000 in
set_option maxRecDepth 100000 in
theorem day1_any (a b : Part) (w : World) :
    Calls Tryz.prog 42 #[partV a, partV b] w fun e w' => e = .returned (.bool (decide (a.start < b.start))) ∧ Below w.heap.size w w' := by
  have hb := hid (show Below w.heap.size w ((w.alloc (.cells #[.int .i64 a.person, .int .i64 a.place, .int .i64 a.kind, .int .i64 a.start, .int .i64 a.stop] 60)).alloc (.cells #[.int .i64 b.person, .int .i64 b.place, .int .i64 b.kind, .int .i64 b.start, .int .i64 b.stop] 60)) from below_trans (below_alloc w _) (below_alloc _ _))
  go_enter Tryz.func42, Tryz.ntmps42
  go_wp2
  go_ret
  exact ⟨rfl, hb.out⟩

def startF (xs : List Part) (i : Int) : Int := (pt xs i.toNat).start

set_option linter.unusedVariables false in
set_option maxHeartbeats 4000000 in
set_option maxRecDepth 100000 in
theorem sorted_any (xs : List Part) (v : Value) (w : World) (hX : PartsAt none w v xs) (hn : xs.length ≤ 30) :
    Calls Tryz.prog 41 #[v, .func (.func 42) #[] #[]] w fun e w' => ∃ v', e = .returned v' ∧ OwnInts w.heap.size w' v' (sortD (startF xs) xs.length) ∧ Below w.heap.size w w' := by
  have HX := hid hX
  obtain ⟨a, c, rfl⟩ := hX.form
  clear hX
  go_enter Tryz.func41, Tryz.ntmps41
  go_wp2_with fail
  go_loopw [5, 10] (fun s5 j wr => ∃ (k : Nat) (vo : Value), vo = s5 ∧ k ≤ xs.length ∧ j = .int .i64 k ∧ OwnInts w.heap.size wr vo (sortD (startF xs) k) ∧ Below w.heap.size w wr) (fun _ j _ => xs.length - (intOf j).toNat)
  case atStart => exact ⟨0, _, rfl, by omega, rfl, own_nil _ _, Below.refl _ _⟩
  case round =>
    obtain ⟨k, vo, rfl, hk, rfl, hown, hbel⟩ := hrel
    have HO := hid hown
    have HB := hid hbel
    clear hown hbel
    obtain ⟨wo, rfl⟩ : ∃ wo : World, wo = wr := ⟨_, rfl⟩
    have hln := sortD_length (startF xs) k
    obtain ⟨av, cv, ev⟩ := (own_int.2 HO.out).form
    rw [hln] at ev
    subst ev
    have Hln := hid hln
    clear hln
    by_cases hlt : k < xs.length
    rotate_left
    · obtain rfl : k = xs.length := by omega
      go_wp2_with fail
      go_ret
      exact ⟨_, rfl, HO.out, HB.out⟩
    obtain ⟨ys, hys⟩ : ∃ ys, sortD (startF xs) k = ys := ⟨_, rfl⟩
    have HYm := hid (fun (j : Nat) (hj : j < k) => show 0 ≤ nm ys j ∧ nm ys j < k from by
      have h1 : nm ys j ∈ sortD (startF xs) k := by rw [hys, nm_get (by rw [← hys, Hln.out]; exact hj)]; exact List.getElem_mem _
      exact (sortD_mem (startF xs) k (nm ys j)).1 h1)
    have Hnext := hid (show sortD (startF xs) (k + 1) = insD (startF xs) (k : Int) ys from by rw [← hys]; rfl)
    rw [hys] at HO Hln
    clear hys
    have hcc := PartsAt.cells (HX.out.below HB.out) hlt
    obtain ⟨bq, oq, e, hbq, _⟩ := hcc
    subst e
    have HQ := hid (show ∀ (j : Nat) (W' : World), j < xs.length → Below w.heap.size w W' → (W'.cell? ⟨bq, oq + j * 5, none⟩ = some (.int .i64 (pt xs j).person) ∧ W'.cell? ⟨bq, oq + j * 5 + 1, none⟩ = some (.int .i64 (pt xs j).place) ∧ W'.cell? ⟨bq, oq + j * 5 + 2, none⟩ = some (.int .i64 (pt xs j).kind) ∧ W'.cell? ⟨bq, oq + j * 5 + 3, none⟩ = some (.int .i64 (pt xs j).start) ∧ W'.cell? ⟨bq, oq + j * 5 + 4, none⟩ = some (.int .i64 (pt xs j).stop)) from fun j W' hj hb => by
      have hcc := PartsAt.cells (HX.out.below hb) hj
      obtain ⟨b', o', e, _, d⟩ := hcc
      cases e
      exact d)
    have hbase : w.heap.size ≤ wo.heap.size := HB.out.size
    go_wp2_with fail
    go_loopw [7] (fun at' wi => ∃ m : Nat, m ≤ k ∧ at' = .int .i64 m ∧ posD (startF xs) k ys m = posD (startF xs) k ys k ∧ Below wo.heap.size wo wi) (fun at' _ => (intOf at').toNat)
    case atStart => exact ⟨k, by omega, rfl, rfl, Below.refl _ _⟩
    case round =>
      obtain ⟨m, hm, rfl, hpos, hbel⟩ := hrel
      have HP := hid hpos
      have HBi := hid hbel
      clear hpos hbel
      obtain ⟨wi, rfl⟩ : ∃ wi : World, wi = wr := ⟨_, rfl⟩
      have fin : ∀ (wz : World), Below wo.heap.size wo wz → posD (startF xs) k ys k = m →
          Calls Tryz.prog 64 #[.slice av k cv, .int .i64 m, .slice (some ⟨wz.heap.size, 0, none⟩) 1 1] (wz.alloc (.cells #[.int .i64 k] 3)) fun e w' => ∃ v', e = .returned v' ∧ OwnInts w.heap.size w' v' (sortD (startF xs) (k + 1)) ∧ Below w.heap.size w w' := fun wz hz hpm => by
        have h1 : OwnInts w.heap.size (wz.alloc (.cells #[.int .i64 k] 3)) (.slice av k cv) ys := (HO.out.later hz).later (below_alloc _ _)
        refine (insert_own w.heap.size ys k m _ wz.heap.size _ h1 (by rw [Hln.out]; exact hm) (box_new _ _ _) (fun g hg => by have := ((own_int.2 (HO.out.later hz)).lt hg).2; omega) (by rw [Hln.out]; omega) (by have := hz.size; simp; omega)).mono ?_
        rintro e w' ⟨v', rfl, h2, h3⟩
        refine ⟨v', rfl, ?_, ((HB.out.trans (hz.mono hbase)).alloc (by have := hz.size; omega) _).trans h3⟩
        rw [Hnext.out]
        unfold insD
        rw [Hln.out, hpm]
        exact h2
      have Fin := hid fin
      clear fin
      by_cases h0 : 0 < m
      rotate_left
      · obtain rfl : m = 0 := by omega
        have HFin := hid (fun (q : Nat) => Fin.out (wi.drewN q) (below_drewN HBi.out q) (by rw [← HP.out]; rfl))
        clear Fin
        go_upto_region 6 with fail
        go_quiet (fail)
        go_wp2_with (go_at_call 64; refine (HFin.out nq).mono ?_; rintro e w4 ⟨v', rfl, h2, h3⟩; have H2 := hid h2; have H3 := hid h3)
        go_roundw
        case rel => exact ⟨k + 1, _, rfl, by omega, by go_num, H2.out, H3.out⟩
        case measure => simp [intOf] <;> omega
      obtain ⟨q, rfl⟩ : ∃ q, m = q + 1 := ⟨m - 1, by omega⟩
      have hq : q < k := by omega
      have hyl := HYm.out q hq
      have Hps := hid (show posD (startF xs) k ys (q + 1) = if startF xs k < startF xs (nm ys q) then posD (startF xs) k ys q else q + 1 from rfl)
      have hcq := ((HO.out.later HBi.out).at (d := none) (by simp))
      obtain ⟨bo, oo, co, e, _, _⟩ := hcq.slice (by rw [Hln.out]; omega)
      rw [Hln.out] at e
      cases e
      have cq := hcq.cell (i := q) (by rw [Hln.out]; exact hq)
      obtain ⟨z, hz⟩ : ∃ z, nm ys q = z := ⟨_, rfl⟩
      rw [hz] at hyl Hps cq
      obtain ⟨jn, rfl⟩ := Int.eq_ofNat_of_zero_le hyl.1
      have hjn : jn < xs.length := by omega
      have i1 : (jn : Int) < (xs.length : Int) := by omega
      have i2 : (k : Int) < (xs.length : Int) := by omega
      have i3 : (q : Int) < (k : Int) := by omega
      have z1 : IntKind.i64.wrap ((q : Int) + 1 - 1) = (q : Int) := by rw [show (q : Int) + 1 - 1 = (q : Int) by omega]; exact IntWalk.i64_in _ (by omega)
      have z2 : IntKind.i64.wrap (q : Int) = (q : Int) := IntWalk.i64_in _ (by omega)
      have i4 : (0 : Int) ≤ (q : Int) := by omega
      rw [show ((q + 1 : Nat) : Int) = (q : Int) + 1 from rfl]
      have HBw := hid (show ∀ W', Below wi.heap.size wi W' → Below w.heap.size w W' from fun W' hb => (HB.out.trans (HBi.out.mono hbase)).trans (hb.mono (Nat.le_trans hbase HBi.out.size)))
      have hbo := World.block_lt_of_cell? wi ⟨bo, oo + q, none⟩ cq
      have HCq := hid (fun (W' : World) (hb : Below wi.heap.size wi W') => cell_back hb hbo cq)
      have HQk := hid (fun (W' : World) (hb : Below wi.heap.size wi W') => HQ.out k W' hlt (HBw.out W' hb))
      have HQj := hid (fun (W' : World) (hb : Below wi.heap.size wi W') => HQ.out jn W' hjn (HBw.out W' hb))
      have hsk : startF xs k = (pt xs k).start := rfl
      have hsj : startF xs (jn : Int) = (pt xs jn).start := rfl
      rw [hsk, hsj] at Hps
      obtain ⟨x, hx⟩ : ∃ x, pt xs k = x := ⟨_, rfl⟩
      obtain ⟨y, hy⟩ : ∃ y, pt xs jn = y := ⟨_, rfl⟩
      rw [hx] at HQk Hps
      rw [hy] at HQj Hps
      clear hx hy hsk hsj hz hcq cq hyl
      have B0 := hid (Below.refl wi.heap.size wi).drew
      by_cases hl : x.start < y.start
      · have HP2 := hid (show posD (startF xs) k ys q = posD (startF xs) k ys k from by rw [← HP.out, Hps.out, if_pos hl])
        have hl1 : decide (x.start < y.start) = true := by simpa using hl
        clear Hps Fin
        go_upto_region 6 with fail
        go_region_held3 (fun w' => w'.cell? ⟨bo, oo + q, none⟩ = some (.int .i64 jn) ∧ (w'.cell? ⟨bq, oq + k * 5, none⟩ = some (.int .i64 x.person) ∧ w'.cell? ⟨bq, oq + k * 5 + 1, none⟩ = some (.int .i64 x.place) ∧ w'.cell? ⟨bq, oq + k * 5 + 2, none⟩ = some (.int .i64 x.kind) ∧ w'.cell? ⟨bq, oq + k * 5 + 3, none⟩ = some (.int .i64 x.start) ∧ w'.cell? ⟨bq, oq + k * 5 + 4, none⟩ = some (.int .i64 x.stop)) ∧ (w'.cell? ⟨bq, oq + jn * 5, none⟩ = some (.int .i64 y.person) ∧ w'.cell? ⟨bq, oq + jn * 5 + 1, none⟩ = some (.int .i64 y.place) ∧ w'.cell? ⟨bq, oq + jn * 5 + 2, none⟩ = some (.int .i64 y.kind) ∧ w'.cell? ⟨bq, oq + jn * 5 + 3, none⟩ = some (.int .i64 y.start) ∧ w'.cell? ⟨bq, oq + jn * 5 + 4, none⟩ = some (.int .i64 y.stop)))
          (first | exact ⟨HCq.out _ B0.out, HQk.out _ B0.out, HQj.out _ B0.out⟩) (first
          | (go_at_call 42; refine (day1_any x y _).mono ?_; rintro e w2 ⟨rfl, hb2⟩; have B0 := hid (B0.out.trans (hb2.mono B0.out.size)); clear hb2))
        go_wp2_with fail
        go_roundw
        case rel => exact ⟨q, by omega, rfl, HP2.out, HBi.out.trans (B0.out.mono HBi.out.size)⟩
        case measure => simp [intOf] <;> omega
      · have hpm := hid (show posD (startF xs) k ys k = q + 1 from by rw [← HP.out, Hps.out, if_neg hl])
        have hl1 : decide (x.start < y.start) = false := by simpa using hl
        clear Hps
        go_upto_region 6 with fail
        go_region_held3 (fun w' => w'.cell? ⟨bo, oo + q, none⟩ = some (.int .i64 jn) ∧ (w'.cell? ⟨bq, oq + k * 5, none⟩ = some (.int .i64 x.person) ∧ w'.cell? ⟨bq, oq + k * 5 + 1, none⟩ = some (.int .i64 x.place) ∧ w'.cell? ⟨bq, oq + k * 5 + 2, none⟩ = some (.int .i64 x.kind) ∧ w'.cell? ⟨bq, oq + k * 5 + 3, none⟩ = some (.int .i64 x.start) ∧ w'.cell? ⟨bq, oq + k * 5 + 4, none⟩ = some (.int .i64 x.stop)) ∧ (w'.cell? ⟨bq, oq + jn * 5, none⟩ = some (.int .i64 y.person) ∧ w'.cell? ⟨bq, oq + jn * 5 + 1, none⟩ = some (.int .i64 y.place) ∧ w'.cell? ⟨bq, oq + jn * 5 + 2, none⟩ = some (.int .i64 y.kind) ∧ w'.cell? ⟨bq, oq + jn * 5 + 3, none⟩ = some (.int .i64 y.start) ∧ w'.cell? ⟨bq, oq + jn * 5 + 4, none⟩ = some (.int .i64 y.stop)))
          (first | exact ⟨HCq.out _ B0.out, HQk.out _ B0.out, HQj.out _ B0.out⟩) (first
          | (go_at_call 42; refine (day1_any x y _).mono ?_; rintro e w2 ⟨rfl, hb2⟩; have B0 := hid (B0.out.trans (hb2.mono B0.out.size)); clear hb2))
        have hfin := hid (Fin.out _ (HBi.out.trans (B0.out.mono HBi.out.size)) hpm.out)
        clear Fin
        go_wp2_with (go_at_call 64; refine hfin.out.mono ?_; rintro e w4 ⟨v', rfl, h2, h3⟩; have H2 := hid h2; have H3 := hid h3)
        go_roundw
        case rel => exact ⟨k + 1, _, rfl, by omega, by go_num, H2.out, H3.out⟩
        case measure => simp [intOf] <;> omega

/-- what is kept: the closure's answer -/
def gone (p : Plot) (n : Int) (i : Int) : Bool := !ofPerson p n i

set_option maxHeartbeats 1000000 in
set_option maxRecDepth 100000 in
theorem day2_any (p : Plot) (n : Int) (i : Nat) (A B : Nat) (vq : Value) (w : World) (hi : i < p.parts.length) (hP : PartsAt none w vq p.parts) (hA : w.cell? ⟨A, 3, none⟩ = some vq) (hB : w.cell? ⟨B, 0, none⟩ = some (.int .i64 n)) :
    Calls Tryz.prog 44 #[.int .i64 i, .pointer (some ⟨A, 0, none⟩), .pointer (some ⟨B, 0, none⟩)] w fun e w' => e = .returned (.bool (gone p n i)) ∧ Below w.heap.size w w' := by
  obtain ⟨a, c, rfl⟩ := hP.form
  have hcc := PartsAt.cells hP hi
  obtain ⟨bq, oq, e, _, d0, _⟩ := hcc
  subst e
  have hg : gone p n i = decide ((pt p.parts i).person ≠ n) := by unfold gone ofPerson; rw [Int.toNat_natCast]; by_cases h : (pt p.parts i).person = n <;> simp [h]
  rw [hg]
  obtain ⟨z, hz⟩ : ∃ z, (pt p.parts i).person = z := ⟨_, rfl⟩
  rw [hz] at d0 ⊢
  have i1 : (i : Int) < (p.parts.length : Int) := by omega
  clear hz hP hg
  by_cases hzn : z = n
  · obtain ⟨e1, e2⟩ := eq_bool hzn
    have hd : decide (z ≠ n) = false := by simp [hzn]
    rw [hd]
    clear hd hzn
    go_enter Tryz.func44, Tryz.ntmps44
    go_wp2_with fail
    go_quiet (fail)
    go_wp2_with fail
    go_ret
    exact ⟨rfl, below_drewN (Below.refl _ _) _⟩
  · obtain ⟨e1, e2⟩ := ne_bool hzn
    have hd : decide (z ≠ n) = true := by simp [hzn]
    rw [hd]
    clear hd hzn
    go_enter Tryz.func44, Tryz.ntmps44
    go_wp2_with fail
    go_quiet (fail)
    go_wp2_with fail
    go_ret
    exact ⟨rfl, below_drewN (Below.refl _ _) _⟩

/-- a list of numbers of parts -/
def InParts (p : Plot) (xs : List Int) : Prop := ∀ j, j < xs.length → 0 ≤ nm xs j ∧ nm xs j < p.parts.length

set_option linter.unusedVariables false in
set_option maxHeartbeats 2000000 in
set_option maxRecDepth 100000 in
theorem idxD_any (p : Plot) (n : Int) (xs : List Int) (v vq : Value) (A B : Nat) (w : World) (hX : IntsAt none w v xs) (hn : xs.length ≤ 30) (hin : InParts p xs)
    (hP : ∀ W', Below w.heap.size w W' → PartsAt none W' vq p.parts ∧ W'.cell? ⟨A, 3, none⟩ = some vq ∧ W'.cell? ⟨B, 0, none⟩ = some (.int .i64 n)) :
    Calls Tryz.prog 65 #[v, .func (.func 44) #[] #[.pointer (some ⟨A, 0, none⟩), .pointer (some ⟨B, 0, none⟩)]] w fun e w' => e = .returned (.int .i64 (firstAt (fun j => gone p n (nm xs j)) xs.length)) ∧ Below w.heap.size w w' := by
  have HX := hid hX
  have HI := hid hin
  have HP := hid hP
  obtain ⟨a, c, rfl, _⟩ := hX
  clear hin hP
  go_enter Tryz.func65, Tryz.ntmps65
  go_wp2
  go_loopw [8] (fun j wr => ∃ m : Nat, m ≤ xs.length ∧ j = .int .i64 m ∧ (∀ j, j < m → gone p n (nm xs j) = false) ∧ Below w.heap.size w wr) (fun j _ => xs.length - (intOf j).toNat)
  case atStart => exact ⟨0, by omega, rfl, fun j hj => absurd hj (by omega), Below.refl _ _⟩
  case round =>
    obtain ⟨m, hm, rfl, hf, hbel⟩ := hrel
    have HF := hid hf
    have Hb := hid hbel
    clear hf hbel
    by_cases hlt : m < xs.length
    · obtain ⟨b, off, c', e, _, _⟩ := HX.out.slice (by omega)
      cases e
      have hc := (HX.out.below Hb.out).cell hlt
      have i1 : (m : Int) < (xs.length : Int) := by omega
      have z1 : IntKind.i64.wrap ((m : Int) + 1) = (m : Int) + 1 := IntWalk.i64_in _ (by omega)
      have hin := HI.out m hlt
      have HE := hid (fun h => firstAt_at (f := fun j => gone p n (nm xs j)) HF.out h xs.length hlt)
      have HN := hid (fun (h : gone p n (nm xs m) = false) (j : Nat) (hj : j < m + 1) => show gone p n (nm xs j) = false from by
        by_cases e : j = m
        · rw [e]; exact h
        · exact HF.out j (by omega))
      obtain ⟨z, hz⟩ : ∃ z, nm xs m = z := ⟨_, rfl⟩
      rw [hz] at hin hc HE HN
      obtain ⟨jn, rfl⟩ := Int.eq_ofNat_of_zero_le hin.1
      have hjn : jn < p.parts.length := by omega
      have HC := hid (fun W' hb => day2_any p n jn A B vq W' hjn (HP.out W' hb).1 (HP.out W' hb).2.1 (HP.out W' hb).2.2)
      clear hz hin HF
      cases hg : gone p n (jn : Int) with
      | true =>
        have HE := hid (HE.out hg)
        rw [hg] at HC
        clear hg HN
        go_wp2_with (go_at_call 44; refine (HC.out _ Hb.out).mono ?_; rintro e w2 ⟨rfl, hb2⟩; have Hb := hid (Hb.out.trans (hb2.mono Hb.out.size)); clear hb2)
        go_ret
        exact ⟨ret_int HE.out.symm, Hb.out⟩
      | false =>
        have HN := hid (HN.out hg)
        rw [hg] at HC
        clear hg HE
        go_wp2_with (go_at_call 44; refine (HC.out _ Hb.out).mono ?_; rintro e w2 ⟨rfl, hb2⟩; have Hb := hid (Hb.out.trans (hb2.mono Hb.out.size)); clear hb2)
        go_roundw
        case rel => exact ⟨m + 1, by omega, by go_num, HN.out, Hb.out⟩
        case measure => simp [intOf] <;> omega
    · obtain rfl : m = xs.length := by omega
      have HE := hid (firstAt_none HF.out)
      go_wp2
      go_ret
      exact ⟨ret_int HE.out.symm, Hb.out⟩
end Go.Proofs.YtoipcbmbhjajfaaGreatDoor
