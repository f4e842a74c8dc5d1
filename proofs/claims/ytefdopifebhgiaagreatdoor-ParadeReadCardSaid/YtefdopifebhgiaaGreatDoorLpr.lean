/-
  WALKS: ParadeRead.
-/
import Derived.Test.YtefdopifebhgiaaGreatDoorPre
import Derived.Test.YtefdopifebhgiaaGreatDoorAw
namespace Go.Proofs.YtefdopifebhgiaaGreatDoor
open Go.RowKit

theorem check_few {route : Int} {ws : List Wing} (h : check route ws = 0) : ws.length ≤ 100 ∧ ∀ i, i < ws.length → (wg ws i).name.size ≤ 1000000 := by
  have hf := fits_check h
  refine ⟨by have := hf.few; omega, fun i hi => ?_⟩
  have hm : wg ws i ∈ ws := by unfold wg; rw [List.getD_eq_getElem?_getD, List.getElem?_eq_getElem hi]; simp
  have h1 := hf.short _ hm
  have e : (wg ws i).name.size = (wg ws i).name.data.toList.length := Array.length_toList.symm
  omega
theorem writeRes_ok {route : Int} {ws : List Wing} (h : check route ws = 0) : writeRes route ws = joinN (linesAll route ws) := by
  unfold writeRes
  rw [if_pos h, write_lines]

set_option maxHeartbeats 8000000 in
set_option maxRecDepth 100000 in
theorem pread_law (xs : List Int) (v : Value) (text : List UInt8) (w : World) (hX : IntsAt none w v xs) (hn : xs.length ≤ 9223372036854775807) (hE : Env w) :
    Calls Tryz.prog 4 #[v, .string ⟨text.toArray⟩] w fun e w' => e = .returned (.bool true) ∧ Below w.heap.size w w' := by
  have HX := hid hX
  have HE := hid hE
  have hsz : (⟨text.toArray⟩ : ByteArray).size = text.length := by simp [ByteArray.size]
  have AW := hid (fun W' => awake_any W')
  obtain ⟨a, c, rfl, _⟩ := hX
  clear hE
  by_cases h1 : 600 < text.length
  · have d0 : decide (600 < (text.length : Int)) = true := decide_eq_true (by omega)
    clear h1 hn
    go_enter Tryz.func4, Tryz.ntmps4
    go_wp2_with (go_at_call 6; refine (AW.out _).mono ?_; rintro e w1 ⟨rfl, hb⟩)
    go_ret
    exact ⟨rfl, hb⟩
  have d0 : decide (600 < (text.length : Int)) = false := decide_eq_false (by omega)
  have HRB := hid (fun (h : (readA text).2.2 = 0) => readA_back (text := text) (route := (readA text).1.1) (ws := (readA text).1.2) (r := (readA text).2.1) (by rw [← h]))
  have HBad := hid (fun (h : (readA text).2.2 ≠ 0) => readA_bad h)
  have HRd := hid (fun W' hE => pread_any text W' hE)
  unfold ReadAPost at HRd
  have hbad2 : (readA text).2.2 ≠ 0 → (readA text).1.2 = [] := fun h => by rw [HBad.out h]
  obtain ⟨xr, hx⟩ : ∃ x, (readA text).1.1 = x := ⟨_, rfl⟩
  obtain ⟨xw, hxw⟩ : ∃ x, (readA text).1.2 = x := ⟨_, rfl⟩
  obtain ⟨r, hr⟩ : ∃ r, (readA text).2.1 = r := ⟨_, rfl⟩
  obtain ⟨g, hg⟩ : ∃ g, (readA text).2.2 = g := ⟨_, rfl⟩
  rw [hx, hxw, hr, hg] at HRd HRB
  rw [hxw, hg] at hbad2
  have HB2 := hid hbad2
  clear h1 hx hxw hr hg HBad hbad2
  go_enter Tryz.func4, Tryz.ntmps4
  go_upto_region 4 with (first
    | (go_at_call 8; refine (drumOf_any xs _ _ HX.out hn).mono ?_; rintro e w1 ⟨rfl, hbt, hbl⟩; have HBt := hid hbt; have HBl := hid hbl; clear hbt hbl)
    | (go_at_call 7; refine (schoolOf_any w.heap.size 8 _ HBt.out (by omega) (by omega)).mono ?_; rintro e w2 ⟨route, vs, ws, rfl, hr1, hr2, hl0, hl8, hm, hown, hbt, hg⟩; obtain ⟨av, cv, rfl⟩ := OwnR.form hown; have HC := hid (made_check hm hr1 hr2 hl0 (by omega)); have HW := hid (hown.at (d := none) (by simp)); have HBel := hid (HBl.out.grown hg HBl.out.size (fun g e => by cases e; exact Nat.le_refl _)); clear hm hr1 hr2 hl0 hl8 hown hbt hg))
  have hbo := below_alloc w2 (.cells #[.int .i64 route, .slice av ws.length cv] 24)
  have hbx := heap_alloc_new w2 (.cells #[.int .i64 route, .slice av ws.length cv] 24)
  obtain ⟨w3, hw3⟩ : ∃ w3, w2.alloc (.cells #[.int .i64 route, .slice av ws.length cv] 24) = w3 := ⟨_, rfl⟩
  obtain ⟨X, hXs⟩ : ∃ X, w2.heap.size = X := ⟨_, rfl⟩
  rw [hw3] at hbo hbx ⊢
  have HW3 := hid (HW.out.below hbo)
  have HB3 := hid (below_trans HBel.out hbo)
  rw [hXs] at hbx ⊢
  have HBx := hid hbx
  have HCn := hid (check_few HC.out)
  have y0 : w3.cell? ⟨X, 0, none⟩ = some (.int .i64 route) := by rw [Lib.cell_of_heap hbx]; rfl
  have y1 : w3.cell? ⟨X, 1, none⟩ = some (.slice av ws.length cv) := by rw [Lib.cell_of_heap hbx]; rfl
  clear hbo hbx hw3 hXs HW HBel HBt HBl HX hn hsz d0
  go_wp2_with fail
  refine (pwrite_any ws route _ w3 HW3.out HCn.out.1 HCn.out.2 (HE.out.go HB3.out).tab).mono ?_
  rw [HC.out, writeRes_ok HC.out]
  rintro e w4 ⟨rfl, hb⟩
  have HW4 := hid (HW3.out.below hb)
  have HBx4 := hid ((hb.block _ (blkP_lt HBx.out)).trans HBx.out)
  have HB4 := hid (below_trans HB3.out hb)
  clear hb y0 y1 HW3 HBx HB3
  go_wp2_with fail
  have hrd := pread_any (joinN (linesAll route ws)) w4 (HE.out.go HB4.out)
  unfold ReadAPost at hrd
  rw [read_all HC.out] at hrd
  refine hrd.mono ?_
  rintro e w5 ⟨up, rfl, hown, hb⟩
  dsimp only at hown
  obtain ⟨ap, kp, rfl⟩ := OwnR.form hown
  have hbo := below_alloc w5 (.cells #[.int .i64 route, .slice ap ws.length kp] 24)
  have hbz := heap_alloc_new w5 (.cells #[.int .i64 route, .slice ap ws.length kp] 24)
  have HO6 := hid ((hown.later hbo).at (d := none) (by simp))
  have HB6 := hid (below_trans (below_trans HB4.out hb) hbo)
  have HW6 := hid ((HW4.out.below hb).below hbo)
  have hx6 := (hbo.block _ (Nat.lt_of_lt_of_le (blkP_lt HBx4.out) hb.size)).trans ((hb.block _ (blkP_lt HBx4.out)).trans HBx4.out)
  clear hrd hb hown hbo
  dsimp only
  obtain ⟨w6, hw6⟩ : ∃ w6, w5.alloc (.cells #[.int .i64 route, .slice ap ws.length kp] 24) = w6 := ⟨_, rfl⟩
  rw [hw6] at hbz HO6 HB6 HW6 hx6
  have y0 : w6.cell? ⟨X, 0, none⟩ = some (.int .i64 route) := by rw [Lib.cell_of_heap hx6]; rfl
  have y1 : w6.cell? ⟨X, 1, none⟩ = some (.slice av ws.length cv) := by rw [Lib.cell_of_heap hx6]; rfl
  have z0 : w6.cell? ⟨w5.heap.size, 0, none⟩ = some (.int .i64 route) := by rw [Lib.cell_of_heap hbz]; rfl
  have z1 : w6.cell? ⟨w5.heap.size, 1, none⟩ = some (.slice ap ws.length kp) := by rw [Lib.cell_of_heap hbz]; rfl
  clear hx6 hbz HW4 HBx4 HB4
  go_wp2_with fail
  refine (eqSchools_same ws route _ _ none none w6 HW6.out HO6.out (by have := HCn.out.1; omega)).mono ?_
  rintro e w7 ⟨rfl, hb⟩
  have HB := hid (below_trans HB6.out hb)
  clear hb y0 y1 z0 z1 hw6 HO6 HW6 HB6
  go_wp2_with fail
  refine (HRd.out w7 (HE.out.go HB.out)).mono ?_
  rintro e w8 ⟨up, rfl, hown, hb⟩
  obtain ⟨ax, kx, rfl⟩ := OwnR.form hown
  have HB := hid (below_trans HB.out hb)
  have hbo := below_alloc w8 (.cells #[.int .i64 xr, .slice ax xw.length kx] 24)
  have HO := hid ((hown.later hbo).at (d := none) (by simp))
  have hb9 := heap_alloc_new w8 (.cells #[.int .i64 xr, .slice ax xw.length kx] 24)
  obtain ⟨w9, hw9⟩ : ∃ w9, w8.alloc (.cells #[.int .i64 xr, .slice ax xw.length kx] 24) = w9 := ⟨_, rfl⟩
  rw [hw9] at hbo HO hb9
  have HB := hid (below_trans HB.out hbo)
  have z0 : w9.cell? ⟨w8.heap.size, 0, none⟩ = some (.int .i64 xr) := by rw [Lib.cell_of_heap hb9]; rfl
  have z1 : w9.cell? ⟨w8.heap.size, 1, none⟩ = some (.slice ax xw.length kx) := by rw [Lib.cell_of_heap hb9]; rfl
  clear hown hb hbo hb9 HRd
  by_cases hg : g = 0
  · obtain ⟨hr0, hpe, hsh⟩ := HRB.out hg
    subst hg
    have hw := pwrite_any xw xr _ w9 HO.out (check_few hpe).1 (check_few hpe).2 (HE.out.go HB.out).tab
    rw [hpe, writeRes_ok hpe, hsh] at hw
    have HWr := hid hw
    clear hr0 hpe hsh hw HRB HB2
    go_wp2_with (first
      | (go_at_call 9; refine HWr.out.mono ?_; rintro e w10 ⟨rfl, hb⟩; have HB := hid (below_trans HB.out hb); clear hb z0 z1)
      | (go_at_call 6; refine (AW.out _).mono ?_; rintro e w11 ⟨rfl, hb⟩; have HB := hid (below_trans HB.out hb); clear hb))
    go_ret
    exact ⟨rfl, HB.out⟩
  · have hx := HB2.out hg
    have hx0 : xw.length = 0 := by rw [hx]; rfl
    rw [hx0] at z1
    obtain ⟨g1, g2⟩ := ne_bool hg
    clear hx hx0 HRB HB2 hg
    go_wp2_with (go_at_call 6; refine (AW.out _).mono ?_; rintro e w11 ⟨rfl, hb⟩; have HB := hid (below_trans HB.out hb); clear hb)
    go_ret
    exact ⟨rfl, HB.out⟩
end Go.Proofs.YtefdopifebhgiaaGreatDoor
