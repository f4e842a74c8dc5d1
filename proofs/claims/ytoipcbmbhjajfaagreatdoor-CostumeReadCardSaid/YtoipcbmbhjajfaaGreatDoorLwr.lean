/-
  WALKS: CostumeRead.
-/
import Derived.Test.YtoipcbmbhjajfaaGreatDoorBre
import Derived.Test.YtoipcbmbhjajfaaGreatDoorLkf
import Derived.Test.YtoipcbmbhjajfaaGreatDoorKqq
namespace Go.Proofs.YtoipcbmbhjajfaaGreatDoor
open Go.RowKit

theorem PlotN.ofV {p : Plot} (v : Valid p) : PlotN p := PlotN.ofValid v

set_option maxHeartbeats 8000000 in
set_option maxRecDepth 100000 in
theorem cread_any (xs : List Int) (v : Value) (text : List UInt8) (w : World) (hX : IntsAt none w v xs) (hn : xs.length ≤ 9223372036854775807) (hE : Env w) :
    Calls Tryz.prog 4 #[v, .string ⟨text.toArray⟩] w fun e w' => e = .returned (.bool true) ∧ Below w.heap.size w w' := by
  have HX := hid hX
  have HE := hid hE
  have hsz : (⟨text.toArray⟩ : ByteArray).size = text.length := by simp [ByteArray.size]
  have AW := hid (fun W' => awake_any W')
  obtain ⟨a, c, rfl, _⟩ := hX
  clear hE
  by_cases h1 : 1000 < text.length
  · have d0 : decide (1000 < (text.length : Int)) = true := decide_eq_true (by omega)
    clear h1 hn
    go_enter Tryz.func4, Tryz.ntmps4
    go_wp2_with (go_at_call 6; refine (AW.out _).mono ?_; rintro e w1 ⟨rfl, hb⟩)
    go_ret
    exact ⟨rfl, hb⟩
  have d0 : decide (1000 < (text.length : Int)) = false := decide_eq_false (by omega)
  have HTl := hid (show text.length ≤ 1000 from by omega)
  have HRB := hid (fun (h : (readP text).2.2 = 0) => read_back (text := text) (p := (readP text).1) (r := (readP text).2.1) (by rw [← h]))
  have HBad := hid (fun (h : (readP text).2.2 ≠ 0) => read_bad h)
  have HRd := hid (fun W' hE => read_any text W' hE)
  unfold ReadPost at HRd
  obtain ⟨x, hx⟩ : ∃ x, (readP text).1 = x := ⟨_, rfl⟩
  obtain ⟨r, hr⟩ : ∃ r, (readP text).2.1 = r := ⟨_, rfl⟩
  obtain ⟨g, hg⟩ : ∃ g, (readP text).2.2 = g := ⟨_, rfl⟩
  rw [hx, hr, hg] at HRd HRB
  rw [hx, hg] at HBad
  clear h1 hx hr hg
  go_enter Tryz.func4, Tryz.ntmps4
  go_upto_region 4 with (first
    | (go_at_call 8; refine (drumOf_any xs _ _ HX.out hn).mono ?_; rintro e w1 ⟨rfl, hbt, hbl⟩; have HBt := hid hbt; have HBl := hid hbl; clear hbt hbl)
    | (go_at_call 7; refine (plotOf_any w.heap.size 4 10 _ HBt.out (by omega) (by omega) (by omega) (by omega)).mono ?_; rintro e w2 ⟨vp, vw, vd, vq, p, rfl, hv, hpl, hql, hP, _, hbt, hg⟩; obtain ⟨ap, cp, rfl⟩ := hP.persons.form; obtain ⟨aw, cw, rfl⟩ := hP.walk.form; obtain ⟨ad, cd, ed, _⟩ := hP.dress; subst ed; obtain ⟨aq, cq, rfl⟩ := hP.parts.form; have HV := hid hv; have LF0 := hid (LF.start hbt hP (HBl.out.grown hg HBl.out.size (fun g e => by cases e; exact Nat.le_refl _)) (Nat.le_refl _) 27); clear hv hP hbt hg))
  obtain ⟨w3, hw3, L3⟩ := LF0.out.name
  rw [hw3]
  obtain ⟨X, hXs⟩ : ∃ X, w2.heap.size = X := ⟨_, rfl⟩
  rw [hXs] at L3 ⊢
  have L := hid L3
  have Vd := hid (plotErr_zero.1 HV.out)
  clear hw3 L3 LF0 HBt HBl HX hXs hn hpl hql hsz d0
  have y0 := L.out.c0
  have y1 := L.out.c1
  have y2 := L.out.c2
  have y3 := L.out.c3
  go_wp2_with fail
  refine (cwrite_any p _ _ _ _ _ L.out.any (HE.out.go L.out.below).tab).mono ?_
  rw [HV.out, show sheetRes p = sheetL p from by unfold sheetRes; rw [if_pos HV.out]]
  rintro e w4 ⟨rfl, hb⟩
  have L := hid (L.out.later hb)
  clear hb y0 y1 y2 y3
  have HSl := hid (sheet_len Vd.out)
  go_wp2_with fail
  have hrd := read_any (sheetL p) w4 (HE.out.go L.out.below)
  unfold ReadPost at hrd
  rw [read_sheet Vd.out] at hrd
  refine hrd.mono ?_
  rintro e w5 ⟨up, uw, ud, uq, rfl, hown, hb⟩
  obtain ⟨bp, kp, rfl⟩ := hown.persons.form
  obtain ⟨bw, kw, rfl⟩ := hown.wform
  obtain ⟨bd, kd, rfl⟩ := hown.dress.form
  obtain ⟨bq, kq, rfl⟩ := hown.parts.form
  have L := hid (L.out.later hb)
  have HO := hid hown
  clear hrd hb hown
  dsimp only
  have L6 := hid (L.out.later (below_alloc w5 (.cells #[.slice bp p.persons.length kp, .slice bw p.walk.length kw, .slice bd p.dress.length kd, .slice bq p.parts.length kq] 27)))
  have HO6 := hid (HO.out.later (below_alloc w5 (.cells #[.slice bp p.persons.length kp, .slice bw p.walk.length kw, .slice bd p.dress.length kd, .slice bq p.parts.length kq] 27)))
  have hb6 := heap_alloc_new w5 (.cells #[.slice bp p.persons.length kp, .slice bw p.walk.length kw, .slice bd p.dress.length kd, .slice bq p.parts.length kq] 27)
  obtain ⟨w6, hw6⟩ : ∃ w6, w5.alloc (.cells #[.slice bp p.persons.length kp, .slice bw p.walk.length kw, .slice bd p.dress.length kd, .slice bq p.parts.length kq] 27) = w6 := ⟨_, rfl⟩
  rw [hw6] at L6 HO6 hb6
  have y0 := L6.out.c0
  have y1 := L6.out.c1
  have y2 := L6.out.c2
  have y3 := L6.out.c3
  have z0 : w6.cell? ⟨w5.heap.size, 0, none⟩ = some (.slice bp p.persons.length kp) := by rw [Lib.cell_of_heap hb6]; rfl
  have z1 : w6.cell? ⟨w5.heap.size, 1, none⟩ = some (.slice bw p.walk.length kw) := by rw [Lib.cell_of_heap hb6]; rfl
  have z2 : w6.cell? ⟨w5.heap.size, 2, none⟩ = some (.slice bd p.dress.length kd) := by rw [Lib.cell_of_heap hb6]; rfl
  have z3 : w6.cell? ⟨w5.heap.size, 3, none⟩ = some (.slice bq p.parts.length kq) := by rw [Lib.cell_of_heap hb6]; rfl
  have HN := hid (PlotN.ofV Vd.out)
  clear hb6 L HO
  go_wp2_with fail
  refine (eqPlots_same p _ _ _ _ _ _ _ _ _ none w6 L6.out.plot (HO6.out.at (by simp)) HN.out).mono ?_
  rintro e w7 ⟨rfl, hb⟩
  have HB := hid (L6.out.later hb).below
  clear hb y0 y1 y2 y3 z0 z1 z2 z3 hw6 L6 HO6
  go_wp2_with fail
  refine (HRd.out w7 (HE.out.go HB.out)).mono ?_
  rintro e w8 ⟨up, uw, ud, uq, rfl, hown, hb⟩
  obtain ⟨ep, jp, rfl⟩ := hown.persons.form
  obtain ⟨ew, jw, rfl⟩ := hown.wform
  obtain ⟨ed, jd, rfl⟩ := hown.dress.form
  obtain ⟨eq, jq, rfl⟩ := hown.parts.form
  have HB := hid (below_trans HB.out hb)
  have hbo := below_alloc w8 (.cells #[.slice ep x.persons.length jp, .slice ew x.walk.length jw, .slice ed x.dress.length jd, .slice eq x.parts.length jq] 27)
  have HO := hid (hown.later hbo)
  have hb9 := heap_alloc_new w8 (.cells #[.slice ep x.persons.length jp, .slice ew x.walk.length jw, .slice ed x.dress.length jd, .slice eq x.parts.length jq] 27)
  obtain ⟨w9, hw9⟩ : ∃ w9, w8.alloc (.cells #[.slice ep x.persons.length jp, .slice ew x.walk.length jw, .slice ed x.dress.length jd, .slice eq x.parts.length jq] 27) = w9 := ⟨_, rfl⟩
  rw [hw9] at hbo HO hb9
  have HB := hid (below_trans HB.out hbo)
  have z0 : w9.cell? ⟨w8.heap.size, 0, none⟩ = some (.slice ep x.persons.length jp) := by rw [Lib.cell_of_heap hb9]; rfl
  have z1 : w9.cell? ⟨w8.heap.size, 1, none⟩ = some (.slice ew x.walk.length jw) := by rw [Lib.cell_of_heap hb9]; rfl
  have z2 : w9.cell? ⟨w8.heap.size, 2, none⟩ = some (.slice ed x.dress.length jd) := by rw [Lib.cell_of_heap hb9]; rfl
  have z3 : w9.cell? ⟨w8.heap.size, 3, none⟩ = some (.slice eq x.parts.length jq) := by rw [Lib.cell_of_heap hb9]; rfl
  clear hown hb hbo hb9 HRd
  by_cases hg : g = 0
  · obtain ⟨hr0, hpe, hsh⟩ := HRB.out hg
    subst hg
    have hsr : sheetRes x = text := by unfold sheetRes; rw [if_pos hpe, hsh]
    have hw := cwrite_any x _ _ _ _ w9 (HO.out.at (d := none) (by simp)) (HE.out.go HB.out).tab
    rw [hpe, hsr] at hw
    have HW := hid hw
    clear hr0 hpe hsh hsr hw HRB HBad
    go_wp2_with (first
      | (go_at_call 9; refine HW.out.mono ?_; rintro e w10 ⟨rfl, hb⟩; have HB := hid (below_trans HB.out hb); clear hb z0 z1 z2 z3)
      | (go_at_call 6; refine (AW.out _).mono ?_; rintro e w11 ⟨rfl, hb⟩; have HB := hid (below_trans HB.out hb); clear hb))
    go_ret
    exact ⟨rfl, HB.out⟩
  · have hx := HBad.out hg
    have hx0 : x.persons.length = 0 := by rw [hx]; rfl
    rw [hx0] at z0
    obtain ⟨g1, g2⟩ := ne_bool hg
    clear hx hx0 HRB HBad hg
    go_wp2_with (go_at_call 6; refine (AW.out _).mono ?_; rintro e w11 ⟨rfl, hb⟩; have HB := hid (below_trans HB.out hb); clear hb)
    go_ret
    exact ⟨rfl, HB.out⟩
end Go.Proofs.YtoipcbmbhjajfaaGreatDoor
