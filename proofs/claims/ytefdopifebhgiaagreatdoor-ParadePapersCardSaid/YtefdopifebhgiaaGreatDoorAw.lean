/-
  WALKS: long, span, rules, samba, awake.
-/
import Derived.Test.YtefdopifebhgiaaGreatDoorKss
import Derived.Test.YtefdopifebhgiaaGreatDoorPWh
import Derived.Test.YtefdopifebhgiaaGreatDoorPLs
namespace Go.Proofs.YtefdopifebhgiaaGreatDoor
open Go.RowKit

set_option maxHeartbeats 1000000 in
set_option maxRecDepth 100000 in
theorem span_any (a b : Int) (w : World) :
    Calls Tryz.prog 21 #[.int .i64 a, .int .i64 b] w fun e w' => e = .returned (.agg #[.int .i64 a, .int .i64 b]) ∧ Below w.heap.size w w' := by
  go_enter Tryz.func21, Tryz.ntmps21
  go_wp2
  refine bodyPost_ret (v := .agg #[.int .i64 a, .int .i64 b]) (by simp [results, Tryz.results21, go_sem]) rfl ⟨rfl, ?_⟩
  exact (Below.refl _ w).alloc (Nat.le_refl _) _

set_option maxHeartbeats 1000000 in
set_option maxRecDepth 100000 in
theorem rules_any (w : World) :
    Calls Tryz.prog 19 #[] w fun e w' => e = .returned (.agg #[.int .i64 30, .int .i64 60, .int .i64 150]) ∧ Below w.heap.size w w' := by
  go_enter Tryz.func19, Tryz.ntmps19
  go_wp2
  refine bodyPost_ret (v := .agg #[.int .i64 30, .int .i64 60, .int .i64 150]) (by simp [results, Tryz.results19, go_sem]) rfl ⟨rfl, ?_⟩
  exact (Below.refl _ w).alloc (Nat.le_refl _) _

/-- the school of the chapter's examples -/
def sambaW : List Wing := [⟨kitName 0, 100, 40, 50⟩, ⟨kitName 1, 200, 50, 60⟩, ⟨kitName 7, 100, 30, 50⟩]

set_option maxHeartbeats 1000000 in
set_option maxRecDepth 100000 in
theorem samba_any (w : World) :
    Calls Tryz.prog 16 #[] w fun e w' => ∃ v, e = .returned (.agg #[.int .i64 1000, v]) ∧ WgAt none w' v sambaW ∧ Below w.heap.size w w' := by
  have b0 := hid ((Below.refl _ w).alloc (Nat.le_refl _) (.cells #[.int .i64 0, .slice none 0 0] 24))
  have c0 : (w.alloc (.cells #[.int .i64 0, .slice none 0 0] 24)).cell? ⟨w.heap.size, 0, none⟩ = some (.int .i64 0) := cell_at rfl rfl
  have c1 : (w.alloc (.cells #[.int .i64 0, .slice none 0 0] 24)).cell? ⟨w.heap.size, 1, none⟩ = some (.slice none 0 0) := cell_at rfl rfl
  have f0 : (w.alloc (.cells #[.int .i64 0, .slice none 0 0] 24)).frozen? ⟨w.heap.size, 0, none⟩ = false := frozen_at rfl
  have f1 : (w.alloc (.cells #[.int .i64 0, .slice none 0 0] 24)).frozen? ⟨w.heap.size, 1, none⟩ = false := frozen_at rfl
  have hsz : w.heap.size < (w.alloc (.cells #[.int .i64 0, .slice none 0 0] 24)).heap.size := by simp
  go_enter Tryz.func16, Tryz.ntmps16
  go_wp2_with (go_at_call 21; refine (span_any _ _ _).mono ?_; rintro e w1 ⟨rfl, hb⟩; have c0 := cell_back hb hsz c0; have c1 := cell_back hb hsz c1; have f0 := (hb.frozen (p := ⟨w.heap.size, 0, none⟩) hsz).trans f0; have f1 := (hb.frozen (p := ⟨w.heap.size, 1, none⟩) hsz).trans f1; have hsz := Nat.lt_of_lt_of_le hsz hb.size; have b0 := hid (b0.out.trans (hb.mono (by omega))); clear hb)
  refine bodyPost_ret (v := .agg #[.int .i64 1000, .slice (some ⟨w1.heap.size, 0, none⟩) 3 3]) (by simp [results, Tryz.results16, go_sem, c0, c1, hsz, World.cell?_alloc_past, World.cell?_setCell_same]) rfl ⟨_, rfl, ?_, ?_⟩
  · refine ⟨_, 3, rfl, fun _ => ⟨w1.heap.size, 0, rfl, by decide, by decide, by simp, by simp, fun i hi => ?_⟩⟩
    match i, hi with
    | 0, _ => exact ⟨cell_at (by simp) rfl, cell_at (by simp) rfl, cell_at (by simp) rfl, cell_at (by simp) rfl⟩
    | 1, _ => exact ⟨cell_at (by simp) rfl, cell_at (by simp) rfl, cell_at (by simp) rfl, cell_at (by simp) rfl⟩
    | 2, _ => exact ⟨cell_at (by simp) rfl, cell_at (by simp) rfl, cell_at (by simp) rfl, cell_at (by simp) rfl⟩
  · exact ((b0.out.setCell (p := ⟨w.heap.size, 0, none⟩) (by simp) _).setCell (p := ⟨w.heap.size, 1, none⟩) (by simp) _).alloc (by simp; omega) _

theorem samba_least : leastErr 1000 sambaW = 0 ∧ leastRes 1000 sambaW = [0, 3, 8] := by decide +kernel
theorem samba_where : whereSpan 1000 sambaW [0, 3, 8] 1 10 = (300, 400) ∧ askedErr 1000 sambaW [0, 3, 8] 1 10 = 0 := by decide +kernel
theorem samba_lasts : lastsRes 1000 sambaW [0, 3, 8] 30 60 150 = (1, 30, 45) ∧ bothErr 1000 sambaW [0, 3, 8] 30 60 150 = 0 := by decide +kernel
theorem samba_names : ∀ i, i < sambaW.length → (wg sambaW i).name.size ≤ 1000000 := by decide

/-- block X holds two numbers -/
def Two (X : Nat) (a b : Int) (w : World) : Prop := w.cell? ⟨X, 0, none⟩ = some (.int .i64 a) ∧ w.cell? ⟨X, 1, none⟩ = some (.int .i64 b)
theorem Two.below {X : Nat} {a b : Int} {w w' : World} (h : Two X a b w) (hb : Below w.heap.size w w') : Two X a b w' := by
  have hlt := World.block_lt_of_cell? w ⟨X, 0, none⟩ h.1
  exact ⟨cell_back hb hlt h.1, cell_back hb hlt h.2⟩
theorem Two.new (a b : Int) (w : World) (t : TypeId) : Two w.heap.size a b (w.alloc (.cells #[.int .i64 a, .int .i64 b] t)) := ⟨cell_at rfl rfl, cell_at rfl rfl⟩
theorem Two.alloc {X : Nat} {a b : Int} {w : World} (h : Two X a b w) (Y : Obj) : Two X a b (w.alloc Y) := h.below ((Below.refl _ w).alloc (Nat.le_refl _) Y)

theorem ints_038 (w : World) : IntsAt none (w.alloc (.cells #[.int .i64 0, .int .i64 3, .int .i64 8] 3)) (.slice (some ⟨w.heap.size, 0, none⟩) 3 3) [0, 3, 8] :=
  ⟨_, _, rfl, fun _ => ⟨_, _, rfl, by simp, by unfold maxLen; omega, by simp, by simp, fun i hi => by
    match i, hi with
    | 0, _ => exact cell_at rfl rfl
    | 1, _ => exact cell_at rfl rfl
    | 2, _ => exact cell_at rfl rfl⟩⟩

theorem ints_038' (w : World) (n : Nat) (hn : n = w.heap.size) : IntsAt none (w.alloc (.cells #[.int .i64 0, .int .i64 3, .int .i64 8] 3)) (.slice (some ⟨n, 0, none⟩) 3 3) [0, 3, 8] := by subst hn; exact ints_038 w
set_option maxHeartbeats 4000000 in
set_option maxRecDepth 100000 in
theorem awake_any (w : World) : Calls Tryz.prog 6 #[] w fun e w' => e = .returned (.bool true) ∧ Below w.heap.size w w' := by
  go_enter Tryz.func6, Tryz.ntmps6
  go_wp2_with fail
  refine (samba_any _).mono ?_
  rintro e w1 ⟨v1, rfl, hW1, hb1⟩
  go_wp2_with fail
  refine (pleasts_any sambaW 1000 v1 w1 hW1 (by decide) samba_names).mono ?_
  rintro e w2 ⟨vl, rfl, hl, hb2⟩
  rw [samba_least.1]
  rw [samba_least.2] at hl
  have L := hid (OwnInts.at hl (d := none) (by simp))
  have B := hid (below_trans hb1 hb2)
  clear hb1 hb2 hW1 hl
  go_wp2_with fail
  refine (samba_any _).mono ?_
  rintro e w3 ⟨v3, rfl, hW3, hb3⟩
  have L := hid (L.out.below hb3)
  have B := hid (below_trans B.out hb3)
  clear hb3
  go_wp2_with fail
  refine (where_any sambaW [0, 3, 8] 1000 1 10 v3 _ _ (hW3.below (below_alloc _ _)) (ints_038 _) (by decide) samba_names (by decide)).mono ?_
  rintro e w4 ⟨rfl, hb4⟩
  rw [samba_where.1, samba_where.2]
  have hb4 := below_trans (below_alloc _ _) hb4
  have L := hid (L.out.below hb4)
  have B := hid (below_trans B.out hb4)
  clear hb4 hW3
  go_wp2_with fail
  have X := hid (Two.new 300 400 w4 43)
  have L := hid (L.out.below (below_alloc w4 (.cells #[.int .i64 300, .int .i64 400] 43)))
  have B := hid (below_trans B.out (below_alloc w4 (.cells #[.int .i64 300, .int .i64 400] 43)))
  refine (samba_any _).mono ?_
  rintro e w5 ⟨v5, rfl, hW5, hb5⟩
  have X := hid (X.out.below hb5)
  have L := hid (L.out.below hb5)
  have B := hid (below_trans B.out hb5)
  clear hb5
  go_wp2_with fail
  have W5 := hid (hW5.below (below_alloc w5 (.cells #[.int .i64 0, .int .i64 3, .int .i64 8] 3)))
  have X := hid (X.out.alloc (.cells #[.int .i64 0, .int .i64 3, .int .i64 8] 3))
  have L := hid (L.out.below (below_alloc w5 (.cells #[.int .i64 0, .int .i64 3, .int .i64 8] 3)))
  have B := hid (below_trans B.out (below_alloc w5 (.cells #[.int .i64 0, .int .i64 3, .int .i64 8] 3)))
  have S := hid (ints_038 w5)
  refine (rules_any _).mono ?_
  rintro e w6 ⟨rfl, hb6⟩
  have X := hid (X.out.below hb6)
  have L := hid (L.out.below hb6)
  have B := hid (below_trans B.out hb6)
  have S := hid (S.out.below hb6)
  have W5 := hid (W5.out.below hb6)
  clear hb6
  go_wp2_with fail
  refine (pLasts_any sambaW [0, 3, 8] 1000 30 60 150 v5 _ _ W5.out S.out (by decide) samba_names (by decide)).mono ?_
  rintro e w7 ⟨rfl, hb7⟩
  rw [samba_lasts.1, samba_lasts.2]
  have X := hid (X.out.below hb7)
  have L := hid (L.out.below hb7)
  have B := hid (below_trans B.out hb7)
  clear hb7 S W5
  have Y := hid (Two.new 30 45 w7 43)
  have X := hid (X.out.alloc (.cells #[.int .i64 30, .int .i64 45] 43))
  have L := hid (L.out.below (below_alloc w7 (.cells #[.int .i64 30, .int .i64 45] 43)))
  have B := hid (below_trans B.out (below_alloc w7 (.cells #[.int .i64 30, .int .i64 45] 43)))
  dsimp only
  go_wp2_with fail
  have X := hid (X.out.below (Below.refl _ _).drew)
  have Y := hid (Y.out.below (Below.refl _ _).drew)
  have L := hid (L.out.below (Below.refl _ _).drew)
  have B := hid B.out.drew
  go_region_held3 (fun w' => w'.cell? ⟨w4.heap.size, 0, none⟩ = some (.int .i64 300) ∧ w'.cell? ⟨w4.heap.size, 1, none⟩ = some (.int .i64 400) ∧ w'.cell? ⟨w7.heap.size, 0, none⟩ = some (.int .i64 30) ∧ w'.cell? ⟨w7.heap.size, 1, none⟩ = some (.int .i64 45))
    (first | exact ⟨X.out.1, X.out.2, Y.out.1, Y.out.2⟩ | exact ⟨(X.out.alloc _).1, (X.out.alloc _).2, (Y.out.alloc _).1, (Y.out.alloc _).2⟩) (first
    | (go_at_call 20; refine (eqInts_same [0, 3, 8] _ _ none none _ (L.out.below (below_alloc _ _)) (ints_038' _ _ (by simp)) (by decide)).mono ?_; rintro e w8 ⟨rfl, hb8⟩; have hb8 := below_trans (below_alloc _ _) hb8; have X := hid (X.out.below hb8); have Y := hid (Y.out.below hb8); have B := hid (below_trans B.out hb8); clear hb8)
    | (go_at_call 21; refine (span_any _ _ _).mono ?_; rintro e w8 ⟨rfl, hb8⟩; have X := hid (X.out.below hb8); have Y := hid (Y.out.below hb8); have B := hid (below_trans B.out hb8); clear hb8))
  all_goals (
    go_wp2
    go_ret
    exact ⟨rfl, B.out⟩)
end Go.Proofs.YtefdopifebhgiaaGreatDoor
