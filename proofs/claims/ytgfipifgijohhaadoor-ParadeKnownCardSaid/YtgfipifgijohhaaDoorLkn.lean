/-
  WALKS: ParadeKnown: planned, gapped, the chapter's examples.
-/
import Derived.Test.YtgfipifgijohhaaDoorKno
import Derived.Test.YtgfipifgijohhaaDoorPlp
import Derived.Test.YtgfipifgijohhaaDoorWri
namespace Go.Proofs.YtgfipifgijohhaaDoor
open Go.RowKit

/-- block X holds three numbers -/
structure Three (X : Nat) (a b c : Int) (w : World) : Prop where
  c0 : w.cell? ⟨X, 0, none⟩ = some (.int .i64 a)
  c1 : w.cell? ⟨X, 1, none⟩ = some (.int .i64 b)
  c2 : w.cell? ⟨X, 2, none⟩ = some (.int .i64 c)
theorem Three.below {X : Nat} {a b c : Int} {w w' : World} (h : Three X a b c w) (hb : Below w.heap.size w w') : Three X a b c w' := by
  have hlt := World.block_lt_of_cell? w ⟨X, 0, none⟩ h.c0
  exact ⟨cell_back hb hlt h.c0, cell_back hb hlt h.c1, cell_back hb hlt h.c2⟩
theorem Tab.below {w w' : World} (h : Tab w) (hb : Below w.heap.size w w') : Tab w' := h.base (Nat.le_refl _) hb
theorem ints_litk (w : World) (xs : List Int) (n : Nat) (hn : n = w.heap.size) (hl : xs.length ≤ 1000) : IntsAt none (w.alloc (.cells (xs.map (Value.int .i64)).toArray 3)) (.slice (some ⟨n, 0, none⟩) xs.length xs.length) xs := by
  subst hn
  refine ⟨_, _, rfl, fun _ => ⟨_, _, rfl, Nat.le_refl _, by unfold maxLen; omega, by simp, by simp, fun i hi => cell_at rfl ?_⟩⟩
  simp [nm, List.getD_eq_getElem?_getD, List.getElem?_eq_getElem hi]
theorem ints_lit3 (w : World) (x y z : Int) (n : Nat) (hn : n = w.heap.size) : IntsAt none (w.alloc (.cells #[.int .i64 x, .int .i64 y, .int .i64 z] 3)) (.slice (some ⟨n, 0, none⟩) 3 3) [x, y, z] := ints_litk w [x, y, z] n hn (by simp)
theorem known_text : (writeRes 1000 sambaW).toArray = #[97, 118, 101, 110, 117, 101, 32, 49, 48, 48, 48, 10, 119, 105, 110, 103, 32, 102, 114, 111, 110, 116, 32, 49, 48, 48, 32, 52, 48, 32, 53, 48, 10, 119, 105, 110, 103, 32, 100, 114, 117, 109, 115, 32, 50, 48, 48, 32, 53, 48, 32, 54, 48, 10, 119, 105, 110, 103, 32, 98, 97, 99, 107, 32, 49, 48, 48, 32, 51, 48, 32, 53, 48, 10, 101, 110, 100, 32, 51, 10] := by decide +kernel

set_option maxHeartbeats 4000000 in
set_option maxRecDepth 100000 in
theorem planned_any (w : World) (ht : Tab w) : Calls Tryd.prog 69 #[] w fun e w' => e = .returned (.bool true) ∧ Below w.heap.size w w' := by
  have HT := hid ht
  clear ht
  go_enter Tryd.func69, Tryd.ntmps69
  go_wp2_with fail
  refine (rules_any _).mono ?_
  rintro e w1 ⟨rfl, hb1⟩
  go_wp2_with fail
  refine (rules_any _).mono ?_
  rintro e w2 ⟨rfl, hb2⟩
  have B := hid (below_trans hb1 hb2)
  clear hb1 hb2
  go_wp2_with fail
  have BA := hid ((below_alloc w2 (.cells #[.int .i64 31, .int .i64 60, .int .i64 150] 50)).trans ((below_alloc _ (.cells #[.int .i64 30, .int .i64 44, .int .i64 150] 50)).mono (by simp)))
  have X1 := hid (show Three w2.heap.size 31 60 150 ((w2.alloc (.cells #[.int .i64 31, .int .i64 60, .int .i64 150] 50)).alloc (.cells #[.int .i64 30, .int .i64 44, .int .i64 150] 50)) from ⟨cell_up (cell_at rfl rfl), cell_up (cell_at rfl rfl), cell_up (cell_at rfl rfl)⟩)
  have X2 := hid (show Three (w2.heap.size + 1) 30 44 150 ((w2.alloc (.cells #[.int .i64 31, .int .i64 60, .int .i64 150] 50)).alloc (.cells #[.int .i64 30, .int .i64 44, .int .i64 150] 50)) from ⟨cell_at (by simp) rfl, cell_at (by simp) rfl, cell_at (by simp) rfl⟩)
  have B := hid (below_trans B.out BA.out)
  clear BA
  refine (samba_any _).mono ?_
  rintro e w3 ⟨v3, rfl, hW3, hb⟩
  have X1 := hid (X1.out.below hb)
  have X2 := hid (X2.out.below hb)
  have B := hid (below_trans B.out hb)
  clear hb
  go_wp2_with fail
  refine (rules_any _).mono ?_
  rintro e w4 ⟨rfl, hb⟩
  have X1 := hid (X1.out.below hb)
  have X2 := hid (X2.out.below hb)
  have B := hid (below_trans B.out hb)
  have hW4 := hW3.below hb
  clear hb hW3
  go_wp2_with fail
  refine (pPlan_any sambaW 1000 30 60 150 v3 w4 hW4 (by decide) samba_names).mono ?_
  rintro e w5 ⟨va, rfl, hl, hb⟩
  rw [known_plan0.1] at hl ⊢
  rw [known_plan0.2]
  have X1 := hid (X1.out.below hb)
  have X2 := hid (X2.out.below hb)
  have B := hid (below_trans B.out hb)
  have LA := hid (OwnInts.at hl (d := none) (by simp))
  clear hb hl hW4
  dsimp only
  go_wp2_with fail
  have X1 := hid (X1.out.below (Below.refl _ _).drew)
  have X2 := hid (X2.out.below (Below.refl _ _).drew)
  have LA := hid (LA.out.below (Below.refl _ _).drew)
  have B := hid B.out.drew
  go_region_held3 (fun w' => w'.cell? ⟨w2.heap.size, 0, none⟩ = some (.int .i64 31) ∧ w'.cell? ⟨w2.heap.size, 1, none⟩ = some (.int .i64 60) ∧ w'.cell? ⟨w2.heap.size, 2, none⟩ = some (.int .i64 150))
    (exact ⟨X1.out.c0, X1.out.c1, X1.out.c2⟩) (first
    | (go_at_call 65; refine (samba_any _).mono ?_; rintro e w6 ⟨v6, rfl, hW, hb⟩; have X1 := hid (X1.out.below hb); have X2 := hid (X2.out.below hb); have LA := hid (LA.out.below hb); have B := hid (below_trans B.out hb); have W6 := hid hW; clear hb hW)
    | (go_at_call 62; refine (pPlan_any sambaW 1000 31 60 150 _ _ W6.out (by decide) samba_names).mono ?_; rintro e w7 ⟨vb, rfl, hl, hb⟩; (rw [known_plan1.1] at hl ⊢); rw [known_plan1.2]; have X1 := hid (X1.out.below hb); have X2 := hid (X2.out.below hb); have LA := hid (LA.out.below hb); have B := hid (below_trans B.out hb); have LB := hid (OwnInts.at hl (d := none) (by simp)); clear hb hl; dsimp only))
  go_wp2_with fail
  have X2 := hid (X2.out.below (Below.refl _ _).drew)
  have LA := hid (LA.out.below (Below.refl _ _).drew)
  have LB := hid (LB.out.below (Below.refl _ _).drew)
  have B := hid B.out.drew
  clear X1 W6
  go_region_held3 (fun w' => w'.cell? ⟨w2.heap.size + 1, 0, none⟩ = some (.int .i64 30) ∧ w'.cell? ⟨w2.heap.size + 1, 1, none⟩ = some (.int .i64 44) ∧ w'.cell? ⟨w2.heap.size + 1, 2, none⟩ = some (.int .i64 150))
    (exact ⟨X2.out.c0, X2.out.c1, X2.out.c2⟩) (first
    | (go_at_call 65; refine (samba_any _).mono ?_; rintro e w8 ⟨v8, rfl, hW, hb⟩; have X2 := hid (X2.out.below hb); have LA := hid (LA.out.below hb); have LB := hid (LB.out.below hb); have B := hid (below_trans B.out hb); have W8 := hid hW; clear hb hW)
    | (go_at_call 62; refine (pPlan_any sambaW 1000 30 44 150 _ _ W8.out (by decide) samba_names).mono ?_; rintro e w9 ⟨vc, rfl, hl, hb⟩; rw [known_plan2]; have X2 := hid (X2.out.below hb); have LA := hid (LA.out.below hb); have LB := hid (LB.out.below hb); have B := hid (below_trans B.out hb); clear hb hl; dsimp only))
  go_wp2_with fail
  refine (samba_any _).mono ?_
  rintro e w10 ⟨v10, rfl, hW, hb⟩
  have LA := hid (LA.out.below hb)
  have LB := hid (LB.out.below hb)
  have B := hid (below_trans B.out hb)
  clear hb
  go_wp2_with fail
  refine (pwrite_any sambaW 1000 v10 w10 hW (by decide) samba_names (HT.out.below B.out)).mono ?_
  rintro e w11 ⟨rfl, hb⟩
  obtain ⟨tx, htx⟩ : ∃ tx : ByteArray, (⟨(writeRes 1000 sambaW).toArray⟩ : ByteArray) = tx := ⟨_, rfl⟩
  rw [htx, known_check.1]
  have Htx := hid htx
  clear htx
  have LA := hid (LA.out.below hb)
  have LB := hid (LB.out.below hb)
  have B := hid (below_trans B.out hb)
  clear hb hW
  dsimp only
  go_wp2_with fail
  refine (eqInts_same [0, 3, 8] _ _ none none _ (LA.out.below (below_alloc _ _)) (ints_lit3 _ 0 3 8 _ rfl) (by decide)).mono ?_
  rintro e w12 ⟨rfl, hb⟩
  have hb := below_trans (below_alloc _ _) hb
  have LB := hid (LB.out.below hb)
  have B := hid (below_trans B.out hb)
  clear hb LA
  go_wp2_with fail
  refine (eqInts_same [0, 3, 9] _ _ none none _ (LB.out.below (below_alloc _ _)) (ints_lit3 _ 0 3 9 _ rfl) (by decide)).mono ?_
  rintro e w13 ⟨rfl, hb⟩
  have hb := below_trans (below_alloc _ _) hb
  have B := hid (below_trans B.out hb)
  clear hb LB
  go_wp2_with fail
  go_ret
  refine ⟨?_, B.out⟩
  rw [← Htx.out]
  exact congrArg (fun b => Ending.returned (Value.bool b)) (by decide +kernel)

/-- block X holds two cells that may be written -/
structure Bx (X : Nat) (a b : Value) (w : World) : Prop where
  c0 : w.cell? ⟨X, 0, none⟩ = some a
  c1 : w.cell? ⟨X, 1, none⟩ = some b
  f0 : w.frozen? ⟨X, 0, none⟩ = false
  f1 : w.frozen? ⟨X, 1, none⟩ = false
theorem Bx.lt {X : Nat} {a b : Value} {w : World} (h : Bx X a b w) : X < w.heap.size := World.block_lt_of_cell? w ⟨X, 0, none⟩ h.c0
theorem Bx.below {X : Nat} {a b : Value} {w w' : World} (h : Bx X a b w) (hb : Below w.heap.size w w') : Bx X a b w' :=
  ⟨cell_back hb h.lt h.c0, cell_back hb h.lt h.c1, (hb.frozen (p := ⟨X, 0, none⟩) h.lt).trans h.f0, (hb.frozen (p := ⟨X, 1, none⟩) h.lt).trans h.f1⟩
theorem Bx.new (a b : Value) (w : World) (t : TypeId) : Bx w.heap.size a b (w.alloc (.cells #[a, b] t)) := ⟨cell_at rfl rfl, cell_at rfl rfl, frozen_at rfl, frozen_at rfl⟩
theorem Bx.put {X : Nat} {a b : Value} {w : World} (h : Bx X a b w) (a' b' : Value) : Bx X a' b' ((w.setCell ⟨X, 0, none⟩ a').setCell ⟨X, 1, none⟩ b') := by
  have e0 : ((w.setCell ⟨X, 0, none⟩ a').setCell ⟨X, 1, none⟩ b').cell? ⟨X, 0, none⟩ = some a' :=
    (World.cell?_setCell_other _ _ _ _ (by intro e; cases e)).trans (World.cell?_setCell_same _ _ _ h.c0)
  have e1 : ((w.setCell ⟨X, 0, none⟩ a').setCell ⟨X, 1, none⟩ b').cell? ⟨X, 1, none⟩ = some b' :=
    World.cell?_setCell_same _ _ _ ((World.cell?_setCell_other _ _ _ _ (by intro e; cases e)).trans h.c1)
  exact ⟨e0, e1, (World.frozen?_setCell _ _ _ _).trans ((World.frozen?_setCell _ _ _ _).trans h.f0), (World.frozen?_setCell _ _ _ _).trans ((World.frozen?_setCell _ _ _ _).trans h.f1)⟩

theorem gap_rows : ∀ k, k < 3 → gapSpan 1000 sambaW [0, 3, 8] (nm [1, 1, 2] k) (nm [3, 5, 20] k) = (nm [20, 0, 0] k, nm [50, 50, 340] k) ∧ gapErr 1000 sambaW [0, 3, 8] (nm [1, 1, 2] k) (nm [3, 5, 20] k) = 0 := by
  intro k hk
  rcases (by omega : k = 0 ∨ k = 1 ∨ k = 2) with rfl | rfl | rfl
  · exact known_gap0
  · exact known_gap1
  · exact known_gap2

def rowAt (xs : List (List Int)) (i : Nat) : List Int := xs.getD i []
theorem opens_rows : ∀ k, k < 3 → opensRes 1000 sambaW [0, 3, 8] 30 60 (nm [150, 15, 440] k) = (rowAt [[2, 2, 3], [2, 1, 1], [2, 2, 2]] k, 0) := by
  intro k hk
  rcases (by omega : k = 0 ∨ k = 1 ∨ k = 2) with rfl | rfl | rfl
  · exact known_opens0
  · exact known_opens1
  · exact known_opens2
theorem rows_small : ∀ k, k < 3 → (rowAt [[2, 2, 3], [2, 1, 1], [2, 2, 2]] k).length = 3 := by
  intro k hk
  rcases (by omega : k = 0 ∨ k = 1 ∨ k = 2) with rfl | rfl | rfl <;> rfl

set_option maxHeartbeats 8000000 in
set_option maxRecDepth 100000 in
theorem gapped_any (w : World) : Calls Tryd.prog 68 #[] w fun e w' => e = .returned (.bool true) ∧ Below w.heap.size w w' := by
  go_enter Tryd.func68, Tryd.ntmps68
  go_wp2_with fail
  have A3 := hid ((below_alloc w (.cells #[.int .i64 0, .int .i64 3, .int .i64 8] 3)).trans ((below_alloc _ (.cells #[.int .i64 1, .int .i64 1, .int .i64 2] 3)).mono (by simp)) |>.trans ((below_alloc _ (.cells #[.int .i64 3, .int .i64 5, .int .i64 20] 3)).mono (by simp; omega)))
  have I1 := hid (((ints_lit3 w 0 3 8 _ rfl).below (below_alloc _ (.cells #[.int .i64 1, .int .i64 1, .int .i64 2] 3))).below (below_alloc _ (.cells #[.int .i64 3, .int .i64 5, .int .i64 20] 3)))
  have I2 := hid ((ints_lit3 (w.alloc (.cells #[.int .i64 0, .int .i64 3, .int .i64 8] 3)) 1 1 2 (w.heap.size + 1) (by simp)).below (below_alloc _ (.cells #[.int .i64 3, .int .i64 5, .int .i64 20] 3)))
  have I3 := hid (ints_lit3 ((w.alloc (.cells #[.int .i64 0, .int .i64 3, .int .i64 8] 3)).alloc (.cells #[.int .i64 1, .int .i64 1, .int .i64 2] 3)) 3 5 20 (w.heap.size + 1 + 1) (by simp))
  refine (span_any 20 50 _).mono ?_
  rintro e w1 ⟨rfl, hb⟩
  have I1 := hid (I1.out.below hb)
  have I2 := hid (I2.out.below hb)
  have I3 := hid (I3.out.below hb)
  have A3 := hid (below_trans A3.out hb)
  clear hb
  go_wp2_with fail
  refine (span_any 0 50 _).mono ?_
  rintro e w2 ⟨rfl, hb⟩
  have I1 := hid (I1.out.below hb)
  have I2 := hid (I2.out.below hb)
  have I3 := hid (I3.out.below hb)
  have A3 := hid (below_trans A3.out hb)
  clear hb
  go_wp2_with fail
  refine (span_any 0 340 _).mono ?_
  rintro e w3 ⟨rfl, hb⟩
  have I1 := hid (I1.out.below hb)
  have I2 := hid (I2.out.below hb)
  have I3 := hid (I3.out.below hb)
  have A3 := hid (below_trans A3.out hb)
  clear hb
  go_wp2_with fail
  have hd : ∀ k, k < 3 → (w3.alloc (.cells #[.int .i64 20, .int .i64 50, .int .i64 0, .int .i64 50, .int .i64 0, .int .i64 340] 27)).cell? ⟨w3.heap.size, k * 2, none⟩ = some (.int .i64 (nm [20, 0, 0] k)) ∧ (w3.alloc (.cells #[.int .i64 20, .int .i64 50, .int .i64 0, .int .i64 50, .int .i64 0, .int .i64 340] 27)).cell? ⟨w3.heap.size, k * 2 + 1, none⟩ = some (.int .i64 (nm [50, 50, 340] k)) := fun k hk => by
    rcases (by omega : k = 0 ∨ k = 1 ∨ k = 2) with rfl | rfl | rfl <;> exact ⟨cell_at rfl rfl, cell_at rfl rfl⟩
  have Hd := hid hd
  have bl := below_alloc w3 (.cells #[.int .i64 20, .int .i64 50, .int .i64 0, .int .i64 50, .int .i64 0, .int .i64 340] 27)
  have I1 := hid (I1.out.below bl)
  have I2 := hid (I2.out.below bl)
  have I3 := hid (I3.out.below bl)
  have A3 := hid (below_trans A3.out bl)
  have hl3 : w3.heap.size < (w3.alloc (.cells #[.int .i64 20, .int .i64 50, .int .i64 0, .int .i64 50, .int .i64 0, .int .i64 340] 27)).heap.size := by simp
  have Hl3 := hid hl3
  clear hd bl hl3
  obtain ⟨wS, hwS⟩ : ∃ wS, w3.alloc (.cells #[.int .i64 20, .int .i64 50, .int .i64 0, .int .i64 50, .int .i64 0, .int .i64 340] 27) = wS := ⟨_, rfl⟩
  obtain ⟨X1, hX1⟩ : ∃ X1, w.heap.size = X1 := ⟨_, rfl⟩
  obtain ⟨X2, hX2⟩ : ∃ X2, w3.heap.size = X2 := ⟨_, rfl⟩
  rw [hwS, hX1] at A3
  rw [hwS, hX2] at Hl3 Hd
  rw [hwS, hX1] at I1 I2 I3
  rw [hwS, hX1, hX2]
  have HX1 := hid hX1
  clear hwS hX1 hX2
  go_loopw [5] (fun i wr => ∃ k : Nat, k ≤ 3 ∧ i = .int .i64 k ∧ Below wS.heap.size wS wr) (fun i _ => 3 - (intOf i).toNat)
  case atStart => exact ⟨0, by omega, rfl, Below.refl _ _⟩
  case round =>
    obtain ⟨k, hk, rfl, hbk⟩ := hrel
    obtain ⟨wo, rfl⟩ : ∃ wo : World, wo = wr := ⟨_, rfl⟩
    have HBk := hid hbk
    clear hbk
    by_cases hlt : k < 3
    · have gr := gap_rows k hlt
      have u2 := (I2.out.below HBk.out).cell (i := k) (by simpa using hlt)
      have u3 := (I3.out.below HBk.out).cell (i := k) (by simpa using hlt)
      have u4 := cell_back HBk.out Hl3.out (Hd.out k hlt).1
      have u5 := cell_back HBk.out Hl3.out (Hd.out k hlt).2
      rw [Nat.zero_add] at u2 u3
      obtain ⟨a, ha⟩ : ∃ a, nm [1, 1, 2] k = a := ⟨_, rfl⟩
      obtain ⟨b, hb⟩ : ∃ b, nm [3, 5, 20] k = b := ⟨_, rfl⟩
      obtain ⟨c, hc⟩ : ∃ c, nm [20, 0, 0] k = c := ⟨_, rfl⟩
      obtain ⟨d, hd⟩ : ∃ d, nm [50, 50, 340] k = d := ⟨_, rfl⟩
      rw [ha] at u2 gr
      rw [hb] at u3 gr
      rw [hc] at u4 gr
      rw [hd] at u5 gr
      have hGap := hid (fun vw' vs' W' g1 g2 => Gap_any sambaW [0, 3, 8] 1000 a b vw' vs' W' g1 g2 (by decide) samba_names (by decide))
      rw [gr.1, gr.2] at hGap
      dsimp only at hGap
      have l2 := World.block_lt_of_cell? wo ⟨X1 + 1, k, none⟩ u2
      have l3 := World.block_lt_of_cell? wo ⟨X1 + 1 + 1, k, none⟩ u3
      have l4 := World.block_lt_of_cell? wo ⟨X2, k * 2, none⟩ u4
      have HU := hid (fun (W' : World) (hb : Below wo.heap.size wo W') => (⟨cell_back hb l2 u2, cell_back hb l3 u3⟩ : W'.cell? ⟨X1 + 1, k, none⟩ = some (.int .i64 a) ∧ W'.cell? ⟨X1 + 1 + 1, k, none⟩ = some (.int .i64 b)))
      have HV := hid (fun (W' : World) (hb : Below wo.heap.size wo W') => (⟨cell_back hb l4 u4, cell_back hb l4 u5⟩ : W'.cell? ⟨X2, k * 2, none⟩ = some (.int .i64 c) ∧ W'.cell? ⟨X2, k * 2 + 1, none⟩ = some (.int .i64 d)))
      have HS := hid (fun (W' : World) (hb : Below wo.heap.size wo W') => (I1.out.below HBk.out).below hb)
      clear gr ha hb hc hd u2 u3 u4 u5 l2 l3 l4
      have i1 : (k : Int) < 3 := by omega
      have z2 : IntKind.i64.wrap ((k : Int) + 1) = (k : Int) + 1 := IntWalk.i64_in _ (by omega)
      have B0 := hid (show Below wo.heap.size wo wo.drew from (Below.refl _ _).drew)
      have BA := hid (below_alloc wo (.cells #[.int .i64 0, .int .i64 0] 27)).drew
      have ZA := hid ((Bx.new (.int .i64 0) (.int .i64 0) wo 27).below (Below.refl _ _).drew)
      go_wp2_with fail
      go_region_held3 (fun w' => w'.cell? ⟨X1 + 1, k, none⟩ = some (.int .i64 a) ∧ w'.cell? ⟨X1 + 1 + 1, k, none⟩ = some (.int .i64 b))
        (first | exact HU.out _ B0.out | exact HU.out _ BA.out | exact HU.out _ B7.out | exact HU.out _ B8.out | exact HU.out _ B6.out | exact HU.out _ (B6.out.trans ((below_alloc _ _).mono B6.out.size)) | exact HU.out _ (B7.out.trans ((below_alloc _ _).mono B7.out.size)) | exact HU.out _ BF.out) (first
        | (go_at_call 65; (with_reducible refine (samba_any wo.drew).mono ?_); rintro e w6 ⟨v6, rfl, hW, hb⟩; have B6 := hid (B0.out.trans hb); have W6 := hid hW; have tok1 : True := trivial; clear hb hW)
        | (go_at_call 65; (with_reducible refine (samba_any (wo.alloc (.cells #[.int .i64 0, .int .i64 0] 27)).drew).mono ?_); rintro e w6 ⟨v6, rfl, hW, hb⟩; have B6 := hid (BA.out.trans (hb.mono BA.out.size)); have Z6 := hid (ZA.out.below hb); have W6 := hid hW; clear hb hW)
        | (go_at_call 49; (with_reducible refine (hGap.out _ _ (w6.alloc (.cells #[.int .i64 0, .int .i64 0] 27)) (W6.out.below (below_alloc _ _)) (HS.out _ (B6.out.trans ((below_alloc _ _).mono B6.out.size)))).mono ?_); rintro e w8 ⟨rfl, hb⟩; have B8 := hid ((B6.out.trans ((below_alloc _ _).mono B6.out.size)).trans (hb.mono (Nat.le_trans B6.out.size (below_alloc _ _).size))); have Z8 := hid ((Bx.new (.int .i64 0) (.int .i64 0) w6 27).below hb); have c0 := Z8.out.c0; have c1 := Z8.out.c1; have f0 := Z8.out.f0; have f1 := Z8.out.f1; have ZF := hid (Z8.out.put (.int .i64 c) (.int .i64 d)); have BF := hid ((B8.out.setCell (p := ⟨w6.heap.size, 0, none⟩) B6.out.size (.int .i64 c)).setCell (p := ⟨w6.heap.size, 1, none⟩) B6.out.size (.int .i64 d)); clear hb)
        | (go_at_call 49; (with_reducible refine (hGap.out _ _ w6 W6.out (HS.out _ B6.out)).mono ?_); rintro e w7 ⟨rfl, hb⟩; have B7 := hid (B6.out.trans (hb.mono B6.out.size)); first | (have _t := tok1; have ZF := hid (Bx.new (.int .i64 c) (.int .i64 d) w7 27); have BF := hid (B7.out.trans ((below_alloc w7 (.cells #[.int .i64 c, .int .i64 d] 27)).mono B7.out.size))) | (have Z7 := hid (Z6.out.below hb); have c0 := Z7.out.c0; have c1 := Z7.out.c1; have f0 := Z7.out.f0; have f1 := Z7.out.f1; have ZF := hid (Z7.out.put (.int .i64 c) (.int .i64 d)); have BF := hid ((B7.out.setCell (p := ⟨wo.heap.size, 0, none⟩) (Nat.le_refl _) (.int .i64 c)).setCell (p := ⟨wo.heap.size, 1, none⟩) (Nat.le_refl _) (.int .i64 d))); clear hb))
      all_goals (
        have y0 := ZF.out.c0
        have y1 := ZF.out.c1
        have v0 := (HV.out _ BF.out).1
        have v1 := (HV.out _ BF.out).2
        go_wp2_with fail
        go_quiet (fail)
        go_wp2_with fail
        go_roundw
        case rel => exact ⟨k + 1, by omega, by go_num, below_drewN (below_trans HBk.out BF.out) _⟩
        case measure => simp [intOf] <;> omega)
    · obtain rfl : k = 3 := by omega
      rw [show ((3 : Nat) : Int) = (3 : Int) from rfl]
      clear Hl3 Hd I2 I3
      have J1 := hid (I1.out.below HBk.out)
      have HB1 := hid (A3.out.trans (HBk.out.mono (by have h1 := HX1.out; have h2 := A3.out.size; omega)))
      clear I1 A3 HBk
      obtain ⟨wp, hwp⟩ : ∃ wp, wo = wp := ⟨_, rfl⟩
      rw [hwp] at J1 HB1 ⊢
      clear hwp
      go_wp2_with fail
      have q1 := below_alloc wp (.cells #[.int .i64 150, .int .i64 15, .int .i64 440] 3)
      have p1 := ints_lit3 wp 150 15 440 wp.heap.size rfl
      obtain ⟨wa, hwa⟩ : ∃ wa, wp.alloc (.cells #[.int .i64 150, .int .i64 15, .int .i64 440] 3) = wa := ⟨_, rfl⟩
      have sa : wa.heap.size = wp.heap.size + 1 := by rw [← hwa]; simp
      rw [hwa] at q1 p1 ⊢
      have q2 := below_alloc wa (.cells #[.int .i64 2, .int .i64 2, .int .i64 3] 3)
      have p2 := ints_lit3 wa 2 2 3 (wp.heap.size + 1) sa.symm
      obtain ⟨wb, hwb⟩ : ∃ wb, wa.alloc (.cells #[.int .i64 2, .int .i64 2, .int .i64 3] 3) = wb := ⟨_, rfl⟩
      have sb : wb.heap.size = wp.heap.size + 1 + 1 := by rw [← hwb]; simp [sa]
      rw [hwb] at q2 p2 ⊢
      have q3 := below_alloc wb (.cells #[.int .i64 2, .int .i64 1, .int .i64 1] 3)
      have p3 := ints_lit3 wb 2 1 1 (wp.heap.size + 1 + 1) sb.symm
      obtain ⟨wc, hwc⟩ : ∃ wc, wb.alloc (.cells #[.int .i64 2, .int .i64 1, .int .i64 1] 3) = wc := ⟨_, rfl⟩
      have sc : wc.heap.size = wp.heap.size + 1 + 1 + 1 := by rw [← hwc]; simp [sb]
      rw [hwc] at q3 p3 ⊢
      have q4 := below_alloc wc (.cells #[.int .i64 2, .int .i64 2, .int .i64 2] 3)
      have p4 := ints_lit3 wc 2 2 2 (wp.heap.size + 1 + 1 + 1) sc.symm
      obtain ⟨wd, hwd⟩ : ∃ wd, wc.alloc (.cells #[.int .i64 2, .int .i64 2, .int .i64 2] 3) = wd := ⟨_, rfl⟩
      have sd : wd.heap.size = wp.heap.size + 1 + 1 + 1 + 1 := by rw [← hwd]; simp [sc]
      rw [hwd] at q4 p4 ⊢
      obtain ⟨we, hwe⟩ : ∃ we, wd.alloc (.cells #[.slice (some ⟨wp.heap.size + 1, 0, none⟩) 3 3, .slice (some ⟨wp.heap.size + 1 + 1, 0, none⟩) 3 3, .slice (some ⟨wp.heap.size + 1 + 1 + 1, 0, none⟩) 3 3] 25) = we := ⟨_, rfl⟩
      have q5 : Below wd.heap.size wd we := hwe ▸ below_alloc wd _
      have q25 := below_trans (below_trans (below_trans q2 q3) q4) q5
      have q15 := below_trans q1 q25
      have JG := hid (p1.below q25)
      have J1 := hid (J1.out.below q15)
      have HB1 := hid (HB1.out.trans (q15.mono (by have h1 := HX1.out; have h2 := HB1.out.size; omega)))
      have hv : ∀ k, k < 3 → ∃ u, we.cell? ⟨wp.heap.size + 1 + 1 + 1 + 1, k, none⟩ = some u ∧ IntsAt none we u (rowAt [[2, 2, 3], [2, 1, 1], [2, 2, 2]] k) := fun k hk => by
        rcases (by omega : k = 0 ∨ k = 1 ∨ k = 2) with rfl | rfl | rfl
        · exact ⟨_, hwe ▸ cell_at sd.symm rfl, p2.below (below_trans (below_trans q3 q4) q5)⟩
        · exact ⟨_, hwe ▸ cell_at sd.symm rfl, p3.below (below_trans q4 q5)⟩
        · exact ⟨_, hwe ▸ cell_at sd.symm rfl, p4.below q5⟩
      have HVd := hid hv
      rw [hwe]
      obtain ⟨Y1, hY1⟩ : ∃ Y1, wp.heap.size = Y1 := ⟨_, rfl⟩
      rw [hY1] at JG HVd ⊢
      clear hv q1 q2 q3 q4 q5 q25 q15 p1 p2 p3 p4 sa sb sc sd hwa hwb hwc hwd hwe hY1
      go_loopw [10] (fun i wr => ∃ k : Nat, k ≤ 3 ∧ i = .int .i64 k ∧ Below we.heap.size we wr) (fun i _ => 3 - (intOf i).toNat)
      case atStart => exact ⟨0, by omega, rfl, Below.refl _ _⟩
      case round =>
        obtain ⟨k, hk, rfl, hbk⟩ := hrel
        obtain ⟨wo2, rfl⟩ : ∃ wo2 : World, wo2 = wr := ⟨_, rfl⟩
        have HBk := hid hbk
        clear hbk
        by_cases hlt : k < 3
        · have gr := opens_rows k hlt
          have rs := rows_small k hlt
          have u2 := (JG.out.below HBk.out).cell (i := k) (by simpa using hlt)
          rw [Nat.zero_add] at u2
          obtain ⟨u, hu, hU⟩ := HVd.out k hlt
          have u4 := cell_back HBk.out (World.block_lt_of_cell? we _ hu) hu
          have hU := hU.below HBk.out
          obtain ⟨g, hg⟩ : ∃ g, nm [150, 15, 440] k = g := ⟨_, rfl⟩
          obtain ⟨l, hl⟩ : ∃ l, rowAt [[2, 2, 3], [2, 1, 1], [2, 2, 2]] k = l := ⟨_, rfl⟩
          rw [hg] at u2 gr
          rw [hl] at hU gr rs
          have hOp := hid (fun vw' vs' W' g1 g2 => Opens_any sambaW [0, 3, 8] 1000 30 60 g vw' vs' W' g1 g2 (by decide) samba_names (by decide))
          rw [gr] at hOp
          dsimp only at hOp
          have Rs := hid rs
          have HU := hid hU
          have l4 := World.block_lt_of_cell? wo2 ⟨Y1 + 1 + 1 + 1 + 1, k, none⟩ u4
          have l2 := World.block_lt_of_cell? wo2 ⟨Y1, k, none⟩ u2
          have HV := hid (fun (W' : World) (hb : Below wo2.heap.size wo2 W') => (⟨cell_back hb l4 u4, cell_back hb l2 u2⟩ : W'.cell? ⟨Y1 + 1 + 1 + 1 + 1, k, none⟩ = some u ∧ W'.cell? ⟨Y1, k, none⟩ = some (.int .i64 g)))
          have HS := hid (fun (W' : World) (hb : Below wo2.heap.size wo2 W') => (J1.out.below HBk.out).below hb)
          clear gr hg hl hu hU u2 u4 l2 l4 rs
          have i1 : (k : Int) < 3 := by omega
          have z2 : IntKind.i64.wrap ((k : Int) + 1) = (k : Int) + 1 := IntWalk.i64_in _ (by omega)
          go_wp2_with fail
          refine (rules_any _).mono ?_
          rintro e w9 ⟨rfl, hb⟩
          have B9 := hid hb
          have v1 := (HV.out _ (hb.trans ((below_alloc w9 (.cells #[.int .i64 30, .int .i64 60, .int .i64 150] 50)).mono hb.size))).2
          clear hb
          go_wp2_with fail
          have bA := hid (below_alloc w9 (.cells #[.int .i64 30, .int .i64 60, .int .i64 g] 50))
          have XR := hid (show Three w9.heap.size 30 60 g ((w9.alloc (.cells #[.int .i64 30, .int .i64 60, .int .i64 g] 50)).drew) from ⟨cell_at rfl rfl, cell_at rfl rfl, cell_at rfl rfl⟩)
          have BR := hid ((B9.out.trans (bA.out.mono B9.out.size)).drew)
          clear v1 bA B9
          go_region_held3 (fun w' => w'.cell? ⟨w9.heap.size, 0, none⟩ = some (.int .i64 30) ∧ w'.cell? ⟨w9.heap.size, 1, none⟩ = some (.int .i64 60) ∧ w'.cell? ⟨w9.heap.size, 2, none⟩ = some (.int .i64 g))
            (exact ⟨XR.out.c0, XR.out.c1, XR.out.c2⟩) (first
            | (go_at_call 65; refine (samba_any _).mono ?_; rintro e w10 ⟨v10, rfl, hW, hb⟩; have XR := hid (XR.out.below hb); have BR := hid (BR.out.trans (hb.mono BR.out.size)); have W10 := hid hW; clear hb hW)
            | (go_at_call 55; refine (hOp.out _ _ _ W10.out (HS.out _ BR.out)).mono ?_; rintro e w11 ⟨vo, rfl, hl, hb⟩; have XR := hid (XR.out.below hb); have BR := hid (BR.out.trans (hb.mono BR.out.size)); have LO := hid (OwnInts.at hl (d := none) (by simp)); clear hb hl))
          have v0 := (HV.out _ BR.out).1
          go_wp2_with fail
          refine (eqInts_same l _ _ none none _ LO.out (HU.out.below BR.out) (by have h := Rs.out; omega)).mono ?_
          rintro e w12 ⟨rfl, hb⟩
          have BR := hid (BR.out.trans (hb.mono BR.out.size))
          clear hb v0
          go_wp2_with fail
          go_roundw
          case rel => exact ⟨k + 1, by omega, by go_num, below_trans HBk.out BR.out⟩
          case measure => simp [intOf] <;> omega
        · obtain rfl : k = 3 := by omega
          have JS := hid (J1.out.below HBk.out)
          have HB1 := hid (HB1.out.trans (HBk.out.mono (by have h1 := HX1.out; have h2 := HB1.out.size; omega)))
          clear J1 HBk JG HVd
          go_wp2_with fail
          refine (samba_any _).mono ?_
          rintro e w13 ⟨v13, rfl, hW, hb⟩
          have JS := hid (JS.out.below hb)
          have HB1 := hid (HB1.out.trans (hb.mono (by have h1 := HX1.out; have h2 := HB1.out.size; omega)))
          clear hb
          go_wp2_with fail
          refine (Widest_any sambaW [0, 3, 8] 1000 _ _ _ hW JS.out (by decide) samba_names (by decide)).mono ?_
          rw [known_widest]
          rintro e w14 ⟨rfl, hb⟩
          have HB1 := hid (HB1.out.trans (hb.mono (by have h1 := HX1.out; have h2 := HB1.out.size; omega)))
          clear hb hW
          dsimp only
          go_wp2_with fail
          go_ret
          exact ⟨rfl, HX1.out ▸ HB1.out⟩
end Go.Proofs.YtgfipifgijohhaaDoor
