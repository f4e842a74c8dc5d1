/-
  WALKS: the reference's take.
  WALKS: the reference's Read.
-/
import Derived.Test.YtoipcbmbhjajfaaGreatDoorRpr
import Derived.Test.YtoipcbmbhjajfaaGreatDoorBrf
import Derived.Test.YtoipcbmbhjajfaaGreatDoorFlo2
import Derived.Test.YtoipcbmbhjajfaaGreatDoorRck
namespace Go.Proofs.YtoipcbmbhjajfaaGreatDoor
open Go.RowKit

def takeP (ph : Int) (wd : List UInt8) (l : List Int) (p : Plot) : Option (Plot × Int) :=
  if ph = 0 ∧ wd = personsW ∧ l.length % 2 = 0 then some ({ p with persons := p.persons ++ pairsN l (l.length / 2) }, 1)
  else if ph = 1 ∧ wd = walkW then some ({ p with walk := p.walk ++ [l] }, 1)
  else if ph = 1 ∧ wd = dressW then some ({ p with dress := l }, 2)
  else if ph = 2 ∧ wd = partW ∧ l.length = 5 then some ({ p with parts := p.parts ++ [partOf l] }, 2)
  else if ph = 2 ∧ wd = endW ∧ l.length = 1 ∧ nm l 0 = (p.parts.length : Int) then some (p, 3)
  else none
theorem cell_gown {α : Type} {enc : α → List Value} {kk : Nat} {e : TypeId} {base : Nat} {w w' : World} {v : Value} {xs : List α} {l : List Int} {g o n c : Nat} {u : Value} {a : Nat} (hu : OwnR encInt 1 3 base w (.slice (some ⟨g, a, none⟩) n c) l) (ho : OwnR enc kk e base w v xs) (he : 3 ≠ e) (hg : w.grownBy w' v.ownBlock) (h : w.cell? ⟨g, o, none⟩ = some u) : w'.cell? ⟨g, o, none⟩ = some u := by
  have h1 := hu.apart ho he
  exact (World.cell?_of_block (a := ⟨g, o, none⟩) (hg.block g (World.block_lt_of_cell? _ _ h) (fun e1 => by
    rcases h1 with h2 | h2
    · cases h2
    · exact h2 e1))).trans h
def atF (b : Bool) (P : Prop) : Prop := match b with | false => P | true => True
def atT (b : Bool) (P : Prop) : Prop := match b with | true => P | false => False
/-- what take answers -/
def TakePost (Z S : Nat) (cs : Array Value) (w0 : World) (ph : Int) (wd : List UInt8) (l : List Int) (p : Plot) (w : World) (e : Ending) (w' : World) : Prop :=
  match takeP ph wd l p with
  | none => e = .returned (.tuple #[.int .i64 ph, .bool false]) ∧ Below w.heap.size w w'
  | some (p', ph') => e = .returned (.tuple #[.int .i64 ph', .bool true]) ∧ Below Z w w' ∧ ∃ vp vw vd vq, RdI Z S cs w0 p' vp vw vd vq w'
theorem TakePost.bad {Z S : Nat} {cs : Array Value} {w0 w w' : World} {ph : Int} {wd : List UInt8} {l : List Int} {p : Plot} (h : takeP ph wd l p = none) (hb : Below w.heap.size w w') : TakePost Z S cs w0 ph wd l p w (.returned (.tuple #[.int .i64 ph, .bool false])) w' := by
  unfold TakePost; rw [h]; exact ⟨rfl, hb⟩
theorem TakePost.good {Z S : Nat} {cs : Array Value} {w0 w w' : World} {ph ph' : Int} {wd : List UInt8} {l : List Int} {p p' : Plot} {vp vw vd vq : Value} (h : takeP ph wd l p = some (p', ph')) (hb : Below Z w w') (k : RdI Z S cs w0 p' vp vw vd vq w') : TakePost Z S cs w0 ph wd l p w (.returned (.tuple #[.int .i64 ph', .bool true])) w' := by
  unfold TakePost; rw [h]; exact ⟨rfl, hb, _, _, _, _, k⟩

set_option maxHeartbeats 16000000 in
set_option maxRecDepth 100000 in
theorem rtake_any (T S : Nat) (cs : Array Value) (w0 : World) (ph : Int) (wd : List UInt8) (l : List Int) (p : Plot) (pa wa da qa la : Option Addr) (pc wc dc qc lc : Nat) (w : World)
    (hK : RdI T S cs w0 p (.slice pa p.persons.length pc) (.slice wa p.walk.length wc) (.slice da p.dress.length dc) (.slice qa p.parts.length qc) w) (hL : OwnInts (T + 1) w (.slice la l.length lc) l) (hph : ph = 0 ∨ ph = 1 ∨ ph = 2 ∨ ph = 3)
    (hl : l.length ≤ 2000) (h1 : p.persons.length ≤ 3000) (h2 : p.walk.length ≤ 3000) (h3 : p.parts.length ≤ 3000) :
    Calls Tryz.prog 37 #[.pointer (some ⟨T, 0, none⟩), .int .i64 ph, .string ⟨wd.toArray⟩, .slice la l.length lc] w (TakePost T S cs w0 ph wd l p w) := by
  have K := hid hK
  have HLo := hid hL
  have HLl := hid hl
  have HN := hid (show p.persons.length ≤ 3000 ∧ p.walk.length ≤ 3000 ∧ p.parts.length ≤ 3000 from ⟨h1, h2, h3⟩)
  have KT := hid (Nat.le_of_lt (blkG_lt hK.box))
  obtain ⟨c0, c1, c2, c3⟩ := hK.c
  have f0 := hK.f 0
  have f1 := hK.f 1
  have f2 := hK.f 2
  have f3 := hK.f 3
  clear hK hL hl h1 h2 h3
  rcases hph with rfl | rfl | rfl | rfl
  · by_cases hw : wd = personsW
    · have e1 : (wd == [112, 101, 114, 115, 111, 110, 115]) = true := by rw [hw]; decide
      by_cases hev : l.length % 2 = 0
      · have HP := hid (show takeP 0 wd l p = some ({ p with persons := p.persons ++ pairsN l (l.length / 2) }, 1) from if_pos ⟨rfl, hw, hev⟩)
        have hrem : (((l.length : Int) % 2) == 0) = true := beq_iff_eq.2 (by omega)
        have HEv := hid hev
        clear hw hev
        go_enter Tryz.func37, Tryz.ntmps37
        go_wp2_with fail
        go_loopw [10] (fun i wr => ∃ (m j : Nat) (pv : Value), m = 2 * j ∧ m ≤ l.length ∧ i = .int .i64 (m : Int) ∧ OwnInts (T + 1) wr (.slice la l.length lc) l ∧ RdI T S cs w0 { p with persons := p.persons ++ pairsN l j } pv (.slice wa p.walk.length wc) (.slice da p.dress.length dc) (.slice qa p.parts.length qc) wr ∧ Below T w wr) (fun i _ => l.length - (intOf i).toNat)
        case atStart => exact ⟨0, 0, _, rfl, by omega, rfl, HLo.out, by rw [show pairsN l 0 = [] from rfl, List.append_nil]; exact K.out, (Below.refl _ _).mono KT.out⟩
        case round =>
          obtain ⟨m, j, pv, hm, hml, rfl, hLo, hK, hBT⟩ := hrel
          obtain ⟨wi, rfl⟩ : ∃ wi : World, wi = wr := ⟨_, rfl⟩
          clear c0 c1 c2 c3 f0 f1 f2 f3 K HLo
          have K := hid hK
          have HLo := hid hLo
          have HBT := hid hBT
          obtain ⟨xa, xc, rfl⟩ := hK.own.persons.form
          have hpl : (p.persons ++ pairsN l j).length = p.persons.length + j := by rw [List.length_append, pairsN_len]
          rw [hpl] at K
          clear hK hLo hBT hpl
          by_cases hlt2 : m < l.length
          · have hev := HEv.out
            have i2 : (m : Int) < (l.length : Int) := by omega
            have i3 : (m : Int) + 1 < (l.length : Int) := by omega
            have z3 : IntKind.i64.wrap ((m : Int) + 1) = (m : Int) + 1 := IntWalk.i64_in _ (by have := HLl.out; omega)
            have z4 : IntKind.i64.wrap ((m : Int) + 2) = (m : Int) + 2 := IntWalk.i64_in _ (by have := HLl.out; omega)
            have hi := OwnInts.at (d := none) HLo.out (by simp)
            obtain ⟨lb, lo, lc', el, _, _⟩ := hi.slice (by omega)
            cases el
            have u0 := hi.cell (i := m) hlt2
            have u1 := hi.cell (i := m + 1) (by omega)
            have HPN := hid (show pairsN l (j + 1) = pairsN l j ++ [(nm l m, nm l (m + 1))] from by rw [hm]; rfl)
            obtain ⟨x, hx⟩ : ∃ x, nm l m = x := ⟨_, rfl⟩
            obtain ⟨y, hy⟩ : ∃ y, nm l (m + 1) = y := ⟨_, rfl⟩
            rw [hx] at u0 HPN
            rw [hy] at u1 HPN
            have HM := hid (show m = 2 * j ∧ m + 2 ≤ l.length from ⟨hm, by omega⟩)
            have HD := hid (fun W' (hb : Below wi.heap.size wi W') => (⟨cell_back hb (blkG_lt K.out.box) K.out.c.1, cell_back hb (World.block_lt_of_cell? _ _ u0) u0, cell_back hb (World.block_lt_of_cell? _ _ u1) u1⟩ : W'.cell? ⟨T, 0, none⟩ = some (.slice xa (p.persons.length + j) xc) ∧ W'.cell? ⟨lb, lo + m, none⟩ = some (.int .i64 x) ∧ W'.cell? ⟨lb, lo + (m + 1), none⟩ = some (.int .i64 y)))
            have HDA := hid (fun (wx w' : World) (hb : Below wi.heap.size wi wx) (hg : wx.grownBy w' (Value.slice xa (p.persons.length + j) xc).ownBlock) => (⟨by rw [Lib.cell_of_heap (blk_kept (K.out.later hb).own.persons (K.out.later hb).box (by decide) hg)]; rfl, cell_gown (own_int.2 (HLo.out.later hb)) (K.out.later hb).own.persons (by decide) hg (cell_back hb (World.block_lt_of_cell? _ _ u0) u0), cell_gown (own_int.2 (HLo.out.later hb)) (K.out.later hb).own.persons (by decide) hg (cell_back hb (World.block_lt_of_cell? _ _ u1) u1)⟩ : w'.cell? ⟨T, 0, none⟩ = some (.slice xa (p.persons.length + j) xc) ∧ w'.cell? ⟨lb, lo + m, none⟩ = some (.int .i64 x) ∧ w'.cell? ⟨lb, lo + (m + 1), none⟩ = some (.int .i64 y)))
            have nat1 : ((m : Int) + 1).toNat = m + 1 := by omega
            have i3n : ¬ ((m : Int) + 1 < 0) := by omega
            have HQ1 := hid (show (p.persons ++ pairsN l j).length + [(x, y)].length ≤ 1000000 from by rw [List.length_append, pairsN_len]; have := HLl.out; have := HN.out; have := HM.out; simp; omega)
            have HLk := hid (show (p.persons ++ pairsN l j ++ [(x, y)]).length = p.persons.length + (j + 1) from by rw [List.length_append, List.length_append, pairsN_len]; rfl)
            clear hi u0 u1 hx hy hm hml hlt2 hev
            go_upto_region 5 with fail
            refine wp_named ?_
            intro ac0 hac0
            have HSz := hid (show ac0.tmps.size = 138 from by rw [hac0]; rfl)
            have r0 : ac0.eval (.tmp 0) = .pointer (some ⟨T, 0, none⟩) := by rw [hac0]; rfl
            have r3 : ac0.eval (.tmp 3) = .slice (some ⟨lb, lo, none⟩) l.length lc := by rw [hac0]; rfl
            have r10 : ac0.eval (.tmp 10) = .int .i64 (m : Int) := by rw [hac0]; rfl
            have HA := hid hac0
            clear hac0
            refine wp_region_flow_tail 17 (by kernel_rfl) (by kernel_rfl) [30, 31, 32, 33, 34, 35, 36, 37, 38, 39, 40, 41, 42, 43, 44, 45, 46] 16
              (fun b w' => (w'.cell? ⟨T, 0, none⟩ = some (.slice xa (p.persons.length + j) xc) ∧ w'.cell? ⟨lb, lo + m, none⟩ = some (.int .i64 x) ∧ w'.cell? ⟨lb, lo + (m + 1), none⟩ = some (.int .i64 y)) ∧ atF b (Below wi.heap.size wi w')) (fun a b => Below a.heap.size a b) (fun _ _ => True)
              (fun b ix v w' => match ix with
                | 0 => v = .pointer (some ⟨T, 0, none⟩)
                | 1 => v = .pointer (some ⟨T, 0, none⟩)
                | 2 => v = .pointer (some ⟨T, 0, none⟩)
                | 3 => v = .pointer (some ⟨T, 0, none⟩)
                | 4 => v = .slice xa (p.persons.length + j) xc
                | 5 => v = .slice (some ⟨lb, lo, none⟩) l.length lc
                | 6 => v = .int .i64 (m : Int)
                | 7 => v = .pointer (some ⟨lb, lo + m, none⟩)
                | 8 => v = .int .i64 x
                | 9 => v = .slice (some ⟨lb, lo, none⟩) l.length lc
                | 10 => v = .int .i64 (m : Int)
                | 11 => v = .int .i64 ((m : Int) + 1)
                | 12 => v = .pointer (some ⟨lb, lo + (m + 1), none⟩)
                | 13 => v = .int .i64 y
                | 14 => v = .agg #[.int .i64 x, .int .i64 y]
                | 15 => atF b ((∃ z : Nat, v = .slice (some ⟨z, 0, none⟩) 1 1) ∧ SpansAt none w' v [(x, y)])
                | 16 => atT b (∃ x1 x2 : World, Below wi.heap.size wi x1 ∧ OwnR encSpan 2 58 (T + 1) x2 v (p.persons ++ pairsN l j ++ [(x, y)]) ∧ x1.grownBy x2 (Value.slice xa (p.persons.length + j) xc).ownBlock ∧ Below x2.heap.size x2 w')
                | _ => True)
              [0, 1, 2, 3, 4, 5, 6, 7, 8, 9, 10, 11, 12, 13, 14, 15, 16] (by kernel_rfl) (by kernel_rfl) rfl ?_ ?_ ?_ ?_ ?_
            · intro bt ix v w2 w3' hW hg hy
              match ix with
              | 0 => exact hy
              | 1 => exact hy
              | 2 => exact hy
              | 3 => exact hy
              | 4 => exact hy
              | 5 => exact hy
              | 6 => exact hy
              | 7 => exact hy
              | 8 => exact hy
              | 9 => exact hy
              | 10 => exact hy
              | 11 => exact hy
              | 12 => exact hy
              | 13 => exact hy
              | 14 => exact hy
              | 15 => cases bt with | true => trivial | false => exact ⟨hy.1, RecAt.below hy.2 hg⟩
              | 16 => cases bt with | false => exact hy.elim | true => (obtain ⟨x1, x2, a1, a2, a3, a4⟩ := hy; exact ⟨x1, x2, a1, a2, a3, a4.trans (hg.mono a4.size)⟩)
              | n + 17 => exact trivial
            · intro ix v w2 w3' _ _ hy
              match ix with
              | 0 => exact hy
              | 1 => exact hy
              | 2 => exact hy
              | 3 => exact hy
              | 4 => exact hy
              | 5 => exact hy
              | 6 => exact hy
              | 7 => exact hy
              | 8 => exact hy
              | 9 => exact hy
              | 10 => exact hy
              | 11 => exact hy
              | 12 => exact hy
              | 13 => exact hy
              | 14 => exact hy
              | 15 => trivial
              | 16 => exact hy.elim
              | n + 17 => exact trivial
            · refine ⟨?_, (Below.refl _ _).drew⟩
              exact HD.out _ (Below.refl _ _).drew
            · skip
              refine StepF.val (i := 0) (o := _) rfl (by decide) ?_ ?_
              · intro bb vs wx hbf hW hY
                refine ⟨fl_want rfl, fun ρ hρ => ⟨.pointer (some ⟨T, 0, none⟩), wx, ?_, hW, Below.refl _ _, rfl⟩⟩
                have r_0 : ρ (.tmp 0) = .pointer (some ⟨T, 0, none⟩) := by rw [hρ, fl_out rfl, r0]
                have rc : ∀ cv : Value, ρ (.const cv) = cv := fun cv => by rw [hρ]; rfl
                clear hρ
                simp [execOp, rc, go_sem, r_0]
              refine StepF.val (i := 1) (o := _) rfl (by decide) ?_ ?_
              · intro bb vs wx hbf hW hY
                refine ⟨fl_want rfl, fun ρ hρ => ⟨.pointer (some ⟨T, 0, none⟩), wx, ?_, hW, Below.refl _ _, rfl⟩⟩
                have r_0 : ρ (.tmp 0) = .pointer (some ⟨T, 0, none⟩) := by rw [hρ, fl_out rfl, r0]
                have rc : ∀ cv : Value, ρ (.const cv) = cv := fun cv => by rw [hρ]; rfl
                clear hρ
                simp [execOp, rc, go_sem, r_0]
              refine StepF.val (i := 2) (o := _) rfl (by decide) ?_ ?_
              · intro bb vs wx hbf hW hY
                have y31 : vs 31 = .pointer (some ⟨T, 0, none⟩) := hY 1 31 (by kernel_rfl) (by kernel_rfl)
                refine ⟨fl_want rfl, fun ρ hρ => ⟨.pointer (some ⟨T, 0, none⟩), wx, ?_, hW, Below.refl _ _, rfl⟩⟩
                have r_31 : ρ (.tmp 31) = .pointer (some ⟨T, 0, none⟩) := by rw [hρ, fl_in 138 HSz.out rfl, y31]
                have rc : ∀ cv : Value, ρ (.const cv) = cv := fun cv => by rw [hρ]; rfl
                clear hρ
                simp [execOp, rc, go_sem, r_31]
              refine StepF.val (i := 3) (o := _) rfl (by decide) ?_ ?_
              · intro bb vs wx hbf hW hY
                have y32 : vs 32 = .pointer (some ⟨T, 0, none⟩) := hY 2 32 (by kernel_rfl) (by kernel_rfl)
                refine ⟨fl_want rfl, fun ρ hρ => ⟨.pointer (some ⟨T, 0, none⟩), wx, ?_, hW, Below.refl _ _, rfl⟩⟩
                have r_32 : ρ (.tmp 32) = .pointer (some ⟨T, 0, none⟩) := by rw [hρ, fl_in 138 HSz.out rfl, y32]
                have rc : ∀ cv : Value, ρ (.const cv) = cv := fun cv => by rw [hρ]; rfl
                clear hρ
                simp [execOp, rc, go_sem, r_32]
              refine StepF.val (i := 4) (o := _) rfl (by decide) ?_ ?_
              · intro bb vs wx hbf hW hY
                have y33 : vs 33 = .pointer (some ⟨T, 0, none⟩) := hY 3 33 (by kernel_rfl) (by kernel_rfl)
                refine ⟨fl_want rfl, fun ρ hρ => ⟨.slice xa (p.persons.length + j) xc, wx, ?_, hW, Below.refl _ _, rfl⟩⟩
                have r_33 : ρ (.tmp 33) = .pointer (some ⟨T, 0, none⟩) := by rw [hρ, fl_in 138 HSz.out rfl, y33]
                have q0 := hW.1.1
                have rc : ∀ cv : Value, ρ (.const cv) = cv := fun cv => by rw [hρ]; rfl
                clear hρ
                simp [execOp, rc, go_sem, r_33, q0]
              refine StepF.val (i := 5) (o := _) rfl (by decide) ?_ ?_
              · intro bb vs wx hbf hW hY
                refine ⟨fl_want rfl, fun ρ hρ => ⟨.slice (some ⟨lb, lo, none⟩) l.length lc, wx, ?_, hW, Below.refl _ _, rfl⟩⟩
                have r_3 : ρ (.tmp 3) = .slice (some ⟨lb, lo, none⟩) l.length lc := by rw [hρ, fl_out rfl, r3]
                have rc : ∀ cv : Value, ρ (.const cv) = cv := fun cv => by rw [hρ]; rfl
                clear hρ
                simp [execOp, rc, go_sem, r_3]
              refine StepF.val (i := 6) (o := _) rfl (by decide) ?_ ?_
              · intro bb vs wx hbf hW hY
                refine ⟨fl_want rfl, fun ρ hρ => ⟨.int .i64 (m : Int), wx, ?_, hW, Below.refl _ _, rfl⟩⟩
                have r_10 : ρ (.tmp 10) = .int .i64 (m : Int) := by rw [hρ, fl_out rfl, r10]
                have rc : ∀ cv : Value, ρ (.const cv) = cv := fun cv => by rw [hρ]; rfl
                clear hρ
                simp [execOp, rc, go_sem, r_10]
              refine StepF.val (i := 7) (o := _) rfl (by decide) ?_ ?_
              · intro bb vs wx hbf hW hY
                have y35 : vs 35 = .slice (some ⟨lb, lo, none⟩) l.length lc := hY 5 35 (by kernel_rfl) (by kernel_rfl)
                have y36 : vs 36 = .int .i64 (m : Int) := hY 6 36 (by kernel_rfl) (by kernel_rfl)
                refine ⟨fl_want rfl, fun ρ hρ => ⟨.pointer (some ⟨lb, lo + m, none⟩), wx, ?_, hW, Below.refl _ _, rfl⟩⟩
                have r_35 : ρ (.tmp 35) = .slice (some ⟨lb, lo, none⟩) l.length lc := by rw [hρ, fl_in 138 HSz.out rfl, y35]
                have r_36 : ρ (.tmp 36) = .int .i64 (m : Int) := by rw [hρ, fl_in 138 HSz.out rfl, y36]
                have rc : ∀ cv : Value, ρ (.const cv) = cv := fun cv => by rw [hρ]; rfl
                clear hρ
                simp [execOp, rc, go_sem, r_35, r_36, i2]
              refine StepF.val (i := 8) (o := _) rfl (by decide) ?_ ?_
              · intro bb vs wx hbf hW hY
                have y37 : vs 37 = .pointer (some ⟨lb, lo + m, none⟩) := hY 7 37 (by kernel_rfl) (by kernel_rfl)
                refine ⟨fl_want rfl, fun ρ hρ => ⟨.int .i64 x, wx, ?_, hW, Below.refl _ _, rfl⟩⟩
                have r_37 : ρ (.tmp 37) = .pointer (some ⟨lb, lo + m, none⟩) := by rw [hρ, fl_in 138 HSz.out rfl, y37]
                have q0 := hW.1.2.1
                have rc : ∀ cv : Value, ρ (.const cv) = cv := fun cv => by rw [hρ]; rfl
                clear hρ
                simp [execOp, rc, go_sem, r_37, q0]
              refine StepF.val (i := 9) (o := _) rfl (by decide) ?_ ?_
              · intro bb vs wx hbf hW hY
                refine ⟨fl_want rfl, fun ρ hρ => ⟨.slice (some ⟨lb, lo, none⟩) l.length lc, wx, ?_, hW, Below.refl _ _, rfl⟩⟩
                have r_3 : ρ (.tmp 3) = .slice (some ⟨lb, lo, none⟩) l.length lc := by rw [hρ, fl_out rfl, r3]
                have rc : ∀ cv : Value, ρ (.const cv) = cv := fun cv => by rw [hρ]; rfl
                clear hρ
                simp [execOp, rc, go_sem, r_3]
              refine StepF.val (i := 10) (o := _) rfl (by decide) ?_ ?_
              · intro bb vs wx hbf hW hY
                refine ⟨fl_want rfl, fun ρ hρ => ⟨.int .i64 (m : Int), wx, ?_, hW, Below.refl _ _, rfl⟩⟩
                have r_10 : ρ (.tmp 10) = .int .i64 (m : Int) := by rw [hρ, fl_out rfl, r10]
                have rc : ∀ cv : Value, ρ (.const cv) = cv := fun cv => by rw [hρ]; rfl
                clear hρ
                simp [execOp, rc, go_sem, r_10]
              refine StepF.val (i := 11) (o := _) rfl (by decide) ?_ ?_
              · intro bb vs wx hbf hW hY
                have y40 : vs 40 = .int .i64 (m : Int) := hY 10 40 (by kernel_rfl) (by kernel_rfl)
                refine ⟨fl_want rfl, fun ρ hρ => ⟨.int .i64 ((m : Int) + 1), wx, ?_, hW, Below.refl _ _, rfl⟩⟩
                have r_40 : ρ (.tmp 40) = .int .i64 (m : Int) := by rw [hρ, fl_in 138 HSz.out rfl, y40]
                have rc : ∀ cv : Value, ρ (.const cv) = cv := fun cv => by rw [hρ]; rfl
                clear hρ
                simp [execOp, rc, go_sem, r_40, z3]
              refine StepF.val (i := 12) (o := _) rfl (by decide) ?_ ?_
              · intro bb vs wx hbf hW hY
                have y39 : vs 39 = .slice (some ⟨lb, lo, none⟩) l.length lc := hY 9 39 (by kernel_rfl) (by kernel_rfl)
                have y41 : vs 41 = .int .i64 ((m : Int) + 1) := hY 11 41 (by kernel_rfl) (by kernel_rfl)
                refine ⟨fl_want rfl, fun ρ hρ => ⟨.pointer (some ⟨lb, lo + (m + 1), none⟩), wx, ?_, hW, Below.refl _ _, rfl⟩⟩
                have r_39 : ρ (.tmp 39) = .slice (some ⟨lb, lo, none⟩) l.length lc := by rw [hρ, fl_in 138 HSz.out rfl, y39]
                have r_41 : ρ (.tmp 41) = .int .i64 ((m : Int) + 1) := by rw [hρ, fl_in 138 HSz.out rfl, y41]
                have rc : ∀ cv : Value, ρ (.const cv) = cv := fun cv => by rw [hρ]; rfl
                clear hρ
                simp [execOp, rc, go_sem, r_39, r_41, i3, nat1, i3n]
              refine StepF.val (i := 13) (o := _) rfl (by decide) ?_ ?_
              · intro bb vs wx hbf hW hY
                have y42 : vs 42 = .pointer (some ⟨lb, lo + (m + 1), none⟩) := hY 12 42 (by kernel_rfl) (by kernel_rfl)
                refine ⟨fl_want rfl, fun ρ hρ => ⟨.int .i64 y, wx, ?_, hW, Below.refl _ _, rfl⟩⟩
                have r_42 : ρ (.tmp 42) = .pointer (some ⟨lb, lo + (m + 1), none⟩) := by rw [hρ, fl_in 138 HSz.out rfl, y42]
                have q0 := hW.1.2.2
                have rc : ∀ cv : Value, ρ (.const cv) = cv := fun cv => by rw [hρ]; rfl
                clear hρ
                simp [execOp, rc, go_sem, r_42, q0]
              refine StepF.val (i := 14) (o := _) rfl (by decide) ?_ ?_
              · intro bb vs wx hbf hW hY
                have y38 : vs 38 = .int .i64 x := hY 8 38 (by kernel_rfl) (by kernel_rfl)
                have y43 : vs 43 = .int .i64 y := hY 13 43 (by kernel_rfl) (by kernel_rfl)
                refine ⟨fl_want rfl, fun ρ hρ => ⟨.agg #[.int .i64 x, .int .i64 y], wx, ?_, hW, Below.refl _ _, rfl⟩⟩
                have r_38 : ρ (.tmp 38) = .int .i64 x := by rw [hρ, fl_in 138 HSz.out rfl, y38]
                have r_43 : ρ (.tmp 43) = .int .i64 y := by rw [hρ, fl_in 138 HSz.out rfl, y43]
                have rc : ∀ cv : Value, ρ (.const cv) = cv := fun cv => by rw [hρ]; rfl
                clear hρ
                simp [execOp, rc, go_sem, r_38, r_43]
              refine StepF.val (i := 15) (o := _) rfl (by decide) ?_ ?_
              · intro bb vs wx hbf hW hY
                have hbf := hbf (by kernel_rfl)
                subst hbf
                have hW : Below wi.heap.size wi wx := hW.2
                have y44 : vs 44 = .agg #[.int .i64 x, .int .i64 y] := hY 14 44 (by kernel_rfl) (by kernel_rfl)
                refine ⟨fl_want rfl, fun ρ hρ => ⟨.slice (some ⟨wx.heap.size, 0, none⟩) 1 1, wx.alloc (.cells #[.int .i64 x, .int .i64 y] 58), ?_, ⟨HD.out _ (hW.trans ((below_alloc _ _).mono hW.size)), hW.trans ((below_alloc _ _).mono hW.size)⟩, below_alloc _ _, ⟨⟨_, rfl⟩, spans_lit wx x y⟩⟩⟩
                have r_44 : ρ (.tmp 44) = .agg #[.int .i64 x, .int .i64 y] := by rw [hρ, fl_in 138 HSz.out rfl, y44]
                have rc : ∀ cv : Value, ρ (.const cv) = cv := fun cv => by rw [hρ]; rfl
                clear hρ
                simp [execOp, rc, go_sem, r_44]
              refine StepF.valA (i := 16) (o := _) rfl rfl ?_ ?_
              · intro vs wx hW hY
                have hW : Below wi.heap.size wi wx := hW.2
                have y34 : vs 34 = .slice xa (p.persons.length + j) xc := hY 4 34 (by kernel_rfl) (by kernel_rfl)
                have y45 : (∃ z : Nat, vs 45 = .slice (some ⟨z, 0, none⟩) 1 1) ∧ SpansAt none wx (vs 45) [(x, y)] := hY 15 45 (by kernel_rfl) (by kernel_rfl)
                obtain ⟨⟨z, ez⟩, hsp⟩ := y45
                rw [ez] at hsp
                have hKx := K.out.later hW
                obtain ⟨v', w', hr, hown', hg, _, _⟩ := run_app (P := Tryz.prog) encSpan Tryz.underlying22 infoSpan (by decide) (by decide) (fun _ => rfl) 22 (T + 1) (p.persons ++ pairsN l j) [(x, y)] (fun q _ => encSpan_one q) _ _ hKx.own.persons (Src.spans hsp (RecAt.sound hsp (by simp))) HQ1.out (blkG_lt hKx.box)
                exact ⟨fl_want rfl, fun ρ hρ => ⟨v', w', ex_app rfl (by rw [hρ, fl_in 138 HSz.out rfl, y34]) (by rw [hρ, fl_in 138 HSz.out rfl, ez]) hr, ⟨HDA.out wx w' hW hg, trivial⟩, trivial, ⟨wx, w', hW, hown', hg, Below.refl _ _⟩⟩⟩
              exact StepF.nil
            · intro vs wx _ hY
              have y46 : ∃ x1 x2 : World, Below wi.heap.size wi x1 ∧ OwnR encSpan 2 58 (T + 1) x2 (vs 46) (p.persons ++ pairsN l j ++ [(x, y)]) ∧ x1.grownBy x2 (Value.slice xa (p.persons.length + j) xc).ownBlock ∧ Below x2.heap.size x2 wx := hY 16 46 (by kernel_rfl)
              have y30 : vs 30 = .pointer (some ⟨T, 0, none⟩) := hY 0 30 (by kernel_rfl)
              obtain ⟨x1, x2, a1, a2, a3, a4⟩ := y46
              have hKx := K.out.later a1
              have hown' := a2.later a4
              have hg := gb_trans a3 (gb_below a4 _)
              have hbl := hKx.personsG hown' hg
              have HLn := hid (fun i x => keepL (own_int.2 (HLo.out.later a1)) hKx.own.persons (by decide) hg hbl.1 i x)
              have HBN := hid ((HBT.out.trans (a1.mono (Nat.le_of_lt (blkG_lt K.out.box)))).grown hg (Nat.le_of_lt (blkG_lt hKx.box)) (fun j hj => Nat.le_trans (Nat.le_succ T) (hKx.own.persons.lt hj).1))
              obtain ⟨a5, c5, e5⟩ := hown'.form
              rw [HLk.out] at e5
              rw [e5] at hbl
              have KN := hid hbl.2
              have g1 : wx.cell? ⟨T, 0, none⟩ = some (.slice xa (p.persons.length + j) xc) := by rw [Lib.cell_of_heap hbl.1]; rfl
              have g2 : wx.frozen? ⟨T, 0, none⟩ = false := Lib.frozen_of_heap hbl.1 _
              clear hY a1 a2 a3 a4 hKx hown' hg hbl HD HDA r0 r3 r10 HSz i2 i3 i3n nat1 z3
              rw [HA.out]
              simp only [putAll, Act.put, List.setIfInBounds_toArray, List.set_cons_zero, List.set_cons_succ, List.drop_succ_cons, List.drop_zero]
              rw [y30, e5]
              clear y30 e5 HA
              go_wp2_with fail
              go_roundw
              case rel => exact ⟨m + 2, j + 1, _, by have := HM.out; omega, by have := HM.out; omega, by go_num, HLn.out 0 _, by rw [HPN.out, ← List.append_assoc]; exact KN.out, HBN.out.setCell (p := ⟨T, 0, none⟩) (Nat.le_refl _) _⟩
              case measure => have := HM.out; simp [intOf] <;> omega
          have hj : j = l.length / 2 := by have := HEv.out; omega
          subst hj
          have HML := hid (show m = l.length from by omega)
          have i4 : ¬ ((m : Int) < (l.length : Int)) := by omega
          clear hm hml hlt2
          go_wp2_with fail
          refine bodyPost_ret (v := .tuple #[.int .i64 1, .bool true]) (by simp [results, Tryz.results37, go_sem]) rfl (TakePost.good HP.out HBT.out K.out)
      · have HP := hid (show takeP 0 wd l p = none from by unfold takeP; simp [hev])
        have hrem : (((l.length : Int) % 2) == 0) = false := beq_eq_false_iff_ne.2 (by omega)
        clear hw hev
        go_enter Tryz.func37, Tryz.ntmps37
        go_upto_region 16 with fail
        go_quiet (fail)
        go_wp2_with fail
        refine bodyPost_ret (v := .tuple #[.int .i64 0, .bool false]) (by simp [results, Tryz.results37, go_sem]) rfl (TakePost.bad HP.out (below_drewN (Below.refl _ _) _))
    · have HP := hid (show takeP 0 wd l p = none from by unfold takeP; simp [hw])
      have e1 : (wd == [112, 101, 114, 115, 111, 110, 115]) = false := beq_eq_false_iff_ne.2 hw
      clear hw
      go_enter Tryz.func37, Tryz.ntmps37
      go_upto_region 16 with fail
      go_quiet (fail)
      go_wp2_with fail
      refine bodyPost_ret (v := .tuple #[.int .i64 0, .bool false]) (by simp [results, Tryz.results37, go_sem]) rfl (TakePost.bad HP.out (below_drewN (Below.refl _ _) _))
  · by_cases hw : wd = walkW
    · have HP := hid (show takeP 1 wd l p = some ({ p with walk := p.walk ++ [l] }, 1) from by unfold takeP; simp [hw])
      have e1 : (wd == [119, 97, 108, 107]) = true := by rw [hw]; decide
      clear hw
      go_enter Tryz.func37, Tryz.ntmps37
      obtain ⟨vs, hvs⟩ := K.out.own.walk
      have HV := hid hvs
      have HQ1 := hid (show vs.length + [Value.slice la l.length lc].length ≤ 1000000 from by rw [hvs.len]; have := HN.out.2.1; simp; omega)
      have HQ2 := hid (show T + 1 ≤ (w.alloc (.cells (encV (.slice la l.length lc)).toArray 24)).heap.size from by have := blkG_lt K.out.box; simp; omega)
      have HBA := hid (show Below T w (w.alloc (.cells (encV (.slice la l.length lc)).toArray 24)) from (below_alloc _ _).mono KT.out)
      clear hvs
      go_wp2_with (at_builtin; refine wpList_app encV Tryz.underlying23 infoSl' (by decide) (by decide) (fun _ => rfl) rfl _ _ rfl (T + 1) vs [.slice la l.length lc] (fun y hy u hu => by rw [List.mem_singleton.1 hy] at hu; rw [List.mem_singleton.1 hu]; rfl) _ _ rfl rfl (HV.out.own.later (below_alloc _ _)) (Src.lit encV w (.slice la l.length lc) _ 1 rfl) HQ1.out HQ2.out ?_; intro v' w4 hown' hg _ _; have hbl := K.out.walk HV.out (own_int.2 HLo.out) hown' hg; have HBZ := hid (HBA.out.grown hg (Nat.le_trans (Nat.le_succ T) HQ2.out) (fun j hj => Nat.le_trans (Nat.le_succ T) (HV.out.own.lt hj).1)); obtain ⟨a4, c4, e4⟩ := hown'.form; rw [List.length_append, List.length_singleton, HV.out.len] at e4; subst e4; have KN := hid hbl.2; have g1 : w4.cell? ⟨T, 1, none⟩ = some (.slice wa p.walk.length wc) := (by rw [Lib.cell_of_heap hbl.1]; rfl); have g2 : w4.frozen? ⟨T, 1, none⟩ = false := Lib.frozen_of_heap hbl.1 _; clear hown' hg hbl)
      refine bodyPost_ret (v := .tuple #[.int .i64 1, .bool true]) (by simp [results, Tryz.results37, go_sem]) rfl (TakePost.good HP.out (HBZ.out.setCell (p := ⟨T, 1, none⟩) (Nat.le_refl _) _) KN.out)
    · have e1 : (wd == [119, 97, 108, 107]) = false := beq_eq_false_iff_ne.2 hw
      by_cases hw2 : wd = dressW
      · have HP := hid (show takeP 1 wd l p = some ({ p with dress := l }, 2) from by unfold takeP; rw [if_neg (by simp), if_neg (fun e => hw e.2), if_pos ⟨rfl, hw2⟩])
        have e2 : (wd == [100, 114, 101, 115, 115]) = true := by rw [hw2]; decide
        clear hw hw2
        go_enter Tryz.func37, Tryz.ntmps37
        go_wp2_with fail
        refine bodyPost_ret (v := .tuple #[.int .i64 2, .bool true]) (by simp [results, Tryz.results37, go_sem]) rfl (TakePost.good HP.out (((Below.refl w.heap.size w).mono KT.out).setCell (p := ⟨T, 2, none⟩) (Nat.le_refl _) _) (K.out.dress (own_int.2 HLo.out)))
      · have HP := hid (show takeP 1 wd l p = none from by unfold takeP; simp [hw, hw2])
        have e2 : (wd == [100, 114, 101, 115, 115]) = false := beq_eq_false_iff_ne.2 hw2
        clear hw hw2
        go_enter Tryz.func37, Tryz.ntmps37
        go_upto_region 16 with fail
        go_quiet (fail)
        go_wp2_with fail
        refine bodyPost_ret (v := .tuple #[.int .i64 1, .bool false]) (by simp [results, Tryz.results37, go_sem]) rfl (TakePost.bad HP.out (below_drewN (Below.refl _ _) _))
  · have hl5 : (((l.length : Int)) == 5) = decide (l.length = 5) := by by_cases h5 : l.length = 5 <;> simp [h5] <;> omega
    have hl1 : (((l.length : Int)) == 1) = decide (l.length = 1) := by by_cases h5 : l.length = 1 <;> simp [h5] <;> omega
    by_cases hw : wd = partW
    · have e2 : (wd == [112, 97, 114, 116]) = true := by rw [hw]; decide
      have e3 : (wd == [101, 110, 100]) = false := by rw [hw]; decide
      by_cases h5 : l.length = 5
      · have HP := hid (show takeP 2 wd l p = some ({ p with parts := p.parts ++ [partOf l] }, 2) from by unfold takeP; rw [if_neg (by simp), if_neg (by simp), if_neg (by simp), if_pos ⟨rfl, hw, h5⟩])
        rw [decide_eq_true h5] at hl5
        have HL5 := hid h5
        clear hw h5 hl1
        obtain ⟨wi, rfl⟩ : ∃ wi : World, wi = w := ⟨_, rfl⟩
        have j0 : (0 : Int) < (l.length : Int) := by have := HL5.out; omega
        have jn : ¬ (l = []) := fun e => by have := HL5.out; rw [e] at this; cases this
        have j1 : (1 : Int) < (l.length : Int) := by have := HL5.out; omega
        have j2 : (2 : Int) < (l.length : Int) := by have := HL5.out; omega
        have j3 : (3 : Int) < (l.length : Int) := by have := HL5.out; omega
        have j4 : (4 : Int) < (l.length : Int) := by have := HL5.out; omega
        have hi := OwnInts.at (d := none) HLo.out (by simp)
        obtain ⟨lb, lo, lc', el, _, _⟩ := hi.slice (by have := HL5.out; omega)
        cases el
        have u0 := hi.cell (i := 0) (by have := HL5.out; omega)
        have u1 := hi.cell (i := 1) (by have := HL5.out; omega)
        have u2 := hi.cell (i := 2) (by have := HL5.out; omega)
        have u3 := hi.cell (i := 3) (by have := HL5.out; omega)
        have u4 := hi.cell (i := 4) (by have := HL5.out; omega)
        rw [Nat.add_zero] at u0
        have HD := hid (fun W' (hb : Below wi.heap.size wi W') => (⟨cell_back hb (blkG_lt K.out.box) K.out.c.2.2.2, cell_back hb (World.block_lt_of_cell? _ _ u0) u0, cell_back hb (World.block_lt_of_cell? _ _ u1) u1, cell_back hb (World.block_lt_of_cell? _ _ u2) u2, cell_back hb (World.block_lt_of_cell? _ _ u3) u3, cell_back hb (World.block_lt_of_cell? _ _ u4) u4⟩ : W'.cell? ⟨T, 3, none⟩ = some (.slice qa p.parts.length qc) ∧ W'.cell? ⟨lb, lo, none⟩ = some (.int .i64 (nm l 0)) ∧ W'.cell? ⟨lb, lo + 1, none⟩ = some (.int .i64 (nm l 1)) ∧ W'.cell? ⟨lb, lo + 2, none⟩ = some (.int .i64 (nm l 2)) ∧ W'.cell? ⟨lb, lo + 3, none⟩ = some (.int .i64 (nm l 3)) ∧ W'.cell? ⟨lb, lo + 4, none⟩ = some (.int .i64 (nm l 4))))
        have HDA := hid (fun (wx w' : World) (hb : Below wi.heap.size wi wx) (hg : wx.grownBy w' (Value.slice qa p.parts.length qc).ownBlock) => by
          have gg : ∀ {o : Nat} {u : Value}, wi.cell? ⟨lb, o, none⟩ = some u → w'.cell? ⟨lb, o, none⟩ = some u := fun hu => cell_gown (own_int.2 (HLo.out.later hb)) (K.out.later hb).own.parts (by decide) hg (cell_back hb (World.block_lt_of_cell? _ _ hu) hu)
          exact (⟨by rw [Lib.cell_of_heap (blk_kept (K.out.later hb).own.parts (K.out.later hb).box (by decide) hg)]; rfl, gg u0, gg u1, gg u2, gg u3, gg u4⟩ : w'.cell? ⟨T, 3, none⟩ = some (.slice qa p.parts.length qc) ∧ w'.cell? ⟨lb, lo, none⟩ = some (.int .i64 (nm l 0)) ∧ w'.cell? ⟨lb, lo + 1, none⟩ = some (.int .i64 (nm l 1)) ∧ w'.cell? ⟨lb, lo + 2, none⟩ = some (.int .i64 (nm l 2)) ∧ w'.cell? ⟨lb, lo + 3, none⟩ = some (.int .i64 (nm l 3)) ∧ w'.cell? ⟨lb, lo + 4, none⟩ = some (.int .i64 (nm l 4))))
        have HQ1 := hid (show p.parts.length + [partOf l].length ≤ 1000000 from by have := HN.out; simp; omega)
        have HLk := hid (show (p.parts ++ [partOf l]).length = p.parts.length + 1 from by rw [List.length_append]; rfl)
        clear hi u0 u1 u2 u3 u4 c0 c1 c2 c3 f0 f1 f2 f3
        go_enter Tryz.func37, Tryz.ntmps37
        go_upto_region 14 with fail
        refine wp_named ?_
        intro ac0 hac0
        have HSz := hid (show ac0.tmps.size = 138 from by rw [hac0]; rfl)
        have r0 : ac0.eval (.tmp 0) = .pointer (some ⟨T, 0, none⟩) := by rw [hac0]; rfl
        have r3 : ac0.eval (.tmp 3) = .slice (some ⟨lb, lo, none⟩) l.length lc := by rw [hac0]; rfl
        have HA := hid hac0
        clear hac0
        refine wp_region_flow_tail 23 (by kernel_rfl) (by kernel_rfl) [89, 90, 91, 92, 93, 94, 95, 96, 97, 98, 99, 100, 101, 102, 103, 104, 105, 106, 107, 108, 109, 110, 111] 22
          (fun b w' => (w'.cell? ⟨T, 3, none⟩ = some (.slice qa p.parts.length qc) ∧ w'.cell? ⟨lb, lo, none⟩ = some (.int .i64 (nm l 0)) ∧ w'.cell? ⟨lb, lo + 1, none⟩ = some (.int .i64 (nm l 1)) ∧ w'.cell? ⟨lb, lo + 2, none⟩ = some (.int .i64 (nm l 2)) ∧ w'.cell? ⟨lb, lo + 3, none⟩ = some (.int .i64 (nm l 3)) ∧ w'.cell? ⟨lb, lo + 4, none⟩ = some (.int .i64 (nm l 4))) ∧ atF b (Below wi.heap.size wi w')) (fun a b => Below a.heap.size a b) (fun _ _ => True)
          (fun b ix v w' => match ix with
            | 0 => v = .pointer (some ⟨T, 0, none⟩)
            | 1 => v = .pointer (some ⟨T, 0, none⟩)
            | 2 => v = .pointer (some ⟨T, 0, none⟩)
            | 3 => v = .pointer (some ⟨T, 3, none⟩)
            | 4 => v = .slice qa p.parts.length qc
            | 5 => v = .slice (some ⟨lb, lo, none⟩) l.length lc
            | 6 => v = .pointer (some ⟨lb, lo, none⟩)
            | 7 => v = .int .i64 (nm l 0)
            | 8 => v = .slice (some ⟨lb, lo, none⟩) l.length lc
            | 9 => v = .pointer (some ⟨lb, lo + 1, none⟩)
            | 10 => v = .int .i64 (nm l 1)
            | 11 => v = .slice (some ⟨lb, lo, none⟩) l.length lc
            | 12 => v = .pointer (some ⟨lb, lo + 2, none⟩)
            | 13 => v = .int .i64 (nm l 2)
            | 14 => v = .slice (some ⟨lb, lo, none⟩) l.length lc
            | 15 => v = .pointer (some ⟨lb, lo + 3, none⟩)
            | 16 => v = .int .i64 (nm l 3)
            | 17 => v = .slice (some ⟨lb, lo, none⟩) l.length lc
            | 18 => v = .pointer (some ⟨lb, lo + 4, none⟩)
            | 19 => v = .int .i64 (nm l 4)
            | 20 => v = .agg #[.int .i64 (nm l 0), .int .i64 (nm l 1), .int .i64 (nm l 2), .int .i64 (nm l 3), .int .i64 (nm l 4)]
            | 21 => atF b ((∃ z : Nat, v = .slice (some ⟨z, 0, none⟩) 1 1) ∧ PartsAt none w' v [partOf l])
            | 22 => atT b (∃ x1 x2 : World, Below wi.heap.size wi x1 ∧ OwnR encPart 5 60 (T + 1) x2 v (p.parts ++ [partOf l]) ∧ x1.grownBy x2 (Value.slice qa p.parts.length qc).ownBlock ∧ Below x2.heap.size x2 w')
            | _ => True)
          [0, 1, 2, 3, 4, 5, 6, 7, 8, 9, 10, 11, 12, 13, 14, 15, 16, 17, 18, 19, 20, 21, 22] (by kernel_rfl) (by kernel_rfl) rfl ?_ ?_ ?_ ?_ ?_
        · intro bt ix v w2 w3' hW hg hy
          match ix with
          | 0 => exact hy
          | 1 => exact hy
          | 2 => exact hy
          | 3 => exact hy
          | 4 => exact hy
          | 5 => exact hy
          | 6 => exact hy
          | 7 => exact hy
          | 8 => exact hy
          | 9 => exact hy
          | 10 => exact hy
          | 11 => exact hy
          | 12 => exact hy
          | 13 => exact hy
          | 14 => exact hy
          | 15 => exact hy
          | 16 => exact hy
          | 17 => exact hy
          | 18 => exact hy
          | 19 => exact hy
          | 20 => exact hy
          | 21 => cases bt with | true => trivial | false => exact ⟨hy.1, RecAt.below hy.2 hg⟩
          | 22 => cases bt with | false => exact hy.elim | true => (obtain ⟨x1, x2, a1, a2, a3, a4⟩ := hy; exact ⟨x1, x2, a1, a2, a3, a4.trans (hg.mono a4.size)⟩)
          | n + 23 => exact trivial
        · intro ix v w2 w3' _ _ hy
          match ix with
          | 0 => exact hy
          | 1 => exact hy
          | 2 => exact hy
          | 3 => exact hy
          | 4 => exact hy
          | 5 => exact hy
          | 6 => exact hy
          | 7 => exact hy
          | 8 => exact hy
          | 9 => exact hy
          | 10 => exact hy
          | 11 => exact hy
          | 12 => exact hy
          | 13 => exact hy
          | 14 => exact hy
          | 15 => exact hy
          | 16 => exact hy
          | 17 => exact hy
          | 18 => exact hy
          | 19 => exact hy
          | 20 => exact hy
          | 21 => trivial
          | 22 => exact hy.elim
          | n + 23 => exact trivial
        · refine ⟨?_, (Below.refl _ _).drew⟩
          exact HD.out _ (Below.refl _ _).drew
        · skip
          refine StepF.val (i := 0) (o := _) rfl (by decide) ?_ ?_
          · intro bb vs wx hbf hW hY
            refine ⟨fl_want rfl, fun ρ hρ => ⟨.pointer (some ⟨T, 0, none⟩), wx, ?_, hW, Below.refl _ _, rfl⟩⟩
            have r_0 : ρ (.tmp 0) = .pointer (some ⟨T, 0, none⟩) := by rw [hρ, fl_out rfl, r0]
            have rc : ∀ cv : Value, ρ (.const cv) = cv := fun cv => by rw [hρ]; rfl
            clear hρ
            simp [execOp, rc, go_sem, r_0]
          refine StepF.val (i := 1) (o := _) rfl (by decide) ?_ ?_
          · intro bb vs wx hbf hW hY
            refine ⟨fl_want rfl, fun ρ hρ => ⟨.pointer (some ⟨T, 0, none⟩), wx, ?_, hW, Below.refl _ _, rfl⟩⟩
            have r_0 : ρ (.tmp 0) = .pointer (some ⟨T, 0, none⟩) := by rw [hρ, fl_out rfl, r0]
            have rc : ∀ cv : Value, ρ (.const cv) = cv := fun cv => by rw [hρ]; rfl
            clear hρ
            simp [execOp, rc, go_sem, r_0]
          refine StepF.val (i := 2) (o := _) rfl (by decide) ?_ ?_
          · intro bb vs wx hbf hW hY
            have y90 : vs 90 = .pointer (some ⟨T, 0, none⟩) := hY 1 90 (by kernel_rfl) (by kernel_rfl)
            refine ⟨fl_want rfl, fun ρ hρ => ⟨.pointer (some ⟨T, 0, none⟩), wx, ?_, hW, Below.refl _ _, rfl⟩⟩
            have r_90 : ρ (.tmp 90) = .pointer (some ⟨T, 0, none⟩) := by rw [hρ, fl_in 138 HSz.out rfl, y90]
            have rc : ∀ cv : Value, ρ (.const cv) = cv := fun cv => by rw [hρ]; rfl
            clear hρ
            simp [execOp, rc, go_sem, r_90]
          refine StepF.val (i := 3) (o := _) rfl (by decide) ?_ ?_
          · intro bb vs wx hbf hW hY
            have y91 : vs 91 = .pointer (some ⟨T, 0, none⟩) := hY 2 91 (by kernel_rfl) (by kernel_rfl)
            refine ⟨fl_want rfl, fun ρ hρ => ⟨.pointer (some ⟨T, 3, none⟩), wx, ?_, hW, Below.refl _ _, rfl⟩⟩
            have r_91 : ρ (.tmp 91) = .pointer (some ⟨T, 0, none⟩) := by rw [hρ, fl_in 138 HSz.out rfl, y91]
            have rc : ∀ cv : Value, ρ (.const cv) = cv := fun cv => by rw [hρ]; rfl
            clear hρ
            simp [execOp, rc, go_sem, r_91]
          refine StepF.val (i := 4) (o := _) rfl (by decide) ?_ ?_
          · intro bb vs wx hbf hW hY
            have y92 : vs 92 = .pointer (some ⟨T, 3, none⟩) := hY 3 92 (by kernel_rfl) (by kernel_rfl)
            refine ⟨fl_want rfl, fun ρ hρ => ⟨.slice qa p.parts.length qc, wx, ?_, hW, Below.refl _ _, rfl⟩⟩
            have r_92 : ρ (.tmp 92) = .pointer (some ⟨T, 3, none⟩) := by rw [hρ, fl_in 138 HSz.out rfl, y92]
            have q0 := hW.1.1
            have rc : ∀ cv : Value, ρ (.const cv) = cv := fun cv => by rw [hρ]; rfl
            clear hρ
            simp [execOp, rc, go_sem, r_92, q0]
          refine StepF.val (i := 5) (o := _) rfl (by decide) ?_ ?_
          · intro bb vs wx hbf hW hY
            refine ⟨fl_want rfl, fun ρ hρ => ⟨.slice (some ⟨lb, lo, none⟩) l.length lc, wx, ?_, hW, Below.refl _ _, rfl⟩⟩
            have r_3 : ρ (.tmp 3) = .slice (some ⟨lb, lo, none⟩) l.length lc := by rw [hρ, fl_out rfl, r3]
            have rc : ∀ cv : Value, ρ (.const cv) = cv := fun cv => by rw [hρ]; rfl
            clear hρ
            simp [execOp, rc, go_sem, r_3]
          refine StepF.val (i := 6) (o := _) rfl (by decide) ?_ ?_
          · intro bb vs wx hbf hW hY
            have y94 : vs 94 = .slice (some ⟨lb, lo, none⟩) l.length lc := hY 5 94 (by kernel_rfl) (by kernel_rfl)
            refine ⟨fl_want rfl, fun ρ hρ => ⟨.pointer (some ⟨lb, lo, none⟩), wx, ?_, hW, Below.refl _ _, rfl⟩⟩
            have r_94 : ρ (.tmp 94) = .slice (some ⟨lb, lo, none⟩) l.length lc := by rw [hρ, fl_in 138 HSz.out rfl, y94]
            have rc : ∀ cv : Value, ρ (.const cv) = cv := fun cv => by rw [hρ]; rfl
            clear hρ
            simp [execOp, rc, go_sem, r_94, j0, jn]
          refine StepF.val (i := 7) (o := _) rfl (by decide) ?_ ?_
          · intro bb vs wx hbf hW hY
            have y95 : vs 95 = .pointer (some ⟨lb, lo, none⟩) := hY 6 95 (by kernel_rfl) (by kernel_rfl)
            refine ⟨fl_want rfl, fun ρ hρ => ⟨.int .i64 (nm l 0), wx, ?_, hW, Below.refl _ _, rfl⟩⟩
            have r_95 : ρ (.tmp 95) = .pointer (some ⟨lb, lo, none⟩) := by rw [hρ, fl_in 138 HSz.out rfl, y95]
            have q0 := hW.1.2.1
            have rc : ∀ cv : Value, ρ (.const cv) = cv := fun cv => by rw [hρ]; rfl
            clear hρ
            simp [execOp, rc, go_sem, r_95, q0]
          refine StepF.val (i := 8) (o := _) rfl (by decide) ?_ ?_
          · intro bb vs wx hbf hW hY
            refine ⟨fl_want rfl, fun ρ hρ => ⟨.slice (some ⟨lb, lo, none⟩) l.length lc, wx, ?_, hW, Below.refl _ _, rfl⟩⟩
            have r_3 : ρ (.tmp 3) = .slice (some ⟨lb, lo, none⟩) l.length lc := by rw [hρ, fl_out rfl, r3]
            have rc : ∀ cv : Value, ρ (.const cv) = cv := fun cv => by rw [hρ]; rfl
            clear hρ
            simp [execOp, rc, go_sem, r_3]
          refine StepF.val (i := 9) (o := _) rfl (by decide) ?_ ?_
          · intro bb vs wx hbf hW hY
            have y97 : vs 97 = .slice (some ⟨lb, lo, none⟩) l.length lc := hY 8 97 (by kernel_rfl) (by kernel_rfl)
            refine ⟨fl_want rfl, fun ρ hρ => ⟨.pointer (some ⟨lb, lo + 1, none⟩), wx, ?_, hW, Below.refl _ _, rfl⟩⟩
            have r_97 : ρ (.tmp 97) = .slice (some ⟨lb, lo, none⟩) l.length lc := by rw [hρ, fl_in 138 HSz.out rfl, y97]
            have rc : ∀ cv : Value, ρ (.const cv) = cv := fun cv => by rw [hρ]; rfl
            clear hρ
            simp [execOp, rc, go_sem, r_97, j1]
          refine StepF.val (i := 10) (o := _) rfl (by decide) ?_ ?_
          · intro bb vs wx hbf hW hY
            have y98 : vs 98 = .pointer (some ⟨lb, lo + 1, none⟩) := hY 9 98 (by kernel_rfl) (by kernel_rfl)
            refine ⟨fl_want rfl, fun ρ hρ => ⟨.int .i64 (nm l 1), wx, ?_, hW, Below.refl _ _, rfl⟩⟩
            have r_98 : ρ (.tmp 98) = .pointer (some ⟨lb, lo + 1, none⟩) := by rw [hρ, fl_in 138 HSz.out rfl, y98]
            have q0 := hW.1.2.2.1
            have rc : ∀ cv : Value, ρ (.const cv) = cv := fun cv => by rw [hρ]; rfl
            clear hρ
            simp [execOp, rc, go_sem, r_98, q0]
          refine StepF.val (i := 11) (o := _) rfl (by decide) ?_ ?_
          · intro bb vs wx hbf hW hY
            refine ⟨fl_want rfl, fun ρ hρ => ⟨.slice (some ⟨lb, lo, none⟩) l.length lc, wx, ?_, hW, Below.refl _ _, rfl⟩⟩
            have r_3 : ρ (.tmp 3) = .slice (some ⟨lb, lo, none⟩) l.length lc := by rw [hρ, fl_out rfl, r3]
            have rc : ∀ cv : Value, ρ (.const cv) = cv := fun cv => by rw [hρ]; rfl
            clear hρ
            simp [execOp, rc, go_sem, r_3]
          refine StepF.val (i := 12) (o := _) rfl (by decide) ?_ ?_
          · intro bb vs wx hbf hW hY
            have y100 : vs 100 = .slice (some ⟨lb, lo, none⟩) l.length lc := hY 11 100 (by kernel_rfl) (by kernel_rfl)
            refine ⟨fl_want rfl, fun ρ hρ => ⟨.pointer (some ⟨lb, lo + 2, none⟩), wx, ?_, hW, Below.refl _ _, rfl⟩⟩
            have r_100 : ρ (.tmp 100) = .slice (some ⟨lb, lo, none⟩) l.length lc := by rw [hρ, fl_in 138 HSz.out rfl, y100]
            have rc : ∀ cv : Value, ρ (.const cv) = cv := fun cv => by rw [hρ]; rfl
            clear hρ
            simp [execOp, rc, go_sem, r_100, j2]
          refine StepF.val (i := 13) (o := _) rfl (by decide) ?_ ?_
          · intro bb vs wx hbf hW hY
            have y101 : vs 101 = .pointer (some ⟨lb, lo + 2, none⟩) := hY 12 101 (by kernel_rfl) (by kernel_rfl)
            refine ⟨fl_want rfl, fun ρ hρ => ⟨.int .i64 (nm l 2), wx, ?_, hW, Below.refl _ _, rfl⟩⟩
            have r_101 : ρ (.tmp 101) = .pointer (some ⟨lb, lo + 2, none⟩) := by rw [hρ, fl_in 138 HSz.out rfl, y101]
            have q0 := hW.1.2.2.2.1
            have rc : ∀ cv : Value, ρ (.const cv) = cv := fun cv => by rw [hρ]; rfl
            clear hρ
            simp [execOp, rc, go_sem, r_101, q0]
          refine StepF.val (i := 14) (o := _) rfl (by decide) ?_ ?_
          · intro bb vs wx hbf hW hY
            refine ⟨fl_want rfl, fun ρ hρ => ⟨.slice (some ⟨lb, lo, none⟩) l.length lc, wx, ?_, hW, Below.refl _ _, rfl⟩⟩
            have r_3 : ρ (.tmp 3) = .slice (some ⟨lb, lo, none⟩) l.length lc := by rw [hρ, fl_out rfl, r3]
            have rc : ∀ cv : Value, ρ (.const cv) = cv := fun cv => by rw [hρ]; rfl
            clear hρ
            simp [execOp, rc, go_sem, r_3]
          refine StepF.val (i := 15) (o := _) rfl (by decide) ?_ ?_
          · intro bb vs wx hbf hW hY
            have y103 : vs 103 = .slice (some ⟨lb, lo, none⟩) l.length lc := hY 14 103 (by kernel_rfl) (by kernel_rfl)
            refine ⟨fl_want rfl, fun ρ hρ => ⟨.pointer (some ⟨lb, lo + 3, none⟩), wx, ?_, hW, Below.refl _ _, rfl⟩⟩
            have r_103 : ρ (.tmp 103) = .slice (some ⟨lb, lo, none⟩) l.length lc := by rw [hρ, fl_in 138 HSz.out rfl, y103]
            have rc : ∀ cv : Value, ρ (.const cv) = cv := fun cv => by rw [hρ]; rfl
            clear hρ
            simp [execOp, rc, go_sem, r_103, j3]
          refine StepF.val (i := 16) (o := _) rfl (by decide) ?_ ?_
          · intro bb vs wx hbf hW hY
            have y104 : vs 104 = .pointer (some ⟨lb, lo + 3, none⟩) := hY 15 104 (by kernel_rfl) (by kernel_rfl)
            refine ⟨fl_want rfl, fun ρ hρ => ⟨.int .i64 (nm l 3), wx, ?_, hW, Below.refl _ _, rfl⟩⟩
            have r_104 : ρ (.tmp 104) = .pointer (some ⟨lb, lo + 3, none⟩) := by rw [hρ, fl_in 138 HSz.out rfl, y104]
            have q0 := hW.1.2.2.2.2.1
            have rc : ∀ cv : Value, ρ (.const cv) = cv := fun cv => by rw [hρ]; rfl
            clear hρ
            simp [execOp, rc, go_sem, r_104, q0]
          refine StepF.val (i := 17) (o := _) rfl (by decide) ?_ ?_
          · intro bb vs wx hbf hW hY
            refine ⟨fl_want rfl, fun ρ hρ => ⟨.slice (some ⟨lb, lo, none⟩) l.length lc, wx, ?_, hW, Below.refl _ _, rfl⟩⟩
            have r_3 : ρ (.tmp 3) = .slice (some ⟨lb, lo, none⟩) l.length lc := by rw [hρ, fl_out rfl, r3]
            have rc : ∀ cv : Value, ρ (.const cv) = cv := fun cv => by rw [hρ]; rfl
            clear hρ
            simp [execOp, rc, go_sem, r_3]
          refine StepF.val (i := 18) (o := _) rfl (by decide) ?_ ?_
          · intro bb vs wx hbf hW hY
            have y106 : vs 106 = .slice (some ⟨lb, lo, none⟩) l.length lc := hY 17 106 (by kernel_rfl) (by kernel_rfl)
            refine ⟨fl_want rfl, fun ρ hρ => ⟨.pointer (some ⟨lb, lo + 4, none⟩), wx, ?_, hW, Below.refl _ _, rfl⟩⟩
            have r_106 : ρ (.tmp 106) = .slice (some ⟨lb, lo, none⟩) l.length lc := by rw [hρ, fl_in 138 HSz.out rfl, y106]
            have rc : ∀ cv : Value, ρ (.const cv) = cv := fun cv => by rw [hρ]; rfl
            clear hρ
            simp [execOp, rc, go_sem, r_106, j4]
          refine StepF.val (i := 19) (o := _) rfl (by decide) ?_ ?_
          · intro bb vs wx hbf hW hY
            have y107 : vs 107 = .pointer (some ⟨lb, lo + 4, none⟩) := hY 18 107 (by kernel_rfl) (by kernel_rfl)
            refine ⟨fl_want rfl, fun ρ hρ => ⟨.int .i64 (nm l 4), wx, ?_, hW, Below.refl _ _, rfl⟩⟩
            have r_107 : ρ (.tmp 107) = .pointer (some ⟨lb, lo + 4, none⟩) := by rw [hρ, fl_in 138 HSz.out rfl, y107]
            have q0 := hW.1.2.2.2.2.2
            have rc : ∀ cv : Value, ρ (.const cv) = cv := fun cv => by rw [hρ]; rfl
            clear hρ
            simp [execOp, rc, go_sem, r_107, q0]
          refine StepF.val (i := 20) (o := _) rfl (by decide) ?_ ?_
          · intro bb vs wx hbf hW hY
            have y96 : vs 96 = .int .i64 (nm l 0) := hY 7 96 (by kernel_rfl) (by kernel_rfl)
            have y99 : vs 99 = .int .i64 (nm l 1) := hY 10 99 (by kernel_rfl) (by kernel_rfl)
            have y102 : vs 102 = .int .i64 (nm l 2) := hY 13 102 (by kernel_rfl) (by kernel_rfl)
            have y105 : vs 105 = .int .i64 (nm l 3) := hY 16 105 (by kernel_rfl) (by kernel_rfl)
            have y108 : vs 108 = .int .i64 (nm l 4) := hY 19 108 (by kernel_rfl) (by kernel_rfl)
            refine ⟨fl_want rfl, fun ρ hρ => ⟨.agg #[.int .i64 (nm l 0), .int .i64 (nm l 1), .int .i64 (nm l 2), .int .i64 (nm l 3), .int .i64 (nm l 4)], wx, ?_, hW, Below.refl _ _, rfl⟩⟩
            have r_96 : ρ (.tmp 96) = .int .i64 (nm l 0) := by rw [hρ, fl_in 138 HSz.out rfl, y96]
            have r_99 : ρ (.tmp 99) = .int .i64 (nm l 1) := by rw [hρ, fl_in 138 HSz.out rfl, y99]
            have r_102 : ρ (.tmp 102) = .int .i64 (nm l 2) := by rw [hρ, fl_in 138 HSz.out rfl, y102]
            have r_105 : ρ (.tmp 105) = .int .i64 (nm l 3) := by rw [hρ, fl_in 138 HSz.out rfl, y105]
            have r_108 : ρ (.tmp 108) = .int .i64 (nm l 4) := by rw [hρ, fl_in 138 HSz.out rfl, y108]
            have rc : ∀ cv : Value, ρ (.const cv) = cv := fun cv => by rw [hρ]; rfl
            clear hρ
            simp [execOp, rc, go_sem, r_96, r_99, r_102, r_105, r_108]
          refine StepF.val (i := 21) (o := _) rfl (by decide) ?_ ?_
          · intro bb vs wx hbf hW hY
            have hbf := hbf (by kernel_rfl)
            subst hbf
            have hW : Below wi.heap.size wi wx := hW.2
            have y109 : vs 109 = .agg #[.int .i64 (nm l 0), .int .i64 (nm l 1), .int .i64 (nm l 2), .int .i64 (nm l 3), .int .i64 (nm l 4)] := hY 20 109 (by kernel_rfl) (by kernel_rfl)
            refine ⟨fl_want rfl, fun ρ hρ => ⟨.slice (some ⟨wx.heap.size, 0, none⟩) 1 1, wx.alloc (.cells #[.int .i64 (nm l 0), .int .i64 (nm l 1), .int .i64 (nm l 2), .int .i64 (nm l 3), .int .i64 (nm l 4)] 60), ?_, ⟨HD.out _ (hW.trans ((below_alloc _ _).mono hW.size)), hW.trans ((below_alloc _ _).mono hW.size)⟩, below_alloc _ _, ⟨⟨_, rfl⟩, part_lit wx (partOf l)⟩⟩⟩
            have r_109 : ρ (.tmp 109) = .agg #[.int .i64 (nm l 0), .int .i64 (nm l 1), .int .i64 (nm l 2), .int .i64 (nm l 3), .int .i64 (nm l 4)] := by rw [hρ, fl_in 138 HSz.out rfl, y109]
            have rc : ∀ cv : Value, ρ (.const cv) = cv := fun cv => by rw [hρ]; rfl
            clear hρ
            simp [execOp, rc, go_sem, r_109]
          refine StepF.valA (i := 22) (o := _) rfl rfl ?_ ?_
          · intro vs wx hW hY
            have hW : Below wi.heap.size wi wx := hW.2
            have y93 : vs 93 = .slice qa p.parts.length qc := hY 4 93 (by kernel_rfl) (by kernel_rfl)
            have y110 : (∃ z : Nat, vs 110 = .slice (some ⟨z, 0, none⟩) 1 1) ∧ PartsAt none wx (vs 110) [partOf l] := hY 21 110 (by kernel_rfl) (by kernel_rfl)
            obtain ⟨⟨z, ez⟩, hsp⟩ := y110
            rw [ez] at hsp
            have hKx := K.out.later hW
            obtain ⟨v', w', hr, hown', hg, _, _⟩ := run_app (P := Tryz.prog) encPart Tryz.underlying25 infoPart' (by decide) (by decide) (fun _ => rfl) 25 (T + 1) p.parts [partOf l] (fun q _ => encPart_one q) _ _ hKx.own.parts (Src.parts hsp (RecAt.sound hsp (by simp))) HQ1.out (blkG_lt hKx.box)
            exact ⟨fl_want rfl, fun ρ hρ => ⟨v', w', ex_app rfl (by rw [hρ, fl_in 138 HSz.out rfl, y93]) (by rw [hρ, fl_in 138 HSz.out rfl, ez]) hr, ⟨HDA.out wx w' hW hg, trivial⟩, trivial, ⟨wx, w', hW, hown', hg, Below.refl _ _⟩⟩⟩
          exact StepF.nil
        · intro vs wx _ hY
          have y111 : ∃ x1 x2 : World, Below wi.heap.size wi x1 ∧ OwnR encPart 5 60 (T + 1) x2 (vs 111) (p.parts ++ [partOf l]) ∧ x1.grownBy x2 (Value.slice qa p.parts.length qc).ownBlock ∧ Below x2.heap.size x2 wx := hY 22 111 (by kernel_rfl)
          have y89 : vs 89 = .pointer (some ⟨T, 0, none⟩) := hY 0 89 (by kernel_rfl)
          obtain ⟨x1, x2, a1, a2, a3, a4⟩ := y111
          have hKx := K.out.later a1
          have hown' := a2.later a4
          have hg := gb_trans a3 (gb_below a4 _)
          have hbl := hKx.partsG hown' hg
          have HBN := hid ((a1.mono KT.out).grown hg (Nat.le_of_lt (blkG_lt hKx.box)) (fun j hj => Nat.le_trans (Nat.le_succ T) (hKx.own.parts.lt hj).1))
          obtain ⟨a5, c5, e5⟩ := hown'.form
          rw [HLk.out] at e5
          rw [e5] at hbl
          have KN := hid hbl.2
          have g1 : wx.cell? ⟨T, 3, none⟩ = some (.slice qa p.parts.length qc) := by rw [Lib.cell_of_heap hbl.1]; rfl
          have g2 : wx.frozen? ⟨T, 3, none⟩ = false := Lib.frozen_of_heap hbl.1 _
          clear hY a1 a2 a3 a4 hKx hown' hg hbl HD HDA r0 r3 HSz j0 jn j1 j2 j3 j4
          rw [HA.out]
          simp only [putAll, Act.put, List.setIfInBounds_toArray, List.set_cons_zero, List.set_cons_succ, List.drop_succ_cons, List.drop_zero]
          rw [y89, e5]
          clear y89 e5 HA
          go_wp2_with fail
          refine bodyPost_ret (v := .tuple #[.int .i64 2, .bool true]) (by simp [results, Tryz.results37, go_sem]) rfl (TakePost.good HP.out (HBN.out.setCell (p := ⟨T, 3, none⟩) (Nat.le_refl _) _) KN.out)
      · have HP := hid (show takeP 2 wd l p = none from by unfold takeP; rw [if_neg (by simp), if_neg (by simp), if_neg (by simp), if_neg (fun e => h5 e.2.2), if_neg (fun e => absurd (hw.symm.trans e.2.1) (by decide))])
        rw [decide_eq_false h5] at hl5
        clear hw h5 hl1
        go_enter Tryz.func37, Tryz.ntmps37
        go_upto_region 16 with fail
        go_quiet (fail)
        go_wp2_with fail
        refine bodyPost_ret (v := .tuple #[.int .i64 2, .bool false]) (by simp [results, Tryz.results37, go_sem]) rfl (TakePost.bad HP.out (below_drewN (Below.refl _ _) _))
    · have e2 : (wd == [112, 97, 114, 116]) = false := beq_eq_false_iff_ne.2 hw
      by_cases hwe : wd = endW
      · have e3 : (wd == [101, 110, 100]) = true := by rw [hwe]; decide
        by_cases h1 : l.length = 1
        · rw [decide_eq_true h1] at hl1
          have HL1 := hid h1
          by_cases hn : nm l 0 = (p.parts.length : Int)
          · have HP := hid (show takeP 2 wd l p = some (p, 3) from by unfold takeP; rw [if_neg (by simp), if_neg (by simp), if_neg (by simp), if_neg (fun e => hw e.2.1), if_pos ⟨rfl, hwe, h1, hn⟩])
            have hb0 : ((nm l 0) == (p.parts.length : Int)) = true := beq_iff_eq.2 hn
            clear hw hwe h1 hn hl5
            have hi := OwnInts.at (d := none) HLo.out (by simp)
            obtain ⟨lb, lo, lc', el, _, _⟩ := hi.slice (by have := HL1.out; omega)
            cases el
            have q0' := hi.cell (i := 0) (by have := HL1.out; omega)
            rw [Nat.add_zero] at q0'
            have i5 : 0 < (l.length : Int) := by have := HL1.out; omega
            clear hi
            go_enter Tryz.func37, Tryz.ntmps37
            go_upto_region 16 with fail
            go_quiet (fail)
            go_wp2_with fail
            refine bodyPost_ret (v := .tuple #[.int .i64 3, .bool true]) (by simp [results, Tryz.results37, go_sem]) rfl (TakePost.good HP.out ((below_drewN (Below.refl _ _) _).mono KT.out) (K.out.later (below_drewN (Below.refl _ _) _)))
          · have HP := hid (show takeP 2 wd l p = none from by unfold takeP; rw [if_neg (by simp), if_neg (by simp), if_neg (by simp), if_neg (fun e => hw e.2.1), if_neg (fun e => hn e.2.2.2)])
            have hb0 : ((nm l 0) == (p.parts.length : Int)) = false := beq_eq_false_iff_ne.2 hn
            clear hw hwe h1 hn hl5
            have hi := OwnInts.at (d := none) HLo.out (by simp)
            obtain ⟨lb, lo, lc', el, _, _⟩ := hi.slice (by have := HL1.out; omega)
            cases el
            have q0' := hi.cell (i := 0) (by have := HL1.out; omega)
            rw [Nat.add_zero] at q0'
            have i5 : 0 < (l.length : Int) := by have := HL1.out; omega
            clear hi
            go_enter Tryz.func37, Tryz.ntmps37
            go_upto_region 16 with fail
            go_quiet (fail)
            go_wp2_with fail
            refine bodyPost_ret (v := .tuple #[.int .i64 2, .bool false]) (by simp [results, Tryz.results37, go_sem]) rfl (TakePost.bad HP.out (below_drewN (Below.refl _ _) _))
        · have HP := hid (show takeP 2 wd l p = none from by unfold takeP; rw [if_neg (by simp), if_neg (by simp), if_neg (by simp), if_neg (fun e => hw e.2.1), if_neg (fun e => h1 e.2.2.1)])
          rw [decide_eq_false h1] at hl1
          clear hw hwe h1 hl5
          go_enter Tryz.func37, Tryz.ntmps37
          go_upto_region 16 with fail
          go_quiet (fail)
          go_wp2_with fail
          refine bodyPost_ret (v := .tuple #[.int .i64 2, .bool false]) (by simp [results, Tryz.results37, go_sem]) rfl (TakePost.bad HP.out (below_drewN (Below.refl _ _) _))
      · have HP := hid (show takeP 2 wd l p = none from by unfold takeP; rw [if_neg (by simp), if_neg (by simp), if_neg (by simp), if_neg (fun e => hw e.2.1), if_neg (fun e => hwe e.2.1)])
        have e3 : (wd == [101, 110, 100]) = false := beq_eq_false_iff_ne.2 hwe
        clear hw hwe hl5 hl1
        go_enter Tryz.func37, Tryz.ntmps37
        go_upto_region 16 with fail
        go_quiet (fail)
        go_wp2_with fail
        refine bodyPost_ret (v := .tuple #[.int .i64 2, .bool false]) (by simp [results, Tryz.results37, go_sem]) rfl (TakePost.bad HP.out (below_drewN (Below.refl _ _) _))
  · have HP := hid (show takeP 3 wd l p = none from by unfold takeP; simp)
    go_enter Tryz.func37, Tryz.ntmps37
    go_upto_region 16 with fail
    go_quiet (fail)
    go_wp2_with fail
    refine bodyPost_ret (v := .tuple #[.int .i64 3, .bool false]) (by simp [results, Tryz.results37, go_sem]) rfl (TakePost.bad HP.out (below_drewN (Below.refl _ _) _))
end Go.Proofs.YtoipcbmbhjajfaaGreatDoor

namespace Go.Proofs.YtoipcbmbhjajfaaGreatDoor
open Go.RowKit

/-- the phase of what has been read -/
def phOf (k : Nat) (s : RSt) : Int := if k = 0 then 0 else if s.ended = true then 3 else if s.dressed = true then 2 else 1
theorem phOf_four (k : Nat) (s : RSt) : phOf k s = 0 ∨ phOf k s = 1 ∨ phOf k s = 2 ∨ phOf k s = 3 := by
  unfold phOf
  split
  · exact .inl rfl
  · split
    · exact .inr (.inr (.inr rfl))
    · split
      · exact .inr (.inr (.inl rfl))
      · exact .inr (.inl rfl)
theorem take_step {k : Nat} {s : RSt} (h0 : k = 0 → s = noRSt) (wd : List UInt8) (l : List Int) : takeP (phOf k s) wd l s.p = (stepW k wd l s).map fun t => (t.p, phOf (k + 1) t) := by
  have hk1 : ∀ t : RSt, phOf (k + 1) t = if t.ended = true then 3 else if t.dressed = true then 2 else 1 := fun t => by unfold phOf; rw [if_neg (by omega)]
  by_cases hk : k = 0
  · obtain rfl := h0 hk
    subst hk
    have e : phOf 0 noRSt = 0 := rfl
    rw [e]
    unfold takeP stepW
    by_cases hw : wd = personsW ∧ l.length % 2 = 0
    · rw [if_pos ⟨rfl, hw⟩, if_neg (by simp [noRSt]), if_pos rfl, if_pos hw]
      simp [hk1, noRSt, noPlot]
    · rw [if_neg (fun e => hw e.2), if_neg (by simp), if_neg (by simp), if_neg (by simp), if_neg (by simp), if_neg (by simp [noRSt]), if_pos rfl, if_neg hw]
      rfl
  · unfold stepW
    rw [if_neg hk]
    by_cases he : s.ended = true
    · have e : phOf k s = 3 := by unfold phOf; rw [if_neg hk, if_pos he]
      rw [e, if_pos he]
      unfold takeP
      simp
    · have he' : s.ended = false := by simpa using he
      rw [if_neg he]
      by_cases hd : s.dressed = true
      · have e : phOf k s = 2 := by unfold phOf; rw [if_neg hk, if_neg he, if_pos hd]
        rw [e, if_neg (by simp [hd]), if_neg (by simp [hd])]
        unfold takeP
        rw [if_neg (by simp), if_neg (by simp), if_neg (by simp)]
        by_cases h5 : wd = partW ∧ l.length = 5
        · rw [if_pos ⟨rfl, h5⟩, if_pos h5]
          simp [hk1, he', hd]
        · rw [if_neg (fun e => h5 e.2), if_neg h5]
          by_cases h1 : wd = endW ∧ l.length = 1
          · rw [if_pos h1]
            by_cases hn : nm l 0 = (s.p.parts.length : Int)
            · rw [if_pos ⟨rfl, h1.1, h1.2, hn⟩, if_pos hn]
              simp [hk1]
            · rw [if_neg (fun e => hn e.2.2.2), if_neg hn]
              rfl
          · rw [if_neg (fun e => h1 ⟨e.2.1, e.2.2.1⟩), if_neg h1]
            rfl
      · have hd' : s.dressed = false := by simpa using hd
        have e : phOf k s = 1 := by unfold phOf; rw [if_neg hk, if_neg he, if_neg hd]
        rw [e]
        unfold takeP
        rw [if_neg (fun e => absurd e.1 (by decide))]
        by_cases hw : wd = walkW
        · rw [if_pos ⟨rfl, hw⟩, if_pos ⟨hw, hd'⟩]
          simp [hk1, he', hd']
        · rw [if_neg (fun e => hw e.2), if_neg (show ¬ (wd = walkW ∧ s.dressed = false) from fun e => hw e.1), if_pos hd']
          by_cases hw2 : wd = dressW
          · rw [if_pos ⟨rfl, hw2⟩, if_pos hw2]
            simp [hk1, he']
          · rw [if_neg (fun e => hw2 e.2), if_neg (by simp), if_neg (by simp), if_neg hw2]
            rfl
theorem phOf_three {k : Nat} {s : RSt} (h0 : k = 0 → s = noRSt) : (phOf k s == 3) = s.ended := by
  by_cases hk : k = 0
  · obtain rfl := h0 hk
    subst hk
    rfl
  · unfold phOf
    rw [if_neg hk]
    cases he : s.ended with
    | true => rfl
    | false =>
      cases hd : s.dressed <;> rfl
theorem stepW_pers {i : Nat} {w : List UInt8} {l : List Int} {s t : RSt} (h : stepW i w l s = some t) : t.p.persons.length ≤ s.p.persons.length + l.length := by
  unfold stepW at h
  split at h
  · cases h
  · split at h
    · split at h
      · cases h; simp [pairsN_len]; omega
      · cases h
    · split at h
      · cases h; simp
      · split at h
        · split at h
          · cases h; simp
          · cases h
        · split at h
          · cases h; simp
          · split at h
            · split at h
              · cases h; simp
              · cases h
            · cases h
theorem stepW_same {i : Nat} {w : List UInt8} {l : List Int} {s t : RSt} (hi : i ≠ 0) (h : stepW i w l s = some t) : t.p.persons = s.p.persons := by
  unfold stepW at h
  rw [if_neg hi] at h
  split at h
  · cases h
  · split at h
    · cases h; rfl
    · split at h
      · split at h
        · cases h; rfl
        · cases h
      · split at h
        · cases h; rfl
        · split at h
          · split at h
            · cases h; rfl
            · cases h
          · cases h
theorem runR_pers {rows : List (List UInt8)} (hr : ∀ k, (rowAt rows k).length ≤ 2000) : ∀ {k : Nat} {s : RSt}, k ≤ rows.length → runR rows k = some s → s.p.persons.length ≤ 2000
  | 0, s, _, h => by cases h; simp [noRSt, noPlot]
  | k + 1, s, hk, h => by
    obtain ⟨t, ht⟩ := run_some_down (by omega) h
    have h1 := runR_pers hr (by omega) ht
    rw [runR_succ (by omega), ht, Option.bind_some] at h
    unfold stepR at h
    split at h
    · cases h
    · rename_i w l hp
      by_cases h0 : k = 0
      · subst h0
        have h2 := stepW_pers h
        have h3 := parse_len hp
        have h4 := hr 0
        cases ht
        have e : noRSt.p.persons.length = 0 := rfl
        omega
      · rw [stepW_same h0 h]
        exact h1
theorem strs_block {base : Nat} {w : World} {v : Value} {xs : List (List UInt8)} (h : OwnR encV 1 9 base w v (xs.map strV)) (h0 : 0 < xs.length) : ∃ g cap cur, v = .slice (some ⟨g, 0, none⟩) xs.length cap ∧ w.heap[g]? = some (.cells cur 9 (0, 0)) ∧ ∀ k, k < xs.length → cur[k]? = some (.string ⟨(rowAt xs k).toArray⟩) := by
  rcases h.2 with ⟨_, h1⟩ | ⟨g, cap, cur, e, _, hg, _, _, hsz, hcur⟩
  · rw [List.length_map] at h1; omega
  · rw [List.length_map] at e
    refine ⟨g, cap, cur, e, hg, fun k hk => ?_⟩
    have e2 : (xs.map strV).flatMap encV = xs.map strV := by
      induction xs.map strV with
      | nil => rfl
      | cons a l ih => simpa [encV] using ih
    rw [e2, List.length_map, Nat.mul_one] at hcur
    have h2 : (cur.toList.take xs.length)[k]? = some (.string ⟨(rowAt xs k).toArray⟩) := by
      rw [hcur, List.getElem?_map, List.getElem?_eq_getElem hk]
      simp [strV, rowAt, List.getD_eq_getElem?_getD, List.getElem?_eq_getElem hk]
    rw [List.getElem?_take_of_lt hk] at h2
    simpa using h2

theorem nil_box {W : World} {T : Nat} (h : W.heap[T]? = some (.cells #[.slice none 0 0, .slice none 0 0, .slice none 0 0, .slice none 0 0] 27 (0, 0))) : (W.cell? ⟨T, 0, none⟩ = some (.slice none 0 0) ∧ W.cell? ⟨T, 1, none⟩ = some (.slice none 0 0) ∧ W.cell? ⟨T, 2, none⟩ = some (.slice none 0 0) ∧ W.cell? ⟨T, 3, none⟩ = some (.slice none 0 0)) ∧ ∀ o, W.frozen? ⟨T, o, none⟩ = false :=
  ⟨⟨by rw [Lib.cell_of_heap h]; rfl, by rw [Lib.cell_of_heap h]; rfl, by rw [Lib.cell_of_heap h]; rfl, by rw [Lib.cell_of_heap h]; rfl⟩, fun o => Lib.frozen_of_heap h _⟩

set_option maxHeartbeats 16000000 in
set_option maxRecDepth 100000 in
theorem rread_any (text : List UInt8) (w : World) : Calls Tryz.prog 13 #[.string ⟨text.toArray⟩] w (ReadPost text w) := by
  have hsz : (⟨text.toArray⟩ : ByteArray).size = text.length := by simp [ByteArray.size]
  have hbx := heap_alloc_new w (.cells #[.slice none 0 0, .slice none 0 0, .slice none 0 0, .slice none 0 0] 27)
  have HB0 := hid (below_alloc w (.cells #[.slice none 0 0, .slice none 0 0, .slice none 0 0, .slice none 0 0] 27))
  obtain ⟨wT, hwT⟩ : ∃ wT, w.alloc (.cells #[.slice none 0 0, .slice none 0 0, .slice none 0 0, .slice none 0 0] 27) = wT := ⟨_, rfl⟩
  obtain ⟨T, hT⟩ : ∃ T, w.heap.size = T := ⟨_, rfl⟩
  rw [hwT] at hbx HB0
  rw [hT] at hbx
  have HBx := hid hbx
  clear hbx
  by_cases h2 : 2000 < text.length
  · have d0 : decide (2000 < (text.length : Int)) = true := decide_eq_true (by omega)
    have HP := hid (show readP text = (noPlot, 0, 6) from by unfold readP; rw [if_pos h2])
    clear h2
    go_enter Tryz.func13, Tryz.ntmps13
    go_upto_region 2 with fail
    have k0 : wT.cell? ⟨T, 0, none⟩ = some (.slice none 0 0) := by rw [Lib.cell_of_heap HBx.out]; rfl
    have k1 : wT.cell? ⟨T, 1, none⟩ = some (.slice none 0 0) := by rw [Lib.cell_of_heap HBx.out]; rfl
    have k2 : wT.cell? ⟨T, 2, none⟩ = some (.slice none 0 0) := by rw [Lib.cell_of_heap HBx.out]; rfl
    have k3 : wT.cell? ⟨T, 3, none⟩ = some (.slice none 0 0) := by rw [Lib.cell_of_heap HBx.out]; rfl
    have f0 : wT.frozen? ⟨T, 0, none⟩ = false := Lib.frozen_of_heap HBx.out _
    have f1 : wT.frozen? ⟨T, 1, none⟩ = false := Lib.frozen_of_heap HBx.out _
    have f2 : wT.frozen? ⟨T, 2, none⟩ = false := Lib.frozen_of_heap HBx.out _
    have f3 : wT.frozen? ⟨T, 3, none⟩ = false := Lib.frozen_of_heap HBx.out _
    go_wp2_with fail
    refine bodyPost_ret (v := .tuple #[plotV (.slice none 0 0) (.slice none 0 0) (.slice none 0 0) (.slice none 0 0), .int .i64 0, .int .i64 6]) (by simp [results, Tryz.results13, go_sem, k0, k1, k2, k3, plotV]) rfl ?_
    refine ⟨_, _, _, _, by rw [HP.out], by rw [HP.out]; exact OwnP.none _ _, ?_⟩
    rw [hT] at HB0 ⊢
    exact (((HB0.out.setCell (p := ⟨T, 0, none⟩) (Nat.le_refl _) _).setCell (p := ⟨T, 1, none⟩) (Nat.le_refl _) _).setCell (p := ⟨T, 2, none⟩) (Nat.le_refl _) _).setCell (p := ⟨T, 3, none⟩) (Nat.le_refl _) _
  have d0 : decide (2000 < (text.length : Int)) = false := decide_eq_false (by omega)
  obtain ⟨q0, qs, hcut⟩ := cutL_ne 10 text
  have hbd := cutL_bound 10 text
  rw [hcut] at hbd
  have HQl := hid (show qs.length ≤ 2000 ∧ ∀ k, (rowAt (q0 :: qs) k).length ≤ 2000 from ⟨by have := hbd.1; simp at this; omega, fun k => by
    unfold rowAt
    rw [List.getD_eq_getElem?_getD]
    rcases Nat.lt_or_ge k (q0 :: qs).length with hk | hk
    · rw [List.getElem?_eq_getElem hk]; have := hbd.2 (q0 :: qs)[k] (by simp); simp at this ⊢; omega
    · rw [List.getElem?_eq_none hk]; simp⟩)
  have HP := hid (show readP text = (match stopAt (q0 :: qs) qs.length with
    | some k => (noPlot, (k : Int) + 1, 1)
    | none => match runR (q0 :: qs) qs.length with
      | none => (noPlot, 0, 0)
      | some s => if s.ended = true ∧ rowAt (q0 :: qs) qs.length = [] then (if plotErr s.p = 0 then (s.p, 0, 0) else (noPlot, 0, plotErr s.p)) else (noPlot, (qs.length : Int) + 1, 1)) from by unfold readP; rw [if_neg h2, hcut]; rfl)
  have hsp := rsplit_any text 10 wT (by omega)
  rw [hcut] at hsp
  have HS := hid hsp
  have z0 : IntKind.i64.wrap ((qs.length : Int) + 1 - 1) = (qs.length : Int) := by rw [show (qs.length : Int) + 1 - 1 = (qs.length : Int) by omega]; exact IntWalk.i64_in _ (by have := HQl.out.1; omega)
  clear h2 hcut hbd hsp
  go_enter Tryz.func13, Tryz.ntmps13
  go_upto_region 3 with fail
  go_wp2_with (go_at_call 35; refine HS.out.mono ?_; rintro e w1 ⟨v, rfl, ho, hb⟩; obtain ⟨S, sc, cs, rfl, hSh, hcell⟩ := strs_block ho (by simp); have HSc := hid hcell; have hTb := hb.block T (blkG_lt HBx.out); have HTb := hid (show w1.heap[T]? = some (.cells #[.slice none 0 0, .slice none 0 0, .slice none 0 0, .slice none 0 0] 27 (0, 0)) from hTb.trans HBx.out); have HB1 := hid (below_trans HB0.out hb); have hbZ := heap_alloc_new w1 (.cells #[.slice none 0 0, .slice none 0 0, .slice none 0 0, .slice none 0 0] 27); have hrows := ((below_alloc w1 (.cells #[.slice none 0 0, .slice none 0 0, .slice none 0 0, .slice none 0 0] 27)).block S (blkG_lt hSh)).trans hSh; have hB2 := below_alloc w1 (.cells #[.slice none 0 0, .slice none 0 0, .slice none 0 0, .slice none 0 0] 27); obtain ⟨wZ, hwZ⟩ : ∃ wZ, w1.alloc (.cells #[.slice none 0 0, .slice none 0 0, .slice none 0 0, .slice none 0 0] 27) = wZ := ⟨_, rfl⟩; rw [hwZ] at hbZ hrows hB2; obtain ⟨Z, hZ⟩ : ∃ Z, w1.heap.size = Z := ⟨_, rfl⟩; have HZl := hid (show w1.heap.size ≤ Z from by omega); rw [hZ] at hbZ; have K := hid (show RdI Z S cs w1 noPlot (.slice none 0 0) (.slice none 0 0) (.slice none 0 0) (.slice none 0 0) wZ from ⟨hbZ, hrows, OwnP.none _ _, hB2, HZl.out⟩); clear ho hb hSh hcell hTb hbZ hrows hB2 HS HBx HB0)
  have HT0 := hid (fun (W' : World) (hb : Below w1.heap.size w1 W') => (hb.block T (blkG_lt HTb.out)).trans HTb.out)
  have HTe := hid (show w.heap.size ≤ T from by omega)
  clear hwT hwZ HTb hT hZ z0
  go_loopw [7, 8] (fun d i wr => ∃ (k : Nat) (st : RSt) (vp vw vd vq : Value), k ≤ qs.length ∧ i = .int .i64 k ∧ runR (q0 :: qs) k = some st ∧ d = .int .i64 (phOf k st) ∧ RdI Z S cs w1 st.p vp vw vd vq wr) (fun _ i _ => qs.length - (intOf i).toNat)
  case atStart => exact ⟨0, noRSt, _, _, _, _, by omega, rfl, rfl, rfl, K.out⟩
  case round =>
    obtain ⟨k, st, vp, vw, vd, vq, hk, rfl, hrun, rfl, hKK⟩ := hrel
    obtain ⟨wo, rfl⟩ : ∃ wo : World, wo = wr := ⟨_, rfl⟩
    clear K
    have K := hid hKK
    have HRun := hid hrun
    have H0 := hid (show k = 0 → st = noRSt from fun h0 => by have := HRun.out; rw [h0] at this; cases this; rfl)
    have HPers := hid (runR_pers HQl.out.2 (by simp; omega) hrun)
    have hlenw := runR_len hrun
    have HLn := hid (show st.p.walk.length ≤ 3000 ∧ st.p.parts.length ≤ 3000 from by have := HQl.out.1; omega)
    have hTo := HT0.out _ hKK.below
    have g0 : wo.cell? ⟨T, 0, none⟩ = some (.slice none 0 0) := by rw [Lib.cell_of_heap hTo]; rfl
    have HTo := hid hTo
    obtain ⟨pa, pc, rfl⟩ := hKK.own.persons.form
    obtain ⟨wa, wc, rfl⟩ := hKK.own.wform
    obtain ⟨da, dc, rfl⟩ := hKK.own.dress.form
    obtain ⟨qa, qc, rfl⟩ := hKK.own.parts.form
    clear hKK hrun hlenw g0 hTo
    have z5 : IntKind.i64.wrap ((qs.length : Int) + 1 - 1) = (qs.length : Int) := by rw [show (qs.length : Int) + 1 - 1 = (qs.length : Int) by omega]; exact IntWalk.i64_in _ (by have := HQl.out.1; omega)
    have z6 : wrap64 (qs.length : Int) = (qs.length : Int) := IntWalk.wrap64_in _ (by have := HQl.out.1; omega)
    by_cases hlt : k < qs.length
    · have i1 : (k : Int) < (qs.length : Int) := by omega
      have z2 : IntKind.i64.wrap ((k : Int) + 1) = (k : Int) + 1 := IntWalk.i64_in _ (by have := HQl.out.1; omega)
      have n0 := (K.out.row k).trans (HSc.out k (by simp; omega))
      have i3 : (k : Int) < (qs.length : Int) + 1 := by omega
      have HPa := hid (fun W' => rparse_any (rowAt (q0 :: qs) k) W' (HQl.out.2 k))
      have HSx := hid (show runR (q0 :: qs) (k + 1) = stepR k (rowAt (q0 :: qs) k) st from by rw [runR_succ (by simp; omega), HRun.out]; rfl)
      have HFail := hid (fun (hs : stepR k (rowAt (q0 :: qs) k) st = none) => (show readP text = (noPlot, (k : Int) + 1, 1) from by rw [HP.out, stop_some HRun.out (HSx.out.trans hs) hlt (by simp)]))
      unfold ParsePost at HPa
      unfold stepR at HSx HFail
      obtain ⟨row, hrow⟩ : ∃ row, rowAt (q0 :: qs) k = row := ⟨_, rfl⟩
      rw [hrow] at HPa n0 HSx HFail
      have HQr := hid (show row.length ≤ 2000 from by have := HQl.out.2 k; rw [hrow] at this; exact this)
      clear hrow
      cases hp : parseL row with
      | none =>
        rw [hp] at HPa HFail
        have HPf := hid (HFail.out rfl)
        clear hp HSx HFail
        go_wp2_with (go_at_call 36; refine (HPa.out _).mono ?_; rintro e w3 ⟨rfl, hb⟩; have K := hid (K.out.later hb); clear hb n0; obtain ⟨⟨t0, t1, t2, t3⟩, tf⟩ := nil_box (HT0.out _ K.out.below); have f0 := tf 0; have f1 := tf 1; have f2 := tf 2; have f3 := tf 3; clear tf)
        refine bodyPost_ret (v := .tuple #[plotV (.slice none 0 0) (.slice none 0 0) (.slice none 0 0) (.slice none 0 0), .int .i64 ((k : Int) + 1), .int .i64 1]) (by simp [results, Tryz.results13, go_sem, t0, t1, t2, t3, plotV]) rfl ?_
        refine ⟨_, _, _, _, by rw [HPf.out], by rw [HPf.out]; exact OwnP.none _ _, ?_⟩
        exact ((((below_trans HB1.out K.out.below).setCell (p := ⟨T, 0, none⟩) HTe.out _).setCell (p := ⟨T, 1, none⟩) HTe.out _).setCell (p := ⟨T, 2, none⟩) HTe.out _).setCell (p := ⟨T, 3, none⟩) HTe.out _
      | some wl =>
        obtain ⟨wd, l⟩ := wl
        rw [hp] at HPa HSx HFail
        dsimp only at HPa HSx HFail
        have HLl := hid (show l.length ≤ 2000 from Nat.le_trans (parse_len hp) HQr.out)
        clear hp
        have hts := take_step H0.out wd l
        have HTk := hid (fun W' (hK : RdI Z S cs w1 st.p (.slice pa st.p.persons.length pc) (.slice wa st.p.walk.length wc) (.slice da st.p.dress.length dc) (.slice qa st.p.parts.length qc) W') (la : Option Addr) (lc : Nat) (hL : OwnInts (Z + 1) W' (.slice la l.length lc) l) => rtake_any Z S cs w1 (phOf k st) wd l st.p pa wa da qa la pc wc dc qc lc W' hK hL (phOf_four k st) HLl.out (Nat.le_trans HPers.out (by omega)) HLn.out.1 HLn.out.2)
        unfold TakePost at HTk
        rw [hts] at HTk
        obtain ⟨ph, hph⟩ : ∃ ph, phOf k st = ph := ⟨_, rfl⟩
        rw [hph] at HTk
        rw [hph]
        clear hts hph
        cases hst : stepW k wd l st with
        | none =>
          rw [hst] at HTk HFail
          have HPf := hid (HFail.out rfl)
          clear hst HSx HFail
          go_wp2_with (first | (go_at_call 36; refine (HPa.out _).mono ?_; rintro e w3 ⟨lv, rfl, ho, hb⟩; obtain ⟨la, lc, elv⟩ := (own_int.2 ho).form; subst elv; have HLo := hid (OwnInts.base' ho (show Z + 1 ≤ wo.heap.size from blkG_lt K.out.box)); have K := hid (K.out.later hb); clear hb n0 ho) | (go_at_call 37; refine (HTk.out _ K.out _ _ HLo.out).mono ?_; rintro e w4 ⟨rfl, hb⟩; have K := hid (K.out.later hb); clear hb; obtain ⟨⟨t0, t1, t2, t3⟩, tf⟩ := nil_box (HT0.out _ K.out.below); have f0 := tf 0; have f1 := tf 1; have f2 := tf 2; have f3 := tf 3; clear tf))
          refine bodyPost_ret (v := .tuple #[plotV (.slice none 0 0) (.slice none 0 0) (.slice none 0 0) (.slice none 0 0), .int .i64 ((k : Int) + 1), .int .i64 1]) (by simp [results, Tryz.results13, go_sem, t0, t1, t2, t3, plotV]) rfl ?_
          refine ⟨_, _, _, _, by rw [HPf.out], by rw [HPf.out]; exact OwnP.none _ _, ?_⟩
          exact ((((below_trans HB1.out K.out.below).setCell (p := ⟨T, 0, none⟩) HTe.out _).setCell (p := ⟨T, 1, none⟩) HTe.out _).setCell (p := ⟨T, 2, none⟩) HTe.out _).setCell (p := ⟨T, 3, none⟩) HTe.out _
        | some t =>
          rw [hst] at HTk HSx
          dsimp only [Option.map] at HTk
          obtain ⟨ph2, hph2⟩ : ∃ ph2, phOf (k + 1) t = ph2 := ⟨_, rfl⟩
          rw [hph2] at HTk
          have HPh2 := hid hph2
          clear hst HFail hph2
          go_wp2_with (first | (go_at_call 36; refine (HPa.out _).mono ?_; rintro e w3 ⟨lv, rfl, ho, hb⟩; obtain ⟨la, lc, elv⟩ := (own_int.2 ho).form; subst elv; have HLo := hid (OwnInts.base' ho (show Z + 1 ≤ wo.heap.size from blkG_lt K.out.box)); have K := hid (K.out.later hb); clear hb n0 ho) | (go_at_call 37; refine (HTk.out _ K.out _ _ HLo.out).mono ?_; rintro e w4 ⟨rfl, hb, vp', vw', vd', vq', hK2⟩; have KN := hid hK2; clear hb hK2))
          go_roundw
          case rel => exact ⟨k + 1, t, _, _, _, _, by omega, by go_num, HSx.out, by rw [HPh2.out], KN.out⟩
          case measure => simp [intOf] <;> omega
    · obtain rfl : k = qs.length := by omega
      have n0 := (K.out.row qs.length).trans (HSc.out _ (by simp))
      have HPe := hid (show readP text = (if st.ended = true ∧ rowAt (q0 :: qs) qs.length = [] then (if plotErr st.p = 0 then (st.p, 0, 0) else (noPlot, 0, plotErr st.p)) else (noPlot, (qs.length : Int) + 1, 1)) from by
        rw [HP.out, stop_none (by simp) HRun.out]
        simp only [HRun.out])
      obtain ⟨rl, hrl⟩ : ∃ rl, rowAt (q0 :: qs) qs.length = rl := ⟨_, rfl⟩
      rw [hrl] at n0 HPe
      have i2 : (qs.length : Int) < (qs.length : Int) + 1 := by omega
      have h3 := phOf_three H0.out
      obtain ⟨ph, hph⟩ : ∃ ph, phOf qs.length st = ph := ⟨_, rfl⟩
      rw [hph] at h3 ⊢
      obtain ⟨c0, c1, c2, c3⟩ := K.out.c
      obtain ⟨⟨t0, t1, t2, t3⟩, tf⟩ := nil_box (HT0.out _ K.out.below)
      have f0 := tf 0
      have f1 := tf 1
      have f2 := tf 2
      have f3 := tf 3
      clear tf
      clear hrl hk hlt hph
      cases he : st.ended with
      | true =>
        rw [he] at h3
        have h3' : ph = 3 := by simpa using h3
        subst h3'
        clear h3
        by_cases hr : rl = []
        · have e1 : (rl == ([] : List UInt8)) = true := by rw [hr]; rfl
          rw [if_pos ⟨he, hr⟩] at HPe
          clear hr he
          have HCk := hid (fun W' hb => rcheck_plot st.p _ _ _ _ W' ((K.out.own.at (d := none) (by simp)).below hb))
          by_cases hc : plotErr st.p = 0
          · rw [if_pos hc] at HPe
            rw [hc] at HCk
            clear hc
            go_wp2_with (go_at_call 24; refine (HCk.out _ (Below.refl _ _)).mono ?_; rintro e w6 ⟨rfl, hb⟩; have K := hid (K.out.later hb); clear hb c0 c1 c2 c3; obtain ⟨c0, c1, c2, c3⟩ := K.out.c; obtain ⟨⟨t0, t1, t2, t3⟩, tf⟩ := nil_box (HT0.out _ K.out.below); have f0 := tf 0; have f1 := tf 1; have f2 := tf 2; have f3 := tf 3; clear tf)
            refine bodyPost_ret (v := .tuple #[plotV (.slice pa st.p.persons.length pc) (.slice wa st.p.walk.length wc) (.slice da st.p.dress.length dc) (.slice qa st.p.parts.length qc), .int .i64 0, .int .i64 0]) (by simp [results, Tryz.results13, go_sem, t0, t1, t2, t3, plotV]) rfl ?_
            refine ⟨_, _, _, _, by rw [HPe.out], ?_, ?_⟩
            · rw [HPe.out]
              exact (K.out.own.off (HT0.out _ K.out.below) (gb_trans (gb_trans (gb_trans (gb_put _ T 0 _) (gb_put _ T 1 _)) (gb_put _ T 2 _)) (gb_put _ T 3 _))).base (by have := HB1.out.size; have := K.out.low; omega)
            · exact ((((below_trans HB1.out K.out.below).setCell (p := ⟨T, 0, none⟩) HTe.out _).setCell (p := ⟨T, 1, none⟩) HTe.out _).setCell (p := ⟨T, 2, none⟩) HTe.out _).setCell (p := ⟨T, 3, none⟩) HTe.out _
          · rw [if_neg hc] at HPe
            obtain ⟨x1, x2⟩ := ne_bool hc
            obtain ⟨ce, hce⟩ : ∃ ce, plotErr st.p = ce := ⟨_, rfl⟩
            rw [hce] at HPe HCk x1 x2
            clear hc hce
            go_wp2_with (go_at_call 24; refine (HCk.out _ (Below.refl _ _)).mono ?_; rintro e w6 ⟨rfl, hb⟩; have K := hid (K.out.later hb); clear hb c0 c1 c2 c3; obtain ⟨c0, c1, c2, c3⟩ := K.out.c; obtain ⟨⟨t0, t1, t2, t3⟩, tf⟩ := nil_box (HT0.out _ K.out.below); have f0 := tf 0; have f1 := tf 1; have f2 := tf 2; have f3 := tf 3; clear tf)
            refine bodyPost_ret (v := .tuple #[plotV (.slice none 0 0) (.slice none 0 0) (.slice none 0 0) (.slice none 0 0), .int .i64 (0), .int .i64 ce]) (by simp [results, Tryz.results13, go_sem, t0, t1, t2, t3, plotV]) rfl ?_
            refine ⟨_, _, _, _, by rw [HPe.out], by rw [HPe.out]; exact OwnP.none _ _, ?_⟩
            exact ((((below_trans HB1.out K.out.below).setCell (p := ⟨T, 0, none⟩) HTe.out _).setCell (p := ⟨T, 1, none⟩) HTe.out _).setCell (p := ⟨T, 2, none⟩) HTe.out _).setCell (p := ⟨T, 3, none⟩) HTe.out _
        · have e1 : (rl == ([] : List UInt8)) = false := beq_eq_false_iff_ne.2 hr
          rw [if_neg (fun e => hr e.2)] at HPe
          clear hr he
          go_wp2_with fail
          refine bodyPost_ret (v := .tuple #[plotV (.slice none 0 0) (.slice none 0 0) (.slice none 0 0) (.slice none 0 0), .int .i64 ((qs.length : Int) + 1), .int .i64 1]) (by simp [results, Tryz.results13, go_sem, t0, t1, t2, t3, plotV]) rfl ?_
          refine ⟨_, _, _, _, by rw [HPe.out], by rw [HPe.out]; exact OwnP.none _ _, ?_⟩
          exact ((((below_trans HB1.out K.out.below).setCell (p := ⟨T, 0, none⟩) HTe.out _).setCell (p := ⟨T, 1, none⟩) HTe.out _).setCell (p := ⟨T, 2, none⟩) HTe.out _).setCell (p := ⟨T, 3, none⟩) HTe.out _
      | false =>
        rw [he] at h3
        have h3' : ph ≠ 3 := by simpa using h3
        obtain ⟨y1, y2⟩ := ne_bool h3'
        clear h3 h3'
        rw [if_neg (fun e => absurd (he.symm.trans e.1) (by decide))] at HPe
        clear he
        go_wp2_with fail
        refine bodyPost_ret (v := .tuple #[plotV (.slice none 0 0) (.slice none 0 0) (.slice none 0 0) (.slice none 0 0), .int .i64 ((qs.length : Int) + 1), .int .i64 1]) (by simp [results, Tryz.results13, go_sem, t0, t1, t2, t3, plotV]) rfl ?_
        refine ⟨_, _, _, _, by rw [HPe.out], by rw [HPe.out]; exact OwnP.none _ _, ?_⟩
        exact ((((below_trans HB1.out K.out.below).setCell (p := ⟨T, 0, none⟩) HTe.out _).setCell (p := ⟨T, 1, none⟩) HTe.out _).setCell (p := ⟨T, 2, none⟩) HTe.out _).setCell (p := ⟨T, 3, none⟩) HTe.out _
end Go.Proofs.YtoipcbmbhjajfaaGreatDoor
