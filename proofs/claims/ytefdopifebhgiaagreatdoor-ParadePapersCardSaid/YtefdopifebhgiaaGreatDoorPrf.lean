/-
  WALKS: parade.numbers.
  PLAIN: what parade.Write writes is its rows, one by one.
  WHAT STAYS while a program is read: the school's box, the rows, the wings.
-/
import Derived.Test.YtefdopifebhgiaaGreatDoorNum
import Derived.Test.YtefdopifebhgiaaGreatDoorCpo
import Derived.Test.YtefdopifebhgiaaGreatDoorApn
import Derived.Test.YtefdopifebhgiaaGreatDoorWri
import Derived.Test.YtefdopifebhgiaaGreatDoorPrp
import Derived.Test.YtefdopifebhgiaaGreatDoorKsc
namespace Go.Proofs.YtefdopifebhgiaaGreatDoor
open Go.RowKit

/-- words, as a slice holds them -/
def StrsAt (w : World) (v : Value) (ws : List (List UInt8)) : Prop :=
  ∃ a cap, v = .slice a ws.length cap ∧ (0 < ws.length → ∃ b off, a = some ⟨b, off, none⟩ ∧ ws.length ≤ cap ∧ b < w.heap.size ∧ ∀ i, i < ws.length → w.cell? ⟨b, off + i, none⟩ = some (.string ⟨(wordAt ws i).toArray⟩))
theorem StrsAt.cell_in {w w' : World} {a : Option Addr} {n c : Nat} {ws : List (List UInt8)} (h : StrsAt w (.slice a n c) ws) (hb : Below w.heap.size w w') {k : Nat} (hk : k < ws.length) : ∃ b off, a = some ⟨b, off, none⟩ ∧ w'.cell? ⟨b, off + k, none⟩ = some (.string ⟨(wordAt ws k).toArray⟩) := by
  obtain ⟨a', cap, e, hh⟩ := h
  cases e
  obtain ⟨b, off, rfl, _, hlt, hc⟩ := hh (by omega)
  exact ⟨b, off, rfl, cell_back hb hlt (hc k hk)⟩

/-- what numbers answers -/
def NumbersPost (ws : List (List UInt8)) (w : World) (e : Ending) (w' : World) : Prop :=
  match numsOf ws with
  | none => e = .returned (.tuple #[.slice none 0 0, .bool false]) ∧ Below w.heap.size w w'
  | some l => ∃ v, e = .returned (.tuple #[v, .bool true]) ∧ OwnInts w.heap.size w' v l ∧ Below w.heap.size w w'

set_option maxHeartbeats 8000000 in
set_option maxRecDepth 100000 in
theorem pnumbers_any (ws : List (List UInt8)) (vv : Value) (w : World) (hv : StrsAt w vv ws) (hw1 : ws.length ≤ 2000) (hw2 : ∀ k, (wordAt ws k).length ≤ 2000) (h : Env w) : Calls Tryz.prog 36 #[vv] w (NumbersPost ws w) := by
  have HE := hid h
  have HWl := hid (show ws.length ≤ 2000 ∧ ∀ k, (wordAt ws k).length ≤ 2000 from ⟨hw1, hw2⟩)
  have hform : ∃ a c, vv = .slice a ws.length c := by obtain ⟨a, c, e, _⟩ := hv; exact ⟨a, c, e⟩
  obtain ⟨va, vc, rfl⟩ := hform
  have HV := hid hv
  clear h hw1 hw2 hv
  go_enter Tryz.func36, Tryz.ntmps36
  go_wp2_with fail
  go_loopw [4, 11] (fun s i wr => ∃ (k : Nat) (l : List Int), k ≤ ws.length ∧ i = .int .i64 k ∧ numsOf (ws.take k) = some l ∧ OwnInts w.heap.size wr s l ∧ Below w.heap.size w wr) (fun _ i _ => ws.length - (intOf i).toNat)
  case atStart => exact ⟨0, [], by omega, rfl, rfl, own_nil _ _, Below.refl _ _⟩
  case round =>
    obtain ⟨k, l, hk, rfl, hl, ho, hb⟩ := hrel
    obtain ⟨wo, rfl⟩ : ∃ wo : World, wo = wr := ⟨_, rfl⟩
    have KB := hid hb
    have HO := hid ho
    have HLl := hid hl
    obtain ⟨sa, sc, es⟩ := (own_int.2 ho).form
    have hll : l.length = k := by rw [numsOf_len hl, List.length_take]; omega
    rw [hll] at es
    subst es
    have HLn := hid hll
    clear hl ho hb hll
    have HEo := hid (HE.out.go KB.out)
    by_cases hlt : k < ws.length
    · obtain ⟨bs, os, rfl, n0⟩ := HV.out.cell_in KB.out hlt
      have HSt := hid (fun h => numsOf_stop hlt h)
      have HGo := hid (fun n h => numsOf_go (n := n) hlt HLl.out h)
      have HWs := hid (HWl.out.2 k)
      obtain ⟨s, hs⟩ : ∃ s, wordAt ws k = s := ⟨_, rfl⟩
      rw [hs] at n0 HSt HGo HWs
      have i1 : (k : Int) < (ws.length : Int) := by omega
      have z2 : IntKind.i64.wrap ((k : Int) + 1) = (k : Int) + 1 := IntWalk.i64_in _ (by have := HWl.out.1; omega)
      have hat := atoi_any ⟨s.toArray⟩ wo HEo.out (by have := HWs.out; simp [ByteArray.size]; omega)
      unfold AtoiPost at hat
      have e0 : (⟨s.toArray⟩ : ByteArray).data.toList = s := by simp
      rw [e0] at hat
      have hsz : (⟨s.toArray⟩ : ByteArray).size = s.length := by simp [ByteArray.size]
      clear hs e0
      cases hr : Lib.atoiAll s with
      | ok v =>
        rw [hr] at hat
        have HA := hid hat
        have HRr := hid hr
        clear hat hr
        by_cases hv : v < 0
        · have HP0 := hid (show numsOf ws = none from by rw [HSt.out (by unfold numOf; rw [HRr.out]; exact if_neg (fun h => absurd h.1 (by omega)))])
          have d1 : decide (v < 0) = true := by simpa using hv
          have HVn := hid hv
          clear hv
          go_wp2_with (go_at_call 55; refine HA.out.mono ?_; rintro e w3 ⟨rfl, hb⟩; have KB := hid (KB.out.trans (hb.mono KB.out.size)); have HO := hid (HO.out.later hb); have HEo := hid (HEo.out.go hb); clear hb n0)
          refine bodyPost_ret (v := .tuple #[.slice none 0 0, .bool false]) (by simp [results, Tryz.results36, go_sem]) rfl ?_
          unfold NumbersPost
          rw [HP0.out]
          exact ⟨rfl, KB.out⟩
        by_cases h6 : 6 < s.length
        · have HP0 := hid (show numsOf ws = none from by rw [HSt.out (by unfold numOf; rw [HRr.out]; exact if_neg (fun h => absurd h.2.1 (by omega)))])
          have d1 : decide (v < 0) = false := by simpa using hv
          have d2 : decide (6 < (s.length : Int)) = true := decide_eq_true (by omega)
          clear hv h6
          go_wp2_with (go_at_call 55; refine HA.out.mono ?_; rintro e w3 ⟨rfl, hb⟩; have KB := hid (KB.out.trans (hb.mono KB.out.size)); have HO := hid (HO.out.later hb); have HEo := hid (HEo.out.go hb); clear hb n0)
          refine bodyPost_ret (v := .tuple #[.slice none 0 0, .bool false]) (by simp [results, Tryz.results36, go_sem]) rfl ?_
          unfold NumbersPost
          rw [HP0.out]
          exact ⟨rfl, KB.out⟩
        have d1 : decide (v < 0) = false := by simpa using hv
        have d2 : decide (6 < (s.length : Int)) = false := decide_eq_false (by omega)
        by_cases hi : Lib.itoa v = s
        · have HG := hid (HGo.out v (by unfold numOf; rw [HRr.out]; exact if_pos ⟨by omega, by omega, hi⟩))
          have HVb := hid (Lib.atoiAll_bounds HRr.out)
          have hI := itoaW v
          rw [hi] at hI
          have HI := hid hI
          have HVn := hid hv
          have HLk := hid (show (l ++ [v]).length = k + 1 from by rw [List.length_append, HLn.out]; rfl)
          have HQ1 := hid (show l.length + [v].length ≤ 1000000 from by rw [HLn.out]; have := HWl.out.1; simp; omega)
          clear h6 hi hI hv
          go_wp2_with (first
            | (go_at_call 55; refine HA.out.mono ?_; rintro e w3 ⟨rfl, hb⟩; have KB := hid (KB.out.trans (hb.mono KB.out.size)); have HO := hid (HO.out.later hb); have HEo := hid (HEo.out.go hb); clear hb n0)
            | (go_at_call 30; refine (HI.out _ (by have := HVn.out; omega) HVb.out.2 HEo.out.tab).mono ?_; rintro e w4 ⟨rfl, hb⟩; have KB := hid (KB.out.trans (hb.mono KB.out.size)); have HO := hid (HO.out.later hb); have HEo := hid (HEo.out.go hb); clear hb)
            | (at_builtin; have ha := app_one v HO.out KB.out KB.out.size; refine wpList_app encInt Tryz.underlying25 infoInt' (by decide) (by decide) (fun _ => rfl) rfl _ _ rfl w.heap.size l [v] (fun y _ => encInt_one y) _ _ rfl rfl ha.1 ha.2.1 HQ1.out ha.2.2.1 ?_; intro v' w5 hown' hg _ _; have hbl := ha.2.2.2 v' w5 hown' hg; obtain ⟨a2, c2, e2⟩ := hown'.form; rw [HLk.out] at e2; subst e2; have KB := hid hbl.2; have HO := hid hbl.1; clear hown' hg hbl ha))
          go_roundw
          case rel => exact ⟨k + 1, l ++ [v], by omega, by go_num, HG.out, HO.out, KB.out⟩
          case measure => simp [intOf] <;> omega
        · have HP0 := hid (show numsOf ws = none from by rw [HSt.out (by unfold numOf; rw [HRr.out]; exact if_neg (fun h => hi h.2.2))])
          have HVb := hid (Lib.atoiAll_bounds HRr.out)
          have HI := hid (itoaW v)
          have hnb : (Lib.itoa v == s) = false := beq_eq_false_iff_ne.2 hi
          have HVn := hid hv
          clear h6 hi hv
          go_wp2_with (first
            | (go_at_call 55; refine HA.out.mono ?_; rintro e w3 ⟨rfl, hb⟩; have KB := hid (KB.out.trans (hb.mono KB.out.size)); have HO := hid (HO.out.later hb); have HEo := hid (HEo.out.go hb); clear hb n0)
            | (go_at_call 30; refine (HI.out _ (by have := HVn.out; omega) HVb.out.2 HEo.out.tab).mono ?_; rintro e w4 ⟨rfl, hb⟩; have KB := hid (KB.out.trans (hb.mono KB.out.size)); have HO := hid (HO.out.later hb); have HEo := hid (HEo.out.go hb); clear hb))
          refine bodyPost_ret (v := .tuple #[.slice none 0 0, .bool false]) (by simp [results, Tryz.results36, go_sem]) rfl ?_
          unfold NumbersPost
          rw [HP0.out]
          exact ⟨rfl, KB.out⟩
      | range =>
        rw [hr] at hat
        have HA := hid hat
        have HRr := hid hr
        clear hat hr
        have HP0 := hid (show numsOf ws = none from by rw [HSt.out (by unfold numOf; rw [HRr.out])])
        have hne := iface_ne
        go_wp2_with (go_at_call 55; refine HA.out.mono ?_; rintro e w3 ⟨n, ty, N, rfl, hb⟩; have KB := hid (KB.out.trans (hb.mono KB.out.size)); clear hb n0)
        refine bodyPost_ret (v := .tuple #[.slice none 0 0, .bool false]) (by simp [results, Tryz.results36, go_sem]) rfl ?_
        unfold NumbersPost
        rw [HP0.out]
        exact ⟨rfl, KB.out⟩
      | _ =>
        rw [hr] at hat
        have HA := hid hat
        have HRr := hid hr
        clear hat hr
        have HP0 := hid (show numsOf ws = none from by rw [HSt.out (by unfold numOf; rw [HRr.out])])
        have hne := iface_ne
        go_wp2_with (go_at_call 55; refine HA.out.mono ?_; rintro e w3 ⟨n, ty, N, rfl, hb⟩; have KB := hid (KB.out.trans (hb.mono KB.out.size)); clear hb n0)
        refine bodyPost_ret (v := .tuple #[.slice none 0 0, .bool false]) (by simp [results, Tryz.results36, go_sem]) rfl ?_
        unfold NumbersPost
        rw [HP0.out]
        exact ⟨rfl, KB.out⟩
    · obtain rfl : k = ws.length := by omega
      have HP1 := hid (show numsOf ws = some l from by have := HLl.out; rw [List.take_length] at this; exact this)
      go_wp2_with fail
      refine bodyPost_ret (v := .tuple #[.slice sa ws.length sc, .bool true]) (by simp [results, Tryz.results36, go_sem]) rfl ?_
      unfold NumbersPost
      rw [HP1.out]
      exact ⟨_, rfl, HO.out, KB.out⟩
end Go.Proofs.YtefdopifebhgiaaGreatDoor

namespace Go.Proofs.YtefdopifebhgiaaGreatDoor
open Go.RowKit

theorem wing_line (x : Wing) : wingL x = 10 :: wingLine x := by
  unfold wingL wingLine lineL wingW
  simp
theorem wings_lines (ws : List Wing) (b : List UInt8) : ∀ {k : Nat}, k ≤ ws.length → wingsL ws b k ++ [10] = b ++ [10] ++ joinN ((ws.take k).map wingLine) := by
  intro k
  induction k with
  | zero => intro _; simp [wingsL, joinN]
  | succ k ih =>
    intro hk
    have h := ih (by omega)
    have e : ws.take (k + 1) = ws.take k ++ [wg ws k] := by
      rw [List.take_add_one, List.getElem?_eq_getElem (by omega)]
      simp [wg, List.getD_eq_getElem?_getD, List.getElem?_eq_getElem (show k < ws.length by omega)]
    rw [wingsL, e, List.map_append, List.map_singleton, joinN_app, joinN_one, wing_line, ← List.append_assoc, ← List.append_assoc, ← h]
    simp
theorem write_lines (route : Int) (ws : List Wing) : writeL route ws = joinN (linesAll route ws) := by
  have h := wings_lines ws (headL route) (Nat.le_refl _)
  rw [List.take_length] at h
  have e1 : headL route = lineL avenueW [route] := by unfold headL lineL avenueW; simp
  have e2 : writeL route ws = (wingsL ws (headL route) ws.length ++ [10]) ++ (lineL endP [(ws.length : Int)] ++ [10]) := by
    unfold writeL lineL endP; simp
  rw [e2, h, e1]
  unfold linesAll linesA
  rw [joinN_app, joinN_app, joinN_one, joinN_one]
end Go.Proofs.YtefdopifebhgiaaGreatDoor

namespace Go.Proofs.YtefdopifebhgiaaGreatDoor
open Go.RowKit

theorem blkP_lt {w : World} {g : Nat} {o : Obj} (h : w.heap[g]? = some o) : g < w.heap.size := (Array.getElem?_eq_some_iff.1 h).1
theorem blkP_far {w : World} {g : Nat} {o : Obj} {Z i : Nat} {u : Value} (h : w.heap[g]? = some o) (hne : g ≠ Z) : (w.setCell ⟨Z, i, none⟩ u).heap[g]? = some o := (Below.heap_setCell w ⟨Z, i, none⟩ u g hne).trans h
theorem blkP_set {w : World} {g i : Nat} {cs : Array Value} {t : TypeId} {u : Value} (h : w.heap[g]? = some (.cells cs t (0, 0))) : (w.setCell ⟨g, i, none⟩ u).heap[g]? = some (.cells (cs.setIfInBounds i u) t (0, 0)) := by
  simp [World.setCell, Array.getElem?_modify, h]
theorem OwnWg.offP {base : Nat} {w : World} {v : Value} {xs : List Wing} (h : OwnWg base w v xs) {Z : Nat} {cs : Array Value} {t : TypeId} {x : Nat × Nat} (hz : w.heap[Z]? = some (.cells cs t x)) (hne : t ≠ 45) : v.ownBlock = none ∨ v.ownBlock ≠ some Z := by
  rcases h.2 with ⟨rfl, _⟩ | ⟨g, cap, cur, rfl, _, hg, _⟩
  · exact .inl rfl
  · refine .inr (fun e => ?_)
    have e2 : g = Z := Option.some.inj e
    rw [← e2, hg] at hz
    cases hz
    exact hne rfl
theorem OwnWg.kept {base : Nat} {w w' : World} {v : Value} {xs : List Wing} (h : OwnWg base w v xs) {r : Option Nat} (hg : w.grownBy w' r) (hne : v.ownBlock = none ∨ v.ownBlock ≠ r) : OwnWg base w' v xs := World.ownsRow.kept h hg hne
theorem OwnWg.ltP {base : Nat} {w : World} {v : Value} {xs : List Wing} (h : OwnWg base w v xs) {g : Nat} (hg : v.ownBlock = some g) : base ≤ g ∧ g < w.heap.size := World.ownsRow.lt h g hg
theorem blkP_kept {base : Nat} {w w' : World} {v : Value} {xs : List Wing} (h : OwnWg base w v xs) {Z : Nat} {cs : Array Value} {t : TypeId} {x : Nat × Nat} (hz : w.heap[Z]? = some (.cells cs t x)) (hne : t ≠ 45) (hg : w.grownBy w' v.ownBlock) : w'.heap[Z]? = some (.cells cs t x) :=
  (hg.block Z (blkP_lt hz) (fun e1 => by
    rcases h.offP hz hne with h1 | h1
    · rw [h1] at e1; cases e1
    · exact h1 e1.symm)).trans hz
theorem gbP_put (w : World) (Z i : Nat) (u : Value) : w.grownBy (w.setCell ⟨Z, i, none⟩ u) (some Z) :=
  ⟨rfl, rfl, rfl, by simp, fun g hg hne => Below.heap_setCell w ⟨Z, i, none⟩ u g (fun e => hne (by rw [e]))⟩

def wingCell (x : Wing) (j : Nat) : Value := if j = 0 then .string x.name else if j = 1 then .int .i64 x.len else if j = 2 then .int .i64 x.lo else .int .i64 x.hi
theorem wingCells_atP : ∀ (x : Wing) j, j < 4 → (wingCells x)[j]? = some (wingCell x j) := by
  intro x j h; rcases (by omega : j = 0 ∨ j = 1 ∨ j = 2 ∨ j = 3) with rfl | rfl | rfl | rfl <;> rfl
theorem wingCells_one : ∀ x u, u ∈ wingCells x → u.oneCell' = true := by intro x u h; simp [wingCells] at h; rcases h with rfl | rfl | rfl | rfl <;> rfl
theorem infoWingP : (Tryz.prog.info? 45).map (fun i => (i.zero.map (·.cells.size), i.size, i.bytes)) = some (some 4, 4, 40) := by kernel_rfl
theorem infoStrP : (Tryz.prog.info? 9).map (fun i => (i.zero.map (·.cells.size), i.size, i.bytes)) = some (some 1, 1, 16) := by kernel_rfl
theorem wing_lit (w : World) (x : Wing) : RecAt none (w.alloc (.cells #[.string x.name, .int .i64 x.len, .int .i64 x.lo, .int .i64 x.hi] 45)) (.slice (some ⟨w.heap.size, 0, none⟩) 1 1) 1 4 (fun i j => wingCell ([x].getD i noWing) j) :=
  recs_lit wingCells noWing wingCell (by decide) (fun _ => rfl) wingCells_atP none w (fun k e => by cases e) [x] _ rfl _ 1 rfl (by simp)

/-! ### words that are cut off -/
theorem run_words (w : World) {b off n c l : Nat} (h : l ≤ n) : (Instr.sliceAt 32 (.slice (some ⟨b, off, none⟩) n c) (some (.int .i64 (l : Int))) none none).run Tryz.prog w = .ok (.slice (some (if c = l then ⟨b, off, none⟩ else ⟨b, off + l, none⟩)) (n - l) (c - l)) w := by
  have e1 : Tryz.prog.underlying 32 = some (.slice 9) := Tryz.underlying32
  have h2 : (0 : Int) ≤ (l : Int) ∧ (l : Int) ≤ (n : Int) := by omega
  simp [Instr.sliceAt, Instr.slice, Instr.sliceBounds, Instr.sliceBound, go_sem, e1, h, addr_off]
  split <;> rfl
theorem wpList_words {ops : Array Oper} {rest : List Oper} {o : Oper} {a : Act} {w : World} {Q : Exit → Act → World → Prop} (hgd : o.guard = none) (s lo : Operand) (ho : o.op = .slice 32 s (some lo) none none) {b off n c l : Nat} (h0 : a.eval s = .slice (some ⟨b, off, none⟩) n c) (h1 : a.eval lo = .int .i64 (l : Int)) (hl : l ≤ n)
    (h : wpList Tryz.prog ops Q rest (a.put o.dst (.slice (some (if c = l then ⟨b, off, none⟩ else ⟨b, off + l, none⟩)) (n - l) (c - l))) w) : wpList Tryz.prog ops Q (o :: rest) a w :=
  wpList_plain hgd fun K hK => by
    unfold Oper.wp execOp
    simp only [ho]
    rw [h0]
    simp only [Option.map_none, Option.map_some, h1, Sem.run_bind, Sem.run_pure, Result.andThen_ok, run_words w hl]
    exact hK _ _ h
theorem ex_words {w : World} {ρ : Operand → Value} {o : Oper} {s lo : Operand} {b off n c l : Nat} (ho : o.op = .slice 32 s (some lo) none none) (hs : ρ s = .slice (some ⟨b, off, none⟩) n c) (hl : ρ lo = .int .i64 (l : Int)) (h : l ≤ n) : (execOp ρ o).run Tryz.prog w = .ok (.value (.slice (some (if c = l then ⟨b, off, none⟩ else ⟨b, off + l, none⟩)) (n - l) (c - l))) w := by
  unfold execOp
  simp only [ho]
  rw [hs]
  simp only [Option.map_none, Option.map_some, hl, Sem.run_bind, Sem.run_pure, Result.andThen_ok, run_words w h]
theorem strs_one {ws : List (List UInt8)} : ∀ x, x ∈ ws.map strV → ∀ u, u ∈ encV x → u.oneCell' = true := fun x hx u hu => by
  obtain ⟨s, _, rfl⟩ := List.mem_map.1 hx
  rw [List.mem_singleton.1 hu]
  rfl
theorem flat_encV : ∀ xs : List Value, xs.flatMap encV = xs
  | [] => rfl
  | x :: xs => by rw [List.flatMap_cons, flat_encV xs]; rfl
/-- a list of strings, as append takes it -/
theorem strs_src {w : World} {W : Nat} {p0 : List UInt8} {ws : List (List UInt8)} (h : w.heap[W]? = some (.cells ((p0 :: ws).map strV).toArray 9 (0, 0))) (hw : ws ≠ []) :
    Src encV w (.slice (some (if ws.length + 1 = 2 then ⟨W, 0, none⟩ else ⟨W, 0 + 2, none⟩)) (ws.length + 1 - 2) (ws.length + 1 - 2)) (ws.tail.map strV) := by
  cases ws with
  | nil => exact absurd rfl hw
  | cons x r =>
    refine .inl ⟨if (x :: r).length + 1 = 2 then ⟨W, 0, none⟩ else ⟨W, 0 + 2, none⟩, (x :: r).length + 1 - 2, by simp, fun j u hj => ?_⟩
    rw [List.tail_cons, flat_encV] at hj
    have hjl : j < r.length := by have := (List.getElem?_eq_some_iff.1 hj).1; simpa using this
    rw [if_neg (fun e => by simp only [List.length_cons] at e; omega), addr_off, Lib.cell_of_heap h]
    rw [← hj]
    simp only [List.getElem?_toArray, List.map_cons]
    rw [show 0 + 2 + j = (j + 1) + 1 by omega, List.getElem?_cons_succ, List.getElem?_cons_succ]
/-- a list of one string -/
theorem str_one {w : World} {B : Nat} (hB : B ≤ w.heap.size) (s : List UInt8) : OwnR encV 1 9 B (w.alloc (.cells #[strV s] 9)) (.slice (some ⟨w.heap.size, 0, none⟩) 1 1) [strV s] :=
  World.ownsRow_lit (e := 9) (size := 1) w #[strV s] 1 hB (by unfold maxLen; omega) (by simp)
theorem strs_own {B : Nat} {w : World} {v : Value} {ws : List (List UInt8)} (h : OwnR encV 1 9 B w v (ws.map strV)) : StrsAt w v ws := by
  have h1 := h.recs (d := none) undef (fun x _ => x) (fun _ => rfl) (fun x j hj => by (obtain rfl : j = 0 := by omega); rfl) (fun j hj => by cases hj)
  obtain ⟨a, c, e, hh⟩ := h1
  rw [List.length_map] at e hh
  refine ⟨a, c, e, fun h0 => ?_⟩
  obtain ⟨b, off, ea, hn, _, _, hb, hc⟩ := hh h0
  refine ⟨b, off, ea, hn, hb, fun i hi => ?_⟩
  have := hc i hi 0 (by omega)
  rw [Nat.mul_one, Nat.add_zero] at this
  rw [this]
  simp [List.getD_eq_getElem?_getD, wordAt, List.getElem?_eq_getElem hi, strV]
theorem strs_heap {w : World} {W : Nat} {ws : List (List UInt8)} {n : Nat} (h : w.heap[W]? = some (.cells (ws.map strV).toArray 9 (0, 0))) (hn : n = ws.length) : StrsAt w (.slice (some ⟨W, 0, none⟩) n n) ws := by
  subst hn
  refine ⟨_, _, rfl, fun _ => ⟨W, 0, rfl, Nat.le_refl _, blkP_lt h, fun i hi => ?_⟩⟩
  rw [Lib.cell_of_heap h, Nat.zero_add]
  simp [wordAt, List.getD_eq_getElem?_getD, List.getElem?_eq_getElem hi, strV]
theorem StrsAt.form {w : World} {v : Value} {p0 : List UInt8} {ws : List (List UInt8)} (h : StrsAt w v (p0 :: ws)) : ∃ b off c, v = .slice (some ⟨b, off, none⟩) (ws.length + 1) c ∧ w.cell? ⟨b, off, none⟩ = some (.string ⟨p0.toArray⟩) ∧ StrsAt w (.slice (some (if c = 1 then ⟨b, off, none⟩ else ⟨b, off + 1, none⟩)) (ws.length + 1 - 1) (c - 1)) ws := by
  obtain ⟨a, c, rfl, hh⟩ := h
  obtain ⟨b, off, rfl, hn, hb, hc⟩ := hh (by simp)
  rw [List.length_cons] at hn
  refine ⟨b, off, c, rfl, hc 0 (by simp), _, _, rfl, fun h0 => ⟨b, off + 1, by rw [if_neg (by omega)], by omega, hb, fun i hi => ?_⟩⟩
  have := hc (i + 1) (by simp; omega)
  rw [show off + 1 + i = off + (i + 1) by omega, this]
  simp [wordAt, List.getD_eq_getElem?_getD]

/-- what stays while rows are read -/
structure RdP (T S : Nat) (cs : Array Value) (w0 : World) (route : Int) (ws : List Wing) (vw : Value) (w : World) : Prop where
  box : w.heap[T]? = some (.cells #[.int .i64 route, vw] 24 (0, 0))
  rows : w.heap[S]? = some (.cells cs 9 (0, 0))
  own : OwnWg (T + 1) w vw ws
  below : Below w0.heap.size w0 w
  low : w0.heap.size ≤ T
section
variable {T S : Nat} {cs : Array Value} {w0 w w' w2 : World} {route : Int} {ws : List Wing} {vw v' u : Value}
theorem RdP.ne (k : RdP T S cs w0 route ws vw w) : S ≠ T := by
  rintro rfl
  have h1 := k.box
  rw [k.rows] at h1
  cases h1
theorem RdP.later (k : RdP T S cs w0 route ws vw w) (hb : Below w.heap.size w w') : RdP T S cs w0 route ws vw w' :=
  ⟨(hb.block _ (blkP_lt k.box)).trans k.box, (hb.block _ (blkP_lt k.rows)).trans k.rows, k.own.later hb, below_trans k.below hb, k.low⟩
theorem RdP.c (k : RdP T S cs w0 route ws vw w) : w.cell? ⟨T, 0, none⟩ = some (.int .i64 route) ∧ w.cell? ⟨T, 1, none⟩ = some vw :=
  ⟨by rw [Lib.cell_of_heap k.box]; rfl, by rw [Lib.cell_of_heap k.box]; rfl⟩
theorem RdP.f (k : RdP T S cs w0 route ws vw w) (o : Nat) : w.frozen? ⟨T, o, none⟩ = false := Lib.frozen_of_heap k.box _
theorem RdP.row (k : RdP T S cs w0 route ws vw w) (o : Nat) : w.cell? ⟨S, o, none⟩ = cs[o]? := Lib.cell_of_heap k.rows o
theorem RdP.setRoute (k : RdP T S cs w0 route ws vw w) (n : Int) : RdP T S cs w0 n ws vw (w.setCell ⟨T, 0, none⟩ (.int .i64 n)) :=
  ⟨by rw [blkP_set k.box]; rfl, blkP_far k.rows k.ne, k.own.kept (gbP_put w T 0 _) (k.own.offP k.box (by decide)), k.below.setCell (p := ⟨T, 0, none⟩) k.low _, k.low⟩
theorem RdP.wings (k : RdP T S cs w0 route ws vw w) {xs : List Wing} (hown : OwnWg (T + 1) w2 v' xs) (hg : w.grownBy w2 vw.ownBlock) :
    w2.heap[T]? = some (.cells #[.int .i64 route, vw] 24 (0, 0)) ∧ RdP T S cs w0 route xs v' (w2.setCell ⟨T, 1, none⟩ v') := by
  have h1 := blkP_kept k.own k.box (by decide) hg
  have h2 := blkP_kept k.own k.rows (by decide) hg
  have hb : Below w0.heap.size w0 w2 := k.below.grown hg k.below.size (fun j hj => by have := (k.own.ltP hj).1; have := k.low; omega)
  exact ⟨h1, by rw [blkP_set h1]; rfl, blkP_far h2 k.ne, hown.kept (gbP_put w2 T 1 _) (hown.offP h1 (by decide)), hb.setCell (p := ⟨T, 1, none⟩) k.low _, k.low⟩
end
/-- what is read has few wings, of short names -/
theorem stepP_few {i : Nat} {row : List UInt8} {s t : PSt} (h : stepP i row s = some t) : t.wings.length ≤ s.wings.length + 1 ∧ ∀ M, row.length ≤ M → (∀ x, x ∈ s.wings → x.name.size ≤ M) → ∀ x, x ∈ t.wings → x.name.size ≤ M := by
  unfold stepP at h
  split at h
  · cases h
  · rename_i w0 ws hc
    split at h
    · cases h
    · rename_i l hl
      unfold stepA at h
      split at h
      · cases h
      · split at h
        · cases h
        · split at h
          · cases h; exact ⟨by simp, fun M _ hs => hs⟩
          · split at h
            · rename_i hn
              cases h
              refine ⟨by simp, fun M hM hs x hx => ?_⟩
              rcases List.mem_append.1 hx with hx | hx
              · exact hs x hx
              · rw [List.mem_singleton.1 hx]
                have hb := (cutL_bound 32 row).2
                have hw : nameOf w0 ws ∈ cutL 32 row := by
                  rw [hc]
                  unfold nameOf at hn ⊢
                  split
                  · rename_i h1
                    cases ws with
                    | nil => exact absurd rfl h1.2
                    | cons a r => simp
                  · rename_i h1
                    rw [if_neg h1] at hn
                    exact absurd rfl hn.1
                have := hb _ hw
                show (nameOf w0 ws).toArray.size ≤ M
                simp at this ⊢
                omega
            · split at h
              · cases h; exact ⟨by simp, fun M _ hs => hs⟩
              · cases h
theorem runP_few {rows : List (List UInt8)} {M : Nat} (hr : ∀ k, (rowOf rows k).length ≤ M) : ∀ {k : Nat} {s : PSt}, k ≤ rows.length → runS stepP noPSt rows k = some s → s.wings.length ≤ k ∧ ∀ x, x ∈ s.wings → x.name.size ≤ M
  | 0, s, _, h => by cases h; exact ⟨by simp [noPSt], fun x hx => by simp [noPSt] at hx⟩
  | k + 1, s, hk, h => by
    rw [runS_succ stepP noPSt (by omega)] at h
    cases ht : runS stepP noPSt rows k with
    | none => rw [ht] at h; cases h
    | some t =>
      rw [ht, Option.bind_some] at h
      have h1 := runP_few hr (by omega) ht
      have h2 := stepP_few h
      exact ⟨by omega, h2.2 M (hr k) h1.2⟩

/-- what Read answers -/
def ReadAPost (text : List UInt8) (w : World) (e : Ending) (w' : World) : Prop :=
  ∃ vw, e = .returned (.tuple #[.agg #[.int .i64 (readA text).1.1, vw], .int .i64 (readA text).2.1, .int .i64 (readA text).2.2]) ∧ OwnWg w.heap.size w' vw (readA text).1.2 ∧ Below w.heap.size w w'
end Go.Proofs.YtefdopifebhgiaaGreatDoor
