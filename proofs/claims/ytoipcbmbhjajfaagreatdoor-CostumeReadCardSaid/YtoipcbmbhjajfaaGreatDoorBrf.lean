/-
  WALKS: costume.parse.
  WHAT STAYS while a sheet is read: the plot's box, the rows, the plot's lists.
-/
import Derived.Test.YtoipcbmbhjajfaaGreatDoorNum
import Derived.Test.YtoipcbmbhjajfaaGreatDoorBwc
import Derived.Test.YtoipcbmbhjajfaaGreatDoorBrd
import Derived.Test.YtoipcbmbhjajfaaGreatDoorKpl
namespace Go.Proofs.YtoipcbmbhjajfaaGreatDoor
open Go.RowKit

/-- what parse answers -/
def ParsePost (row : List UInt8) (w : World) (e : Ending) (w' : World) : Prop :=
  match parseL row with
  | none => e = .returned (.tuple #[.string ⟨#[]⟩, .slice none 0 0, .bool false]) ∧ Below w.heap.size w w'
  | some (wd, l) => ∃ v, e = .returned (.tuple #[.string ⟨wd.toArray⟩, v, .bool true]) ∧ OwnInts w.heap.size w' v l ∧ Below w.heap.size w w'

set_option maxHeartbeats 8000000 in
set_option maxRecDepth 100000 in
theorem parse_any (row : List UInt8) (w : World) (hr : row.length ≤ 2000) (h : Env w) : Calls Tryz.prog 34 #[.string ⟨row.toArray⟩] w (ParsePost row w) := by
  have HE := hid h
  have HR := hid hr
  obtain ⟨p0, ws, hcut⟩ := cutL_ne 32 row
  have HCut := hid hcut
  have hbd := cutL_bound 32 row
  rw [hcut] at hbd
  have HWl := hid (show ws.length ≤ 2000 ∧ ∀ k, (wordAt ws k).length ≤ 2000 from ⟨by have := hbd.1; simp at this; omega, fun k => by
    unfold wordAt
    rw [List.getD_eq_getElem?_getD]
    rcases Nat.lt_or_ge k ws.length with hk | hk
    · rw [List.getElem?_eq_getElem hk]; have := hbd.2 ws[k] (by simp); simp; omega
    · rw [List.getElem?_eq_none hk]; simp⟩)
  have hsp := split_any ⟨row.toArray⟩ 32 w h (by simp [ByteArray.size]; omega)
  have e0 : (⟨row.toArray⟩ : ByteArray).data.toList = row := by simp
  rw [e0, hcut] at hsp
  have HS := hid hsp
  obtain ⟨w1, hw1⟩ : ∃ w1, w.alloc (.cells ((p0 :: ws).map strV).toArray 9) = w1 := ⟨_, rfl⟩
  have HB1 := hid (show Below w.heap.size w w1 from hw1 ▸ below_alloc _ _)
  have HC0 := hid (show ∀ W', Below w1.heap.size w1 W' → W'.cell? ⟨w.heap.size, 0, none⟩ = some (.string ⟨p0.toArray⟩) from fun W' hb => cell_back hb (by rw [← hw1]; simp) (by rw [← hw1]; exact cell_at rfl (by simp [strV])))
  have HCk := hid (show ∀ k, k < ws.length → ∀ W', Below w1.heap.size w1 W' → W'.cell? ⟨w.heap.size, 1 + k, none⟩ = some (.string ⟨(wordAt ws k).toArray⟩) from fun k hk W' hb => cell_back hb (by rw [← hw1]; simp) (by
    rw [← hw1]
    refine cell_at rfl ?_
    rw [Nat.add_comm 1 k]
    simp [strV, wordAt, List.getD_eq_getElem?_getD, List.getElem?_eq_getElem hk]))
  rw [hw1] at HS
  clear h hr hcut hbd hsp e0 hw1
  have HPL := hid (show parseL row = match numsOf ws with | none => none | some l => some (p0, l) from by unfold parseL; rw [HCut.out]; rfl)
  by_cases hw : ws.length = 0
  · have hz : ws = [] := List.eq_nil_of_length_eq_zero hw
    subst hz
    clear hw HCk HWl
    have HPL := hid (show parseL row = some (p0, []) from HPL.out)
    go_enter Tryz.func34, Tryz.ntmps34
    go_wp2_with (go_at_call 33; refine HS.out.mono ?_; rintro e w2 ⟨rfl, rfl⟩)
    go_loopw [6, 16] (fun s i wr => s = .slice none 0 0 ∧ i = .int .i64 0 ∧ wr = w1) (fun _ _ _ => 0)
    case atStart => exact ⟨rfl, rfl, rfl⟩
    case round =>
      obtain ⟨rfl, rfl, rfl⟩ := hrel
      have c0 := HC0.out _ (Below.refl _ _)
      go_wp2_with fail
      refine bodyPost_ret (v := .tuple #[.string ⟨p0.toArray⟩, .slice none 0 0, .bool true]) (by simp [results, Tryz.results34, go_sem]) rfl ?_
      unfold ParsePost
      rw [HPL.out]
      exact ⟨_, rfl, own_nil _ _, HB1.out⟩
  have i0 : 0 < ws.length := by omega
  clear hw
  go_enter Tryz.func34, Tryz.ntmps34
  go_wp2_with (go_at_call 33; refine HS.out.mono ?_; rintro e w2 ⟨rfl, rfl⟩)
  case inl h => exact absurd i0 (by rw [h]; simp)
  go_loopw [6, 16] (fun s i wr => ∃ (k : Nat) (l : List Int), k ≤ ws.length ∧ i = .int .i64 k ∧ numsOf (ws.take k) = some l ∧ OwnInts w1.heap.size wr s l ∧ Below w1.heap.size w1 wr) (fun _ i _ => ws.length - (intOf i).toNat)
  case atStart => exact ⟨0, [], by omega, rfl, rfl, own_nil _ _, Below.refl _ _⟩
  case round =>
    obtain ⟨k, l, hk, rfl, hl, ho, hb⟩ := hrel
    obtain ⟨wo, rfl⟩ : ∃ wo : World, wo = wr := ⟨_, rfl⟩
    have KB := hid hb
    have HO := hid ho
    have HLl := hid hl
    obtain ⟨sa, sc, es⟩ := (own_int.2 ho).form
    have hll : l.length = k := by rw [numsOf_len hl, List.length_take]; omega
    rw [hll] at es
    subst es
    have HLn := hid hll
    clear hl ho hb hll
    have HEo := hid (HE.out.go (below_trans HB1.out KB.out))
    by_cases hlt : k < ws.length
    · have n0 := HCk.out k hlt wo KB.out
      have HSt := hid (fun h => numsOf_stop hlt h)
      have HGo := hid (fun n h => numsOf_go (n := n) hlt HLl.out h)
      have HWs := hid (HWl.out.2 k)
      obtain ⟨s, hs⟩ : ∃ s, wordAt ws k = s := ⟨_, rfl⟩
      rw [hs] at n0 HSt HGo HWs
      have i1 : (k : Int) < (ws.length : Int) := by omega
      have z2 : IntKind.i64.wrap ((k : Int) + 1) = (k : Int) + 1 := IntWalk.i64_in _ (by have := HWl.out.1; omega)
      have hat := atoi_any ⟨s.toArray⟩ wo HEo.out (by have := HWs.out; simp [ByteArray.size]; omega)
      unfold AtoiPost at hat
      have e0 : (⟨s.toArray⟩ : ByteArray).data.toList = s := by simp
      rw [e0] at hat
      have hsz : (⟨s.toArray⟩ : ByteArray).size = s.length := by simp [ByteArray.size]
      clear hs e0
      cases hr : Lib.atoiAll s with
      | ok v =>
        rw [hr] at hat
        have HA := hid hat
        have HRr := hid hr
        clear hat hr
        by_cases hv : v < 0
        · have HP0 := hid (show parseL row = none from by rw [HPL.out, HSt.out (by unfold numOf; rw [HRr.out]; exact if_neg (fun h => absurd h.1 (by omega)))])
          have d1 : decide (v < 0) = true := by simpa using hv
          have HVn := hid hv
          clear hv
          go_wp2_with (go_at_call 62; refine HA.out.mono ?_; rintro e w3 ⟨rfl, hb⟩; have KB := hid (KB.out.trans (hb.mono KB.out.size)); have HO := hid (HO.out.later hb); have HEo := hid (HEo.out.go hb); clear hb n0)
          refine bodyPost_ret (v := .tuple #[.string ⟨#[]⟩, .slice none 0 0, .bool false]) (by simp [results, Tryz.results34, go_sem]) rfl ?_
          unfold ParsePost
          rw [HP0.out]
          exact ⟨rfl, below_trans HB1.out KB.out⟩
        by_cases h6 : 6 < s.length
        · have HP0 := hid (show parseL row = none from by rw [HPL.out, HSt.out (by unfold numOf; rw [HRr.out]; exact if_neg (fun h => absurd h.2.1 (by omega)))])
          have d1 : decide (v < 0) = false := by simpa using hv
          have d2 : decide (6 < (s.length : Int)) = true := decide_eq_true (by omega)
          clear hv h6
          go_wp2_with (go_at_call 62; refine HA.out.mono ?_; rintro e w3 ⟨rfl, hb⟩; have KB := hid (KB.out.trans (hb.mono KB.out.size)); have HO := hid (HO.out.later hb); have HEo := hid (HEo.out.go hb); clear hb n0)
          refine bodyPost_ret (v := .tuple #[.string ⟨#[]⟩, .slice none 0 0, .bool false]) (by simp [results, Tryz.results34, go_sem]) rfl ?_
          unfold ParsePost
          rw [HP0.out]
          exact ⟨rfl, below_trans HB1.out KB.out⟩
        have d1 : decide (v < 0) = false := by simpa using hv
        have d2 : decide (6 < (s.length : Int)) = false := decide_eq_false (by omega)
        by_cases hi : Lib.itoa v = s
        · have HG := hid (HGo.out v (by unfold numOf; rw [HRr.out]; exact if_pos ⟨by omega, by omega, hi⟩))
          have HVb := hid (Lib.atoiAll_bounds HRr.out)
          have hI := itoaW v
          rw [hi] at hI
          have HI := hid hI
          have HVn := hid hv
          have HLk := hid (show (l ++ [v]).length = k + 1 from by rw [List.length_append, HLn.out]; rfl)
          have HQ1 := hid (show l.length + [v].length ≤ 1000000 from by rw [HLn.out]; have := HWl.out.1; simp; omega)
          clear h6 hi hI hv
          go_wp2_with (first
            | (go_at_call 62; refine HA.out.mono ?_; rintro e w3 ⟨rfl, hb⟩; have KB := hid (KB.out.trans (hb.mono KB.out.size)); have HO := hid (HO.out.later hb); have HEo := hid (HEo.out.go hb); clear hb n0)
            | (go_at_call 29; refine (HI.out _ (by have := HVn.out; omega) HVb.out.2 HEo.out.tab).mono ?_; rintro e w4 ⟨rfl, hb⟩; have KB := hid (KB.out.trans (hb.mono KB.out.size)); have HO := hid (HO.out.later hb); have HEo := hid (HEo.out.go hb); clear hb)
            | (at_builtin; have ha := app_one v HO.out KB.out KB.out.size; refine wpList_app encInt Tryz.underlying24 infoInt' (by decide) (by decide) (fun _ => rfl) rfl _ _ rfl w1.heap.size l [v] (fun y _ => encInt_one y) _ _ rfl rfl ha.1 ha.2.1 HQ1.out ha.2.2.1 ?_; intro v' w5 hown' hg _ _; have hbl := ha.2.2.2 v' w5 hown' hg; obtain ⟨a2, c2, e2⟩ := hown'.form; rw [HLk.out] at e2; subst e2; have KB := hid hbl.2; have HO := hid hbl.1; clear hown' hg hbl ha))
          go_roundw
          case rel => exact ⟨k + 1, l ++ [v], by omega, by go_num, HG.out, HO.out, KB.out⟩
          case measure => simp [intOf] <;> omega
        · have HP0 := hid (show parseL row = none from by rw [HPL.out, HSt.out (by unfold numOf; rw [HRr.out]; exact if_neg (fun h => hi h.2.2))])
          have HVb := hid (Lib.atoiAll_bounds HRr.out)
          have HI := hid (itoaW v)
          have hnb : (Lib.itoa v == s) = false := beq_eq_false_iff_ne.2 hi
          have HVn := hid hv
          clear h6 hi hv
          go_wp2_with (first
            | (go_at_call 62; refine HA.out.mono ?_; rintro e w3 ⟨rfl, hb⟩; have KB := hid (KB.out.trans (hb.mono KB.out.size)); have HO := hid (HO.out.later hb); have HEo := hid (HEo.out.go hb); clear hb n0)
            | (go_at_call 29; refine (HI.out _ (by have := HVn.out; omega) HVb.out.2 HEo.out.tab).mono ?_; rintro e w4 ⟨rfl, hb⟩; have KB := hid (KB.out.trans (hb.mono KB.out.size)); have HO := hid (HO.out.later hb); have HEo := hid (HEo.out.go hb); clear hb))
          refine bodyPost_ret (v := .tuple #[.string ⟨#[]⟩, .slice none 0 0, .bool false]) (by simp [results, Tryz.results34, go_sem]) rfl ?_
          unfold ParsePost
          rw [HP0.out]
          exact ⟨rfl, below_trans HB1.out KB.out⟩
      | range =>
        rw [hr] at hat
        have HA := hid hat
        have HRr := hid hr
        clear hat hr
        have HP0 := hid (show parseL row = none from by rw [HPL.out, HSt.out (by unfold numOf; rw [HRr.out])])
        have hne := iface_ne
        go_wp2_with (go_at_call 62; refine HA.out.mono ?_; rintro e w3 ⟨n, ty, N, rfl, hb⟩; have KB := hid (KB.out.trans (hb.mono KB.out.size)); clear hb n0)
        refine bodyPost_ret (v := .tuple #[.string ⟨#[]⟩, .slice none 0 0, .bool false]) (by simp [results, Tryz.results34, go_sem]) rfl ?_
        unfold ParsePost
        rw [HP0.out]
        exact ⟨rfl, below_trans HB1.out KB.out⟩
      | _ =>
        rw [hr] at hat
        have HA := hid hat
        have HRr := hid hr
        clear hat hr
        have HP0 := hid (show parseL row = none from by rw [HPL.out, HSt.out (by unfold numOf; rw [HRr.out])])
        have hne := iface_ne
        go_wp2_with (go_at_call 62; refine HA.out.mono ?_; rintro e w3 ⟨n, ty, N, rfl, hb⟩; have KB := hid (KB.out.trans (hb.mono KB.out.size)); clear hb n0)
        refine bodyPost_ret (v := .tuple #[.string ⟨#[]⟩, .slice none 0 0, .bool false]) (by simp [results, Tryz.results34, go_sem]) rfl ?_
        unfold ParsePost
        rw [HP0.out]
        exact ⟨rfl, below_trans HB1.out KB.out⟩
    · obtain rfl : k = ws.length := by omega
      have HP1 := hid (show parseL row = some (p0, l) from by rw [HPL.out]; have := HLl.out; rw [List.take_length] at this; rw [this])
      have c0 := HC0.out _ KB.out
      go_wp2_with fail
      refine bodyPost_ret (v := .tuple #[.string ⟨p0.toArray⟩, .slice sa ws.length sc, .bool true]) (by simp [results, Tryz.results34, go_sem]) rfl ?_
      unfold ParsePost
      rw [HP1.out]
      exact ⟨_, rfl, HO.out.base' HB1.out.size, below_trans HB1.out KB.out⟩
end Go.Proofs.YtoipcbmbhjajfaaGreatDoor

namespace Go.Proofs.YtoipcbmbhjajfaaGreatDoor
open Go.RowKit

theorem blkG_lt {w : World} {g : Nat} {o : Obj} (h : w.heap[g]? = some o) : g < w.heap.size := (Array.getElem?_eq_some_iff.1 h).1
theorem blk_far {w : World} {g : Nat} {o : Obj} {Z i : Nat} {u : Value} (h : w.heap[g]? = some o) (hne : g ≠ Z) : (w.setCell ⟨Z, i, none⟩ u).heap[g]? = some o := (Below.heap_setCell w ⟨Z, i, none⟩ u g hne).trans h
theorem blk_set {w : World} {g i : Nat} {cs : Array Value} {t : TypeId} {u : Value} (h : w.heap[g]? = some (.cells cs t (0, 0))) : (w.setCell ⟨g, i, none⟩ u).heap[g]? = some (.cells (cs.setIfInBounds i u) t (0, 0)) := by
  simp [World.setCell, Array.getElem?_modify, h]
theorem blk_kept {α : Type} {enc : α → List Value} {k : Nat} {e e' : TypeId} {base : Nat} {w w' : World} {v : Value} {xs : List α} (h : OwnR enc k e base w v xs) {Z : Nat} {cs : Array Value} {x : Nat × Nat} (hz : w.heap[Z]? = some (.cells cs e' x)) (hne : e ≠ e') (hg : w.grownBy w' v.ownBlock) : w'.heap[Z]? = some (.cells cs e' x) :=
  (hg.block Z (blkG_lt hz) (fun e1 => by
    rcases h.offB hz hne with h1 | h1
    · rw [h1] at e1; cases e1
    · exact h1 e1.symm)).trans hz

/-- what stays while rows are read -/
structure RdI (T S : Nat) (cs : Array Value) (w0 : World) (p : Plot) (vp vw vd vq : Value) (w : World) : Prop where
  box : w.heap[T]? = some (.cells #[vp, vw, vd, vq] 27 (0, 0))
  rows : w.heap[S]? = some (.cells cs 9 (0, 0))
  own : OwnP (T + 1) w vp vw vd vq p
  below : Below w0.heap.size w0 w
  low : w0.heap.size ≤ T
section
variable {T S : Nat} {cs : Array Value} {w0 w w' w2 : World} {p : Plot} {vp vw vd vq v' u : Value}
theorem RdI.ne (k : RdI T S cs w0 p vp vw vd vq w) : S ≠ T := by
  rintro rfl
  have h1 := k.box
  rw [k.rows] at h1
  cases h1
theorem RdI.later (k : RdI T S cs w0 p vp vw vd vq w) (hb : Below w.heap.size w w') : RdI T S cs w0 p vp vw vd vq w' :=
  ⟨(hb.block _ (blkG_lt k.box)).trans k.box, (hb.block _ (blkG_lt k.rows)).trans k.rows, k.own.later hb, below_trans k.below hb, k.low⟩
theorem RdI.c (k : RdI T S cs w0 p vp vw vd vq w) : w.cell? ⟨T, 0, none⟩ = some vp ∧ w.cell? ⟨T, 1, none⟩ = some vw ∧ w.cell? ⟨T, 2, none⟩ = some vd ∧ w.cell? ⟨T, 3, none⟩ = some vq :=
  ⟨by rw [Lib.cell_of_heap k.box]; rfl, by rw [Lib.cell_of_heap k.box]; rfl, by rw [Lib.cell_of_heap k.box]; rfl, by rw [Lib.cell_of_heap k.box]; rfl⟩
theorem RdI.f (k : RdI T S cs w0 p vp vw vd vq w) (o : Nat) : w.frozen? ⟨T, o, none⟩ = false := Lib.frozen_of_heap k.box _
theorem RdI.row (k : RdI T S cs w0 p vp vw vd vq w) (o : Nat) : w.cell? ⟨S, o, none⟩ = cs[o]? := Lib.cell_of_heap k.rows o
/-- one of the box's cells is written, the other lists stay -/
theorem RdI.store {w1 : World} (k1 : w1.heap[T]? = some (.cells #[vp, vw, vd, vq] 27 (0, 0))) (k2 : w1.heap[S]? = some (.cells cs 9 (0, 0))) (k3 : Below w0.heap.size w0 w1) (k4 : w0.heap.size ≤ T) (hne : S ≠ T) {q : Plot} {a b c d : Value} (hown : OwnP (T + 1) w1 a b c d q) (i : Nat) (x : Value)
    (hbox : (#[vp, vw, vd, vq] : Array Value).setIfInBounds i x = #[a, b, c, d]) : RdI T S cs w0 q a b c d (w1.setCell ⟨T, i, none⟩ x) :=
  ⟨by rw [blk_set k1, hbox], blk_far k2 hne, hown.off k1 (gb_put w1 T i x), k3.setCell (p := ⟨T, i, none⟩) k4 _, k4⟩
theorem RdI.persons (k : RdI T S cs w0 p vp vw vd vq w) {xs : List (Int × Int)} {lit : Obj} (hown : OwnR encSpan 2 58 (T + 1) w2 v' xs) (hg : (w.alloc lit).grownBy w2 vp.ownBlock) :
    w2.heap[T]? = some (.cells #[vp, vw, vd, vq] 27 (0, 0)) ∧ RdI T S cs w0 { p with persons := xs } v' vw vd vq (w2.setCell ⟨T, 0, none⟩ v') := by
  have kA := k.later (below_alloc w lit)
  have h1 := blk_kept kA.own.persons kA.box (by decide) hg
  have h2 := blk_kept kA.own.persons kA.rows (by decide) hg
  have hb : Below w0.heap.size w0 w2 := kA.below.grown hg kA.below.size (fun j hj => by have := (kA.own.persons.lt hj).1; have := k.low; omega)
  obtain ⟨vs, hv⟩ := kA.own.walk
  exact ⟨h1, RdI.store (q := { p with persons := xs }) h1 h2 hb k.low k.ne ⟨hown, ⟨vs, hv.other kA.own.persons (by decide) (by decide) hg⟩, kA.own.dress.kept hg (kA.own.dress.apart kA.own.persons (by decide)), kA.own.parts.kept hg (kA.own.parts.apart kA.own.persons (by decide))⟩ 0 v' rfl⟩
theorem RdI.parts (k : RdI T S cs w0 p vp vw vd vq w) {xs : List Part} {lit : Obj} (hown : OwnR encPart 5 60 (T + 1) w2 v' xs) (hg : (w.alloc lit).grownBy w2 vq.ownBlock) :
    w2.heap[T]? = some (.cells #[vp, vw, vd, vq] 27 (0, 0)) ∧ RdI T S cs w0 { p with parts := xs } vp vw vd v' (w2.setCell ⟨T, 3, none⟩ v') := by
  have kA := k.later (below_alloc w lit)
  have h1 := blk_kept kA.own.parts kA.box (by decide) hg
  have h2 := blk_kept kA.own.parts kA.rows (by decide) hg
  have hb : Below w0.heap.size w0 w2 := kA.below.grown hg kA.below.size (fun j hj => by have := (kA.own.parts.lt hj).1; have := k.low; omega)
  exact ⟨h1, RdI.store (q := { p with parts := xs }) h1 h2 hb k.low k.ne (kA.own.turn hown hg) 3 v' rfl⟩
theorem RdI.walk (k : RdI T S cs w0 p vp vw vd vq w) {vs : List Value} {l : List Int} {lit : Obj} (hv : RowsO (T + 1) w vw vs p.walk) (hu : OwnR encInt 1 3 (T + 1) w u l) (hown : OwnR encV 1 24 (T + 1) w2 v' (vs ++ [u])) (hg : (w.alloc lit).grownBy w2 vw.ownBlock) :
    w2.heap[T]? = some (.cells #[vp, vw, vd, vq] 27 (0, 0)) ∧ RdI T S cs w0 { p with walk := p.walk ++ [l] } vp v' vd vq (w2.setCell ⟨T, 1, none⟩ v') := by
  have kA := k.later (below_alloc w lit)
  have hvA := hv.later (below_alloc w lit)
  have h1 := blk_kept hvA.own kA.box (by decide) hg
  have h2 := blk_kept hvA.own kA.rows (by decide) hg
  have hb : Below w0.heap.size w0 w2 := kA.below.grown hg kA.below.size (fun j hj => by have := (hvA.own.lt hj).1; have := k.low; omega)
  exact ⟨h1, RdI.store (q := { p with walk := p.walk ++ [l] }) h1 h2 hb k.low k.ne ⟨kA.own.persons.kept hg (kA.own.persons.apart hvA.own (by decide)), ⟨_, hvA.snoc (hu.later (below_alloc w lit)) hown hg⟩, kA.own.dress.kept hg (kA.own.dress.apart hvA.own (by decide)), kA.own.parts.kept hg (kA.own.parts.apart hvA.own (by decide))⟩ 1 v' rfl⟩
theorem RdI.dress (k : RdI T S cs w0 p vp vw vd vq w) {l : List Int} (hu : OwnR encInt 1 3 (T + 1) w u l) : RdI T S cs w0 { p with dress := l } vp vw u vq (w.setCell ⟨T, 2, none⟩ u) :=
  RdI.store (q := { p with dress := l }) k.box k.rows k.below k.low k.ne ⟨k.own.persons, k.own.walk, hu, k.own.parts⟩ 2 u rfl
theorem RdI.personsG (k : RdI T S cs w0 p vp vw vd vq w) {xs : List (Int × Int)} (hown : OwnR encSpan 2 58 (T + 1) w2 v' xs) (hg : w.grownBy w2 vp.ownBlock) :
    w2.heap[T]? = some (.cells #[vp, vw, vd, vq] 27 (0, 0)) ∧ RdI T S cs w0 { p with persons := xs } v' vw vd vq (w2.setCell ⟨T, 0, none⟩ v') := by
  have h1 := blk_kept k.own.persons k.box (by decide) hg
  have h2 := blk_kept k.own.persons k.rows (by decide) hg
  have hb : Below w0.heap.size w0 w2 := k.below.grown hg k.below.size (fun j hj => by have := (k.own.persons.lt hj).1; have := k.low; omega)
  obtain ⟨vs, hv⟩ := k.own.walk
  exact ⟨h1, RdI.store (q := { p with persons := xs }) h1 h2 hb k.low k.ne ⟨hown, ⟨vs, hv.other k.own.persons (by decide) (by decide) hg⟩, k.own.dress.kept hg (k.own.dress.apart k.own.persons (by decide)), k.own.parts.kept hg (k.own.parts.apart k.own.persons (by decide))⟩ 0 v' rfl⟩
theorem RdI.partsG (k : RdI T S cs w0 p vp vw vd vq w) {xs : List Part} (hown : OwnR encPart 5 60 (T + 1) w2 v' xs) (hg : w.grownBy w2 vq.ownBlock) :
    w2.heap[T]? = some (.cells #[vp, vw, vd, vq] 27 (0, 0)) ∧ RdI T S cs w0 { p with parts := xs } vp vw vd v' (w2.setCell ⟨T, 3, none⟩ v') := by
  have h1 := blk_kept k.own.parts k.box (by decide) hg
  have h2 := blk_kept k.own.parts k.rows (by decide) hg
  have hb : Below w0.heap.size w0 w2 := k.below.grown hg k.below.size (fun j hj => by have := (k.own.parts.lt hj).1; have := k.low; omega)
  exact ⟨h1, RdI.store (q := { p with parts := xs }) h1 h2 hb k.low k.ne (k.own.turn hown hg) 3 v' rfl⟩
theorem keepL {α : Type} {enc : α → List Value} {kk : Nat} {e : TypeId} {base : Nat} {v : Value} {xs : List α} {l : List Int} {csT : Array Value} (hu : OwnR encInt 1 3 base w u l) (ho : OwnR enc kk e base w v xs) (he : 3 ≠ e) (hg : w.grownBy w2 v.ownBlock) (hbox : w2.heap[T]? = some (.cells csT 27 (0, 0))) (i : Nat) (x : Value) :
    OwnInts base (w2.setCell ⟨T, i, none⟩ x) u l := by
  have h1 := hu.kept hg (hu.apart ho he)
  exact own_int.1 (h1.kept (gb_put w2 T i x) (h1.offB hbox (by decide)))
end
theorem spans_lit (w : World) (a b : Int) : SpansAt none (w.alloc (.cells #[.int .i64 a, .int .i64 b] 58)) (.slice (some ⟨w.heap.size, 0, none⟩) 1 1) [(a, b)] :=
  recs_lit encSpan (0, 0) spanCell (by decide) (fun _ => rfl) encSpan_at none w (fun k e => by cases e) [(a, b)] _ rfl _ 1 rfl (by simp)
theorem part_lit (w : World) (x : Part) : PartsAt none (w.alloc (.cells #[.int .i64 x.person, .int .i64 x.place, .int .i64 x.kind, .int .i64 x.start, .int .i64 x.stop] 60)) (.slice (some ⟨w.heap.size, 0, none⟩) 1 1) [x] :=
  recs_lit encPart noPart partCell (by decide) (fun _ => rfl) encPart_at none w (fun k e => by cases e) [x] _ rfl _ 1 rfl (by simp)
theorem pairsN_len (l : List Int) (j : Nat) : (pairsN l j).length = j := by
  induction j with
  | zero => rfl
  | succ j ih => rw [pairsN, List.length_append, ih]; rfl
theorem rem_two (n : Nat) (hn : n ≤ 1000000) (w : World) : Sem.run Tryz.prog (Op.intDiv .rem .i64 (n : Int) 2) w = .ok (.int .i64 ((n % 2 : Nat) : Int)) w := by
  have h : IntKind.i64.wrap ((n : Int).tmod 2) = ((n % 2 : Nat) : Int) := by
    rw [IntWalk.i64_in _ (by rw [Int.tmod_eq_emod_of_nonneg (by omega)]; omega), Int.tmod_eq_emod_of_nonneg (by omega)]
    omega
  simp [Op.intDiv, h]
  exact Int.tmod_eq_emod_of_nonneg (by omega)
theorem parse_len {row w : List UInt8} {l : List Int} (h : parseL row = some (w, l)) : l.length ≤ row.length := by
  unfold parseL at h
  split at h
  · cases h
  · rename_i w0 ws hc
    split at h
    · cases h
    · rename_i l0 hl
      cases h
      have h1 := (cutL_bound 32 row).1
      rw [hc] at h1
      have h2 := numsOf_len hl
      simp at h1
      omega
theorem stepW_len {i : Nat} {w : List UInt8} {l : List Int} {s t : RSt} (h : stepW i w l s = some t) : t.p.walk.length ≤ s.p.walk.length + 1 ∧ t.p.parts.length ≤ s.p.parts.length + 1 := by
  unfold stepW at h
  split at h
  · cases h
  · split at h
    · split at h
      · cases h; exact ⟨by simp, by simp⟩
      · cases h
    · split at h
      · cases h; exact ⟨by simp, by simp⟩
      · split at h
        · split at h
          · cases h; exact ⟨by simp, by simp⟩
          · cases h
        · split at h
          · cases h; exact ⟨by simp, by simp⟩
          · split at h
            · split at h
              · cases h; exact ⟨by simp, by simp⟩
              · cases h
            · cases h
theorem foldR_len : ∀ (rs : List (List UInt8)) (i : Nat) (s t : RSt), foldR i rs s = some t → t.p.walk.length ≤ s.p.walk.length + rs.length ∧ t.p.parts.length ≤ s.p.parts.length + rs.length
  | [], i, s, t, h => by cases h; exact ⟨by simp, by simp⟩
  | r :: rs, i, s, t, h => by
    rw [foldR] at h
    cases hs : stepR i r s with
    | none => rw [hs] at h; cases h
    | some u =>
      rw [hs, Option.bind_some] at h
      have h1 := foldR_len rs (i + 1) u t h
      unfold stepR at hs
      split at hs
      · cases hs
      · have h2 := stepW_len hs
        simp only [List.length_cons]
        omega
theorem runR_len {rows : List (List UInt8)} {k : Nat} {s : RSt} (h : runR rows k = some s) : s.p.walk.length ≤ k ∧ s.p.parts.length ≤ k := by
  have h1 := foldR_len _ _ _ _ h
  rw [List.length_take] at h1
  have e1 : noRSt.p.walk.length = 0 := rfl
  have e2 : noRSt.p.parts.length = 0 := rfl
  omega
theorem OwnP.none (base : Nat) (w : World) : OwnP base w (.slice none 0 0) (.slice none 0 0) (.slice none 0 0) (.slice none 0 0) noPlot :=
  ⟨OwnR.nil _ _ _ _ _, ⟨[], RowsO.nil _ _⟩, OwnR.nil _ _ _ _ _, OwnR.nil _ _ _ _ _⟩

/-- what Read answers -/
def ReadPost (text : List UInt8) (w : World) (e : Ending) (w' : World) : Prop :=
  ∃ vp vw vd vq, e = .returned (.tuple #[plotV vp vw vd vq, .int .i64 (readP text).2.1, .int .i64 (readP text).2.2]) ∧ OwnP w.heap.size w' vp vw vd vq (readP text).1 ∧ Below w.heap.size w w'
end Go.Proofs.YtoipcbmbhjajfaaGreatDoor
