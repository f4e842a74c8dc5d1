/-
  WALK: wide, whether a plot and items have more than the statements go through.
  ARGUMENTS THAT CAME IN: plots by value, items, numbers, out of a reading of them.
-/
import Derived.Test.YtoipcbmbhjajfaaGreatDoorKpl
import Derived.Test.YtoipcbmbhjajfaaGreatDoorRwc
namespace Go.Proofs.YtoipcbmbhjajfaaGreatDoor
open Go.RowKit

def WidePost (p : Plot) (items : List Item) (w : World) (e : Ending) (w' : World) : Prop := ∃ b : Bool, e = .returned (.bool b) ∧ (b = false → PlotN p ∧ p.parts.length ≤ 40 ∧ items.length ≤ 40) ∧ Below w.heap.size w w'

set_option maxHeartbeats 4000000 in
set_option maxRecDepth 100000 in
theorem wide_any (p : Plot) (items : List Item) (vp vw vd vq vi : Value) (w : World) (h : PlotAt none w vp vw vd vq p) (hI : ItemsAt none w vi items) :
    Calls Tryz.prog 5 #[plotV vp vw vd vq, vi] w (WidePost p items w) := by
  have H := hid h
  obtain ⟨ap, cp, rfl⟩ := h.persons.form
  obtain ⟨aw, cw, rfl⟩ := h.walk.form
  obtain ⟨ad, cd, ed, _⟩ := h.dress
  subst ed
  obtain ⟨aq, cq, rfl⟩ := h.parts.form
  obtain ⟨ai, ci, rfl⟩ := hI.form
  have K := hid ((HK.start w).box4m (n := w.heap.size) rfl (.slice ap p.persons.length cp) (.slice aw p.walk.length cw) (.slice ad p.dress.length cd) (.slice aq p.parts.length cq) 27)
  clear h hI
  go_enter Tryz.func5, Tryz.ntmps5
  go_wp2_with fail
  obtain ⟨w1, hw1, K1⟩ := K.out.name
  rw [hw1]
  have K := hid K1
  clear hw1 K1
  go_loopw [5] (fun i wr => ∃ k : Nat, k ≤ p.walk.length ∧ i = .int .i64 k ∧ wr = w1 ∧ ∀ j, j < k → (lst p.walk j).length ≤ 15) (fun i _ => p.walk.length - (intOf i).toNat)
  case atStart => exact ⟨0, by omega, rfl, rfl, fun j hj => by omega⟩
  case round =>
    obtain ⟨k, hk, rfl, rfl, hr⟩ := hrel
    obtain ⟨wo, rfl⟩ : ∃ wo : World, wo = wr := ⟨_, rfl⟩
    have HR := hid hr
    clear hr
    have y0 := K.out.c (b := w.heap.size) (o := 0) (v := .slice ap p.persons.length cp) (by simp)
    have y1 := K.out.c (b := w.heap.size) (o := 1) (v := .slice aw p.walk.length cw) (by simp)
    have y2 := K.out.c (b := w.heap.size) (o := 2) (v := .slice ad p.dress.length cd) (by simp)
    have y3 := K.out.c (b := w.heap.size) (o := 3) (v := .slice aq p.parts.length cq) (by simp)
    by_cases hlt : k < p.walk.length
    · have hrw := ListsAt.row (H.out.below K.out.below).walk hlt
      obtain ⟨bw, ow, uu, e, hbw, cu, hu⟩ := hrw
      cases e
      obtain ⟨au, cuu, rfl, _⟩ := hu
      have i1 : (k : Int) < (p.walk.length : Int) := by omega
      by_cases h15 : (lst p.walk k).length ≤ 15
      · have n1 : ¬ ((lst p.walk k).length : Int) > 15 := by omega
        have z1 : (p.walk.length : Int) ≤ 9000000000000000000 ∨ ¬ (p.walk.length : Int) ≤ 9000000000000000000 := by omega
        have hml : (k : Int) + 1 ≤ 9223372036854775807 := by
          obtain ⟨f, ⟨a', c', e', hh⟩, _⟩ := H.out.walk
          cases e'
          obtain ⟨b', o', _, g1, g2, _⟩ := hh (by omega)
          have : maxLen = 9223372036854775807 := rfl
          omega
        have z2 : IntKind.i64.wrap ((k : Int) + 1) = (k : Int) + 1 := IntWalk.i64_in _ (by omega)
        clear z1 hml
        go_wp2_with fail
        go_roundw
        case rel => exact ⟨k + 1, by omega, by go_num, (by trivial), fun j hj => by
          by_cases e : j = k
          · subst e; exact h15
          · exact HR.out j (by omega)⟩
        case measure => simp [intOf] <;> omega
      · have n1 : ((lst p.walk k).length : Int) > 15 := by omega
        go_wp2_with fail
        go_ret
        exact ⟨true, rfl, (fun h => by cases h), K.out.below⟩
    obtain rfl : k = p.walk.length := by omega
    by_cases h1 : p.persons.length ≤ 20
    rotate_left
    · have n1 : (p.persons.length : Int) > 20 := by omega
      go_wp2_with fail
      refine bodyPost_ret (v := .bool true) (by simp [results, Tryz.results5, go_sem]) rfl ?_
      exact ⟨true, rfl, (fun h => by cases h), K.out.below⟩
    have n1 : ¬ (p.persons.length : Int) > 20 := by omega
    by_cases h2 : p.walk.length ≤ 12
    rotate_left
    · have n2 : (p.walk.length : Int) > 12 := by omega
      go_wp2_with fail
      refine bodyPost_ret (v := .bool true) (by simp [results, Tryz.results5, go_sem]) rfl ?_
      exact ⟨true, rfl, (fun h => by cases h), K.out.below⟩
    have n2 : ¬ (p.walk.length : Int) > 12 := by omega
    by_cases h3 : p.dress.length ≤ 12
    rotate_left
    · have n3 : (p.dress.length : Int) > 12 := by omega
      go_wp2_with fail
      refine bodyPost_ret (v := .bool true) (by simp [results, Tryz.results5, go_sem]) rfl ?_
      exact ⟨true, rfl, (fun h => by cases h), K.out.below⟩
    have n3 : ¬ (p.dress.length : Int) > 12 := by omega
    by_cases h4 : p.parts.length ≤ 40
    rotate_left
    · have n4 : (p.parts.length : Int) > 40 := by omega
      go_wp2_with fail
      refine bodyPost_ret (v := .bool true) (by simp [results, Tryz.results5, go_sem]) rfl ?_
      exact ⟨true, rfl, (fun h => by cases h), K.out.below⟩
    have n4 : ¬ (p.parts.length : Int) > 40 := by omega
    by_cases h5 : items.length ≤ 40
    · have n5 : ¬ (items.length : Int) > 40 := by omega
      go_wp2_with fail
      refine bodyPost_ret (v := .bool false) (by simp [results, Tryz.results5, go_sem]) rfl ?_
      exact ⟨false, rfl, fun _ => ⟨⟨by omega, by omega, fun j hj => by have := HR.out j hj; omega, by omega, by omega⟩, h4, h5⟩, K.out.below⟩
    · have n5 : (items.length : Int) > 40 := by omega
      go_wp2_with fail
      refine bodyPost_ret (v := .bool true) (by simp [results, Tryz.results5, go_sem]) rfl ?_
      exact ⟨true, rfl, (fun h => by cases h), K.out.below⟩
end Go.Proofs.YtoipcbmbhjajfaaGreatDoor

namespace Go.Proofs.YtoipcbmbhjajfaaGreatDoor
open Go.ChangeShapes Go.WideShapes Go.ChangeAt Go.WideMaps Go.WideElems Go.RowKit Go.Joins Go.Deep

/-- what lay there before is in no block that came later -/
theorem RecAt.fresh {w : World} {v : Value} {n k : Nat} {f : Nat → Nat → Value} (h : RecAt none w v n k f) {D : Nat} (hD : w.heap.size ≤ D) : RecAt (some D) w v n k f := by
  obtain ⟨a, cap, rfl, hh⟩ := h
  refine ⟨a, cap, rfl, fun h0 => ?_⟩
  obtain ⟨b, off, rfl, h1, h2, h3, h4, h5⟩ := hh h0
  exact ⟨b, off, rfl, h1, h2, (by intro e; have := Option.some.inj e; omega), h4, h5⟩
theorem IntsAt.fresh {w : World} {v : Value} {xs : List Int} (h : IntsAt none w v xs) {D : Nat} (hD : w.heap.size ≤ D) : IntsAt (some D) w v xs := IntsAt.rec.2 ((IntsAt.rec.1 h).fresh hD)
theorem PlotAt.fresh {w : World} {vp vw vd vq : Value} {p : Plot} (h : PlotAt none w vp vw vd vq p) {D : Nat} (hD : w.heap.size ≤ D) : PlotAt (some D) w vp vw vd vq p := by
  obtain ⟨f, h1, h2⟩ := h.walk
  exact ⟨RecAt.fresh h.persons hD, ⟨f, h1.fresh hD, fun i hi => (h2 i hi).fresh hD⟩, h.dress.fresh hD, RecAt.fresh h.parts hD⟩

theorem cells_span : Tryz.prog.cellsOf 58 = 2 := by kernel_rfl
theorem cells_part : Tryz.prog.cellsOf 60 = 5 := by kernel_rfl
theorem cells_item : Tryz.prog.cellsOf 101 = 5 := by kernel_rfl
theorem cells_ints : Tryz.prog.cellsOf 24 = 1 := by kernel_rfl
theorem cells_plot : Tryz.prog.cellsOf 27 = 4 := by kernel_rfl

theorem trod_struct5 {P : Program} {H : Type} {enc : TypeId × Value → H} {w : World} {base : Nat} {spare : Nat → Bool} {held : Bool} {t : TypeId} {f0 f1 f2 f3 f4 : Field} {fuel : Nat} {cs : List Value} {x : DataW H × List MemPlace} (ht : P.underlying t = some (.struct #[f0, f1, f2, f3, f4])) (h : DataW.trod enc P w base spare held fuel t cs = some x) :
    ∃ y0 y1 y2 y3 y4 n, cs.length = P.cellsOf t ∧ DataW.trod enc P w base spare held n f0.type ((cs.drop f0.offset).take (P.cellsOf f0.type)) = some y0 ∧
      DataW.trod enc P w base spare held n f1.type ((cs.drop f1.offset).take (P.cellsOf f1.type)) = some y1 ∧ DataW.trod enc P w base spare held n f2.type ((cs.drop f2.offset).take (P.cellsOf f2.type)) = some y2 ∧
      DataW.trod enc P w base spare held n f3.type ((cs.drop f3.offset).take (P.cellsOf f3.type)) = some y3 ∧ DataW.trod enc P w base spare held n f4.type ((cs.drop f4.offset).take (P.cellsOf f4.type)) = some y4 := by
  obtain ⟨xs, n, _, rfl, hl, hlen, hf⟩ := DataW.trod_struct ht h
  match xs, hlen with
  | [y0, y1, y2, y3, y4], _ => exact ⟨y0, y1, y2, y3, y4, n, hl, by simpa using hf 0 f0 rfl, by simpa using hf 1 f1 rfl, by simpa using hf 2 f2 rfl, by simpa using hf 3 f3 rfl, by simpa using hf 4 f4 rfl⟩

variable {H : Type} {enc : TypeId × Value → H} {W : World} {base b0 fuel : Nat} {sp : Nat → Bool} {held : Bool}

theorem int_cell {c : Value} {x : DataW H × List MemPlace} (h : DataW.trod enc Tryz.prog W base sp held fuel 3 [c] = some x) : ∃ z : Int, c = .int .i64 z ∧ (Lit.int .i64 z).wf = true := by
  obtain ⟨z, e, _, hw⟩ := DataW.trod_int Tryz.underlying3 h
  exact ⟨z, by simpa using e, hw⟩

/-- a list of records that came in -/
theorem open_recs {α : Type} (z : α) (k : Nat) (f : α → Nat → Value) (R : α → Prop) {t te : TypeId} {v : Value} {x : DataW H × List MemPlace} (hu : Tryz.prog.underlying t = some (.slice te)) (hk : Tryz.prog.cellsOf te = k) (hk0 : 0 < k)
    (he : ∀ (m : Nat) (cs : List Value) (y : DataW H × List MemPlace), DataW.trod enc Tryz.prog W base sp held m te cs = some y → ∃ a, R a ∧ ∀ j, j < k → cs[j]? = some (f a j))
    (h : DataW.trod enc Tryz.prog W base sp held fuel t [v] = some x) : ∃ xs : List α, RecAt none W v xs.length k (fun i j => f (xs.getD i z) j) ∧ Sound0 v ∧ ∀ i, i < xs.length → R (xs.getD i z) := by
  rcases open_slice hu h with ⟨hcs, _⟩ | ⟨a, len, cap, m, n, D, Pl, hcs, _, hl, hm, hmm, _, hx⟩
  · have : v = .slice none 0 0 := by simpa using hcs
    subst this
    exact ⟨[], ⟨none, 0, rfl, fun h0 => absurd h0 (by simp)⟩, (fun n c e => by cases e; exact ⟨rfl, rfl⟩), fun i hi => by simp at hi⟩
  · have : v = .slice (some a) len cap := by simpa using hcs
    subst this
    have hlm : len ≤ m := by rw [hmm]; split <;> omega
    have hw : ∀ i, i < len → ∃ y : α, R y ∧ ∀ j, j < k → W.cell? ((a.add (i * k)).add j) = some (f y j) := fun i hi => by
      obtain ⟨cs', h1, h2⟩ := hx i (by omega)
      rw [hk] at h1
      obtain ⟨y, hR, hy⟩ := he _ _ _ h2
      obtain ⟨_, _, h3⟩ := World.cells?_some h1
      refine ⟨y, hR, fun j hj => ?_⟩
      rw [h3 j hj]; exact hy j hj
    have hinh : Inhabited α := ⟨z⟩
    obtain ⟨Y, hY⟩ := choose_lt (α := α) (p := fun i y => R y ∧ ∀ j, j < k → W.cell? ((a.add (i * k)).add j) = some (f y j)) hw
    have hwg : ∀ i, i < len → ((List.range len).map Y).getD i z = Y i := fun i hi => by simp [List.getD_eq_getElem?_getD, List.getElem?_range hi]
    refine ⟨(List.range len).map Y, ⟨some a, cap, by simp, fun h0 => ?_⟩, (fun n c e => by cases e), fun i hi => ?_⟩
    · have h0' : 0 < len := by simpa using h0
      obtain ⟨b, off, spot⟩ := a
      have hspot : spot = none := by
        have := (hY 0 h0').2 0 hk0
        have := World.cell?_spot this
        simpa [Addr.add] using this
      subst hspot
      have hat : ∀ i, i < len → ∀ j, j < k → W.cell? ⟨b, off + i * k + j, none⟩ = some (f (Y i) j) := fun i hi j hj => by
        have := (hY i hi).2 j hj
        rwa [addr_off, addr_off] at this
      refine ⟨b, off, rfl, by simpa using hl, hm, by simp, World.block_lt_of_cell? W ⟨b, off + 0 * k + 0, none⟩ (hat 0 h0' 0 hk0), fun i hi j hj => ?_⟩
      have hi' : i < len := by simpa using hi
      show _ = some (f (((List.range len).map Y).getD i z) j)
      rw [hwg i hi']
      exact hat i hi' j hj
    · have hi' : i < len := by simpa using hi
      rw [hwg i hi']
      exact (hY i hi').1

set_option maxRecDepth 100000 in
theorem span_cells {cs : List Value} {x : DataW H × List MemPlace} (h : DataW.trod enc Tryz.prog W base sp held fuel 58 cs = some x) : ∃ y : Int × Int, True ∧ ∀ j, j < 2 → cs[j]? = some (spanCell y j) := by
  obtain ⟨y0, y1, n, _, hl, h0, h1⟩ := trod_struct2 Tryz.underlying58 h
  rw [cells_span] at hl
  match cs, hl with
  | [c0, c1], _ =>
    simp only [cells_int, List.drop_zero, List.drop_succ_cons, List.take_succ_cons, List.take_zero] at h0 h1
    obtain ⟨lo, rfl, _⟩ := int_cell h0
    obtain ⟨hi, rfl, _⟩ := int_cell h1
    refine ⟨(lo, hi), trivial, fun j hj => ?_⟩
    rcases (by omega : j = 0 ∨ j = 1) with rfl | rfl <;> rfl
set_option maxRecDepth 100000 in
theorem part_cells {cs : List Value} {x : DataW H × List MemPlace} (h : DataW.trod enc Tryz.prog W base sp held fuel 60 cs = some x) : ∃ y : Part, cs = encPart y := by
  obtain ⟨y0, y1, y2, y3, y4, n, hl, h0, h1, h2, h3, h4⟩ := trod_struct5 Tryz.underlying60 h
  rw [cells_part] at hl
  match cs, hl with
  | [c0, c1, c2, c3, c4], _ =>
    simp only [cells_int, List.drop_zero, List.drop_succ_cons, List.take_succ_cons, List.take_zero] at h0 h1 h2 h3 h4
    obtain ⟨a0, rfl, _⟩ := int_cell h0
    obtain ⟨a1, rfl, _⟩ := int_cell h1
    obtain ⟨a2, rfl, _⟩ := int_cell h2
    obtain ⟨a3, rfl, _⟩ := int_cell h3
    obtain ⟨a4, rfl, _⟩ := int_cell h4
    exact ⟨⟨a0, a1, a2, a3, a4⟩, rfl⟩
set_option maxRecDepth 100000 in
theorem item_cells {cs : List Value} {x : DataW H × List MemPlace} (h : DataW.trod enc Tryz.prog W base sp held fuel 101 cs = some x) : ∃ y : Item, cs = encItem y := by
  obtain ⟨y0, y1, y2, y3, n, _, hl, h0, h1, h2, h3⟩ := trod_struct4 Tryz.underlying101 h
  rw [cells_item] at hl
  match cs, hl with
  | [c0, c1, c2, c3, c4], _ =>
    simp only [cells_int, cells_span, List.drop_zero, List.drop_succ_cons, List.take_succ_cons, List.take_zero] at h0 h1 h2 h3
    obtain ⟨a0, rfl, _⟩ := int_cell h0
    obtain ⟨⟨lo, hi⟩, _, hs⟩ := span_cells h1
    have e1 : c1 = .int .i64 lo := Option.some.inj (hs 0 (by decide))
    have e2 : c2 = .int .i64 hi := Option.some.inj (hs 1 (by decide))
    subst e1 e2
    obtain ⟨a3, rfl, _⟩ := int_cell h2
    obtain ⟨a4, rfl, _⟩ := int_cell h3
    exact ⟨⟨a0, lo, hi, a3, a4⟩, rfl⟩

theorem open_spans {v : Value} {x : DataW H × List MemPlace} (h : DataW.trod enc Tryz.prog W base sp held fuel 22 [v] = some x) : ∃ xs, SpansAt none W v xs ∧ Sound0 v := by
  obtain ⟨xs, h1, h2, _⟩ := open_recs (0, 0) 2 spanCell (fun _ => True) Tryz.underlying22 cells_span (by decide) (fun m cs y h => span_cells h) h
  exact ⟨xs, h1, h2⟩
theorem open_parts {v : Value} {x : DataW H × List MemPlace} (h : DataW.trod enc Tryz.prog W base sp held fuel 25 [v] = some x) : ∃ xs, PartsAt none W v xs ∧ Sound0 v := by
  obtain ⟨xs, h1, h2, _⟩ := open_recs noPart 5 partCell (fun _ => True) Tryz.underlying25 cells_part (by decide) (fun m cs y h => by
    obtain ⟨z, rfl⟩ := part_cells h
    exact ⟨z, trivial, fun j hj => encPart_at z j hj⟩) h
  exact ⟨xs, h1, h2⟩
theorem open_items {v : Value} {x : DataW H × List MemPlace} (h : DataW.trod enc Tryz.prog W base sp held fuel 44 [v] = some x) : ∃ xs, ItemsAt none W v xs ∧ Sound0 v := by
  obtain ⟨xs, h1, h2, _⟩ := open_recs noItem 5 itemCell (fun _ => True) Tryz.underlying44 cells_item (by decide) (fun m cs y h => by
    obtain ⟨z, rfl⟩ := item_cells h
    exact ⟨z, trivial, fun j hj => encItem_at z j hj⟩) h
  exact ⟨xs, h1, h2⟩
theorem open_intsS {v : Value} {x : DataW H × List MemPlace} (h : DataW.trod enc Tryz.prog W base sp held fuel 24 [v] = some x) : ∃ xs, IntsAt none W v xs ∧ Sound0 v := by
  obtain ⟨xs, h1, h2, _⟩ := open_recs (0 : Int) 1 (fun x _ => .int .i64 x) (fun _ => True) Tryz.underlying24 cells_int (by decide) (fun m cs y h => by
    obtain ⟨z, e, _⟩ := DataW.trod_int Tryz.underlying3 h
    subst e
    exact ⟨z, trivial, fun j hj => by obtain rfl : j = 0 := (by omega); rfl⟩) h
  exact ⟨xs, IntsAt.rec.2 h1, h2⟩
theorem one_slice {te : TypeId} {t : TypeId} {cs : List Value} {x : DataW H × List MemPlace} (hu : Tryz.prog.underlying t = some (.slice te)) (h : DataW.trod enc Tryz.prog W base sp held fuel t cs = some x) : ∃ v, cs = [v] := by
  rcases open_slice hu h with ⟨hcs, _⟩ | ⟨a, len, cap, m, n, D, Pl, hcs, _⟩
  · exact ⟨_, hcs⟩
  · exact ⟨_, hcs⟩
theorem open_lists {v : Value} {x : DataW H × List MemPlace} (h : DataW.trod enc Tryz.prog W base sp held fuel 23 [v] = some x) : ∃ xs, ListsS none W v xs ∧ Sound0 v := by
  obtain ⟨ys, h1, h2, h3⟩ := open_recs ((.slice none 0 0, []) : Value × List Int) 1 (fun y _ => y.1) (fun y => IntsAt none W y.1 y.2 ∧ Sound0 y.1) Tryz.underlying23 cells_ints (by decide) (fun m cs y h => by
    obtain ⟨u, rfl⟩ := one_slice Tryz.underlying24 h
    obtain ⟨xs, hx, hs⟩ := open_intsS h
    exact ⟨(u, xs), ⟨hx, hs⟩, fun j hj => by obtain rfl : j = 0 := (by omega); rfl⟩) h
  refine ⟨ys.map (·.2), ⟨fun i => (ys.getD i (.slice none 0 0, [])).1, by rw [List.length_map]; exact h1, fun i hi => ?_⟩, h2⟩
  rw [List.length_map] at hi
  have e : lst (ys.map (·.2)) i = (ys.getD i (.slice none 0 0, [])).2 := by
    unfold lst
    rw [List.getD_eq_getElem?_getD, List.getD_eq_getElem?_getD, List.getElem?_map, List.getElem?_eq_getElem hi]
    rfl
  rw [e]
  exact h3 i hi

set_option maxRecDepth 100000 in
theorem open_plot {v : Value} {d : DataW H} {pl : List MemPlace} (h : DataW.Trod enc Tryz.prog W base sp held 27 v d pl) (hv : Value.okWide Tryz.prog W .any b0 27 v) :
    ∃ (vp vw vd vq : Value) (p : Plot), v = .agg #[vp, vw, vd, vq] ∧ PlotS none W vp vw vd vq p := by
  obtain ⟨c0, c1, c2, c3, y0, y1, y2, y3, n, rfl, _, _, h0, h1, h2, h3⟩ := open_agg4 Tryz.underlying27 (by kernel_rfl) cells_plot hv h
  obtain ⟨x0, q0⟩ := open_spans h0
  obtain ⟨x1, q1⟩ := open_lists h1
  obtain ⟨x2, q2⟩ := open_intsS h2
  obtain ⟨x3, q3⟩ := open_parts h3
  exact ⟨c0, c1, c2, c3, ⟨x0, x1, x2, x3⟩, rfl, q0, q1.1, q2, q3⟩
theorem array5 {α : Type} {cs : Array α} (h : cs.size = 5) : ∃ c0 c1 c2 c3 c4, cs = #[c0, c1, c2, c3, c4] := by
  obtain ⟨l⟩ := cs
  match l, h with
  | [c0, c1, c2, c3, c4], _ => exact ⟨c0, c1, c2, c3, c4, rfl⟩
set_option maxRecDepth 100000 in
theorem open_part {v : Value} {d : DataW H} {p : List MemPlace} (h : DataW.Trod enc Tryz.prog W base sp held 60 v d p) (hv : Value.okWide Tryz.prog W .any b0 60 v) :
    ∃ y : Part, v = .agg #[.int .i64 y.person, .int .i64 y.place, .int .i64 y.kind, .int .i64 y.start, .int .i64 y.stop] := by
  obtain ⟨cs, rfl, hsz⟩ := okWide_struct Tryz.underlying60 hv
  obtain ⟨c0, c1, c2, c3, c4, rfl⟩ := array5 (hsz.trans cells_part)
  obtain ⟨fuel, hf⟩ := h
  obtain ⟨y, hy⟩ := part_cells hf
  refine ⟨y, ?_⟩
  simp [Value.cells, encPart] at hy
  obtain ⟨rfl, rfl, rfl, rfl, rfl⟩ := hy
  rfl
set_option maxRecDepth 100000 in
theorem open_item {v : Value} {d : DataW H} {p : List MemPlace} (h : DataW.Trod enc Tryz.prog W base sp held 101 v d p) (hv : Value.okWide Tryz.prog W .any b0 101 v) :
    ∃ y : Item, v = .agg #[.int .i64 y.kind, .int .i64 y.lo, .int .i64 y.hi, .int .i64 y.cost, .int .i64 y.clean] := by
  obtain ⟨cs, rfl, hsz⟩ := okWide_struct Tryz.underlying101 hv
  obtain ⟨c0, c1, c2, c3, c4, rfl⟩ := array5 (hsz.trans cells_item)
  obtain ⟨fuel, hf⟩ := h
  obtain ⟨y, hy⟩ := item_cells hf
  refine ⟨y, ?_⟩
  simp [Value.cells, encItem] at hy
  obtain ⟨rfl, rfl, rfl, rfl, rfl⟩ := hy
  rfl
set_option maxRecDepth 100000 in
theorem open_num {v : Value} {d : DataW H} {p : List MemPlace} (h : DataW.Trod enc Tryz.prog W base sp held 3 v d p) (hv : Value.okWide Tryz.prog W .any b0 3 v) : ∃ z : Int, v = .int .i64 z ∧ (-9223372036854775808 ≤ z ∧ z ≤ 9223372036854775807) := by
  obtain ⟨z, rfl, rfl, rfl, hw⟩ := open_int Tryz.underlying3 hv h
  exact ⟨z, rfl, bounds_i64 hw⟩
end Go.Proofs.YtoipcbmbhjajfaaGreatDoor
