/-
  WALKS: strings.Builder: copyCheck, WriteString, String, at a builder that the call has made.
  A LIST WRITTEN OUT is the call's own.
-/
import Derived.Test.YtefdopifebhgiaaGreatDoorRep
import Derived.Shelf.Strings.BuilderK
import Derived.Test.YtefdopifebhgiaaGreatDoorShw
import Derived.Test.YtefdopifebhgiaaGreatDoorKd
import Derived.Lib.ItoaLen
import Derived.Lib.BufferKept
import Derived.Laws.EntriesVeiled
import Derived.Deep.RegionHeld3
import Derived.Test.YtefdopifebhgiaaGreatDoorCpo
namespace Go.Proofs.YtefdopifebhgiaaGreatDoor
open Go.RowKit

theorem builder_size : (Tryz.prog.info? 70).map (·.size) = some 2 := by kernel_rfl
theorem builder_lies : liesAt Tryz.prog Tryz.prog.depth 70 (2 / Tryz.prog.cellsOf 70) 0 70 1 = true := by kernel_rfl
theorem info_byte : (Tryz.prog.info? 5).map (fun i => (i.zero, i.size, i.bytes)) = some (some (.int .u8 0), 1, 1) := by kernel_rfl

set_option maxHeartbeats 1000000 in
set_option maxRecDepth 100000 in
theorem copy_used (b : Nat) (w : World) (h0 : w.cell? ⟨b, 0, none⟩ = some (.pointer (some ⟨b, 0, none⟩))) :
    Calls Tryz.prog 50 #[.pointer (some ⟨b, 0, none⟩)] w fun e w' => e = .returned (.tuple #[]) ∧ w' = w := by
  obtain ⟨j, hj, _⟩ := Option.map_eq_some_iff.1 builder_size
  go_enter Tryz.func50, Tryz.ntmps50
  go_wp2
  rw [Lib.run_neq_ptr_same w _ Tryz.underlying67 hj]
  go_wp2
  go_end0
  exact ⟨rfl, rfl⟩

set_option maxHeartbeats 1000000 in
set_option maxRecDepth 100000 in
theorem copy_fresh (b : Nat) (w : World) (h0 : w.cell? ⟨b, 0, none⟩ = some (.pointer none)) (hsh : w.shape? b = some (70, 2)) (hfz : w.frozen? ⟨b, 0, none⟩ = false) :
    Calls Tryz.prog 50 #[.pointer (some ⟨b, 0, none⟩)] w fun e w' => e = .returned (.tuple #[]) ∧ w' = w.setCell ⟨b, 0, none⟩ (.pointer (some ⟨b, 0, none⟩)) := by
  obtain ⟨j, hj, hjs⟩ := Option.map_eq_some_iff.1 builder_size
  go_enter Tryz.func50, Tryz.ntmps50
  go_wp2
  rw [Lib.run_to_unsafe w ⟨b, 0, none⟩ Tryz.underlying67 Tryz.underlying120 hj (by rw [hjs]; decide) hsh (Nat.zero_lt_succ 1)]
  simp only [Result.andThen]
  rw [Oper.upon_value]
  go_wp2
  rw [run_callFunc_extern Tryz.func72 (by kernel_rfl) (by kernel_rfl) (by kernel_rfl) (e := Extern.AbiNoEscape.same) (by kernel_rfl)]
  rw [Lib.run_noEscape]
  simp only [Result.andThen]
  rw [Oper.upon_value]
  go_wp2
  rw [Lib.run_from_unsafe w ⟨b, 0, none⟩ Tryz.underlying120 Tryz.underlying67 hj hsh builder_lies]
  simp only [Result.andThen]
  rw [Oper.upon_value]
  go_wp2
  go_end0
  exact ⟨rfl, rfl⟩

/-- a builder in block b, of the call's own, that holds these bytes -/
def Bd (B b : Nat) (l : List UInt8) (w : World) : Prop := Lib.IsBuilderF 70 5 B b (Lib.byteCells l) w

theorem copy_any (B b : Nat) (bs : List Value) (w : World) (h : Lib.IsBuilderF 70 5 B b bs w) :
    Calls Tryz.prog 50 #[.pointer (some ⟨b, 0, none⟩)] w fun e w' => e = .returned (.tuple #[]) ∧ (Lib.BuilderAtF 70 5 B b (.pointer (some ⟨b, 0, none⟩)) bs w' ∧ Below B w w' ∧ Lib.OthersKept 5 (some b) w w') := by
  rcases h with h | h
  · refine (copy_fresh b w h.cell0 h.shape h.frozen0).mono ?_
    rintro e w' ⟨rfl, rfl⟩
    exact ⟨rfl, h.used _, (Below.refl B w).setCell (p := ⟨b, 0, none⟩) h.1 _, (Lib.OthersKept.refl _ _ w).setCell ⟨b, 0, none⟩ rfl _⟩
  · refine (copy_used b w h.cell0).mono ?_
    rintro e w' ⟨rfl, rfl⟩
    exact ⟨rfl, h, Below.refl B _, Lib.OthersKept.refl _ _ _⟩

set_option maxHeartbeats 2000000 in
set_option maxRecDepth 100000 in
theorem writeS_any (B b : Nat) (l : List UInt8) (s : ByteArray) (w : World) (h : Bd B b l w) (hlen : l.length + s.size ≤ 1000000) (hBw : B ≤ w.heap.size) :
    Calls Tryz.prog 28 #[.pointer (some ⟨b, 0, none⟩), .string s] w fun e w' => e = .returned (.tuple #[.int .i64 s.size, .nilIface]) ∧ (Bd B b (l ++ s.data.toList) w' ∧ Below B w w' ∧ Lib.OthersKept 5 (some b) w w') := by
  obtain ⟨i0, hi, hz0, hz1, hz2⟩ := info_parts info_byte
  have hlb : (Lib.byteCells l).length = l.length := Lib.byteCells_length l
  go_enter Tryz.func28, Tryz.ntmps28
  go_wp2_with (go_at_call 50; refine (copy_any B b (Lib.byteCells l) _ h).mono ?_)
  rintro e w1 ⟨rfl, h1, hb1, hk1⟩
  obtain ⟨hB, v, hbk, hown, hne⟩ := h1
  have c0 : w1.cell? ⟨b, 0, none⟩ = some (.pointer (some ⟨b, 0, none⟩)) := by rw [Lib.cell_of_heap hbk]; rfl
  have c1 : w1.cell? ⟨b, 1, none⟩ = some v := by rw [Lib.cell_of_heap hbk]; rfl
  go_wp2_with (at_builtin; refine Lib.wpList_append_own_stringF _ rfl _ _ 68 9 rfl B 5 i0 Tryz.underlying68 Tryz.underlying9 hi hz0 hz1 hz2 _ _ _ rfl hown s rfl ?c3 ?c4 ?c5 ?_)
  case c3 => unfold maxLen; omega
  case c4 => omega
  case c5 => have := hb1.size; omega
  intro v' w2 hown' hgrow _
  have hlt : b < w1.heap.size := by
    rcases Nat.lt_or_ge b w1.heap.size with h' | h'
    · exact h'
    · simp [Array.getElem?_eq_none h'] at hbk
  have hb2 : w2.heap[b]? = some (.cells #[.pointer (some ⟨b, 0, none⟩), v] 70 (0, 0)) := by
    rw [hgrow.block b hlt (fun e => hne e.symm)]
    exact hbk
  have d0 : w2.cell? ⟨b, 0, none⟩ = some (.pointer (some ⟨b, 0, none⟩)) := by rw [Lib.cell_of_heap hb2]; rfl
  have d1 : w2.cell? ⟨b, 1, none⟩ = some v := by rw [Lib.cell_of_heap hb2]; rfl
  have f1 : w2.frozen? ⟨b, 1, none⟩ = false := Lib.frozen_of_heap hb2 1
  obtain ⟨ao, n', cap, rfl⟩ : ∃ ao n' cap, v' = .slice ao n' cap := by
    rcases hown'.2 with ⟨hv, _⟩ | ⟨g, cap, cur, fz, hv, _⟩
    · exact ⟨_, _, _, hv⟩
    · exact ⟨_, _, _, hv⟩
  go_wp2
  go_ret2
  refine ⟨rfl, ?_, ?_, (hk1.grown hgrow (Lib.ownsRowF_kind hown)).setCell ⟨b, 1, none⟩ rfl _⟩
  · refine .inr (Lib.BuilderAtF.put (T := 70) (e := 5) hB hb2 (bs' := Lib.byteCells (l ++ s.data.toList)) ?_ (by decide))
    rw [Lib.byteCells_append, ← Lib.strCells_eq]
    simpa [Lib.strCells_length, hlb] using hown'
  · exact (hb1.grown hgrow (by have := hb1.size; omega) (fun k hk => (hown.lt k hk).1)).setCell (p := ⟨b, 1, none⟩) hB _
end Go.Proofs.YtefdopifebhgiaaGreatDoor

namespace Go.Proofs.YtefdopifebhgiaaGreatDoor
open Go.RowKit

/-- the table that the numerals are made with -/
def Tab (w : World) : Prop := Lib.TabIs Tryz.prog w "internal/strconv.uint64pow10" .u64 Lib.pow10Tab
theorem Tab.at {w : World} (h : Tab w) : ∃ g, Tryz.prog.globalNamed "internal/strconv.uint64pow10" = some g ∧ g < w.heap.size ∧ ∃ cs, w.var? Tryz.prog "internal/strconv.uint64pow10" = some cs := by
  unfold Tab Lib.TabIs at h
  have h2 := h
  unfold World.var? at h2
  cases hg : Tryz.prog.globalNamed "internal/strconv.uint64pow10" with
  | none => rw [hg] at h2; cases h2
  | some g =>
    rw [hg] at h2
    simp only [Option.bind_some] at h2
    refine ⟨g, rfl, ?_, _, h⟩
    rcases Nat.lt_or_ge g w.heap.size with h' | h'
    · exact h'
    · rw [Array.getElem?_eq_none h'] at h2; cases h2
theorem Tab.base {w w' : World} {B : Nat} (h : Tab w) (hB : w.heap.size ≤ B) (hb : Below B w w') : Tab w' := by
  obtain ⟨g, hg, hlt, _⟩ := h.at
  unfold Tab Lib.TabIs World.var? at h ⊢
  rw [hg] at h ⊢
  simp only [Option.bind_some] at h ⊢
  rw [hb.block g (by omega)]
  exact h
/-- .. as long as blocks from one on alone change, that the table is not among -/
structure Tb (B : Nat) (w : World) : Prop where
  tab : Tab w
  low : ∀ g, Tryz.prog.globalNamed "internal/strconv.uint64pow10" = some g → g < B
theorem Tb.of {w : World} (h : Tab w) : Tb w.heap.size w := ⟨h, fun g hg => by obtain ⟨g', hg', hl, _⟩ := h.at; rw [hg] at hg'; cases hg'; exact hl⟩
theorem Tb.go {w w' : World} {B : Nat} (h : Tb B w) (hb : Below B w w') : Tb B w' := by
  refine ⟨?_, h.low⟩
  obtain ⟨g, hg, _⟩ := h.tab.at
  have ht := h.tab
  unfold Tab Lib.TabIs World.var? at ht ⊢
  rw [hg] at ht ⊢
  simp only [Option.bind_some] at ht ⊢
  rw [hb.block g (h.low g hg)]
  exact ht
theorem Tb.up {w : World} {B B' : Nat} (h : Tb B w) (hB : B ≤ B') : Tb B' w := ⟨h.tab, fun g hg => Nat.lt_of_lt_of_le (h.low g hg) hB⟩

theorem grow_below {w : World} (os : Array Obj) : Below w.heap.size w (Go.Sort.grow w os) := ⟨rfl, rfl, rfl, by simp [Go.Sort.grow], fun i hi => by simp [Go.Sort.grow, Array.getElem?_append, hi]⟩

theorem Bd.later {B b : Nat} {l : List UInt8} {w w' : World} (h : Bd B b l w) (hb : Below w.heap.size w w') : Bd B b l w' := by
  have hg : w.grownBy w' none := gb_below hb none
  have go : ∀ p, Lib.BuilderAtF 70 5 B b p (Lib.byteCells l) w → Lib.BuilderAtF 70 5 B b p (Lib.byteCells l) w' := fun p ⟨h1, v, h2, h3, h4⟩ => by
    have hlt : b < w.heap.size := by
      rcases Nat.lt_or_ge b w.heap.size with h' | h'
      · exact h'
      · rw [Array.getElem?_eq_none h'] at h2; cases h2
    exact ⟨h1, v, (hb.block b hlt).trans h2, h3.kept hg (by cases e : v.ownBlock <;> simp), h4⟩
  exact h.elim (fun x => .inl (go _ x)) (fun x => .inr (go _ x))
theorem Bd.put {B b : Nat} {l : List UInt8} {w : World} (h : Bd B b l w) {Z o : Nat} {u : Value} {cs : Array Value} {t : TypeId} {fz : Nat × Nat} (hz : Z ≠ b) (hc : w.heap[Z]? = some (.cells cs t fz)) (ht : t ≠ 5) : Bd B b l (w.setCell ⟨Z, o, none⟩ u) := by
  have hg : w.grownBy (w.setCell ⟨Z, o, none⟩ u) (some Z) := gb_put w Z o u
  have go : ∀ p, Lib.BuilderAtF 70 5 B b p (Lib.byteCells l) w → Lib.BuilderAtF 70 5 B b p (Lib.byteCells l) (w.setCell ⟨Z, o, none⟩ u) := fun p ⟨h1, v, h2, h3, h4⟩ => by
    have hlt : b < w.heap.size := by
      rcases Nat.lt_or_ge b w.heap.size with h' | h'
      · exact h'
      · rw [Array.getElem?_eq_none h'] at h2; cases h2
    refine ⟨h1, v, (hg.block b hlt (by intro e; exact hz (Option.some.inj e).symm)).trans h2, h3.kept hg ?_, h4⟩
    rcases h3.2 with ⟨rfl, _⟩ | ⟨g, cap, cur, fz', rfl, hb', hgg, _⟩
    · exact .inl rfl
    · refine .inr (fun e => ?_)
      cases (Option.some.inj e : g = Z)
      rw [hc] at hgg
      cases hgg
      exact ht rfl
  exact h.elim (fun x => .inl (go _ x)) (fun x => .inr (go _ x))
theorem Bd.lt {B b : Nat} {l : List UInt8} {w : World} (h : Bd B b l w) : b < w.heap.size := by
  have go : ∀ p, Lib.BuilderAtF 70 5 B b p (Lib.byteCells l) w → b < w.heap.size := fun p ⟨h1, v, h2, h3, h4⟩ => by
    rcases Nat.lt_or_ge b w.heap.size with h' | h'
    · exact h'
    · rw [Array.getElem?_eq_none h'] at h2; cases h2
  exact h.elim (go _) (go _)
theorem Bd.fresh (w : World) : Bd w.heap.size w.heap.size [] (w.alloc (.cells #[.pointer none, .slice none 0 0] 70)) :=
  .inl ⟨Nat.le_refl _, _, heap_alloc_new w _, World.ownsRowF_nil _ _ _ _, by simp [Value.ownBlock]⟩

theorem itoa_any (n : Int) (w : World) (h0 : 0 ≤ n) (h1 : n ≤ 1000000000) (ht : Tab w) :
    Calls Tryz.prog 30 #[.int .i64 n] w fun e w' => e = .returned (.string ⟨(Lib.itoa n).toArray⟩) ∧ Below w.heap.size w w' :=
  (Tryz.strconv_Itoa n (by omega) (by omega) w ht).mono fun e w' ⟨h, k, os, hw⟩ => ⟨h, by
    subst hw
    exact (below_drewN (Below.refl _ w) k).trans (grow_below (w := w.drewN k) os)⟩
theorem str_any (B b : Nat) (l : List UInt8) (w : World) (h : Bd B b l w) (hB : B ≤ w.heap.size) :
    Calls Tryz.prog 31 #[.pointer (some ⟨b, 0, none⟩)] w fun e w' => e = .returned (.string ⟨l.toArray⟩) ∧ Below B w w' :=
  (Tryz.Builder_String_any_k B b l w h hB).mono fun e w' ⟨h, _, hb, _⟩ => ⟨h, hb⟩

theorem itoa_len (n : Int) (h0 : 0 ≤ n) (h1 : n ≤ 1000000000) : (Lib.itoa n).length ≤ 21 := Lib.itoa_length_le n (by omega) (by omega)

/-- what a write leaves -/
structure Wrote (B b : Nat) (l : List UInt8) (w w' : World) : Prop where
  bd : Bd B b l w'
  below : Below B w w'
  kept : Lib.OthersKept 5 (some b) w w'
theorem Wrote.go {B b : Nat} {l l' : List UInt8} {w w1 w2 : World} (h : Wrote B b l w w1) (k : Wrote B b l' w1 w2) : Wrote B b l' w w2 := ⟨k.bd, h.below.trans k.below, h.kept.trans k.kept⟩
theorem Wrote.later {B b : Nat} {l : List UInt8} {w w1 w2 : World} (h : Wrote B b l w w1) (hb : Below w1.heap.size w1 w2) (hB : B ≤ w1.heap.size) : Wrote B b l w w2 := ⟨h.bd.later hb, h.below.trans (hb.mono hB), h.kept.below hb⟩
theorem Wrote.start {B b : Nat} {l : List UInt8} {w : World} (h : Bd B b l w) : Wrote B b l w w := ⟨h, Below.refl _ _, Lib.OthersKept.refl _ _ _⟩
end Go.Proofs.YtefdopifebhgiaaGreatDoor

namespace Go.Proofs.YtefdopifebhgiaaGreatDoor
open Go.RowKit

theorem own_lit (w : World) (xs : List Int) (cs : Array Value) (hcs : cs.toList = xs.map (Value.int .i64)) (hm : xs.length ≤ 100) {n g : Nat} (hn : xs.length = n) (hg : g = w.heap.size) : OwnInts g (w.alloc (.cells cs 3)) (.slice (some ⟨g, 0, none⟩) n n) xs := by
  subst hn hg
  have hl : cs.size = xs.length := by rw [← Array.length_toList, hcs, List.length_map]
  exact ⟨by simp, .inr ⟨_, _, cs, rfl, Nat.le_refl _, heap_alloc_new w _, Nat.le_refl _, by unfold maxLen; omega, by omega, by rw [hcs]; exact List.take_of_length_le (by simp)⟩⟩
end Go.Proofs.YtefdopifebhgiaaGreatDoor
