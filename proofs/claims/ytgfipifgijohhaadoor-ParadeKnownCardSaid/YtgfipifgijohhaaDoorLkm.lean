/-
  WALKS: ParadeKnown.
-/
import Derived.Test.YtgfipifgijohhaaDoorLkn
namespace Go.Proofs.YtgfipifgijohhaaDoor
open Go.RowKit

/-- the cells of samba's wings, some of them written -/
def sCells (a b : Int) (x : ByteArray) : Array Value := #[.string ⟨#[102, 114, 111, 110, 116]⟩, .int .i64 100, .int .i64 a, .int .i64 b, .string x, .int .i64 200, .int .i64 50, .int .i64 60, .string ⟨#[98, 97, 99, 107]⟩, .int .i64 100, .int .i64 30, .int .i64 50]

theorem heap_new (w : World) (o : Obj) {n : Nat} (h : n = w.heap.size) : (w.alloc o).heap[n]? = some o := by subst h; exact heap_alloc_new w o

set_option maxHeartbeats 1000000 in
set_option maxRecDepth 100000 in
theorem samba_own (w : World) :
    Calls Tryd.prog 65 #[] w fun e w' => ∃ g, e = .returned (.agg #[.int .i64 1000, .slice (some ⟨g, 0, none⟩) 3 3]) ∧ w.heap.size ≤ g ∧ w'.heap[g]? = some (.cells (sCells 40 50 ⟨#[100, 114, 117, 109, 115]⟩) 29 (0, 0)) ∧ Below w.heap.size w w' := by
  have b0 := hid ((Below.refl _ w).alloc (Nat.le_refl _) (.cells #[.int .i64 0, .slice none 0 0] 24))
  have c0 : (w.alloc (.cells #[.int .i64 0, .slice none 0 0] 24)).cell? ⟨w.heap.size, 0, none⟩ = some (.int .i64 0) := cell_at rfl rfl
  have c1 : (w.alloc (.cells #[.int .i64 0, .slice none 0 0] 24)).cell? ⟨w.heap.size, 1, none⟩ = some (.slice none 0 0) := cell_at rfl rfl
  have f0 : (w.alloc (.cells #[.int .i64 0, .slice none 0 0] 24)).frozen? ⟨w.heap.size, 0, none⟩ = false := frozen_at rfl
  have f1 : (w.alloc (.cells #[.int .i64 0, .slice none 0 0] 24)).frozen? ⟨w.heap.size, 1, none⟩ = false := frozen_at rfl
  have hsz : w.heap.size < (w.alloc (.cells #[.int .i64 0, .slice none 0 0] 24)).heap.size := by simp
  go_enter Tryd.func65, Tryd.ntmps65
  go_wp2_with (go_at_call 66; refine (span_any _ _ _).mono ?_; rintro e w1 ⟨rfl, hb⟩; have c0 := cell_back hb hsz c0; have c1 := cell_back hb hsz c1; have f0 := (hb.frozen (p := ⟨w.heap.size, 0, none⟩) hsz).trans f0; have f1 := (hb.frozen (p := ⟨w.heap.size, 1, none⟩) hsz).trans f1; have hsz := Nat.lt_of_lt_of_le hsz hb.size; have b0 := hid (b0.out.trans (hb.mono (by omega))); clear hb)
  refine bodyPost_ret (v := .agg #[.int .i64 1000, .slice (some ⟨w1.heap.size, 0, none⟩) 3 3]) (by simp [results, Tryd.results65, go_sem, c0, c1, hsz, World.cell?_alloc_past, World.cell?_setCell_same]) rfl ⟨_, rfl, ?_, ?_, ?_⟩
  · omega
  · exact heap_new _ _ (by simp)
  · exact ((b0.out.setCell (p := ⟨w.heap.size, 0, none⟩) (by simp) _).setCell (p := ⟨w.heap.size, 1, none⟩) (by simp) _).alloc (by simp; omega) _

def drumsN : ByteArray := ⟨#[100, 114, 117, 109, 115]⟩
def frontN : ByteArray := ⟨#[102, 114, 111, 110, 116]⟩
/-- five blocks, no two of them one -/
structure Ne5 (n A B C D E : Nat) : Prop where
  la : n ≤ A
  ld : n ≤ D
  le : n ≤ E
  ab : A ≠ B
  ac : A ≠ C
  ad : A ≠ D
  ae : A ≠ E
  bc : B ≠ C
  bd : B ≠ D
  be : B ≠ E
  cd : C ≠ D
  ce : C ≠ E
  de : D ≠ E
def wings1 (a : Bool) (v1 : Value) : Value := match a with | true => .slice none 0 0 | false => v1
def cellsT (b : Bool) : Array Value := match b with | true => sCells 50 40 drumsN | false => sCells 40 50 drumsN
def cellsW (c : Bool) : Array Value := match c with | true => sCells 40 50 frontN | false => sCells 40 50 drumsN
/-- three schools in boxes; the wings of two of them; what has been written -/
structure St (w0 : World) (T1 T2 T3 G2 G3 : Nat) (v1 : Value) (a b c : Bool) (w : World) : Prop where
  t1 : w.heap[T1]? = some (.cells #[.int .i64 1000, wings1 a v1] 24 (0, 0))
  t2 : w.heap[T2]? = some (.cells #[.int .i64 1000, .slice (some ⟨G2, 0, none⟩) 3 3] 24 (0, 0))
  t3 : w.heap[T3]? = some (.cells #[.int .i64 1000, .slice (some ⟨G3, 0, none⟩) 3 3] 24 (0, 0))
  g2 : w.heap[G2]? = some (.cells (cellsT b) 29 (0, 0))
  g3 : w.heap[G3]? = some (.cells (cellsW c) 29 (0, 0))
  bel : Below w0.heap.size w0 w
section
variable {w0 : World} {T1 T2 T3 G2 G3 : Nat} {v1 : Value} {a b c : Bool} {w w' : World}
theorem heap_lt {g : Nat} {o : Obj} (h : w.heap[g]? = some o) : g < w.heap.size := (Array.getElem?_eq_some_iff.1 h).1
theorem St.below (k : St w0 T1 T2 T3 G2 G3 v1 a b c w) (hb : Below w.heap.size w w') : St w0 T1 T2 T3 G2 G3 v1 a b c w' :=
  ⟨(hb.block _ (heap_lt k.t1)).trans k.t1, (hb.block _ (heap_lt k.t2)).trans k.t2, (hb.block _ (heap_lt k.t3)).trans k.t3, (hb.block _ (heap_lt k.g2)).trans k.g2, (hb.block _ (heap_lt k.g3)).trans k.g3, below_trans k.bel hb⟩
theorem St.drew (k : St w0 T1 T2 T3 G2 G3 v1 a b c w) : St w0 T1 T2 T3 G2 G3 v1 a b c w.drew := k.below (Below.refl _ _).drew
theorem heap_far {g : Nat} {o : Obj} {Z i : Nat} {u : Value} (h : w.heap[g]? = some o) (hne : g ≠ Z) : (w.setCell ⟨Z, i, none⟩ u).heap[g]? = some o := (Below.heap_setCell w ⟨Z, i, none⟩ u g hne).trans h
theorem heap_set {g i : Nat} {cs : Array Value} {t : TypeId} {u : Value} (h : w.heap[g]? = some (.cells cs t (0, 0))) : (w.setCell ⟨g, i, none⟩ u).heap[g]? = some (.cells (cs.setIfInBounds i u) t (0, 0)) := by
  simp [World.setCell, Array.getElem?_modify, h]
theorem St.s1 (N : Ne5 w0.heap.size T1 T2 T3 G2 G3) (k : St w0 T1 T2 T3 G2 G3 v1 false b c w) : St w0 T1 T2 T3 G2 G3 v1 true b c (w.setCell ⟨T1, 1, none⟩ (.slice none 0 0)) :=
  ⟨heap_set k.t1, heap_far k.t2 N.ab.symm, heap_far k.t3 N.ac.symm, heap_far k.g2 N.ad.symm, heap_far k.g3 N.ae.symm, k.bel.setCell (p := ⟨T1, 1, none⟩) N.la _⟩
theorem St.s2 (N : Ne5 w0.heap.size T1 T2 T3 G2 G3) (k : St w0 T1 T2 T3 G2 G3 v1 a false c w) : St w0 T1 T2 T3 G2 G3 v1 a true c ((w.setCell ⟨G2, 2, none⟩ (.int .i64 50)).setCell ⟨G2, 2 + 1, none⟩ (.int .i64 40)) :=
  ⟨heap_far (heap_far k.t1 N.ad) N.ad, heap_far (heap_far k.t2 N.bd) N.bd, heap_far (heap_far k.t3 N.cd) N.cd, heap_set (heap_set k.g2), heap_far (heap_far k.g3 N.de.symm) N.de.symm, (k.bel.setCell (p := ⟨G2, 2, none⟩) N.ld _).setCell (p := ⟨G2, 2 + 1, none⟩) N.ld _⟩
theorem St.s3 (N : Ne5 w0.heap.size T1 T2 T3 G2 G3) (k : St w0 T1 T2 T3 G2 G3 v1 a b false w) : St w0 T1 T2 T3 G2 G3 v1 a b true (w.setCell ⟨G3, 4, none⟩ (.string frontN)) :=
  ⟨heap_far k.t1 N.ae, heap_far k.t2 N.be, heap_far k.t3 N.ce, heap_far k.g2 N.de, heap_set k.g3, k.bel.setCell (p := ⟨G3, 4, none⟩) N.le _⟩
theorem St.loads (k : St w0 T1 T2 T3 G2 G3 v1 a b c w) : w.cell? ⟨T2, 1, none⟩ = some (.slice (some ⟨G2, 0, none⟩) 3 3) ∧ w.cell? ⟨T3, 1, none⟩ = some (.slice (some ⟨G3, 0, none⟩) 3 3) :=
  ⟨by rw [Lib.cell_of_heap k.t2]; rfl, by rw [Lib.cell_of_heap k.t3]; rfl⟩
/-- what the stores want to know -/
theorem St.room (k : St w0 T1 T2 T3 G2 G3 v1 a b c w) : (w.cell? ⟨T1, 1, none⟩ = some (wings1 a v1) ∧ w.frozen? ⟨T1, 1, none⟩ = false) ∧ ((∃ u, w.cell? ⟨G2, 2, none⟩ = some u) ∧ (∃ u, w.cell? ⟨G2, 2 + 1, none⟩ = some u) ∧ w.frozen? ⟨G2, 2, none⟩ = false ∧ w.frozen? ⟨G2, 2 + 1, none⟩ = false) ∧ ((∃ u, w.cell? ⟨G3, 4, none⟩ = some u) ∧ w.frozen? ⟨G3, 4, none⟩ = false) := by
  refine ⟨⟨by rw [Lib.cell_of_heap k.t1]; rfl, Lib.frozen_of_heap k.t1 _⟩, ⟨?_, ?_, Lib.frozen_of_heap k.g2 _, Lib.frozen_of_heap k.g2 _⟩, ?_, Lib.frozen_of_heap k.g3 _⟩
  · rw [Lib.cell_of_heap k.g2]; cases b <;> exact ⟨_, rfl⟩
  · rw [Lib.cell_of_heap k.g2]; cases b <;> exact ⟨_, rfl⟩
  · rw [Lib.cell_of_heap k.g3]; cases c <;> exact ⟨_, rfl⟩
end

theorem St.turned {w0 : World} {T1 T2 T3 G2 G3 : Nat} {v1 : Value} {a c : Bool} {w : World} (k : St w0 T1 T2 T3 G2 G3 v1 a true c w) : WgAt none w (.slice (some ⟨G2, 0, none⟩) 3 3) turnedW := by
  refine ⟨_, 3, rfl, fun _ => ⟨G2, 0, rfl, by decide, by decide, by simp, heap_lt k.g2, fun i hi => ?_⟩⟩
  simp only [Lib.cell_of_heap k.g2]
  match i, hi with
  | 0, _ => exact ⟨rfl, rfl, rfl, rfl⟩
  | 1, _ => exact ⟨rfl, rfl, rfl, rfl⟩
  | 2, _ => exact ⟨rfl, rfl, rfl, rfl⟩
theorem St.twice {w0 : World} {T1 T2 T3 G2 G3 : Nat} {v1 : Value} {a b : Bool} {w : World} (k : St w0 T1 T2 T3 G2 G3 v1 a b true w) : WgAt none w (.slice (some ⟨G3, 0, none⟩) 3 3) twiceW := by
  refine ⟨_, 3, rfl, fun _ => ⟨G3, 0, rfl, by decide, by decide, by simp, heap_lt k.g3, fun i hi => ?_⟩⟩
  simp only [Lib.cell_of_heap k.g3]
  match i, hi with
  | 0, _ => exact ⟨rfl, rfl, rfl, rfl⟩
  | 1, _ => exact ⟨rfl, rfl, rfl, rfl⟩
  | 2, _ => exact ⟨rfl, rfl, rfl, rfl⟩
theorem St.boxes {w0 : World} {T1 T2 T3 G2 G3 : Nat} {v1 : Value} {b c : Bool} {w : World} (k : St w0 T1 T2 T3 G2 G3 v1 true b c w) :
    (w.cell? ⟨T1, 0, none⟩ = some (.int .i64 1000) ∧ w.cell? ⟨T1, 1, none⟩ = some (.slice none 0 0)) ∧ (w.cell? ⟨T2, 0, none⟩ = some (.int .i64 1000) ∧ w.cell? ⟨T2, 1, none⟩ = some (.slice (some ⟨G2, 0, none⟩) 3 3)) ∧ (w.cell? ⟨T3, 0, none⟩ = some (.int .i64 1000) ∧ w.cell? ⟨T3, 1, none⟩ = some (.slice (some ⟨G3, 0, none⟩) 3 3)) :=
  ⟨⟨by rw [Lib.cell_of_heap k.t1]; rfl, by rw [Lib.cell_of_heap k.t1]; rfl⟩, ⟨by rw [Lib.cell_of_heap k.t2]; rfl, by rw [Lib.cell_of_heap k.t2]; rfl⟩, ⟨by rw [Lib.cell_of_heap k.t3]; rfl, by rw [Lib.cell_of_heap k.t3]; rfl⟩⟩
theorem turned_names : ∀ i, i < turnedW.length → (wg turnedW i).name.size ≤ 1000000 := by decide
theorem twice_names : ∀ i, i < twiceW.length → (wg twiceW i).name.size ≤ 1000000 := by decide

set_option maxHeartbeats 8000000 in
set_option maxRecDepth 100000 in
theorem known_any (w : World) (ht : Tab w) : Calls Tryd.prog 16 #[] w fun e w' => e = .returned (.bool true) ∧ Below w.heap.size w w' := by
  have HT := hid ht
  clear ht
  go_enter Tryd.func16, Tryd.ntmps16
  go_wp2_with fail
  refine (samba_own _).mono ?_
  rintro e w1 ⟨G1, rfl, _, _, hb1⟩
  go_wp2_with fail
  refine (samba_own _).mono ?_
  rintro e w2 ⟨G2, rfl, hG2, hg2, hb2⟩
  go_wp2_with fail
  refine (samba_own _).mono ?_
  rintro e w3 ⟨G3, rfl, hG3, hg3, hb3⟩
  have hg2l := heap_lt hg2
  have hG23 : G2 < G3 := by omega
  have hg3l := heap_lt hg3
  have hg2l' : G2 < w3.heap.size := by have := hb3.size; omega
  have hg2' := (hb3.block _ hg2l).trans hg2
  have HB1 := hid hb1
  have HB := hid (below_trans (below_trans hb1 hb2) hb3)
  clear hb1 hb2 hb3 hg2
  go_wp2_with fail
  have hN : Ne5 w.heap.size w3.heap.size (w3.heap.size + 1) (w3.heap.size + 1 + 1) G2 G3 := ⟨by have := HB.out.size; omega, by have := HB1.out.size; omega, by have := HB1.out.size; omega, by omega, by omega, by omega, by omega, by omega, by omega, by omega, by omega, by omega, by omega⟩
  have hq : ∃ wS, wS = ((w3.alloc (.cells #[.int .i64 1000, .slice (some ⟨G1, 0, none⟩) 3 3] 24)).alloc (.cells #[.int .i64 1000, .slice (some ⟨G2, 0, none⟩) 3 3] 24)).alloc (.cells #[.int .i64 1000, .slice (some ⟨G3, 0, none⟩) 3 3] 24) ∧
      St w w3.heap.size (w3.heap.size + 1) (w3.heap.size + 1 + 1) G2 G3 (.slice (some ⟨G1, 0, none⟩) 3 3) false false false wS := by
    have q1 := below_alloc w3 (.cells #[.int .i64 1000, .slice (some ⟨G1, 0, none⟩) 3 3] 24)
    have r1 := heap_new w3 (.cells #[.int .i64 1000, .slice (some ⟨G1, 0, none⟩) 3 3] 24) rfl
    obtain ⟨wa, hwa⟩ : ∃ wa, w3.alloc (.cells #[.int .i64 1000, .slice (some ⟨G1, 0, none⟩) 3 3] 24) = wa := ⟨_, rfl⟩
    have sa : wa.heap.size = w3.heap.size + 1 := by rw [← hwa]; simp
    rw [hwa] at q1 r1 ⊢
    have q2 := below_alloc wa (.cells #[.int .i64 1000, .slice (some ⟨G2, 0, none⟩) 3 3] 24)
    have r2 := heap_new wa (.cells #[.int .i64 1000, .slice (some ⟨G2, 0, none⟩) 3 3] 24) sa.symm
    obtain ⟨wb, hwb⟩ : ∃ wb, wa.alloc (.cells #[.int .i64 1000, .slice (some ⟨G2, 0, none⟩) 3 3] 24) = wb := ⟨_, rfl⟩
    have sb : wb.heap.size = w3.heap.size + 1 + 1 := by rw [← hwb]; simp [sa]
    rw [hwb] at q2 r2 ⊢
    have q3 := below_alloc wb (.cells #[.int .i64 1000, .slice (some ⟨G3, 0, none⟩) 3 3] 24)
    have r3 := heap_new wb (.cells #[.int .i64 1000, .slice (some ⟨G3, 0, none⟩) 3 3] 24) sb.symm
    have q := below_trans (below_trans q1 q2) q3
    exact ⟨_, rfl, ⟨(q3.block _ (by omega)).trans ((q2.block _ (by omega)).trans r1), (q3.block _ (by omega)).trans r2, r3, (q.block _ hg2l').trans hg2', (q.block _ hg3l).trans hg3, below_trans HB.out q⟩⟩
  obtain ⟨wS, hwS, hSt⟩ := hq
  rw [← hwS]
  have N := hid hN
  have K0 := hid hSt.drew
  obtain ⟨T1, hT1⟩ : ∃ T1, w3.heap.size = T1 := ⟨_, rfl⟩
  rw [hT1] at K0 N ⊢
  clear hg2' hg3 hg2l hg3l hg2l' hwS hSt hN hG23 hT1 HB HB1
  have n1 := N.out.ad
  have n2 := N.out.ad.symm
  have n3 := N.out.ae
  have n4 := N.out.ae.symm
  have n5 := N.out.de
  have n6 := N.out.de.symm
  have o1 : ¬ (T1 + 1 + 1 = T1) := by omega
  have o2 : ¬ (T1 = T1 + 1 + 1) := by omega
  have m1 := N.out.bd
  have m2 := N.out.bd.symm
  have m3 := N.out.be
  have m4 := N.out.be.symm
  have m5 := N.out.cd
  have m6 := N.out.cd.symm
  have m7 := N.out.ce
  have m8 := N.out.ce.symm
  obtain ⟨z1, z2⟩ := K0.out.loads
  obtain ⟨⟨a1, a2⟩, ⟨⟨u1, b1⟩, ⟨u2, b2⟩, b3, b4⟩, ⟨u3, e1⟩, e2⟩ := K0.out.room
  go_cut [] from 19 to 28 (fun wx => St w T1 (T1 + 1) (T1 + 1 + 1) G2 G3 (.slice (some ⟨G1, 0, none⟩) 3 3) true true true wx)
  case first =>
    go_region_held3 (fun w' => w'.cell? ⟨T1 + 1, 1, none⟩ = some (.slice (some ⟨G2, 0, none⟩) 3 3) ∧ w'.cell? ⟨T1 + 1 + 1, 1, none⟩ = some (.slice (some ⟨G3, 0, none⟩) 3 3))
      (go_keep) (first
      | (go_at_call 66; refine (span_any 50 40 _).mono ?_; rintro e w4 ⟨rfl, hb⟩; (first | have K4 := hid (St.below K0.out hb) | have K4 := hid (St.below (St.s1 N.out K0.out) hb) | have K4 := hid (St.below (St.s3 N.out K0.out) hb) | have K4 := hid (St.below (St.s3 N.out (St.s1 N.out K0.out)) hb) | have K4 := hid (St.below (St.s1 N.out (St.s3 N.out K0.out)) hb)); obtain ⟨z3, z4⟩ := K4.out.loads; have h4 := K4.out.room; obtain ⟨⟨x1, x2⟩, ⟨⟨y1, y2⟩, ⟨y3, y4⟩, y5, y6⟩, ⟨y7, y8⟩, y9⟩ := h4; clear hb))
    all_goals (
      go_wp2_with fail
      go_meet
      repeat (first | exact K4.out | exact K0.out | refine St.s1 N.out ?_ | refine St.s2 N.out ?_ | refine St.s3 N.out ?_))
  case rest =>
    obtain ⟨w5, rfl⟩ : ∃ w5 : World, w5 = wc := ⟨_, rfl⟩
    have K := hid hcut
    clear hcut n1 n2 n3 n4 n5 n6 m1 m2 m3 m4 m5 m6 m7 m8 o1 o2 a1 a2 b1 b2 b3 b4 e1 e2 z1 z2 K0
    go_wp2_with fail
    refine (awake_any _).mono ?_
    rintro e w6 ⟨rfl, hb⟩
    have K := hid (K.out.below hb)
    clear hb
    go_wp2_with fail
    refine (samba_any _).mono ?_
    rintro e w7 ⟨v7, rfl, hW, hb⟩
    have K := hid (K.out.below hb)
    clear hb
    go_wp2_with fail
    refine (pcheck_any sambaW 1000 _ none _ hW (by decide) samba_names).mono ?_
    rw [known_check.1]
    rintro e w8 ⟨rfl, hb⟩
    have K := hid (K.out.below hb)
    obtain ⟨⟨x1, x2⟩, _, _⟩ := K.out.boxes
    clear hb hW
    go_wp2_with fail
    refine (pcheck_any [] 1000 (.slice none 0 0) none _ (WgAt.nil none _) (by decide) (by intro i hi; simp at hi)).mono ?_
    rw [known_check.2.1]
    rintro e w9 ⟨rfl, hb⟩
    have K := hid (K.out.below hb)
    clear hb x1 x2
    obtain ⟨_, ⟨x1, x2⟩, _⟩ := K.out.boxes
    go_wp2_with fail
    refine (pcheck_any turnedW 1000 _ none _ K.out.turned (by decide) turned_names).mono ?_
    rw [known_check.2.2.1]
    rintro e w10 ⟨rfl, hb⟩
    have K := hid (K.out.below hb)
    clear hb x1 x2
    obtain ⟨_, _, ⟨x1, x2⟩⟩ := K.out.boxes
    go_wp2_with fail
    refine (pcheck_any twiceW 1000 _ none _ K.out.twice (by decide) twice_names).mono ?_
    rw [known_check.2.2.2.1]
    rintro e w11 ⟨rfl, hb⟩
    have HB := hid (K.out.below hb).bel
    clear hb x1 x2 K N
    go_wp2_with fail
    refine (samba_any _).mono ?_
    rintro e w12 ⟨v12, rfl, hW, hb⟩
    have HB := hid (below_trans HB.out hb)
    clear hb
    go_wp2_with fail
    refine (pstarts_any sambaW [0, 2, 10] 1000 _ _ _ (hW.below (below_alloc _ _)) (ints_lit3 _ 0 2 10 _ rfl) (by decide) samba_names (by decide)).mono ?_
    rw [known_check.2.2.2.2]
    rintro e w13 ⟨rfl, hb⟩
    have HB := hid (below_trans HB.out (below_trans (below_alloc _ _) hb))
    clear hb hW
    go_wp2_with fail
    have LS := hid (ints_lit3 w13 0 3 8 _ rfl)
    have HB := hid (below_trans HB.out (below_alloc w13 (.cells #[.int .i64 0, .int .i64 3, .int .i64 8] 3)))
    refine (samba_any _).mono ?_
    rintro e w14 ⟨v14, rfl, hW, hb⟩
    have LS := hid (LS.out.below hb)
    have HB := hid (below_trans HB.out hb)
    clear hb
    go_wp2_with fail
    refine (where_any sambaW [0, 3, 8] 1000 0 10 _ _ _ hW LS.out (by decide) samba_names (by decide)).mono ?_
    rw [known_where0.1, known_where0.2]
    rintro e w15 ⟨rfl, hb⟩
    have LS := hid (LS.out.below hb)
    have HB := hid (below_trans HB.out hb)
    clear hb hW
    dsimp only
    go_wp2_with fail
    have bl := below_alloc w15 (.cells #[.int .i64 400, .int .i64 500] 27)
    have X5 := hid (Two.new 400 500 w15 27)
    have LS := hid (LS.out.below bl)
    have HB := hid (below_trans HB.out bl)
    clear bl
    refine (samba_any _).mono ?_
    rintro e w16 ⟨v16, rfl, hW, hb⟩
    have X5 := hid (X5.out.below hb)
    have LS := hid (LS.out.below hb)
    have HB := hid (below_trans HB.out hb)
    clear hb
    go_wp2_with fail
    refine (where_any sambaW [0, 3, 8] 1000 2 10 _ _ _ hW LS.out (by decide) samba_names (by decide)).mono ?_
    rw [known_where2.1, known_where2.2]
    rintro e w17 ⟨rfl, hb⟩
    have X5 := hid (X5.out.below hb)
    have LS := hid (LS.out.below hb)
    have HB := hid (below_trans HB.out hb)
    clear hb hW
    dsimp only
    go_wp2_with fail
    have bl := below_alloc w17 (.cells #[.int .i64 60, .int .i64 100] 27)
    have X7 := hid (Two.new 60 100 w17 27)
    have X5 := hid (X5.out.below bl)
    have LS := hid (LS.out.below bl)
    have HB := hid (below_trans HB.out bl)
    clear bl
    refine (samba_any _).mono ?_
    rintro e w18 ⟨v18, rfl, hW, hb⟩
    have X5 := hid (X5.out.below hb)
    have X7 := hid (X7.out.below hb)
    have LS := hid (LS.out.below hb)
    have HB := hid (below_trans HB.out hb)
    clear hb
    go_wp2_with fail
    refine (ppasses_any sambaW [0, 3, 8] 1000 1 1000 _ _ _ hW LS.out (by decide) samba_names (by decide)).mono ?_
    rw [known_pass1.1, known_pass1.2]
    rintro e w19 ⟨rfl, hb⟩
    have X5 := hid (X5.out.below hb)
    have X7 := hid (X7.out.below hb)
    have LS := hid (LS.out.below hb)
    have HB := hid (below_trans HB.out hb)
    clear hb hW
    dsimp only
    go_wp2_with fail
    have bl := below_alloc w19 (.cells #[.int .i64 22, .int .i64 28] 27)
    have X9 := hid (Two.new 22 28 w19 27)
    have X5 := hid (X5.out.below bl)
    have X7 := hid (X7.out.below bl)
    have LS := hid (LS.out.below bl)
    have HB := hid (below_trans HB.out bl)
    clear bl
    refine (samba_any _).mono ?_
    rintro e w20 ⟨v20, rfl, hW, hb⟩
    have X5 := hid (X5.out.below hb)
    have X7 := hid (X7.out.below hb)
    have X9 := hid (X9.out.below hb)
    have LS := hid (LS.out.below hb)
    have HB := hid (below_trans HB.out hb)
    clear hb
    go_wp2_with fail
    refine (ppasses_any sambaW [0, 3, 8] 1000 2 1100 _ _ _ hW LS.out (by decide) samba_names (by decide)).mono ?_
    rw [known_pass2.1, known_pass2.2]
    rintro e w21 ⟨rfl, hb⟩
    have X5 := hid (X5.out.below hb)
    have X7 := hid (X7.out.below hb)
    have X9 := hid (X9.out.below hb)
    have LS := hid (LS.out.below hb)
    have HB := hid (below_trans HB.out hb)
    clear hb hW
    dsimp only
    go_wp2_with fail
    have bl := below_alloc w21 (.cells #[.int .i64 30, .int .i64 45] 27)
    have X11 := hid (Two.new 30 45 w21 27)
    have X5 := hid (X5.out.below bl)
    have X7 := hid (X7.out.below bl)
    have X9 := hid (X9.out.below bl)
    have LS := hid (LS.out.below bl)
    have HB := hid (below_trans HB.out bl)
    clear bl
    have X5 := hid (X5.out.below (Below.refl _ _).drew)
    have X7 := hid (X7.out.below (Below.refl _ _).drew)
    have X9 := hid (X9.out.below (Below.refl _ _).drew)
    have X11 := hid (X11.out.below (Below.refl _ _).drew)
    have LS := hid (LS.out.below (Below.refl _ _).drew)
    have HB := hid HB.out.drew
    go_region_held3 (fun w' => w'.cell? ⟨w15.heap.size, 0, none⟩ = some (.int .i64 400) ∧ w'.cell? ⟨w15.heap.size, 1, none⟩ = some (.int .i64 500) ∧ w'.cell? ⟨w17.heap.size, 0, none⟩ = some (.int .i64 60) ∧ w'.cell? ⟨w17.heap.size, 1, none⟩ = some (.int .i64 100) ∧ w'.cell? ⟨w19.heap.size, 0, none⟩ = some (.int .i64 22) ∧ w'.cell? ⟨w19.heap.size, 1, none⟩ = some (.int .i64 28) ∧ w'.cell? ⟨w21.heap.size, 0, none⟩ = some (.int .i64 30) ∧ w'.cell? ⟨w21.heap.size, 1, none⟩ = some (.int .i64 45))
      (exact ⟨X5.out.1, X5.out.2, X7.out.1, X7.out.2, X9.out.1, X9.out.2, X11.out.1, X11.out.2⟩) ((go_at_call 66; refine (span_any _ _ _).mono ?_; rintro e wn ⟨rfl, hb⟩; have X5 := hid (X5.out.below hb); have X7 := hid (X7.out.below hb); have X9 := hid (X9.out.below hb); have X11 := hid (X11.out.below hb); have LS := hid (LS.out.below hb); have HB := hid (below_trans HB.out hb); clear hb))
    go_wp2_with fail
    refine (rules_any _).mono ?_
    rintro e w23 ⟨rfl, hb⟩
    have LS := hid (LS.out.below hb)
    have HB := hid (below_trans HB.out hb)
    clear hb X5 X7 X9 X11
    go_wp2_with fail
    have bl := below_alloc w23 (.cells #[.int .i64 30, .int .i64 40, .int .i64 150] 50)
    obtain ⟨wp, hwp⟩ : ∃ wp, w23.alloc (.cells #[.int .i64 30, .int .i64 40, .int .i64 150] 50) = wp := ⟨_, rfl⟩
    have XR := hid (show Three w23.heap.size 30 40 150 wp from hwp ▸ ⟨cell_at rfl rfl, cell_at rfl rfl, cell_at rfl rfl⟩)
    rw [hwp] at bl ⊢
    have LS := hid (LS.out.below bl)
    have HB := hid (below_trans HB.out bl)
    obtain ⟨R, hR⟩ : ∃ R, w23.heap.size = R := ⟨_, rfl⟩
    rw [hR] at XR ⊢
    clear bl hwp hR
    have hLs := hid (fun vw' vs' W' g1 g2 => pLasts_any sambaW [0, 3, 8] 1000 30 40 150 vw' vs' W' g1 g2 (by decide) samba_names (by decide))
    rw [known_lasts.1, known_lasts.2] at hLs
    dsimp only at hLs
    have HU := hid (fun (W' : World) (hb : Below wp.heap.size wp W') => (⟨(XR.out.below hb).c0, (XR.out.below hb).c1, (XR.out.below hb).c2⟩ : W'.cell? ⟨R, 0, none⟩ = some (.int .i64 30) ∧ W'.cell? ⟨R, 1, none⟩ = some (.int .i64 40) ∧ W'.cell? ⟨R, 2, none⟩ = some (.int .i64 150)))
    have HS := hid (fun (W' : World) (hb : Below wp.heap.size wp W') => LS.out.below hb)
    have B0 := hid (show Below wp.heap.size wp wp.drew from (Below.refl _ _).drew)
    have BA := hid (below_alloc wp (.cells #[.int .i64 0, .int .i64 0] 27)).drew
    have ZA := hid ((Bx.new (.int .i64 0) (.int .i64 0) wp 27).below (Below.refl _ _).drew)
    go_cut [6, 14, 15] from 118 to 125 (fun s6 s14 s15 wx => ∃ X : Nat, s6 = .int .i64 0 ∧ s14 = .int .i64 3 ∧ s15 = .pointer (some ⟨X, 0, none⟩) ∧ Two X 30 45 wx ∧ Below wp.heap.size wp wx)
    case first =>
      go_region_held3 (fun w' => w'.cell? ⟨R, 0, none⟩ = some (.int .i64 30) ∧ w'.cell? ⟨R, 1, none⟩ = some (.int .i64 40) ∧ w'.cell? ⟨R, 2, none⟩ = some (.int .i64 150))
        (first | exact HU.out _ B0.out | exact HU.out _ BA.out | exact HU.out _ B7.out | exact HU.out _ B8.out | exact HU.out _ B6.out | exact HU.out _ (B6.out.trans ((below_alloc _ _).mono B6.out.size)) | exact HU.out _ (B7.out.trans ((below_alloc _ _).mono B7.out.size)) | exact HU.out _ BF.out) (first
        | (go_at_call 65; (with_reducible refine (samba_any wp.drew).mono ?_); rintro e w6 ⟨v6, rfl, hW, hb⟩; have B6 := hid (B0.out.trans hb); have W6 := hid hW; have tok1 : True := trivial; clear hb hW)
        | (go_at_call 65; (with_reducible refine (samba_any (wp.alloc (.cells #[.int .i64 0, .int .i64 0] 27)).drew).mono ?_); rintro e w6 ⟨v6, rfl, hW, hb⟩; have B6 := hid (BA.out.trans (hb.mono BA.out.size)); have Z6 := hid (ZA.out.below hb); have W6 := hid hW; clear hb hW)
        | (go_at_call 37; (with_reducible refine (hLs.out _ _ (w6.alloc (.cells #[.int .i64 0, .int .i64 0] 27)) (W6.out.below (below_alloc _ _)) (HS.out _ (B6.out.trans ((below_alloc _ _).mono B6.out.size)))).mono ?_); rintro e w8 ⟨rfl, hb⟩; have B8 := hid ((B6.out.trans ((below_alloc _ _).mono B6.out.size)).trans (hb.mono (Nat.le_trans B6.out.size (below_alloc _ _).size))); have Z8 := hid ((Bx.new (.int .i64 0) (.int .i64 0) w6 27).below hb); have c0 := Z8.out.c0; have c1 := Z8.out.c1; have f0 := Z8.out.f0; have f1 := Z8.out.f1; have ZF := hid (Z8.out.put (.int .i64 30) (.int .i64 45)); have BF := hid ((B8.out.setCell (p := ⟨w6.heap.size, 0, none⟩) B6.out.size (.int .i64 30)).setCell (p := ⟨w6.heap.size, 1, none⟩) B6.out.size (.int .i64 45)); clear hb)
        | (go_at_call 37; (with_reducible refine (hLs.out _ _ w6 W6.out (HS.out _ B6.out)).mono ?_); rintro e w7 ⟨rfl, hb⟩; have B7 := hid (B6.out.trans (hb.mono B6.out.size)); first | (have _t := tok1; have ZF := hid (Bx.new (.int .i64 30) (.int .i64 45) w7 27); have BF := hid (B7.out.trans ((below_alloc w7 (.cells #[.int .i64 30, .int .i64 45] 27)).mono B7.out.size))) | (have Z7 := hid (Z6.out.below hb); have c0 := Z7.out.c0; have c1 := Z7.out.c1; have f0 := Z7.out.f0; have f1 := Z7.out.f1; have ZF := hid (Z7.out.put (.int .i64 30) (.int .i64 45)); have BF := hid ((B7.out.setCell (p := ⟨wp.heap.size, 0, none⟩) (Nat.le_refl _) (.int .i64 30)).setCell (p := ⟨wp.heap.size, 1, none⟩) (Nat.le_refl _) (.int .i64 45))); clear hb))
      all_goals (
        go_wp2_with fail
        go_meet
        exact ⟨_, rfl, rfl, rfl, ⟨ZF.out.c0, ZF.out.c1⟩, BF.out⟩)
    case rest =>
      obtain ⟨X, rfl, rfl, rfl, hX, hbx⟩ := hcut
      obtain ⟨wq, rfl⟩ : ∃ wq : World, wq = wc := ⟨_, rfl⟩
      have XX := hid (hX.below (Below.refl _ _).drew)
      have HB := hid (below_trans HB.out hbx).drew
      clear hX hbx HU HS LS XR ZA BA B0
      go_wp2_with fail
      go_region_held3 (fun w' => w'.cell? ⟨X, 0, none⟩ = some (.int .i64 30) ∧ w'.cell? ⟨X, 1, none⟩ = some (.int .i64 45))
        (exact ⟨XX.out.1, XX.out.2⟩) (first
        | (go_at_call 66; refine (span_any _ _ _).mono ?_; rintro e wn ⟨rfl, hb⟩; have XX := hid (XX.out.below hb); have HB := hid (below_trans HB.out hb); clear hb)
        | (go_at_call 68; refine (gapped_any _).mono ?_; rintro e wn ⟨rfl, hb⟩; have XX := hid (XX.out.below hb); have HB := hid (below_trans HB.out hb); clear hb)
        | (go_at_call 69; refine (planned_any _ (HT.out.below HB.out)).mono ?_; rintro e wn ⟨rfl, hb⟩; have XX := hid (XX.out.below hb); have HB := hid (below_trans HB.out hb); clear hb))
      go_wp2_with fail
      go_ret
      exact ⟨rfl, HB.out⟩
end Go.Proofs.YtgfipifgijohhaaDoor
