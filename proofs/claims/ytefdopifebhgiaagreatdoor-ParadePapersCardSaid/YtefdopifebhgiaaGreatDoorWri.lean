/-
  WALKS: parade.Write: a school, written.
-/
import Derived.Test.YtefdopifebhgiaaGreatDoorBld
import Derived.Test.YtefdopifebhgiaaGreatDoorHk
import Derived.Test.YtefdopifebhgiaaGreatDoorPChk
import Derived.Laws.EntriesVeiled
import Derived.Deep.RegionHeld3
namespace Go.Proofs.YtefdopifebhgiaaGreatDoor
open Go.RowKit

/-- block Z holds the function that writes into builder b -/
structure WrF (Z b : Nat) (w : World) : Prop where
  at_ : w.heap[Z]? = some (.cells #[.func (.func 28) #[.pointer (some ⟨b, 0, none⟩)] #[]] 71 (0, 0))
  ne : Z ≠ b
theorem WrF.lt {Z b : Nat} {w : World} (h : WrF Z b w) : Z < w.heap.size := (Array.getElem?_eq_some_iff.1 h.at_).1
theorem WrF.later {Z b : Nat} {w w' : World} (h : WrF Z b w) (hb : Below w.heap.size w w') : WrF Z b w' := ⟨(hb.block Z h.lt).trans h.at_, h.ne⟩
theorem WrF.kept {Z b : Nat} {w w' : World} (h : WrF Z b w) (k : Lib.OthersKept 5 (some b) w w') : WrF Z b w' :=
  ⟨k Z _ h.at_ (fun e => h.ne (Option.some.inj e)) (fun _ _ e => by cases e), h.ne⟩
theorem WrF.cell {Z b : Nat} {w : World} (h : WrF Z b w) : w.cell? ⟨Z, 0, none⟩ = some (.func (.func 28) #[.pointer (some ⟨b, 0, none⟩)] #[]) := by
  rw [Lib.cell_of_heap h.at_]; rfl

set_option maxHeartbeats 1000000 in
set_option maxRecDepth 100000 in
theorem numb_any (n : Int) (Z b B : Nat) (l : List UInt8) (w : World) (h0 : 0 ≤ n) (h1 : n ≤ 1000000) (hZ : WrF Z b w)
    (hB : Bd B b l w) (ht : Tb B w) (hl : l.length ≤ 900000) (hBw : B ≤ w.heap.size) :
    Calls Tryz.prog 29 #[.int .i64 n, .pointer (some ⟨Z, 0, none⟩)] w fun e w' => e = .returned (.tuple #[]) ∧ Wrote B b (l ++ 32 :: Lib.itoa n) w w' := by
  have HZ := hid (fun (W' : World) (hb : Below w.heap.size w W') => (hZ.later hb).cell)
  have HZ2 := hid (fun (W' W2 : World) (hb : Below w.heap.size w W') (k : Lib.OthersKept 5 (some b) W' W2) => ((hZ.later hb).kept k).cell)
  have HB := hid (fun (W' : World) (hb : Below w.heap.size w W') => hB.later hb)
  have HT := hid (fun (W' : World) (hb : Below w.heap.size w W') => ht.go (hb.mono hBw))
  have B0 := hid (show Below w.heap.size w w.drew from (Below.refl _ _).drew)
  have hlen := itoa_len n h0 (by omega)
  have hadd : ∀ W : World, (Op.stringOp .add ⟨#[32]⟩ ⟨(Lib.itoa n).toArray⟩).run Tryz.prog W = .ok (.string ⟨(32 :: Lib.itoa n).toArray⟩) W := fun W => by
    rw [run_string_add_sum W _ _ (by simp [ByteArray.size]; omega), ByteArray.mk_append_mk]
    simp
  have HI := hid hlen
  clear hZ hB ht hlen
  go_enter Tryz.func29, Tryz.ntmps29
  go_wp2_with fail
  go_region_held3 (fun w' => w'.cell? ⟨Z, 0, none⟩ = some (.func (.func 28) #[.pointer (some ⟨b, 0, none⟩)] #[]))
    (first | exact HZ.out _ B0.out | exact HZ.out _ B1.out | exact HK2.out) (first
    | (go_at_call 30; refine (itoa_any n _ h0 (by omega) (HT.out _ B0.out).tab).mono ?_; rintro e w1 ⟨rfl, hb1⟩; have B1 := hid (B0.out.trans hb1); clear hb1)
    | (go_at_call 28; refine (writeS_any B b l _ _ (HB.out _ B1.out) ?_ (Nat.le_trans hBw B1.out.size)).mono ?_; (have := HI.out; simp [ByteArray.size]; omega); rintro e w2 ⟨rfl, hbd, hbl, hk⟩; have HK2 := hid (HZ2.out _ _ B1.out hk); have W2 := hid (show Wrote B b (l ++ 32 :: Lib.itoa n) w w2 from ⟨hbd, (B1.out.mono hBw).trans hbl, ((Lib.OthersKept.refl _ _ w).below B1.out).trans hk⟩); clear hbd hbl hk))
  go_wp2
  go_end0
  exact ⟨rfl, W2.out⟩

/-- a block that is known whole, of a type that is no byte -/
structure Whole (g : Nat) (t : TypeId) (cs : Array Value) (b : Nat) (w : World) : Prop where
  at_ : w.heap[g]? = some (.cells cs t (0, 0))
  ne : g ≠ b
  ty : t ≠ 5
theorem Whole.lt {g b : Nat} {t : TypeId} {cs : Array Value} {w : World} (h : Whole g t cs b w) : g < w.heap.size := (Array.getElem?_eq_some_iff.1 h.at_).1
theorem Whole.later {g b : Nat} {t : TypeId} {cs : Array Value} {w w' : World} (h : Whole g t cs b w) (hb : Below w.heap.size w w') : Whole g t cs b w' := ⟨(hb.block g h.lt).trans h.at_, h.ne, h.ty⟩
theorem Whole.kept {g b : Nat} {t : TypeId} {cs : Array Value} {w w' : World} (h : Whole g t cs b w) (k : Lib.OthersKept 5 (some b) w w') : Whole g t cs b w' :=
  ⟨k g _ h.at_ (fun e => h.ne (Option.some.inj e)) (fun _ _ e => by cases e; exact h.ty rfl), h.ne, h.ty⟩
theorem Whole.cell {g b o : Nat} {t : TypeId} {cs : Array Value} {w : World} (h : Whole g t cs b w) : w.cell? ⟨g, o, none⟩ = cs[o]? := Lib.cell_of_heap h.at_ o

/-- what stays while rows are written: the builder, the function that writes, all below it -/
structure WK (b Z : Nat) (l : List UInt8) (wS w : World) : Prop where
  bd : Bd b b l w
  wf : WrF Z b w
  below : Below b wS w
theorem WK.wrote {b Z : Nat} {l l' : List UInt8} {wS w w' : World} (k : WK b Z l wS w) (h : Wrote b b l' w w') : WK b Z l' wS w' := ⟨h.bd, k.wf.kept h.kept, k.below.trans h.below⟩
theorem WK.later {b Z : Nat} {l : List UInt8} {wS w w' : World} (k : WK b Z l wS w) (h : Below w.heap.size w w') : WK b Z l wS w' := ⟨k.bd.later h, k.wf.later h, k.below.trans (h.mono (Nat.le_of_lt k.bd.lt))⟩

/-- a wing's row, a school's rows -/
def wingL (x : Wing) : List UInt8 := ([10, 119, 105, 110, 103, 32] ++ x.name.data.toList) ++ 32 :: Lib.itoa x.len ++ 32 :: Lib.itoa x.lo ++ 32 :: Lib.itoa x.hi
def wingsL (ws : List Wing) (b : List UInt8) : Nat → List UInt8
  | 0 => b
  | k + 1 => wingsL ws b k ++ wingL (wg ws k)
def headL (route : Int) : List UInt8 := [97, 118, 101, 110, 117, 101] ++ 32 :: Lib.itoa route
def writeL (route : Int) (ws : List Wing) : List UInt8 := wingsL ws (headL route) ws.length ++ [10, 101, 110, 100] ++ 32 :: Lib.itoa ws.length ++ [10]
def writeRes (route : Int) (ws : List Wing) : List UInt8 := if check route ws = 0 then writeL route ws else []

theorem wingL_len {x : Wing} (hn : x.name.size ≤ 8) (h1 : 0 ≤ x.len ∧ x.len ≤ 5000) (h2 : 0 ≤ x.lo ∧ x.lo ≤ 200) (h3 : 0 ≤ x.hi ∧ x.hi ≤ 200) : (wingL x).length ≤ 100 := by
  have a1 := itoa_len x.len h1.1 (by omega)
  have a2 := itoa_len x.lo h2.1 (by omega)
  have a3 := itoa_len x.hi h3.1 (by omega)
  have a4 : x.name.data.toList.length = x.name.size := Array.length_toList
  unfold wingL
  simp only [List.length_append, List.length_cons, List.length_nil]
  omega
theorem wingsL_len {ws : List Wing} {b : List UInt8} : ∀ {k : Nat}, (∀ i, i < k → (wingL (wg ws i)).length ≤ 100) → (wingsL ws b k).length ≤ b.length + k * 100 := by
  intro k
  induction k with
  | zero => intro _; simp [wingsL]
  | succ k ih =>
    intro h
    have h1 := ih (fun i hi => h i (by omega))
    have h2 := h k (by omega)
    simp only [wingsL, List.length_append]
    omega

theorem check_names {route : Int} {ws : List Wing} (h : check route ws = 0) {i : Nat} (hi : i < ws.length) : (wg ws i).name.size ≤ 8 := by
  unfold check at h
  split at h
  · cases h
  · split at h
    · cases h
    · split at h
      · cases h
      · have h1 := firstBad_zero.1 h i hi
        unfold checkW at h1
        split at h1
        · cases h1
        · rename_i hn
          have hn' : namedB (wg ws i).name = true := by simpa using hn
          unfold namedB at hn'
          simp only [Bool.and_eq_true, inB_true] at hn'
          omega
theorem WgAt.cellsN {q : Option Nat} {w : World} {a : Option Addr} {n c : Nat} {ws : List Wing} (h : WgAt q w (.slice a n c) ws) {i : Nat} (hi : i < ws.length) :
    ∃ b off, a = some ⟨b, off, none⟩ ∧ w.cell? ⟨b, off + i * 4, none⟩ = some (.string (wg ws i).name) ∧ w.cell? ⟨b, off + i * 4 + 1, none⟩ = some (.int .i64 (wg ws i).len) ∧ w.cell? ⟨b, off + i * 4 + 2, none⟩ = some (.int .i64 (wg ws i).lo) ∧ w.cell? ⟨b, off + i * 4 + 2 + 1, none⟩ = some (.int .i64 (wg ws i).hi) := by
  obtain ⟨a', cap, e, hh⟩ := h
  cases e
  obtain ⟨b', off', rfl, _, _, _, _, h5⟩ := hh (by omega)
  exact ⟨b', off', rfl, h5 i hi⟩

set_option maxHeartbeats 4000000 in
set_option maxRecDepth 100000 in
theorem pwrite_any (ws : List Wing) (route : Int) (vw : Value) (w : World) (hW : WgAt none w vw ws) (hn : ws.length ≤ 100) (hnm : ∀ i, i < ws.length → (wg ws i).name.size ≤ 1000000) (ht : Tab w) :
    Calls Tryz.prog 9 #[.agg #[.int .i64 route, vw]] w fun e w' => e = .returned (.tuple #[.string ⟨(writeRes route ws).toArray⟩, .int .i64 (check route ws)]) ∧ Below w.heap.size w w' := by
  have HW := hid hW
  have HT := hid ht
  have HC := hid (fun W' (h : WgAt none W' vw ws) => pcheck_any ws route vw none W' h hn hnm)
  have hform : ∃ a c, vw = .slice a ws.length c := by obtain ⟨a, c, e, _⟩ := hW; exact ⟨a, c, e⟩
  obtain ⟨aw, cw, rfl⟩ := hform
  have K := hid ((HK.start w).box2 (.int .i64 route) (.slice aw ws.length cw) 24)
  clear hW ht hnm
  by_cases hc : check route ws = 0
  rotate_left
  · obtain ⟨e1, e2⟩ := ne_bool hc
    have hr : writeRes route ws = [] := by unfold writeRes; rw [if_neg hc]
    rw [hr]
    obtain ⟨ce, hce⟩ : ∃ ce, check route ws = ce := ⟨_, rfl⟩
    rw [hce] at HC e1 e2 ⊢
    clear hc hr hce
    go_enter Tryz.func9, Tryz.ntmps9
    go_wp2_with (go_at_call 27; refine (HC.out _ (HW.out.below K.out.below)).mono ?_; rintro e w1 ⟨rfl, hb1⟩; have K := hid (K.out.later hb1); clear hb1)
    go_ret2
    exact ⟨rfl, K.out.below⟩
  · have hck := check_zero hc
    have Hc0 := hid hc
    have hr : writeRes route ws = writeL route ws := by unfold writeRes; rw [if_pos hc]
    rw [hr]
    rw [hc] at HC
    have hmf : ∀ (fn : Fn) (first cap : Array Value) (w : World), (Instr.makeFunc fn first cap).run Tryz.prog w = .ok (.func fn first cap) w := fun _ _ _ _ => rfl
    clear hr
    rw [hc]
    clear hc
    go_enter Tryz.func9, Tryz.ntmps9
    go_wp2_with (go_at_call 27; refine (HC.out _ (HW.out.below K.out.below)).mono ?_; rintro e w1 ⟨rfl, hb1⟩; have K := hid (K.out.later hb1); clear hb1)
    have x0 := K.out.c (b := w.heap.size) (o := 0) (v := .int .i64 route) (by simp)
    have x1 := K.out.c (b := w.heap.size) (o := 1) (v := .slice aw ws.length cw) (by simp)
    have hTl := World.block_lt_of_cell? w1 ⟨w.heap.size, 0, none⟩ x0
    have HX := hid (fun (W' : World) (hb : Below w1.heap.size w1 W') => (⟨cell_back hb hTl x0, cell_back hb hTl x1⟩ : W'.cell? ⟨w.heap.size, 0, none⟩ = some (.int .i64 route) ∧ W'.cell? ⟨w.heap.size, 1, none⟩ = some (.slice aw ws.length cw)))
    have HWB := hid (fun (W' : World) (hb : Below w1.heap.size w1 W') => (HW.out.below K.out.below).below hb)
    have HTB := hid (fun (W' : World) (hb : Below w1.heap.size w1 W') => (((Tb.of HT.out).go K.out.below).up K.out.below.size).go hb)
    have HBW := hid (fun (W' : World) (hb : Below w1.heap.size w1 W') => below_trans K.out.below hb)
    clear x0 x1 hTl
    obtain ⟨w2, hw2⟩ : ∃ w2, (w1.alloc (.cells #[.pointer none, .slice none 0 0] 70)).alloc (.cells #[.func (.func 28) #[.pointer (some ⟨w1.heap.size, 0, none⟩)] #[]] 71) = w2 := ⟨_, rfl⟩
    have KW : Hid (WK w1.heap.size (w1.heap.size + 1) [] w1 w2) := hid (by
      subst hw2
      refine ⟨(Bd.fresh w1).later (below_alloc _ _), ⟨?_, by omega⟩, (below_alloc w1 _).trans ((below_alloc _ _).mono (by simp))⟩
      have h := heap_alloc_new (w1.alloc (.cells #[.pointer none, .slice none 0 0] 70)) (.cells #[.func (.func 28) #[.pointer (some ⟨w1.heap.size, 0, none⟩)] #[]] 71)
      simpa using h)
    rw [hw2]
    clear hw2
    refine (writeS_any _ _ [] ⟨#[97, 118, 101, 110, 117, 101]⟩ _ KW.out.bd (by simp [ByteArray.size]) (Nat.le_of_lt KW.out.bd.lt)).mono ?_
    rintro e w3 ⟨rfl, g1, g2, g3⟩
    have KW := hid (KW.out.wrote ⟨g1, g2, g3⟩)
    clear g1 g2 g3
    have y0 := (HX.out _ KW.out.below).1
    go_wp2_with fail
    refine (numb_any route _ _ _ _ _ (by omega) (by omega) KW.out.wf KW.out.bd (HTB.out _ KW.out.below) (by simp) (Nat.le_of_lt KW.out.bd.lt)).mono ?_
    rintro e w4 ⟨rfl, g⟩
    have KW := hid (KW.out.wrote g)
    have hhl : (([] ++ #[97, 118, 101, 110, 117, 101].toList) ++ 32 :: Lib.itoa route : List UInt8) = headL route := rfl
    have KW : Hid (WK w1.heap.size (w1.heap.size + 1) (headL route) w1 w4) := KW
    have y1 := (HX.out _ KW.out.below).2
    clear g y0 hhl
    go_wp2_with fail
    have HHL := hid (show (headL route).length ≤ 28 from by
      have h := itoa_len route (by omega) (by omega)
      unfold headL
      simp only [List.length_append, List.length_cons, List.length_nil]
      omega)
    obtain ⟨hr1, hr2, h0, h8, hws⟩ := hck
    have hc0 := Hc0.out
    have hnames := hid (fun i (hi : i < ws.length) => check_names hc0 hi)
    have Hws := hid hws
    have HWL := hid (show ∀ i, i < ws.length → (wingL (wg ws i)).length ≤ 100 from fun i hi => by
      have h := hws i hi
      exact wingL_len (check_names hc0 hi) (by omega) (by omega) (by omega))
    clear hws hc0
    go_loopw [26] (fun i wr => ∃ k : Nat, k ≤ ws.length ∧ i = .int .i64 k ∧ WK w1.heap.size (w1.heap.size + 1) (wingsL ws (headL route) k) w1 wr) (fun i _ => ws.length - (intOf i).toNat)
    case atStart => exact ⟨0, by omega, rfl, KW.out⟩
    case round =>
      obtain ⟨k, hk, rfl, hkw⟩ := hrel
      have KR := hid hkw
      have HL := hid (wingsL_len (b := headL route) (k := k) (fun i hi => HWL.out i (by omega)))
      clear hkw
      by_cases hlt : k < ws.length
      · have hg := (HWB.out _ KR.out.below).cellsN hlt
        obtain ⟨bw, ow, rfl, q0, q1, q2, q3⟩ := hg
        have i1 : (k : Int) < (ws.length : Int) := by omega
        have z2 : IntKind.i64.wrap ((k : Int) + 1) = (k : Int) + 1 := IntWalk.i64_in _ (by omega)
        have HN8 := hid (hnames.out k hlt)
        have hxx := Hws.out k hlt
        have HXL := hid (show wingsL ws (headL route) (k + 1) = wingsL ws (headL route) k ++ wingL (wg ws k) from rfl)
        obtain ⟨x, hx⟩ : ∃ x, wg ws k = x := ⟨_, rfl⟩
        rw [hx] at q0 q1 q2 q3 HN8 hxx HXL
        clear hx
        have f0 := (KR.out.wf.later (below_alloc wr (.cells #[.string x.name, .int .i64 x.len, .int .i64 x.lo, .int .i64 x.hi] 45))).cell
        have HI1 := hid (itoa_len x.len (by omega) (by omega))
        have HI2 := hid (itoa_len x.lo (by omega) (by omega))
        have hadd : ∀ W : World, (Op.stringOp .add ⟨#[10, 119, 105, 110, 103, 32]⟩ x.name).run Tryz.prog W = .ok (.string ⟨([10, 119, 105, 110, 103, 32] ++ x.name.data.toList).toArray⟩) W := fun W => by
          rw [run_string_add_sum W _ _ (by have h := HN8.out; have h6 : (⟨#[10, 119, 105, 110, 103, 32]⟩ : ByteArray).size = 6 := rfl; omega)]
          congr 2
        have HL0 := hid KR.out.bd.lt
        go_wp2_with fail
        have BA := hid (below_alloc wr (.cells #[.string x.name, .int .i64 x.len, .int .i64 x.lo, .int .i64 x.hi] 45))
        have KR := hid (KR.out.later BA.out)
        have WX := hid (show Whole wr.heap.size 45 #[.string x.name, .int .i64 x.len, .int .i64 x.lo, .int .i64 x.hi] w1.heap.size (wr.alloc (.cells #[.string x.name, .int .i64 x.len, .int .i64 x.lo, .int .i64 x.hi] 45)) from
          ⟨heap_alloc_new _ _, Nat.ne_of_gt HL0.out, by decide⟩)
        clear q0 q1 q2 q3 f0
        refine (writeS_any _ _ _ ⟨(10 :: 119 :: 105 :: 110 :: 103 :: 32 :: x.name.data.toList).toArray⟩ _ KR.out.bd ?_ (Nat.le_of_lt KR.out.bd.lt)).mono ?_
        · have h1 := HL.out
          have h2 := HHL.out
          have h3 := HN8.out
          have h6 : x.name.data.toList.length = x.name.size := Array.length_toList
          simp only [ByteArray.size, List.size_toArray, List.length_append, List.length_cons, List.length_nil] at h3 h6 ⊢
          omega
        rintro e w5 ⟨rfl, g1, g2, g3⟩
        have KR := hid (KR.out.wrote ⟨g1, g2, g3⟩)
        have WX := hid (WX.out.kept g3)
        clear g1 g2 g3 hadd
        have n1 := WX.out.cell (o := 1)
        dsimp at n1
        go_wp2_with fail
        refine (numb_any x.len _ _ _ _ _ (by omega) (by omega) KR.out.wf KR.out.bd (HTB.out _ KR.out.below) ?_ (Nat.le_of_lt KR.out.bd.lt)).mono ?_
        · have h1 := HL.out
          have h2 := HHL.out
          have h3 := HN8.out
          have h4 := HI1.out
          have h5 := HI2.out
          have h6 : x.name.data.toList.length = x.name.size := Array.length_toList
          simp only [List.length_append, List.length_cons, List.length_nil]
          omega
        rintro e w6 ⟨rfl, g⟩
        have KR := hid (KR.out.wrote g)
        have WX := hid (WX.out.kept g.kept)
        clear g n1
        have n2 := WX.out.cell (o := 2)
        dsimp at n2
        go_wp2_with fail
        refine (numb_any x.lo _ _ _ _ _ (by omega) (by omega) KR.out.wf KR.out.bd (HTB.out _ KR.out.below) ?_ (Nat.le_of_lt KR.out.bd.lt)).mono ?_
        · have h1 := HL.out
          have h2 := HHL.out
          have h3 := HN8.out
          have h4 := HI1.out
          have h5 := HI2.out
          have h6 : x.name.data.toList.length = x.name.size := Array.length_toList
          simp only [List.length_append, List.length_cons, List.length_nil]
          omega
        rintro e w7 ⟨rfl, g⟩
        have KR := hid (KR.out.wrote g)
        have WX := hid (WX.out.kept g.kept)
        clear g n2
        have n3 := WX.out.cell (o := 3)
        dsimp at n3
        go_wp2_with fail
        refine (numb_any x.hi _ _ _ _ _ (by omega) (by omega) KR.out.wf KR.out.bd (HTB.out _ KR.out.below) ?_ (Nat.le_of_lt KR.out.bd.lt)).mono ?_
        · have h1 := HL.out
          have h2 := HHL.out
          have h3 := HN8.out
          have h4 := HI1.out
          have h5 := HI2.out
          have h6 : x.name.data.toList.length = x.name.size := Array.length_toList
          simp only [List.length_append, List.length_cons, List.length_nil]
          omega
        rintro e w8 ⟨rfl, g⟩
        have KR := hid (KR.out.wrote g)
        have WX := hid (WX.out.kept g.kept)
        clear g n3
        go_wp2_with fail
        go_roundw
        case rel => exact ⟨k + 1, by omega, by go_num, by rw [HXL.out]; simpa [wingL] using KR.out⟩
        case measure => simp [intOf] <;> omega
      · obtain rfl : k = ws.length := by omega
        have f0 := KR.out.wf.cell
        go_wp2_with fail
        refine (writeS_any _ _ _ ⟨#[10, 101, 110, 100]⟩ _ KR.out.bd ?_ (Nat.le_of_lt KR.out.bd.lt)).mono ?_
        · have h1 := HL.out
          have h2 := HHL.out
          simp only [ByteArray.size, List.size_toArray, List.length_cons, List.length_nil]
          omega
        rintro e w5 ⟨rfl, g1, g2, g3⟩
        have KR := hid (KR.out.wrote ⟨g1, g2, g3⟩)
        have y1 := (HX.out _ KR.out.below).2
        clear g1 g2 g3 f0
        go_wp2_with fail
        refine (numb_any (ws.length : Int) _ _ _ _ _ (by omega) (by omega) KR.out.wf KR.out.bd (HTB.out _ KR.out.below) ?_ (Nat.le_of_lt KR.out.bd.lt)).mono ?_
        · have h1 := HL.out
          have h2 := HHL.out
          simp only [List.length_append, List.length_cons, List.length_nil]
          omega
        rintro e w6 ⟨rfl, g⟩
        have KR := hid (KR.out.wrote g)
        have f1 := KR.out.wf.cell
        have HIn := hid (itoa_len (ws.length : Int) (by omega) (by omega))
        clear g y1
        go_wp2_with fail
        refine (writeS_any _ _ _ ⟨#[10]⟩ _ KR.out.bd ?_ (Nat.le_of_lt KR.out.bd.lt)).mono ?_
        · have h1 := HL.out
          have h2 := HHL.out
          have h3 := HIn.out
          simp only [ByteArray.size, List.size_toArray, List.length_append, List.length_cons, List.length_nil]
          omega
        rintro e w7 ⟨rfl, g1, g2, g3⟩
        have KR := hid (KR.out.wrote ⟨g1, g2, g3⟩)
        clear g1 g2 g3 f1
        go_wp2_with fail
        refine (str_any _ _ _ _ KR.out.bd (Nat.le_of_lt KR.out.bd.lt)).mono ?_
        rintro e w8 ⟨rfl, g⟩
        have KB := hid (HBW.out _ (KR.out.below.trans g))
        clear g
        go_wp2_with fail
        go_ret2
        refine ⟨?_, KB.out⟩
        simp [writeL]
end Go.Proofs.YtefdopifebhgiaaGreatDoor
