/-
  WALKS: the program's Plan: the two functions in it.
  WALKS: the program's Plan: the search.
  WALKS: the program's Plan.
-/
import Derived.Test.YtgfipifgijohhaaDoorPls
import Derived.Laws.EntriesVeiled
namespace Go.Proofs.YtgfipifgijohhaaDoor
open Go.RowKit

/-- two blocks alone may have changed -/
structure Fr (S G : Nat) (w w' : World) : Prop where
  os : w'.os = w.os
  tape : w'.tape = w.tape
  output : w'.output = w.output
  size : w.heap.size ≤ w'.heap.size
  block : ∀ i, i < w.heap.size → i ≠ S → i ≠ G → w'.heap[i]? = w.heap[i]?

theorem Fr.refl (S G : Nat) (w : World) : Fr S G w w := ⟨rfl, rfl, rfl, Nat.le_refl _, fun _ _ _ _ => rfl⟩
theorem Fr.trans {S G : Nat} {a b c : World} (h : Fr S G a b) (k : Fr S G b c) : Fr S G a c :=
  ⟨k.os.trans h.os, k.tape.trans h.tape, k.output.trans h.output, Nat.le_trans h.size k.size, fun i hi h1 h2 => (k.block i (Nat.lt_of_lt_of_le hi h.size) h1 h2).trans (h.block i hi h1 h2)⟩
theorem Fr.of_below {S G : Nat} {a b : World} (h : Below a.heap.size a b) : Fr S G a b := ⟨h.os, h.tape, h.output, h.size, fun i hi _ _ => h.block i hi⟩
theorem Fr.put {S G Z : Nat} {w : World} (h : Z = S ∨ Z = G) (o : Nat) (v : Value) : Fr S G w (w.setCell ⟨Z, o, none⟩ v) := by
  have hg := gb_put w Z o v
  exact ⟨hg.os, hg.tape, hg.output, hg.size, fun i hi h1 h2 => hg.block i hi (by intro e; cases e; rcases h with h | h <;> omega)⟩

theorem OwnInts.fr {S G b : Nat} {w w' : World} {v : Value} {xs : List Int} (h : OwnInts b w v xs) (hf : Fr S G w w') (hS : S < b) (hG : G < b) : OwnInts b w' v xs := by
  obtain ⟨h1, h2⟩ := h
  refine ⟨h1, ?_⟩
  rcases h2 with h2 | ⟨g, cap, cur, e, hb, hh, hr⟩
  · exact .inl h2
  · exact .inr ⟨g, cap, cur, e, hb, (hf.block g (Array.getElem?_eq_some_iff.1 hh).1 (by omega) (by omega)).trans hh, hr⟩
theorem WgAt.fr {S G b : Nat} {w w' : World} {v : Value} {ws : List Wing} (h : WgAt none w v ws) (hf : Fr S G w w') (hS : ∀ g, v.ownBlock = some g → g ≠ S ∧ g ≠ G) (h0 : 0 < ws.length) : WgAt none w' v ws := by
  obtain ⟨a, cap, rfl, hh⟩ := h
  refine ⟨a, cap, rfl, fun h0 => ?_⟩
  obtain ⟨b', off, rfl, h1, h2, h3, h4, h5⟩ := hh h0
  obtain ⟨n1, n2⟩ := hS b' rfl
  have hc : ∀ o, w'.cell? ⟨b', o, none⟩ = w.cell? ⟨b', o, none⟩ := fun o => World.cell?_of_block (a := ⟨b', o, none⟩) (hf.block b' h4 n1 n2)
  refine ⟨b', off, rfl, h1, h2, h3, Nat.lt_of_lt_of_le h4 hf.size, fun i hi => ?_⟩
  rw [hc, hc, hc, hc]
  exact h5 i hi

theorem frz_put {w : World} {x : Addr} (h : w.frozen? x = false) (a : Addr) (v : Value) : (w.setCell a v).frozen? x = false := (World.frozen?_setCell _ _ _ _).trans h

theorem HK.put1 {cs : Cells} {w0 w : World} {Z : Nat} {x : Value} (k : HK ((Z, 0, x) :: cs) w0 w) (h : ∀ b o v, (b, o, v) ∈ cs → b ≠ Z) (x' : Value) : HK ((Z, 0, x') :: cs) w0 (w.setCell ⟨Z, 0, none⟩ x') := by
  have hz : w0.heap.size ≤ Z := (k.cell Z 0 x (by simp)).1
  refine ⟨k.below.setCell (p := ⟨Z, 0, none⟩) hz _, fun b o v hm => ?_⟩
  rcases List.mem_cons.1 hm with hm | hm
  · cases hm; exact ⟨hz, World.cell?_setCell_same _ _ _ (k.c (b := Z) (o := 0) (v := x) (by simp)), (World.frozen?_setCell _ _ _ _).trans (k.f (b := Z) (o := 0) (v := x) (by simp))⟩
  · have hne := h b o v hm
    have hk : (b, o, v) ∈ ((Z, 0, x) :: cs) := List.mem_cons_of_mem _ hm
    exact ⟨(k.cell b o v hk).1, cell_set_far (Ne.symm hne) (k.c hk), (World.frozen?_setCell _ _ _ _).trans (k.f hk)⟩

theorem HK.put2s {cs : Cells} {w0 w : World} {S G : Nat} {x y : Value} (k : HK ((S, 0, x) :: (G, 0, y) :: cs) w0 w) (h : ∀ b o v, (b, o, v) ∈ cs → b ≠ S ∧ b ≠ G) (hSG : S ≠ G) (x' y' : Value) :
    HK ((S, 0, x') :: (G, 0, y') :: cs) w0 ((w.setCell ⟨S, 0, none⟩ x').setCell ⟨G, 0, none⟩ y') := by
  have k1 := k.put1 (by intro b o v hm; rcases List.mem_cons.1 hm with hm | hm; (cases hm; exact Ne.symm hSG); exact (h b o v hm).1) x'
  have k2 : HK ((G, 0, y) :: (S, 0, x') :: cs) w0 (w.setCell ⟨S, 0, none⟩ x') := k1.sub (by intro z hz; simp only [List.mem_cons] at hz ⊢; rcases hz with h | h | h <;> simp [h])
  have k3 := k2.put1 (by intro b o v hm; rcases List.mem_cons.1 hm with hm | hm; (cases hm; exact hSG); exact (h b o v hm).2) y'
  exact k3.sub (by intro z hz; simp only [List.mem_cons] at hz ⊢; rcases hz with h | h | h <;> simp [h])

set_option maxRecDepth 100000 in
theorem eq_nil (x : Addr) (n c : Nat) (w : World) : Sem.run Tryd.prog (Go.binOp .eql 25 (.slice (some x) n c) (.slice none 0 0)) w = .ok (.bool false) w := rfl
set_option maxRecDepth 100000 in
theorem nil_nil (w : World) : Sem.run Tryd.prog (Go.binOp .eql 25 (.slice none 0 0) (.slice none 0 0)) w = .ok (.bool true) w := rfl

set_option maxHeartbeats 1000000 in
set_option maxRecDepth 100000 in
theorem clone_any (xs : List Int) (v : Value) (w : World) (hX : IntsAt none w v xs) (hv : xs = [] → v = .slice none 0 0) (hn : xs.length ≤ 1000000) :
    Calls Tryd.prog 110 #[v] w fun e w' => ∃ v', e = .returned v' ∧ OwnInts w.heap.size w' v' xs ∧ Below w.heap.size w w' := by
  have HX := hid hX
  have q1 := eq_nil
  have q2 := nil_nil
  by_cases h0 : 0 < xs.length
  · obtain ⟨b, off, c, rfl, _, _⟩ := hX.slice h0
    clear hX
    have Hv := hid hv
    clear hv
    go_enter Tryd.func110, Tryd.ntmps110
    go_wp2_with (at_builtin; refine app_ints rfl _ _ rfl w.heap.size xs _ _ (own_empty w) none (HX.out.below ((Below.refl _ w).alloc (Nat.le_refl _) _)) (by intro n c e; cases e) rfl rfl hn (by simp) ?_; intro v1 w1 hown1 hbel1)
    go_ret
    exact ⟨_, rfl, hown1, ((Below.refl _ w).alloc (Nat.le_refl _) _).trans hbel1⟩
  · obtain rfl : xs = [] := List.eq_nil_of_length_eq_zero (by omega)
    rw [hv rfl]
    clear hX HX hv
    go_enter Tryd.func110, Tryd.ntmps110
    go_wp2
    go_ret
    exact ⟨_, rfl, own_nil _ _, Below.refl _ _⟩

theorem plansW_stop {ws : List Wing} {F : List Int → List (List Int)} {b : List Int} {k : Nat} (h : ¬ leastOf ws b b.length + (k : Int) ≤ 20000) : ∀ d, plansW ws F b (k + d) = plansW ws F b k := by
  intro d
  induction d with
  | zero => rfl
  | succ d ih =>
    show plansW ws F b (k + d) ++ _ = _
    have e : ¬ (leastOf ws b b.length + ((k + d : Nat) : Int) ≤ 20000) := by omega
    rw [ih]
    exact (congrArg _ (if_neg e)).trans (List.append_nil _)

/-- the best plan so far, as a slice: nil while there is none -/
def Bst (base : Nat) (w : World) (v : Value) (bl : List Int) : Prop := OwnInts base w v bl ∧ (bl = [] → v = .slice none 0 0)

set_option maxHeartbeats 4000000 in
set_option maxRecDepth 100000 in
theorem pcheck1_any (ws : List Wing) (route a b c : Int) (vw vn vb : Value) (T R S G base : Nat) (bl p : List Int) (g : Int) (cs : Cells) (w0 w : World) (hn : ws.length ≤ 100)
    (hW : WgAt none w vw ws) (hc : checkStarts route ws p = 0) (hN : OwnInts base w vn p) (hB : Bst base w vb bl)
    (k : HK ((S, 0, vb) :: (G, 0, .int .i64 g) :: cs) w0 w) (hcs : ∀ b' o v, (b', o, v) ∈ cs → b' ≠ S ∧ b' ≠ G) (hSG : S ≠ G) (hS : S < base) (hG : G < base)
    (t0 : (T, 0, .int .i64 route) ∈ cs) (t1 : (T, 1, vw) ∈ cs) (r0 : (R, 0, .int .i64 a) ∈ cs) (r1 : (R, 1, .int .i64 b) ∈ cs) (r2 : (R, 2, .int .i64 c) ∈ cs) :
    Calls Tryd.prog 108 #[vn, .pointer (some ⟨T, 0, none⟩), .pointer (some ⟨R, 0, none⟩), .pointer (some ⟨S, 0, none⟩), .pointer (some ⟨G, 0, none⟩)] w
     fun e w' => e = .returned (.tuple #[]) ∧ Fr S G w w' ∧ ∃ vb', Bst base w' vb' (pickS route ws a b (bl, g) p).1 ∧ HK ((S, 0, vb') :: (G, 0, .int .i64 (pickS route ws a b (bl, g) p).2) :: cs) w0 w' := by
  have hW2 := hid hW
  have hN2 := hid hN
  have HB := hid hB
  have hs1 := hid (show 0 < ws.length from (check_zero (starts_zero hc).1).2.2.1)
  have Hne := hid (show p ≠ [] from by intro e; have h1 := hs1.out; have h2 := (starts_zero hc).2.1; rw [e] at h2; simp at h2; omega)
  obtain ⟨aw, cap, rfl, _⟩ := hW
  obtain ⟨an, cn, rfl⟩ := hN.form
  have HP := hid (hN.at (d := none) (by simp))
  clear hN
  have HL := hid (fun vw' vs' W' g1 g2 => plasts_any ws p route vw' vs' W' g1 g2 hc)
  have HM := hid (fun vw' vs' W' g1 g2 => widestOf_any ws p route vw' vs' W' g1 g2 hc hn)
  have K := hid k
  have x0 := K.out.c (b := T) (o := 0) (v := .int .i64 route) (by simp [t0])
  have x1 := K.out.c (b := T) (o := 1) (v := .slice aw ws.length cap) (by simp [t1])
  clear k hc
  have hpk : pickS route ws a b (bl, g) p = if keeps route ws a b p = true ∧ (bl = [] ∨ (mostN route ws p (ws.length - 1)).2.2 < g) then (p, (mostN route ws p (ws.length - 1)).2.2) else (bl, g) := rfl
  unfold keeps at hpk
  obtain ⟨A, hA⟩ : ∃ A, longOf route ws p (Hi ws) = A := ⟨_, rfl⟩
  obtain ⟨B, hB2⟩ : ∃ B, longOf route ws p (Lo ws) = B := ⟨_, rfl⟩
  obtain ⟨m1, m2, m3, hM⟩ : ∃ m1 m2 m3, mostN route ws p (ws.length - 1) = (m1, m2, m3) := ⟨_, _, _, rfl⟩
  rw [hA, hB2] at HL hpk
  rw [hM] at HM hpk
  have Hpk := hid hpk
  clear hpk hA hB2 hM hB
  have hq1 := eq_nil
  have hq2 := nil_nil
  have HF := hid (Below.refl w.heap.size w)
  have y0 := K.out.c (b := R) (o := 0) (v := .int .i64 a) (by simp [r0])
  have y1 := K.out.c (b := R) (o := 1) (v := .int .i64 b) (by simp [r1])
  by_cases hab : a ≤ A ∧ B ≤ b
  · have ha := hab.1
    have hb := hab.2
    by_cases hbl : bl = []
    · have HY := hid (show (decide (a ≤ A) && decide (B ≤ b)) = true ∧ (bl = [] ∨ m3 < g) from ⟨by simp [ha, hb], .inl hbl⟩)
      have hv := HB.out.2 hbl
      subst hv
      clear hbl hab
      go_enter Tryd.func108, Tryd.ntmps108
      go_wp2_with (first
        | (go_at_call 84; with_reducible refine (HL.out _ _ _ (hW2.out.below HF.out) (HP.out.below HF.out)).mono ?_; rintro e w1 ⟨rfl, hb1⟩; have K := hid ((K.out.later hb1).box2 (.int .i64 A) (.int .i64 B) 27); have HF := hid ((HF.out.trans (hb1.mono HF.out.size)).alloc (Nat.le_trans HF.out.size hb1.size) (.cells #[.int .i64 A, .int .i64 B] 27)); clear hb1; have y0 := K.out.c (b := R) (o := 0) (v := .int .i64 a) (by simp [r0]); have y1 := K.out.c (b := R) (o := 1) (v := .int .i64 b) (by simp [r1]); have x0 := K.out.c (b := T) (o := 0) (v := .int .i64 route) (by simp [t0]); have x1 := K.out.c (b := T) (o := 1) (v := .slice aw ws.length cap) (by simp [t1]))
        | (go_at_call 103; with_reducible refine (HM.out _ _ _ (hW2.out.below HF.out) (HP.out.below HF.out)).mono ?_; rintro e w2 ⟨rfl, hb1⟩; have hl1 := hid (show S < w2.heap.size from (K.out.later hb1).clt (b := S) (o := 0) (v := .slice none 0 0) (by simp)); have hl2 := hid (show G < w2.heap.size from (K.out.later hb1).clt (b := G) (o := 0) (v := .int .i64 g) (by simp)); have K := hid ((K.out.later hb1).box3 (.int .i64 m1) (.int .i64 m2) (.int .i64 m3) 121); have HF := hid ((HF.out.trans (hb1.mono HF.out.size)).alloc (Nat.le_trans HF.out.size hb1.size) (.cells #[.int .i64 m1, .int .i64 m2, .int .i64 m3] 121)); clear hb1; have s0 := K.out.c (b := S) (o := 0) (v := .slice none 0 0) (by simp); have s1 := K.out.c (b := G) (o := 0) (v := .int .i64 g) (by simp)))
      have hSw := hid (show w2.heap.size ≠ S ∧ w2.heap.size ≠ G from ⟨by have := hl1.out; omega, by have := hl2.out; omega⟩)
      have hwc := K.out.c (b := w2.heap.size) (o := 2) (v := .int .i64 m3) (by simp)
      have s0 := K.out.c (b := S) (o := 0) (v := .slice none 0 0) (by simp)
      have s1 := K.out.c (b := G) (o := 0) (v := .int .i64 g) (by simp)
      have f0 := K.out.f (b := S) (o := 0) (v := .slice none 0 0) (by simp)
      have f1 := K.out.f (b := G) (o := 0) (v := .int .i64 g) (by simp)
      have s0' := cell_set_far (o' := 0) (x := .int .i64 m3) (Ne.symm hSG) s0
      have s1' := cell_set_far (o' := 0) (x := .slice an p.length cn) hSG s1
      have f0' := frz_put f0 ⟨G, 0, none⟩ (.int .i64 m3)
      have f1' := frz_put f1 ⟨S, 0, none⟩ (.slice an p.length cn)
      go_region_held3 (fun w' => w'.cell? ⟨w2.heap.size, 2, none⟩ = some (.int .i64 m3))
        (first | exact hwc | exact cell_set_far hSw.out.1.symm hwc | exact cell_set_far hSw.out.2.symm hwc | exact cell_set_far hSw.out.1.symm (cell_set_far hSw.out.2.symm hwc) | exact cell_set_far hSw.out.2.symm (cell_set_far hSw.out.1.symm hwc)) (fail)
      have hfr := ((((Fr.of_below (S := S) (G := G) HF.out).trans (Fr.put (.inl rfl) 0 (.slice an p.length cn))).trans (Fr.put (.inr rfl) 0 (.int .i64 m3))).trans (Fr.of_below (Below.refl _ _).drew))
      have hk := ((K.out.sub (cs2 := (S, 0, .slice none 0 0) :: (G, 0, .int .i64 g) :: cs) (by intro x hx; simp only [List.mem_cons] at hx ⊢; simp only [hx, or_true, true_or])).put2s hcs hSG (.slice an p.length cn) (.int .i64 m3)).drew
      refine bodyPost_end (v := .tuple #[]) (by simp [results, Tryd.results108, go_sem]) rfl ⟨rfl, hfr, .slice an p.length cn, ?_⟩
      rw [Hpk.out, if_pos HY.out]
      exact ⟨⟨OwnInts.fr hN2.out hfr hS hG, fun e => absurd e Hne.out⟩, hk⟩
    · obtain ⟨xa, cb, rfl⟩ : ∃ xa cb, vb = .slice (some xa) bl.length cb := by
        obtain ⟨b', off, c', e, _⟩ := (HB.out.1.at (d := none) (by simp)).slice (by cases bl with | nil => exact absurd rfl hbl | cons _ _ => simp)
        exact ⟨_, _, e⟩
      by_cases hg : m3 < g
      · have HY := hid (show (decide (a ≤ A) && decide (B ≤ b)) = true ∧ (bl = [] ∨ m3 < g) from ⟨by simp [ha, hb], .inr hg⟩)
        clear hbl hab
        go_enter Tryd.func108, Tryd.ntmps108
        go_wp2_with (first
          | (go_at_call 84; with_reducible refine (HL.out _ _ _ (hW2.out.below HF.out) (HP.out.below HF.out)).mono ?_; rintro e w1 ⟨rfl, hb1⟩; have K := hid ((K.out.later hb1).box2 (.int .i64 A) (.int .i64 B) 27); have HF := hid ((HF.out.trans (hb1.mono HF.out.size)).alloc (Nat.le_trans HF.out.size hb1.size) (.cells #[.int .i64 A, .int .i64 B] 27)); clear hb1; have y0 := K.out.c (b := R) (o := 0) (v := .int .i64 a) (by simp [r0]); have y1 := K.out.c (b := R) (o := 1) (v := .int .i64 b) (by simp [r1]); have x0 := K.out.c (b := T) (o := 0) (v := .int .i64 route) (by simp [t0]); have x1 := K.out.c (b := T) (o := 1) (v := .slice aw ws.length cap) (by simp [t1]))
          | (go_at_call 103; with_reducible refine (HM.out _ _ _ (hW2.out.below HF.out) (HP.out.below HF.out)).mono ?_; rintro e w2 ⟨rfl, hb1⟩; have hl1 := hid (show S < w2.heap.size from (K.out.later hb1).clt (b := S) (o := 0) (v := .slice (some xa) bl.length cb) (by simp)); have hl2 := hid (show G < w2.heap.size from (K.out.later hb1).clt (b := G) (o := 0) (v := .int .i64 g) (by simp)); have K := hid ((K.out.later hb1).box3 (.int .i64 m1) (.int .i64 m2) (.int .i64 m3) 121); have HF := hid ((HF.out.trans (hb1.mono HF.out.size)).alloc (Nat.le_trans HF.out.size hb1.size) (.cells #[.int .i64 m1, .int .i64 m2, .int .i64 m3] 121)); clear hb1; have s0 := K.out.c (b := S) (o := 0) (v := .slice (some xa) bl.length cb) (by simp); have s1 := K.out.c (b := G) (o := 0) (v := .int .i64 g) (by simp)))
        have hSw := hid (show w2.heap.size ≠ S ∧ w2.heap.size ≠ G from ⟨by have := hl1.out; omega, by have := hl2.out; omega⟩)
        have hwc := K.out.c (b := w2.heap.size) (o := 2) (v := .int .i64 m3) (by simp)
        have s0 := K.out.c (b := S) (o := 0) (v := .slice (some xa) bl.length cb) (by simp)
        have s1 := K.out.c (b := G) (o := 0) (v := .int .i64 g) (by simp)
        have f0 := K.out.f (b := S) (o := 0) (v := .slice (some xa) bl.length cb) (by simp)
        have f1 := K.out.f (b := G) (o := 0) (v := .int .i64 g) (by simp)
        have s0' := cell_set_far (o' := 0) (x := .int .i64 m3) (Ne.symm hSG) s0
        have s1' := cell_set_far (o' := 0) (x := .slice an p.length cn) hSG s1
        have f0' := frz_put f0 ⟨G, 0, none⟩ (.int .i64 m3)
        have f1' := frz_put f1 ⟨S, 0, none⟩ (.slice an p.length cn)
        go_region_held3 (fun w' => w'.cell? ⟨w2.heap.size, 2, none⟩ = some (.int .i64 m3))
          (first | exact hwc | exact cell_set_far hSw.out.1.symm hwc | exact cell_set_far hSw.out.2.symm hwc | exact cell_set_far hSw.out.1.symm (cell_set_far hSw.out.2.symm hwc) | exact cell_set_far hSw.out.2.symm (cell_set_far hSw.out.1.symm hwc)) (fail)
        have hfr := ((((Fr.of_below (S := S) (G := G) HF.out).trans (Fr.put (.inl rfl) 0 (.slice an p.length cn))).trans (Fr.put (.inr rfl) 0 (.int .i64 m3))).trans (Fr.of_below (Below.refl _ _).drew))
        have hk := ((K.out.sub (cs2 := (S, 0, .slice (some xa) bl.length cb) :: (G, 0, .int .i64 g) :: cs) (by intro x hx; simp only [List.mem_cons] at hx ⊢; simp only [hx, or_true, true_or])).put2s hcs hSG (.slice an p.length cn) (.int .i64 m3)).drew
        refine bodyPost_end (v := .tuple #[]) (by simp [results, Tryd.results108, go_sem]) rfl ⟨rfl, hfr, .slice an p.length cn, ?_⟩
        rw [Hpk.out, if_pos HY.out]
        exact ⟨⟨OwnInts.fr hN2.out hfr hS hG, fun e => absurd e Hne.out⟩, hk⟩
      · have HN := hid (show ¬ ((decide (a ≤ A) && decide (B ≤ b)) = true ∧ (bl = [] ∨ m3 < g)) from by intro h; rcases h.2 with h | h; exact hbl h; exact hg h)
        clear hbl hab
        go_enter Tryd.func108, Tryd.ntmps108
        go_wp2_with (first
          | (go_at_call 84; with_reducible refine (HL.out _ _ _ (hW2.out.below HF.out) (HP.out.below HF.out)).mono ?_; rintro e w1 ⟨rfl, hb1⟩; have K := hid ((K.out.later hb1).box2 (.int .i64 A) (.int .i64 B) 27); have HF := hid ((HF.out.trans (hb1.mono HF.out.size)).alloc (Nat.le_trans HF.out.size hb1.size) (.cells #[.int .i64 A, .int .i64 B] 27)); clear hb1; have y0 := K.out.c (b := R) (o := 0) (v := .int .i64 a) (by simp [r0]); have y1 := K.out.c (b := R) (o := 1) (v := .int .i64 b) (by simp [r1]); have x0 := K.out.c (b := T) (o := 0) (v := .int .i64 route) (by simp [t0]); have x1 := K.out.c (b := T) (o := 1) (v := .slice aw ws.length cap) (by simp [t1]))
          | (go_at_call 103; with_reducible refine (HM.out _ _ _ (hW2.out.below HF.out) (HP.out.below HF.out)).mono ?_; rintro e w2 ⟨rfl, hb1⟩; have hl1 := hid (show S < w2.heap.size from (K.out.later hb1).clt (b := S) (o := 0) (v := .slice (some xa) bl.length cb) (by simp)); have hl2 := hid (show G < w2.heap.size from (K.out.later hb1).clt (b := G) (o := 0) (v := .int .i64 g) (by simp)); have K := hid ((K.out.later hb1).box3 (.int .i64 m1) (.int .i64 m2) (.int .i64 m3) 121); have HF := hid ((HF.out.trans (hb1.mono HF.out.size)).alloc (Nat.le_trans HF.out.size hb1.size) (.cells #[.int .i64 m1, .int .i64 m2, .int .i64 m3] 121)); clear hb1; have s0 := K.out.c (b := S) (o := 0) (v := .slice (some xa) bl.length cb) (by simp); have s1 := K.out.c (b := G) (o := 0) (v := .int .i64 g) (by simp)))
        refine bodyPost_end (v := .tuple #[]) (by simp [results, Tryd.results108, go_sem]) rfl ⟨rfl, Fr.of_below HF.out, .slice (some xa) bl.length cb, ?_⟩
        rw [Hpk.out, if_neg HN.out]
        exact ⟨⟨OwnInts.later HB.out.1 HF.out, HB.out.2⟩, K.out.sub (by intro x hx; simp only [List.mem_cons] at hx ⊢; simp only [hx, or_true, true_or])⟩
  · have HN := hid (show ¬ ((decide (a ≤ A) && decide (B ≤ b)) = true ∧ (bl = [] ∨ m3 < g)) from by intro h; exact hab (by simpa using h.1))
    by_cases h1 : A < a
    · go_enter Tryd.func108, Tryd.ntmps108
      go_wp2_with (first
        | (go_at_call 84; with_reducible refine (HL.out _ _ _ (hW2.out.below HF.out) (HP.out.below HF.out)).mono ?_; rintro e w1 ⟨rfl, hb1⟩; have K := hid ((K.out.later hb1).box2 (.int .i64 A) (.int .i64 B) 27); have HF := hid ((HF.out.trans (hb1.mono HF.out.size)).alloc (Nat.le_trans HF.out.size hb1.size) (.cells #[.int .i64 A, .int .i64 B] 27)); clear hb1; have y0 := K.out.c (b := R) (o := 0) (v := .int .i64 a) (by simp [r0]); have y1 := K.out.c (b := R) (o := 1) (v := .int .i64 b) (by simp [r1]); have x0 := K.out.c (b := T) (o := 0) (v := .int .i64 route) (by simp [t0]); have x1 := K.out.c (b := T) (o := 1) (v := .slice aw ws.length cap) (by simp [t1])))
      refine bodyPost_ret (v := .tuple #[]) (by simp [results, Tryd.results108, go_sem]) rfl ⟨rfl, Fr.of_below HF.out, vb, ?_⟩
      rw [Hpk.out, if_neg HN.out]
      exact ⟨⟨OwnInts.later HB.out.1 HF.out, HB.out.2⟩, K.out.sub (by intro x hx; simp only [List.mem_cons] at hx ⊢; simp only [hx, or_true, true_or])⟩
    · have h2 : b < B := by omega
      go_enter Tryd.func108, Tryd.ntmps108
      go_wp2_with (first
        | (go_at_call 84; with_reducible refine (HL.out _ _ _ (hW2.out.below HF.out) (HP.out.below HF.out)).mono ?_; rintro e w1 ⟨rfl, hb1⟩; have K := hid ((K.out.later hb1).box2 (.int .i64 A) (.int .i64 B) 27); have HF := hid ((HF.out.trans (hb1.mono HF.out.size)).alloc (Nat.le_trans HF.out.size hb1.size) (.cells #[.int .i64 A, .int .i64 B] 27)); clear hb1; have y0 := K.out.c (b := R) (o := 0) (v := .int .i64 a) (by simp [r0]); have y1 := K.out.c (b := R) (o := 1) (v := .int .i64 b) (by simp [r1]); have x0 := K.out.c (b := T) (o := 0) (v := .int .i64 route) (by simp [t0]); have x1 := K.out.c (b := T) (o := 1) (v := .slice aw ws.length cap) (by simp [t1])))
      refine bodyPost_ret (v := .tuple #[]) (by simp [results, Tryd.results108, go_sem]) rfl ⟨rfl, Fr.of_below HF.out, vb, ?_⟩
      rw [Hpk.out, if_neg HN.out]
      exact ⟨⟨OwnInts.later HB.out.1 HF.out, HB.out.2⟩, K.out.sub (by intro x hx; simp only [List.mem_cons] at hx ⊢; simp only [hx, or_true, true_or])⟩
end Go.Proofs.YtgfipifgijohhaaDoor

namespace Go.Proofs.YtgfipifgijohhaaDoor
open Go.RowKit

set_option maxHeartbeats 8000000 in
set_option maxRecDepth 100000 in
theorem pplan2_any (ws : List Wing) (route a b c : Int) (T R S G C Y base : Nat) (vw : Value) (cs : Cells) (w0 : World) (hs : Small ws) (h5 : ws.length ≤ 5) (hck : check route ws = 0)
    (hcs : ∀ b' o v, (b', o, v) ∈ cs → b' ≠ S ∧ b' ≠ G) (hSG : S ≠ G) (hS : S < base) (hG : G < base) (hWn : ∀ g, vw.ownBlock = some g → g ≠ S ∧ g ≠ G)
    (t0 : (T, 0, .int .i64 route) ∈ cs) (t1 : (T, 1, vw) ∈ cs) (r0 : (R, 0, .int .i64 a) ∈ cs) (r1 : (R, 1, .int .i64 b) ∈ cs) (r2 : (R, 2, .int .i64 c) ∈ cs)
    (c0 : (C, 0, .func (.func 108) #[] #[.pointer (some ⟨T, 0, none⟩), .pointer (some ⟨R, 0, none⟩), .pointer (some ⟨S, 0, none⟩), .pointer (some ⟨G, 0, none⟩)]) ∈ cs)
    (y0 : (Y, 0, .func (.func 109) #[] #[.pointer (some ⟨T, 0, none⟩), .pointer (some ⟨C, 0, none⟩), .pointer (some ⟨Y, 0, none⟩)]) ∈ cs) :
    ∀ (r : Nat) (p : List Int) (vn vb : Value) (bl : List Int) (g : Int) (w : World), WgAt none w vw ws → OwnInts base w vn p → (p = [] → vn = .slice none 0 0) → base ≤ w.heap.size → Begun ws p → p.length + r = ws.length → Bst base w vb bl → HK ((S, 0, vb) :: (G, 0, .int .i64 g) :: cs) w0 w →
    Calls Tryd.prog 109 #[vn, .pointer (some ⟨T, 0, none⟩), .pointer (some ⟨C, 0, none⟩), .pointer (some ⟨Y, 0, none⟩)] w
     fun e w' => e = .returned (.tuple #[]) ∧ Fr S G w w' ∧ ∃ vb', Bst base w' vb' (bestP route ws a b (bl, g) (plansR ws r p)).1 ∧ HK ((S, 0, vb') :: (G, 0, .int .i64 (bestP route ws a b (bl, g) (plansR ws r p)).2) :: cs) w0 w' := by
  have Hw0 := hid (check_zero hck).2.2.1
  intro r
  induction r with
  | zero =>
    intro p vn vb bl g w hW hN hNn hb0 hbg hl hB k
    have HW := hid hW
    have HN := hid hN
    have HB := hid hB
    have K := hid k
    obtain ⟨aw, cap, rfl, _⟩ := hW
    obtain ⟨an, cn, rfl⟩ := hN.form
    have Hcs := hid (hbg.whole hck (by omega))
    have x1 := K.out.c (b := T) (o := 1) (v := .slice aw ws.length cap) (by simp [t1])
    have x2 := K.out.c (b := C) (o := 0) (v := .func (.func 108) #[] #[.pointer (some ⟨T, 0, none⟩), .pointer (some ⟨R, 0, none⟩), .pointer (some ⟨S, 0, none⟩), .pointer (some ⟨G, 0, none⟩)]) (by simp [c0])
    obtain ⟨d1, d2⟩ := eq_bool (a := (p.length : Int)) (b := (ws.length : Int)) (by omega)
    clear hN hB k hbg hl
    go_enter Tryd.func109, Tryd.ntmps109
    go_wp2_with (go_at_call 108; refine (pcheck1_any ws route a b c _ _ _ T R S G base bl p g cs w0 _ (by omega) HW.out Hcs.out HN.out HB.out K.out hcs hSG hS hG t0 t1 r0 r1 r2).mono ?_; rintro e w1 ⟨rfl, hf, vb', hB', hk'⟩)
    refine bodyPost_ret (v := .tuple #[]) (by simp [results, Tryd.results109, go_sem]) rfl ⟨rfl, hf, vb', hB', hk'⟩
  | succ r ih =>
    intro p vn vb bl g w hW hN hNn hb0 hbg hl hB k
    have HW := hid hW
    have HN := hid hN
    have HB := hid hB
    have HNn := hid hNn
    have K := hid k
    have IH := hid ih
    have HWn := hid hWn
    have Hbg := hid hbg
    have hlb := least_bound hs hbg (by omega)
    obtain ⟨aw, cap, rfl, _⟩ := hW
    obtain ⟨an, cn, rfl⟩ := hN.form
    obtain ⟨np, hnp⟩ : ∃ np, p.length = np := ⟨_, rfl⟩
    rw [hnp] at HN HNn hlb hl ⊢
    have HNP := hid hnp
    have x0 := K.out.c (b := T) (o := 0) (v := .int .i64 route) (by simp [t0])
    have x1 := K.out.c (b := T) (o := 1) (v := .slice aw ws.length cap) (by simp [t1])
    obtain ⟨d1, d2⟩ := ne_bool (a := (np : Int)) (b := (ws.length : Int)) (by omega)
    obtain ⟨L, hL⟩ : ∃ L, leastOf ws p np = L := ⟨_, rfl⟩
    rw [hL] at hlb
    have HL := hid hL
    have hwq := waitsOf_le p
    obtain ⟨Q, hQ⟩ : ∃ Q, waitsOf p = Q := ⟨_, rfl⟩
    rw [hQ] at hwq
    have HQ := hid hQ
    have hQ1 : 1 ≤ Q := by rw [← hQ]; unfold waitsOf; split <;> omega
    have Hl := hid hl
    have hnpl : np < ws.length := by omega
    clear hN hB k hbg hl hnp hL hQ hNn ih
    go_enter Tryd.func109, Tryd.ntmps109
    go_wp2_with fail
    refine (pleast_any ws p (np : Int) route _ _ _ HW.out (HN.out.at (by simp)) (by omega) hs (by rw [Int.toNat_natCast]; omega) (by rw [Int.toNat_natCast, HNP.out]; exact Nat.le_refl _) (by rw [Int.toNat_natCast, ← HNP.out]; exact Hbg.out.bound)).mono ?_
    rw [Int.toNat_natCast, HL.out]
    rintro e w1 ⟨rfl, hb1⟩
    have K := hid (K.out.later hb1)
    have HF := hid (Fr.of_below (S := S) (G := G) hb1)
    have HB := hid (show Bst base w1 vb bl from ⟨OwnInts.later HB.out.1 hb1, HB.out.2⟩)
    clear hb1 x0 x1
    go_upto_if 24 with fail
    go_cut [7] from 23 to 25 (fun s wx => s = .int .i64 ((Q : Int) - 1) ∧ wx = w1)
    case first =>
      by_cases hz : np = 0
      · obtain ⟨d5, d6⟩ := eq_bool (a := (np : Int)) (b := 0) (by omega)
        have hk1 : Q = 1 := by have h := HQ.out; unfold waitsOf at h; rw [HNP.out, if_pos hz] at h; omega
        go_wp2_with fail
        go_meet
        exact ⟨by rw [hk1]; rfl, rfl⟩
      · obtain ⟨d5, d6⟩ := ne_bool (a := (np : Int)) (b := 0) (by omega)
        have hk1 : Q = 4 := by have h := HQ.out; unfold waitsOf at h; rw [HNP.out, if_neg hz] at h; omega
        go_wp2_with fail
        go_meet
        exact ⟨by rw [hk1]; rfl, rfl⟩
    case rest =>
      obtain ⟨rfl, rfl⟩ := hcut
      obtain ⟨w1, rfl⟩ : ∃ w1 : World, w1 = wc := ⟨_, rfl⟩
      clear d1 d2
      go_wp2_with fail
      go_loopw [8] (fun i wr => ∃ (k : Nat) (vb' : Value) (bl' : List Int) (g' : Int), k ≤ Q ∧ i = .int .i64 (L + (k : Int)) ∧ bestP route ws a b (bl, g) (plansW ws (plansR ws r) p k) = (bl', g') ∧ Bst base wr vb' bl' ∧ HK ((S, 0, vb') :: (G, 0, .int .i64 g') :: cs) w0 wr ∧ Fr S G w wr)
        (fun i _ => (L + (Q : Int) - intOf i).toNat)
      case atStart => exact ⟨0, vb, bl, g, by omega, by go_num, rfl, HB.out, K.out, HF.out⟩
      case round =>
        obtain ⟨k, vb', bl', g', hk, rfl, hbp, hB', KK, hF⟩ := hrel
        have K := hid KK
        have HB := hid hB'
        have HF := hid hF
        have Hbp := hid hbp
        clear hB' KK hF hbp
        obtain ⟨wo, rfl⟩ : ∃ wo : World, wo = wr := ⟨_, rfl⟩
        have z2 : IntKind.i64.wrap (L + ((Q : Int) - 1)) = L + ((Q : Int) - 1) := IntWalk.i64_in _ (by omega)
        by_cases hlt : k < Q ∧ L + (k : Int) ≤ 20000
        · obtain ⟨hlt1, hlt2⟩ := hlt
          have hcond : L + (k : Int) ≤ min 20000 (L + ((Q : Int) - 1)) := by omega
          have z1 : IntKind.i64.wrap (L + (k : Int) + 1) = L + (k : Int) + 1 := IntWalk.i64_in _ (by omega)
          have hBg2 := hid (show Begun ws (p ++ [L + (k : Int)]) from by
            have h := Hbg.out.snoc hs (by have := HNP.out; omega) (n := k) (by rw [HNP.out, HL.out]; exact hlt2)
            rw [HNP.out, HL.out] at h
            exact h)
          have hbo : base ≤ wo.heap.size := Nat.le_trans hb0 HF.out.size
          have hpl : p.length ≤ 1000000 := by have := HNP.out; omega
          have HPX := hid (show ∀ W', Below wo.heap.size wo W' → IntsAt none W' (.slice an np cn) p from fun W' hb => OwnInts.at (OwnInts.later (OwnInts.fr HN.out HF.out hS hG) hb) (by simp))
          have HWX := hid (show ∀ W', Below wo.heap.size wo W' → WgAt none W' (.slice aw ws.length cap) ws from fun W' hb => (WgAt.fr (b := 0) HW.out HF.out HWn.out Hw0.out).below hb)
          have KS := hid (show ∀ W', Below wo.heap.size wo W' → W'.cell? ⟨Y, 0, none⟩ = some (.func (.func 109) #[] #[.pointer (some ⟨T, 0, none⟩), .pointer (some ⟨C, 0, none⟩), .pointer (some ⟨Y, 0, none⟩)]) from fun W' hb => (K.out.later hb).c (b := Y) (o := 0) (v := .func (.func 109) #[] #[.pointer (some ⟨T, 0, none⟩), .pointer (some ⟨C, 0, none⟩), .pointer (some ⟨Y, 0, none⟩)]) (by simp [y0]))
          have B1 := hid (show Below wo.heap.size wo wo.drew from (Below.refl _ _).drew)
          have B2 := hid (show Below wo.heap.size wo ((wo.alloc (.cells #[.int .i64 (L + (k : Int))] 3)).drew) from (below_alloc _ _).drew)
          have C2 := hid (show ((wo.alloc (.cells #[.int .i64 (L + (k : Int))] 3)).drew).cell? ⟨wo.heap.size, 0, none⟩ = some (.int .i64 (L + (k : Int))) from cell_at rfl rfl)
          have hs2 := hid (show wo.heap.size < ((wo.alloc (.cells #[.int .i64 (L + (k : Int))] 3)).drew).heap.size from by simp)
          go_wp2_with fail
          go_region_held3 (fun w' => w'.cell? ⟨Y, 0, none⟩ = some (.func (.func 109) #[] #[.pointer (some ⟨T, 0, none⟩), .pointer (some ⟨C, 0, none⟩), .pointer (some ⟨Y, 0, none⟩)]))
            (first | exact KS.out _ B1.out | exact KS.out _ B2.out | exact KS.out _ BX.out | exact KS.out _ (BX.out.trans ((below_alloc _ _).mono BX.out.size)) | exact K4.out.c (by simp [y0])) (first
            | (go_at_call 110; refine (clone_any p _ _ (HPX.out _ B1.out) HNn.out hpl).mono ?_; rintro e w2 ⟨v2, rfl, hown2, hb2⟩; obtain ⟨ac, cc, rfl⟩ := hown2.form; have H2 := hid (OwnInts.base' (b' := wo.heap.size) hown2 (Nat.le_refl _)); have BX := hid (show Below wo.heap.size wo w2 from B1.out.trans hb2); clear hown2 hb2)
            | (go_at_call 110; refine (clone_any p _ _ (HPX.out _ B2.out) HNn.out hpl).mono ?_; rintro e w2 ⟨v2, rfl, hown2, hb2⟩; obtain ⟨ac, cc, rfl⟩ := hown2.form; have H2 := hid (OwnInts.base' (b' := wo.heap.size) hown2 B2.out.size); have CN := hid (cell_back hb2 hs2.out C2.out); have BX := hid (show Below wo.heap.size wo w2 from B2.out.trans (hb2.mono B2.out.size)); clear hown2 hb2)
            | (refine step_app_intL rfl _ _ rfl wo.heap.size p (L + (k : Int)) _ _ _ H2.out CN.out rfl rfl hpl BX.out.size ?_; intro c3 a3 w3 hown3 hb3; have H3 := hid hown3; have BX := hid (BX.out.trans hb3); clear hown3 hb3)
            | (refine step_app_intL rfl _ _ rfl wo.heap.size p (L + (k : Int)) _ _ _ (World.ownsRow.alloc H2.out _) (cell_at rfl rfl) rfl rfl hpl (Nat.le_trans BX.out.size (below_alloc _ _).size) ?_; intro c3 a3 w3 hown3 hb3; have H3 := hid hown3; have BX := hid ((BX.out.trans ((below_alloc _ _).mono BX.out.size)).trans hb3); clear hown3 hb3)
            | (go_at_call 109; refine (IH.out (p ++ [L + (k : Int)]) _ vb' bl' g' _ (HWX.out _ BX.out) (OwnInts.base' H3.out hbo) (fun e => by simp at e) (Nat.le_trans hbo BX.out.size) hBg2.out (by have := HNP.out; have := Hl.out; simp; omega) ⟨OwnInts.later HB.out.1 BX.out, HB.out.2⟩ (K.out.later BX.out)).mono ?_; rintro e w4 ⟨rfl, hf4, vb4, hB4, hk4⟩; have K4 := hid hk4; have HB4 := hid hB4; have HF4 := hid ((HF.out.trans (Fr.of_below BX.out)).trans hf4); clear hf4 hB4 hk4))
          all_goals (
            go_wp2
            go_roundw
            case rel => exact ⟨k + 1, vb4, _, _, by omega, by go_num, by simp only [plansW]; rw [HNP.out, HL.out, if_pos hlt2, bestP_append, Hbp.out], HB4.out, K4.out, HF4.out⟩
            case measure => simp [intOf] <;> omega)
        · have hcond : ¬ L + (k : Int) ≤ min 20000 (L + ((Q : Int) - 1)) := by omega
          have hfin : bestP route ws a b (bl, g) (plansR ws (r + 1) p) = (bl', g') := by
            show bestP route ws a b (bl, g) (plansW ws (plansR ws r) p (waitsOf p)) = _
            rw [HQ.out, ← Hbp.out]
            by_cases hkQ : k = Q
            · rw [hkQ]
            · have e : k + (Q - k) = Q := by omega
              rw [← e, plansW_stop (by rw [HNP.out, HL.out]; omega)]
          have Hfin := hid hfin
          clear hfin
          go_wp2_with fail
          refine bodyPost_end (v := .tuple #[]) (by simp [results, Tryd.results109, go_sem]) rfl ⟨rfl, HF.out, vb', ?_⟩
          rw [Hfin.out]
          exact ⟨HB.out, K.out⟩
end Go.Proofs.YtgfipifgijohhaaDoor

namespace Go.Proofs.YtgfipifgijohhaaDoor
open Go.RowKit

theorem HK.swap2 {cs : Cells} {w0 w : World} {x y : Nat × Nat × Value} (k : HK (x :: y :: cs) w0 w) : HK (y :: x :: cs) w0 w := k.sub (by intro z hz; simp only [List.mem_cons] at hz ⊢; rcases hz with h | h | h <;> simp [h])

set_option maxHeartbeats 8000000 in
set_option maxRecDepth 100000 in
theorem pPlan_any (ws : List Wing) (route a b c : Int) (vw : Value) (w : World) (hW : WgAt none w vw ws) (hn : ws.length ≤ 100) (hnm : ∀ i, i < ws.length → (wg ws i).name.size ≤ 1000000) :
    Calls Tryd.prog 62 #[.agg #[.int .i64 route, vw], .agg #[.int .i64 a, .int .i64 b, .int .i64 c]] w
     fun e w' => ∃ v, e = .returned (.tuple #[v, .int .i64 (planRes route ws a b c).2, .int .i64 (planErr route ws a b c)]) ∧ OwnInts w.heap.size w' v (planRes route ws a b c).1 ∧ Below w.heap.size w w' := by
  have hW2 := hid hW
  have H1 := hid (fun vw' W' g1 => pcheck_any ws route vw' none W' g1 hn hnm)
  have hWb := hid (fun h0 => (hW.block h0))
  obtain ⟨aw, cap, rfl, _⟩ := hW
  have hmf : ∀ (fn : Fn) (first cap : Array Value) (w : World), (Instr.makeFunc fn first cap).run Tryd.prog w = .ok (.func fn first cap) w := fun _ _ _ _ => rfl
  have K := hid ((((HK.start w).box2 (.int .i64 route) (.slice aw ws.length cap) 24).box3n (n := w.heap.size + 1) (by simp) (.int .i64 a) (.int .i64 b) (.int .i64 c) 50).box1n (n := w.heap.size + 1 + 1) (by simp) (.slice none 0 0) 25 |>.box1n (n := w.heap.size + 1 + 1 + 1) (by simp) (.int .i64 0) 3 |>.swap2)
  by_cases hc : check route ws = 0
  · by_cases h5 : 5 < ws.length
    · have hE : planErr route ws a b c = 5 := by unfold planErr; rw [if_pos hc, if_pos h5]
      have hR : planRes route ws a b c = ([], 0) := by unfold planRes; rw [hE, if_neg (by decide)]
      rw [hE, hR]
      rw [hc] at H1
      clear hE hR hc
      have h5' : (5 : Int) < (ws.length : Int) := by omega
      go_enter Tryd.func62, Tryd.ntmps62
      have x0 := K.out.c (b := w.heap.size) (o := 0) (v := .int .i64 route) (by simp)
      have x1 := K.out.c (b := w.heap.size) (o := 1) (v := .slice aw ws.length cap) (by simp)
      have y0 := K.out.c (b := w.heap.size + 1) (o := 0) (v := .int .i64 a) (by simp)
      have y1 := K.out.c (b := w.heap.size + 1) (o := 1) (v := .int .i64 b) (by simp)
      have y2 := K.out.c (b := w.heap.size + 1) (o := 2) (v := .int .i64 c) (by simp)
      have s0 := K.out.c (b := w.heap.size + 1 + 1) (o := 0) (v := .slice none 0 0) (by simp)
      have s1 := K.out.c (b := w.heap.size + 1 + 1 + 1) (o := 0) (v := .int .i64 0) (by simp)
      have fs0 := K.out.f (b := w.heap.size + 1 + 1) (o := 0) (v := .slice none 0 0) (by simp)
      have fs1 := K.out.f (b := w.heap.size + 1 + 1 + 1) (o := 0) (v := .int .i64 0) (by simp)
      go_wp2_with (go_at_call 27; refine (H1.out _ _ (hW2.out.below K.out.below)).mono ?_; rintro e w1 ⟨rfl, hb1⟩; have K := hid (K.out.later hb1); clear hb1; have x0 := K.out.c (b := w.heap.size) (o := 0) (v := .int .i64 route) (by simp); have x1 := K.out.c (b := w.heap.size) (o := 1) (v := .slice aw ws.length cap) (by simp); have y0 := K.out.c (b := w.heap.size + 1) (o := 0) (v := .int .i64 a) (by simp); have y1 := K.out.c (b := w.heap.size + 1) (o := 1) (v := .int .i64 b) (by simp); have y2 := K.out.c (b := w.heap.size + 1) (o := 2) (v := .int .i64 c) (by simp); have s0 := K.out.c (b := w.heap.size + 1 + 1) (o := 0) (v := .slice none 0 0) (by simp); have s1 := K.out.c (b := w.heap.size + 1 + 1 + 1) (o := 0) (v := .int .i64 0) (by simp); have fs0 := K.out.f (b := w.heap.size + 1 + 1) (o := 0) (v := .slice none 0 0) (by simp); have fs1 := K.out.f (b := w.heap.size + 1 + 1 + 1) (o := 0) (v := .int .i64 0) (by simp))
      have K2 := hid (K.out.put2s (by intro b' o v hm; simp only [List.mem_cons, Prod.mk.injEq, List.not_mem_nil, or_false] at hm; omega) (by omega) (.slice none 0 0) (.int .i64 0))
      have s0 := K2.out.c (b := w.heap.size + 1 + 1) (o := 0) (v := .slice none 0 0) (by simp)
      have s1 := K2.out.c (b := w.heap.size + 1 + 1 + 1) (o := 0) (v := .int .i64 0) (by simp)
      refine bodyPost_ret (v := .tuple #[.slice none 0 0, .int .i64 0, .int .i64 5]) (by simp [results, Tryd.results62, go_sem, s0, s1]) rfl ⟨_, rfl, own_nil _ _, K2.out.below⟩
    · by_cases hr : rulesErr a b c = 0
      · have h0 := (check_zero hc).2.2.1
        have hs := Small.of_check hc
        have Hrr := hid hr
        have hE : planErr route ws a b c = if (bestP route ws a b ([], 0) (plansR ws ws.length [])).1 = [] then 7 else 0 := by unfold planErr; rw [if_pos hc, if_neg h5, if_pos hr]
        have hR : planRes route ws a b c = if planErr route ws a b c = 0 then bestP route ws a b ([], 0) (plansR ws ws.length []) else ([], 0) := rfl
        have HE := hid hE
        have HRs := hid hR
        have HC := hid hc
        rw [hc] at H1
        clear hE hR hr hc
        have h5' : ¬ (5 : Int) < (ws.length : Int) := by omega
        go_enter Tryd.func62, Tryd.ntmps62
        have x0 := K.out.c (b := w.heap.size) (o := 0) (v := .int .i64 route) (by simp)
        have x1 := K.out.c (b := w.heap.size) (o := 1) (v := .slice aw ws.length cap) (by simp)
        have y0 := K.out.c (b := w.heap.size + 1) (o := 0) (v := .int .i64 a) (by simp)
        have y1 := K.out.c (b := w.heap.size + 1) (o := 1) (v := .int .i64 b) (by simp)
        have y2 := K.out.c (b := w.heap.size + 1) (o := 2) (v := .int .i64 c) (by simp)
        have s0 := K.out.c (b := w.heap.size + 1 + 1) (o := 0) (v := .slice none 0 0) (by simp)
        have s1 := K.out.c (b := w.heap.size + 1 + 1 + 1) (o := 0) (v := .int .i64 0) (by simp)
        have fs0 := K.out.f (b := w.heap.size + 1 + 1) (o := 0) (v := .slice none 0 0) (by simp)
        have fs1 := K.out.f (b := w.heap.size + 1 + 1 + 1) (o := 0) (v := .int .i64 0) (by simp)
        go_wp2_with (first
        | (go_at_call 27; refine (H1.out _ _ (hW2.out.below K.out.below)).mono ?_; rintro e w1 ⟨rfl, hb1⟩; have K := hid (K.out.later hb1); clear hb1; have x0 := K.out.c (b := w.heap.size) (o := 0) (v := .int .i64 route) (by simp); have x1 := K.out.c (b := w.heap.size) (o := 1) (v := .slice aw ws.length cap) (by simp); have y0 := K.out.c (b := w.heap.size + 1) (o := 0) (v := .int .i64 a) (by simp); have y1 := K.out.c (b := w.heap.size + 1) (o := 1) (v := .int .i64 b) (by simp); have y2 := K.out.c (b := w.heap.size + 1) (o := 2) (v := .int .i64 c) (by simp); have s0 := K.out.c (b := w.heap.size + 1 + 1) (o := 0) (v := .slice none 0 0) (by simp); have s1 := K.out.c (b := w.heap.size + 1 + 1 + 1) (o := 0) (v := .int .i64 0) (by simp); have fs0 := K.out.f (b := w.heap.size + 1 + 1) (o := 0) (v := .slice none 0 0) (by simp); have fs1 := K.out.f (b := w.heap.size + 1 + 1 + 1) (o := 0) (v := .int .i64 0) (by simp))
        | (go_at_call 107; refine (prules_any a b c _).mono ?_; rw [Hrr.out]; rintro e w2 ⟨rfl, hb1⟩; have K := hid (K.out.later hb1); clear hb1; have x0 := K.out.c (b := w.heap.size) (o := 0) (v := .int .i64 route) (by simp); have x1 := K.out.c (b := w.heap.size) (o := 1) (v := .slice aw ws.length cap) (by simp); have y0 := K.out.c (b := w.heap.size + 1) (o := 0) (v := .int .i64 a) (by simp); have y1 := K.out.c (b := w.heap.size + 1) (o := 1) (v := .int .i64 b) (by simp); have y2 := K.out.c (b := w.heap.size + 1) (o := 2) (v := .int .i64 c) (by simp); have s0 := K.out.c (b := w.heap.size + 1 + 1) (o := 0) (v := .slice none 0 0) (by simp); have s1 := K.out.c (b := w.heap.size + 1 + 1 + 1) (o := 0) (v := .int .i64 0) (by simp); have fs0 := K.out.f (b := w.heap.size + 1 + 1) (o := 0) (v := .slice none 0 0) (by simp); have fs1 := K.out.f (b := w.heap.size + 1 + 1 + 1) (o := 0) (v := .int .i64 0) (by simp)))
        have hz2 : w.heap.size + 1 + 1 + 1 < w2.heap.size := K.out.clt (b := w.heap.size + 1 + 1 + 1) (o := 0) (v := .int .i64 0) (by simp)
        have K3 : Hid (HK ((w.heap.size + 1 + 1, 0, .slice none 0 0) :: (w.heap.size + 1 + 1 + 1, 0, .int .i64 0) :: [(w2.heap.size + 1, 0, .func (.func 109) #[] #[.pointer (some ⟨w.heap.size, 0, none⟩), .pointer (some ⟨w2.heap.size, 0, none⟩), .pointer (some ⟨w2.heap.size + 1, 0, none⟩)]), (w2.heap.size, 0, .func (.func 108) #[] #[.pointer (some ⟨w.heap.size, 0, none⟩), .pointer (some ⟨w.heap.size + 1, 0, none⟩), .pointer (some ⟨w.heap.size + 1 + 1, 0, none⟩), .pointer (some ⟨w.heap.size + 1 + 1 + 1, 0, none⟩)]), (w.heap.size + 1, 0, .int .i64 a), (w.heap.size + 1, 1, .int .i64 b), (w.heap.size + 1, 2, .int .i64 c), (w.heap.size, 0, .int .i64 route), (w.heap.size, 1, .slice aw ws.length cap)]) w ((w2.alloc (.cells #[.func (.func 108) #[] #[.pointer (some ⟨w.heap.size, 0, none⟩), .pointer (some ⟨w.heap.size + 1, 0, none⟩), .pointer (some ⟨w.heap.size + 1 + 1, 0, none⟩), .pointer (some ⟨w.heap.size + 1 + 1 + 1, 0, none⟩)]] 128)).alloc (.cells #[.func (.func 109) #[] #[.pointer (some ⟨w.heap.size, 0, none⟩), .pointer (some ⟨w2.heap.size, 0, none⟩), .pointer (some ⟨w2.heap.size + 1, 0, none⟩)]] 128))) :=
          hid (((K.out.box1 (.func (.func 108) #[] #[.pointer (some ⟨w.heap.size, 0, none⟩), .pointer (some ⟨w.heap.size + 1, 0, none⟩), .pointer (some ⟨w.heap.size + 1 + 1, 0, none⟩), .pointer (some ⟨w.heap.size + 1 + 1 + 1, 0, none⟩)]) 128).box1n (n := w2.heap.size + 1) (by simp) (.func (.func 109) #[] #[.pointer (some ⟨w.heap.size, 0, none⟩), .pointer (some ⟨w2.heap.size, 0, none⟩), .pointer (some ⟨w2.heap.size + 1, 0, none⟩)]) 128).sub (by intro x hx; simp only [List.mem_cons, List.not_mem_nil, or_false] at hx ⊢; rcases hx with h | h | h | h | h | h | h | h | h <;> simp [h]))
        have hWn : ∀ g, (Value.slice aw ws.length cap).ownBlock = some g → g ≠ w.heap.size + 1 + 1 ∧ g ≠ w.heap.size + 1 + 1 + 1 := fun g hg => by
          obtain ⟨b', e', hlt, _⟩ := hWb.out h0
          rw [e'] at hg
          cases hg
          omega
        have hcs : ∀ b' o v, (b', o, v) ∈ ([(w2.heap.size + 1, 0, .func (.func 109) #[] #[.pointer (some ⟨w.heap.size, 0, none⟩), .pointer (some ⟨w2.heap.size, 0, none⟩), .pointer (some ⟨w2.heap.size + 1, 0, none⟩)]), (w2.heap.size, 0, .func (.func 108) #[] #[.pointer (some ⟨w.heap.size, 0, none⟩), .pointer (some ⟨w.heap.size + 1, 0, none⟩), .pointer (some ⟨w.heap.size + 1 + 1, 0, none⟩), .pointer (some ⟨w.heap.size + 1 + 1 + 1, 0, none⟩)]), (w.heap.size + 1, 0, .int .i64 a), (w.heap.size + 1, 1, .int .i64 b), (w.heap.size + 1, 2, .int .i64 c), (w.heap.size, 0, .int .i64 route), (w.heap.size, 1, .slice aw ws.length cap)] : Cells) → b' ≠ w.heap.size + 1 + 1 ∧ b' ≠ w.heap.size + 1 + 1 + 1 := by
          intro b' o v hm
          simp only [List.mem_cons, Prod.mk.injEq, List.not_mem_nil, or_false] at hm
          omega
        refine (pplan2_any ws route a b c (w.heap.size) (w.heap.size + 1) (w.heap.size + 1 + 1) (w.heap.size + 1 + 1 + 1) w2.heap.size (w2.heap.size + 1) (w2.heap.size + 1 + 1) _ ([(w2.heap.size + 1, 0, .func (.func 109) #[] #[.pointer (some ⟨w.heap.size, 0, none⟩), .pointer (some ⟨w2.heap.size, 0, none⟩), .pointer (some ⟨w2.heap.size + 1, 0, none⟩)]), (w2.heap.size, 0, .func (.func 108) #[] #[.pointer (some ⟨w.heap.size, 0, none⟩), .pointer (some ⟨w.heap.size + 1, 0, none⟩), .pointer (some ⟨w.heap.size + 1 + 1, 0, none⟩), .pointer (some ⟨w.heap.size + 1 + 1 + 1, 0, none⟩)]), (w.heap.size + 1, 0, .int .i64 a), (w.heap.size + 1, 1, .int .i64 b), (w.heap.size + 1, 2, .int .i64 c), (w.heap.size, 0, .int .i64 route), (w.heap.size, 1, .slice aw ws.length cap)]) w hs (by omega) HC.out hcs (by omega) (by omega) (by omega) hWn (by simp) (by simp) (by simp) (by simp) (by simp) (by simp) (by simp) ws.length [] _ (.slice none 0 0) [] 0 _ (hW2.out.below K3.out.below) (own_nil _ _) (fun _ => rfl) (by simp) (Begun.nil ws) (by simp) ⟨own_nil _ _, fun _ => rfl⟩ K3.out).mono ?_
        rintro e w3 ⟨rfl, _, vb3, hB3, hk3⟩
        obtain ⟨bl, bg, hbp⟩ : ∃ bl bg, bestP route ws a b ([], 0) (plansR ws ws.length []) = (bl, bg) := ⟨_, _, rfl⟩
        rw [hbp] at HE HRs hB3 hk3
        dsimp only at HE HRs hB3 hk3
        have hcs2 := hid hcs
        have K := hid hk3
        have hz3 : w2.heap.size + 1 < w3.heap.size := K.out.clt (b := w2.heap.size + 1) (o := 0) (v := .func (.func 109) #[] #[.pointer (some ⟨w.heap.size, 0, none⟩), .pointer (some ⟨w2.heap.size, 0, none⟩), .pointer (some ⟨w2.heap.size + 1, 0, none⟩)]) (by simp)
        have HB := hid hB3
        clear hbp hB3 hk3 K3 hWn hcs
        have hq1 := eq_nil
        have hq2 := nil_nil
        by_cases hbl : bl = []
        · have hE : planErr route ws a b c = 7 := by rw [HE.out, if_pos hbl]
          have hR : planRes route ws a b c = ([], 0) := by rw [HRs.out, hE, if_neg (by decide)]
          have hv := HB.out.2 hbl
          subst hv
          have hE := hid hE
          have hR := hid hR
          clear hbl
          have s0 := K.out.c (b := w.heap.size + 1 + 1) (o := 0) (v := .slice none 0 0) (by simp)
          have fs0 := K.out.f (b := w.heap.size + 1 + 1) (o := 0) (v := .slice none 0 0) (by simp)
          have s1 := K.out.c (b := w.heap.size + 1 + 1 + 1) (o := 0) (v := .int .i64 bg) (by simp)
          have fs1 := K.out.f (b := w.heap.size + 1 + 1 + 1) (o := 0) (v := .int .i64 bg) (by simp)
          go_wp2_with fail
          have K2 := hid (K.out.put2s hcs2.out (by omega) (.slice none 0 0) (.int .i64 0))
          have s0 := K2.out.c (b := w.heap.size + 1 + 1) (o := 0) (v := .slice none 0 0) (by simp)
          have s1 := K2.out.c (b := w.heap.size + 1 + 1 + 1) (o := 0) (v := .int .i64 0) (by simp)
          refine bodyPost_ret (v := .tuple #[.slice none 0 0, .int .i64 0, .int .i64 7]) (by simp [results, Tryd.results62, go_sem, s0, s1]) rfl ⟨_, by rw [hE.out, hR.out], by rw [hR.out]; exact own_nil _ _, K2.out.below⟩
        · have hE : planErr route ws a b c = 0 := by rw [HE.out, if_neg hbl]
          have hR : planRes route ws a b c = (bl, bg) := by rw [HRs.out, hE, if_pos rfl]
          obtain ⟨xa, cb, rfl⟩ : ∃ xa cb, vb3 = .slice (some xa) bl.length cb := by
            obtain ⟨b', off, c', e, _⟩ := (HB.out.1.at (d := none) (by simp)).slice (by cases bl with | nil => exact absurd rfl hbl | cons _ _ => simp)
            exact ⟨_, _, e⟩
          have hE := hid hE
          have hR := hid hR
          clear hbl
          have s0 := K.out.c (b := w.heap.size + 1 + 1) (o := 0) (v := .slice (some xa) bl.length cb) (by simp)
          have fs0 := K.out.f (b := w.heap.size + 1 + 1) (o := 0) (v := .slice (some xa) bl.length cb) (by simp)
          have s1 := K.out.c (b := w.heap.size + 1 + 1 + 1) (o := 0) (v := .int .i64 bg) (by simp)
          have fs1 := K.out.f (b := w.heap.size + 1 + 1 + 1) (o := 0) (v := .int .i64 bg) (by simp)
          go_wp2_with fail
          go_region_held3 (fun w' => w'.cell? ⟨w.heap.size + 1 + 1, 0, none⟩ = some (.slice (some xa) bl.length cb) ∧ w'.cell? ⟨w.heap.size + 1 + 1 + 1, 0, none⟩ = some (.int .i64 bg))
            (first | exact ⟨s0, s1⟩ | exact ⟨World.cell?_setCell_same _ _ _ s0, cell_set_far (by omega) s1⟩ | exact ⟨cell_set_far (by omega) s0, World.cell?_setCell_same _ _ _ s1⟩ | exact ⟨World.cell?_setCell_same _ _ _ (cell_set_far (by omega) s0), cell_set_far (by omega) (World.cell?_setCell_same _ _ _ s1)⟩ | exact ⟨cell_set_far (by omega) (World.cell?_setCell_same _ _ _ s0), World.cell?_setCell_same _ _ _ (cell_set_far (by omega) s1)⟩) (fail)
          all_goals (
            have K2 := hid (K.out.put2s hcs2.out (by omega) (.slice (some xa) bl.length cb) (.int .i64 bg)).drew
            have hfr := ((Fr.put (S := w.heap.size + 1 + 1) (G := w.heap.size + 1 + 1 + 1) (w := w3) (.inl rfl) 0 (.slice (some xa) bl.length cb)).trans (Fr.put (.inr rfl) 0 (.int .i64 bg))).trans (Fr.of_below (Below.refl _ _).drew)
            clear s0 s1 fs0 fs1
            have s0 := K2.out.c (b := w.heap.size + 1 + 1) (o := 0) (v := .slice (some xa) bl.length cb) (by simp)
            have s1 := K2.out.c (b := w.heap.size + 1 + 1 + 1) (o := 0) (v := .int .i64 bg) (by simp)
            go_wp2
            refine bodyPost_ret (v := .tuple #[.slice (some xa) bl.length cb, .int .i64 bg, .int .i64 0]) (by simp [results, Tryd.results62, go_sem, s0, s1]) rfl ⟨_, by rw [hE.out, hR.out], by rw [hR.out]; exact OwnInts.base' (OwnInts.fr HB.out.1 hfr (by omega) (by omega)) (by omega), K2.out.below⟩)
      · have hE : planErr route ws a b c = rulesErr a b c := by unfold planErr; rw [if_pos hc, if_neg h5, if_neg hr]
        have hR : planRes route ws a b c = ([], 0) := by unfold planRes; rw [hE, if_neg hr]
        obtain ⟨c1, c2⟩ := ne_bool hr
        rw [hE, hR]
        rw [hc] at H1
        clear hE hR hc hr
        have h5' : ¬ (5 : Int) < (ws.length : Int) := by omega
        go_enter Tryd.func62, Tryd.ntmps62
        have x0 := K.out.c (b := w.heap.size) (o := 0) (v := .int .i64 route) (by simp)
        have x1 := K.out.c (b := w.heap.size) (o := 1) (v := .slice aw ws.length cap) (by simp)
        have y0 := K.out.c (b := w.heap.size + 1) (o := 0) (v := .int .i64 a) (by simp)
        have y1 := K.out.c (b := w.heap.size + 1) (o := 1) (v := .int .i64 b) (by simp)
        have y2 := K.out.c (b := w.heap.size + 1) (o := 2) (v := .int .i64 c) (by simp)
        have s0 := K.out.c (b := w.heap.size + 1 + 1) (o := 0) (v := .slice none 0 0) (by simp)
        have s1 := K.out.c (b := w.heap.size + 1 + 1 + 1) (o := 0) (v := .int .i64 0) (by simp)
        have fs0 := K.out.f (b := w.heap.size + 1 + 1) (o := 0) (v := .slice none 0 0) (by simp)
        have fs1 := K.out.f (b := w.heap.size + 1 + 1 + 1) (o := 0) (v := .int .i64 0) (by simp)
        go_wp2_with (first
          | (go_at_call 27; refine (H1.out _ _ (hW2.out.below K.out.below)).mono ?_; rintro e w1 ⟨rfl, hb1⟩; have K := hid (K.out.later hb1); clear hb1; have x0 := K.out.c (b := w.heap.size) (o := 0) (v := .int .i64 route) (by simp); have x1 := K.out.c (b := w.heap.size) (o := 1) (v := .slice aw ws.length cap) (by simp); have y0 := K.out.c (b := w.heap.size + 1) (o := 0) (v := .int .i64 a) (by simp); have y1 := K.out.c (b := w.heap.size + 1) (o := 1) (v := .int .i64 b) (by simp); have y2 := K.out.c (b := w.heap.size + 1) (o := 2) (v := .int .i64 c) (by simp); have s0 := K.out.c (b := w.heap.size + 1 + 1) (o := 0) (v := .slice none 0 0) (by simp); have s1 := K.out.c (b := w.heap.size + 1 + 1 + 1) (o := 0) (v := .int .i64 0) (by simp); have fs0 := K.out.f (b := w.heap.size + 1 + 1) (o := 0) (v := .slice none 0 0) (by simp); have fs1 := K.out.f (b := w.heap.size + 1 + 1 + 1) (o := 0) (v := .int .i64 0) (by simp))
          | (go_at_call 107; refine (prules_any a b c _).mono ?_; rintro e w2 ⟨rfl, hb1⟩; have K := hid (K.out.later hb1); clear hb1; have x0 := K.out.c (b := w.heap.size) (o := 0) (v := .int .i64 route) (by simp); have x1 := K.out.c (b := w.heap.size) (o := 1) (v := .slice aw ws.length cap) (by simp); have y0 := K.out.c (b := w.heap.size + 1) (o := 0) (v := .int .i64 a) (by simp); have y1 := K.out.c (b := w.heap.size + 1) (o := 1) (v := .int .i64 b) (by simp); have y2 := K.out.c (b := w.heap.size + 1) (o := 2) (v := .int .i64 c) (by simp); have s0 := K.out.c (b := w.heap.size + 1 + 1) (o := 0) (v := .slice none 0 0) (by simp); have s1 := K.out.c (b := w.heap.size + 1 + 1 + 1) (o := 0) (v := .int .i64 0) (by simp); have fs0 := K.out.f (b := w.heap.size + 1 + 1) (o := 0) (v := .slice none 0 0) (by simp); have fs1 := K.out.f (b := w.heap.size + 1 + 1 + 1) (o := 0) (v := .int .i64 0) (by simp)))
        have K2 := hid (K.out.put2s (by intro b' o v hm; simp only [List.mem_cons, Prod.mk.injEq, List.not_mem_nil, or_false] at hm; omega) (by omega) (.slice none 0 0) (.int .i64 0))
        have s0 := K2.out.c (b := w.heap.size + 1 + 1) (o := 0) (v := .slice none 0 0) (by simp)
        have s1 := K2.out.c (b := w.heap.size + 1 + 1 + 1) (o := 0) (v := .int .i64 0) (by simp)
        refine bodyPost_ret (v := .tuple #[.slice none 0 0, .int .i64 0, .int .i64 (rulesErr a b c)]) (by simp [results, Tryd.results62, go_sem, s0, s1]) rfl ⟨_, rfl, own_nil _ _, K2.out.below⟩
  · have hE : planErr route ws a b c = check route ws := by unfold planErr; rw [if_neg hc]
    have hR : planRes route ws a b c = ([], 0) := by unfold planRes; rw [hE, if_neg hc]
    obtain ⟨c1, c2⟩ := ne_bool hc
    rw [hE, hR]
    clear hE hR hc
    go_enter Tryd.func62, Tryd.ntmps62
    have x0 := K.out.c (b := w.heap.size) (o := 0) (v := .int .i64 route) (by simp)
    have x1 := K.out.c (b := w.heap.size) (o := 1) (v := .slice aw ws.length cap) (by simp)
    have y0 := K.out.c (b := w.heap.size + 1) (o := 0) (v := .int .i64 a) (by simp)
    have y1 := K.out.c (b := w.heap.size + 1) (o := 1) (v := .int .i64 b) (by simp)
    have y2 := K.out.c (b := w.heap.size + 1) (o := 2) (v := .int .i64 c) (by simp)
    have s0 := K.out.c (b := w.heap.size + 1 + 1) (o := 0) (v := .slice none 0 0) (by simp)
    have s1 := K.out.c (b := w.heap.size + 1 + 1 + 1) (o := 0) (v := .int .i64 0) (by simp)
    have fs0 := K.out.f (b := w.heap.size + 1 + 1) (o := 0) (v := .slice none 0 0) (by simp)
    have fs1 := K.out.f (b := w.heap.size + 1 + 1 + 1) (o := 0) (v := .int .i64 0) (by simp)
    go_wp2_with (go_at_call 27; refine (H1.out _ _ (hW2.out.below K.out.below)).mono ?_; rintro e w1 ⟨rfl, hb1⟩; have K := hid (K.out.later hb1); clear hb1; have x0 := K.out.c (b := w.heap.size) (o := 0) (v := .int .i64 route) (by simp); have x1 := K.out.c (b := w.heap.size) (o := 1) (v := .slice aw ws.length cap) (by simp); have y0 := K.out.c (b := w.heap.size + 1) (o := 0) (v := .int .i64 a) (by simp); have y1 := K.out.c (b := w.heap.size + 1) (o := 1) (v := .int .i64 b) (by simp); have y2 := K.out.c (b := w.heap.size + 1) (o := 2) (v := .int .i64 c) (by simp); have s0 := K.out.c (b := w.heap.size + 1 + 1) (o := 0) (v := .slice none 0 0) (by simp); have s1 := K.out.c (b := w.heap.size + 1 + 1 + 1) (o := 0) (v := .int .i64 0) (by simp); have fs0 := K.out.f (b := w.heap.size + 1 + 1) (o := 0) (v := .slice none 0 0) (by simp); have fs1 := K.out.f (b := w.heap.size + 1 + 1 + 1) (o := 0) (v := .int .i64 0) (by simp))
    have K2 := hid (K.out.put2s (by intro b' o v hm; simp only [List.mem_cons, Prod.mk.injEq, List.not_mem_nil, or_false] at hm; omega) (by omega) (.slice none 0 0) (.int .i64 0))
    have s0 := K2.out.c (b := w.heap.size + 1 + 1) (o := 0) (v := .slice none 0 0) (by simp)
    have s1 := K2.out.c (b := w.heap.size + 1 + 1 + 1) (o := 0) (v := .int .i64 0) (by simp)
    refine bodyPost_ret (v := .tuple #[.slice none 0 0, .int .i64 0, .int .i64 (check route ws)]) (by simp [results, Tryd.results62, go_sem, s0, s1]) rfl ⟨_, rfl, own_nil _ _, K2.out.below⟩
end Go.Proofs.YtgfipifgijohhaaDoor
