/-
  WALKS: cheapest, Cheapest.
-/
import Derived.Test.YtdcinngdilfpnaaChr
namespace Go.Proofs.Ytdcinngdilfpnaa
open Go.RowKit

theorem chp_any (p : Plot) (items : List Item) (T I S G F Y base : Nat) (vp vw vd vq vi : Value) (cs : Cells) (w0 : World) (h : PlotAt none w0 vp vw vd vq p) (hI : ItemsAt none w0 vi items) (hv : itemsErr p items = 0) (C : Ctx S G F base cs w0)
    (t0 : (T, 0, vp) ∈ cs) (t1 : (T, 1, vw) ∈ cs) (t2 : (T, 2, vd) ∈ cs) (t3 : (T, 3, vq) ∈ cs) (i0 : (I, 0, vi) ∈ cs)
    (y0 : (Y, 0, .func (.func 102) #[] #[.pointer (some ⟨T, 0, none⟩), .pointer (some ⟨I, 0, none⟩), .pointer (some ⟨F, 0, none⟩), .pointer (some ⟨G, 0, none⟩), .pointer (some ⟨S, 0, none⟩), .pointer (some ⟨Y, 0, none⟩)]) ∈ cs) :
    ∀ (r : Nat) (b : List Int) (vn vb : Value) (g : Int) (f : Bool) (s : Bst) (w : World), wearsE p items p.parts b = 0 → b.length + r = p.parts.length → Rdy S G F base cs w0 vn b vb g f s w →
      Calls Try.prog 102 #[vn, .pointer (some ⟨T, 0, none⟩), .pointer (some ⟨I, 0, none⟩), .pointer (some ⟨F, 0, none⟩), .pointer (some ⟨G, 0, none⟩), .pointer (some ⟨S, 0, none⟩), .pointer (some ⟨Y, 0, none⟩)] w (ChPost p items S G F base cs w0 r b vn vb s w) := by
  intro r
  induction r with
  | zero =>
    intro b vn vb g f s w h1 h2 h3
    exact chp_leaf p items T I S G F Y base vp vw vd vq vi cs w0 h hI hv C t3 i0 b vn vb g f s w h1 (by omega) h3
  | succ r ih =>
    intro b vn vb g f s w h1 h2 h3
    exact chp_step p items T I S G F Y base vp vw vd vq vi cs w0 h hI hv C t0 t1 t2 t3 i0 y0 r ih b vn vb g f s w h1 h2 h3

theorem HK.putH {Y : Nat} {u u' : Value} {cs : Cells} {w0 w : World} (k : HK ((Y, 0, u) :: cs) w0 w) (hcs : ∀ b o v, (b, o, v) ∈ cs → b ≠ Y) : HK ((Y, 0, u') :: cs) w0 (w.setCell ⟨Y, 0, none⟩ u') := by
  have s1 := k.cell Y 0 u (by simp)
  refine ⟨k.below.setCell (p := ⟨Y, 0, none⟩) s1.1 _, fun b o v hm => ?_⟩
  simp only [World.frozen?_setCell]
  rcases List.mem_cons.1 hm with e | hm
  · cases e
    exact ⟨s1.1, World.cell?_setCell_same _ _ _ s1.2.1, s1.2.2⟩
  · obtain ⟨q1, q2, q3⟩ := k.cell b o v (by simp [hm])
    exact ⟨q1, cell_set_far (Ne.symm (hcs b o v hm)) q2, q3⟩

theorem run_store_fn (P : Program) (w : World) (a : Addr) (m : Mode) (f : Fn) (x y : Array Value) : (store a (.func f x y) m).run P w = stored P w a (.func f x y) m := run_store P w a _ m rfl
attribute [local go_sem] run_store_fn
def bestL : Bst → List Int
  | none => []
  | some x => x.1
def bestC : Bst → Int
  | none => 0
  | some x => x.2
theorem StB.out {base : Nat} {w : World} {vb : Value} {g : Int} {f : Bool} {s : Bst} (h : StB base w vb g f s) : OwnInts base w vb (bestL s) ∧ g = bestC s ∧ f = s.isSome := by
  cases s with
  | none => obtain ⟨rfl, rfl, rfl⟩ := h; exact ⟨own_nil _ _, rfl, rfl⟩
  | some x => obtain ⟨l, c⟩ := x; obtain ⟨rfl, rfl, h⟩ := h; exact ⟨h, rfl, rfl⟩

def CheapPost (s : Bst) (w : World) (e : Ending) (w' : World) : Prop := ∃ v', e = .returned (.tuple #[v', .int .i64 (bestC s), .bool s.isSome]) ∧ OwnInts w.heap.size w' v' (bestL s) ∧ Below w.heap.size w w'

set_option maxHeartbeats 4000000 in
set_option maxRecDepth 100000 in
theorem cheap_any (p : Plot) (items : List Item) (vp vw vd vq vi : Value) (w : World) (h : PlotAt none w vp vw vd vq p) (hI : ItemsAt none w vi items) (hv : itemsErr p items = 0) :
    Calls Try.prog 59 #[plotV vp vw vd vq, vi] w (CheapPost (bestP p items p.parts) w) := by
  have H := hid h
  have HI := hid hI
  have HV := hid hv
  obtain ⟨ap, cp, rfl⟩ := h.persons.form
  obtain ⟨aw, cw, rfl⟩ := h.walk.form
  obtain ⟨ad, cd, ed, _⟩ := h.dress
  subst ed
  obtain ⟨aq, cq, rfl⟩ := h.parts.form
  obtain ⟨ai, ci, rfl⟩ := hI.form
  have K := hid ((((((((HK.start w).box4m (n := w.heap.size) rfl (.slice ap p.persons.length cp) (.slice aw p.walk.length cw) (.slice ad p.dress.length cd) (.slice aq p.parts.length cq) 29).box1n (n := w.heap.size + 1) (by simp) (.slice ai items.length ci) 31).box1n (n := w.heap.size + 1 + 1) (by simp) (.slice none 0 0) 22).box1n (n := w.heap.size + 1 + 1 + 1) (by simp) (.int .i64 0) 3).box1n (n := w.heap.size + 1 + 1 + 1 + 1) (by simp) (.bool false) 4).box1n (n := w.heap.size + 1 + 1 + 1 + 1 + 1) (by simp) .nilFunc 119))
  have hmf : ∀ (fn : Fn) (first cap : Array Value) (w : World), (Instr.makeFunc fn first cap).run Try.prog w = .ok (.func fn first cap) w := fun _ _ _ _ => rfl
  clear h hI hv
  go_enter Try.func59, Try.ntmps59
  go_upto_region 2 with fail
  obtain ⟨w1, hw1, K1⟩ := K.out.name
  rw [hw1]
  have K := hid K1
  clear hw1 K1
  have yc := K.out.c (b := w.heap.size + 1 + 1 + 1 + 1 + 1) (o := 0) (v := .nilFunc) (by simp)
  have yf := K.out.f (b := w.heap.size + 1 + 1 + 1 + 1 + 1) (o := 0) (v := .nilFunc) (by simp)
  have KP := hid (K.out.putH (u' := .func (.func 102) #[] #[.pointer (some ⟨w.heap.size, 0, none⟩), .pointer (some ⟨w.heap.size + 1, 0, none⟩), .pointer (some ⟨w.heap.size + 1 + 1 + 1 + 1, 0, none⟩), .pointer (some ⟨w.heap.size + 1 + 1 + 1, 0, none⟩), .pointer (some ⟨w.heap.size + 1 + 1, 0, none⟩), .pointer (some ⟨w.heap.size + 1 + 1 + 1 + 1 + 1, 0, none⟩)])
    (by intro b' o v hm; simp only [List.mem_cons, Prod.mk.injEq, List.not_mem_nil, or_false] at hm; omega))
  go_upto_region 3 with fail
  clear yc yf
  obtain ⟨w2, hw2, K2⟩ := KP.out.name
  rw [hw2]
  clear hw2
  have K := hid K2
  clear K2 KP
  have yc := K.out.c (b := w.heap.size + 1 + 1 + 1 + 1 + 1) (o := 0) (v := .func (.func 102) #[] #[.pointer (some ⟨w.heap.size, 0, none⟩), .pointer (some ⟨w.heap.size + 1, 0, none⟩), .pointer (some ⟨w.heap.size + 1 + 1 + 1 + 1, 0, none⟩), .pointer (some ⟨w.heap.size + 1 + 1 + 1, 0, none⟩), .pointer (some ⟨w.heap.size + 1 + 1, 0, none⟩), .pointer (some ⟨w.heap.size + 1 + 1 + 1 + 1 + 1, 0, none⟩)]) (by simp)
  have hY := K.out.clt (b := w.heap.size + 1 + 1 + 1 + 1 + 1) (o := 0) (v := .func (.func 102) #[] #[.pointer (some ⟨w.heap.size, 0, none⟩), .pointer (some ⟨w.heap.size + 1, 0, none⟩), .pointer (some ⟨w.heap.size + 1 + 1 + 1 + 1, 0, none⟩), .pointer (some ⟨w.heap.size + 1 + 1 + 1, 0, none⟩), .pointer (some ⟨w.heap.size + 1 + 1, 0, none⟩), .pointer (some ⟨w.heap.size + 1 + 1 + 1 + 1 + 1, 0, none⟩)]) (by simp)
  have K2 := hid (K.out.sub (cs2 := (w.heap.size + 1 + 1, 0, .slice none 0 0) :: (w.heap.size + 1 + 1 + 1, 0, .int .i64 0) :: (w.heap.size + 1 + 1 + 1 + 1, 0, .bool false) ::
    [(w.heap.size + 1 + 1 + 1 + 1 + 1, 0, .func (.func 102) #[] #[.pointer (some ⟨w.heap.size, 0, none⟩), .pointer (some ⟨w.heap.size + 1, 0, none⟩), .pointer (some ⟨w.heap.size + 1 + 1 + 1 + 1, 0, none⟩), .pointer (some ⟨w.heap.size + 1 + 1 + 1, 0, none⟩), .pointer (some ⟨w.heap.size + 1 + 1, 0, none⟩), .pointer (some ⟨w.heap.size + 1 + 1 + 1 + 1 + 1, 0, none⟩)]), (w.heap.size + 1, 0, .slice ai items.length ci), (w.heap.size, 0, .slice ap p.persons.length cp), (w.heap.size, 1, .slice aw p.walk.length cw), (w.heap.size, 2, .slice ad p.dress.length cd), (w.heap.size, 3, .slice aq p.parts.length cq)])
    (by intro x hx; simp only [List.mem_cons, List.not_mem_nil, or_false] at hx ⊢; rcases hx with h | h | h | h | h | h | h | h | h <;> simp [h]))
  have hctx := hid (show Ctx (w.heap.size + 1 + 1) (w.heap.size + 1 + 1 + 1) (w.heap.size + 1 + 1 + 1 + 1) (w.heap.size + 1 + 1 + 1 + 1 + 1 + 1) [(w.heap.size + 1 + 1 + 1 + 1 + 1, 0, .func (.func 102) #[] #[.pointer (some ⟨w.heap.size, 0, none⟩), .pointer (some ⟨w.heap.size + 1, 0, none⟩), .pointer (some ⟨w.heap.size + 1 + 1 + 1 + 1, 0, none⟩), .pointer (some ⟨w.heap.size + 1 + 1 + 1, 0, none⟩), .pointer (some ⟨w.heap.size + 1 + 1, 0, none⟩), .pointer (some ⟨w.heap.size + 1 + 1 + 1 + 1 + 1, 0, none⟩)]), (w.heap.size + 1, 0, .slice ai items.length ci), (w.heap.size, 0, .slice ap p.persons.length cp), (w.heap.size, 1, .slice aw p.walk.length cw), (w.heap.size, 2, .slice ad p.dress.length cd), (w.heap.size, 3, .slice aq p.parts.length cq)] w from
    ⟨by intro b' o v hm; simp only [List.mem_cons, Prod.mk.injEq, List.not_mem_nil, or_false] at hm; omega, by intro b' o v hm; simp only [List.mem_cons, Prod.mk.injEq, List.not_mem_nil, or_false] at hm; omega, by omega, by omega, by omega, by omega, by omega, by omega, by omega⟩)
  go_wp2_with fail
  refine (chp_any p items w.heap.size (w.heap.size + 1) (w.heap.size + 1 + 1) (w.heap.size + 1 + 1 + 1) (w.heap.size + 1 + 1 + 1 + 1) (w.heap.size + 1 + 1 + 1 + 1 + 1) (w.heap.size + 1 + 1 + 1 + 1 + 1 + 1) _ _ _ _ _ _ w H.out HI.out HV.out hctx.out (by simp) (by simp) (by simp) (by simp) (by simp) (by simp) p.parts.length [] (.slice none 0 0) (.slice none 0 0) 0 false none w2 rfl (by simp)
    ⟨own_nil _ _, ⟨rfl, rfl, rfl⟩, (fun x hx => by cases hx), K2.out, by omega⟩).mono ?_
  rintro e w3 ⟨rfl, vb, g, f, rd, hf, hvv⟩
  have e0 : mergeB none (bestR p items p.parts p.parts.length []) = bestP p items p.parts := rfl
  rw [e0] at rd
  obtain ⟨s, hs⟩ : ∃ s, bestP p items p.parts = s := ⟨_, rfl⟩
  rw [hs] at rd
  have HSs := hid hs
  obtain ⟨ho, rfl, rfl⟩ := rd.st.out
  obtain ⟨av, cv, rfl⟩ := (own_int.2 ho).form
  have HO := hid ho
  have KR := hid rd.k
  clear rd hf hvv e0 hs ho yc
  have y1 := KR.out.c (b := w.heap.size + 1 + 1) (o := 0) (v := .slice av (bestL s).length cv) (by simp)
  have y2 := KR.out.c (b := w.heap.size + 1 + 1 + 1) (o := 0) (v := .int .i64 (bestC s)) (by simp)
  have y3 := KR.out.c (b := w.heap.size + 1 + 1 + 1 + 1) (o := 0) (v := .bool s.isSome) (by simp)
  have z1 := KR.out.f (b := w.heap.size + 1 + 1) (o := 0) (v := .slice av (bestL s).length cv) (by simp)
  have z2 := KR.out.f (b := w.heap.size + 1 + 1 + 1) (o := 0) (v := .int .i64 (bestC s)) (by simp)
  have z3 := KR.out.f (b := w.heap.size + 1 + 1 + 1 + 1) (o := 0) (v := .bool s.isSome) (by simp)
  go_wp2_with fail
  go_region
  have KF := hid (KR.out.put3 (vb' := .slice av (bestL s).length cv) (vg' := .int .i64 (bestC s)) (vf' := .bool s.isSome) hctx.out.hcs (by omega) (by omega) (by omega)).drew
  have hfr := FrC.trans' (((FrC.put (S := w.heap.size + 1 + 1) (G := w.heap.size + 1 + 1 + 1) (F := w.heap.size + 1 + 1 + 1 + 1) (row := none) (w := w3) (.inl rfl) 0 (.slice av (bestL s).length cv)).trans' (FrC.put (.inr (.inl rfl)) 0 (.int .i64 (bestC s)))).trans' (FrC.put (.inr (.inr rfl)) 0 (.bool s.isSome))) (FrC.of_below (Below.refl _ _).drew)
  have HO2 := hid (HO.out.frc hfr (by omega) (by omega) (by omega) (fun _ _ e => by cases e))
  clear y1 y2 y3 z1 z2 z3 hfr
  obtain ⟨w5, hw5, K5⟩ := KF.out.name
  rw [hw5] at HO2 ⊢
  clear hw5 KF
  have y1 := K5.c (b := w.heap.size + 1 + 1) (o := 0) (v := .slice av (bestL s).length cv) (by simp)
  have y2 := K5.c (b := w.heap.size + 1 + 1 + 1) (o := 0) (v := .int .i64 (bestC s)) (by simp)
  have y3 := K5.c (b := w.heap.size + 1 + 1 + 1 + 1) (o := 0) (v := .bool s.isSome) (by simp)
  have KB := hid K5.below
  clear K5
  go_wp2_with fail
  have hO3 := HO2.out
  have hO4 : OwnInts w.heap.size w5 (.slice av (bestL s).length cv) (bestL s) := OwnInts.base' hO3 (by omega)
  refine bodyPost_ret (v := .tuple #[.slice av (bestL s).length cv, .int .i64 (bestC s), .bool s.isSome]) (by simp [results, Try.results59, go_sem, y1, y2, y3]) rfl ?_
  rw [HSs.out]
  exact ⟨_, rfl, hO4, KB.out⟩

theorem smallErr_zero {p : Plot} {items : List Item} (h : smallErr p items = 0) : itemsErr p items = 0 ∧ p.parts.length ≤ 6 ∧ items.length ≤ 10 := by
  unfold smallErr at h
  split at h
  next h1 =>
    split at h
    · cases h
    next h2 => exact ⟨h1, by omega, by omega⟩
  next h1 => exact absurd h h1
def cheapB (p : Plot) (items : List Item) : Bst := if smallErr p items = 0 then bestP p items p.parts else none
def cheapErr (p : Plot) (items : List Item) : Int := if smallErr p items = 0 then (if (bestP p items p.parts).isSome = true then 0 else 7) else smallErr p items
def CheapestPost (p : Plot) (items : List Item) (w : World) (e : Ending) (w' : World) : Prop :=
  ∃ v', e = .returned (.tuple #[v', .int .i64 (bestC (cheapB p items)), .int .i64 (cheapErr p items)]) ∧ OwnInts w.heap.size w' v' (bestL (cheapB p items)) ∧ Below w.heap.size w w'

set_option maxHeartbeats 4000000 in
set_option maxRecDepth 100000 in
theorem cheapest_any (p : Plot) (items : List Item) (vp vw vd vq vi : Value) (w : World) (h : PlotAt none w vp vw vd vq p) (hI : ItemsAt none w vi items) :
    Calls Try.prog 18 #[plotV vp vw vd vq, vi] w (CheapestPost p items w) := by
  have H := hid h
  have HI := hid hI
  have HC := hid (fun W' hb => small_any p items vp vw vd vq vi W' (H.out.below hb) (HI.out.below hb))
  have HCh := hid (fun W' hb hv => cheap_any p items vp vw vd vq vi W' (H.out.below hb) (HI.out.below hb) hv)
  obtain ⟨ap, cp, rfl⟩ := h.persons.form
  obtain ⟨aw, cw, rfl⟩ := h.walk.form
  obtain ⟨ad, cd, ed, _⟩ := h.dress
  subst ed
  obtain ⟨aq, cq, rfl⟩ := h.parts.form
  obtain ⟨ai, ci, rfl⟩ := hI.form
  have K := hid ((HK.start w).box4m (n := w.heap.size) rfl (.slice ap p.persons.length cp) (.slice aw p.walk.length cw) (.slice ad p.dress.length cd) (.slice aq p.parts.length cq) 29)
  clear h hI
  by_cases hs : smallErr p items = 0
  rotate_left
  · obtain ⟨e1, e2⟩ := ne_bool hs
    have HE := hid (show cheapErr p items = smallErr p items from by unfold cheapErr; rw [if_neg hs])
    have HR := hid (show cheapB p items = none from by unfold cheapB; rw [if_neg hs])
    clear hs
    go_enter Try.func18, Try.ntmps18
    go_wp2_with (go_at_call 58; refine (HC.out _ K.out.below).mono ?_; rintro e w2 ⟨rfl, hb2⟩; have K := hid (K.out.later hb2); clear hb2)
    refine bodyPost_ret (v := .tuple #[.slice none 0 0, .int .i64 0, .int .i64 (smallErr p items)]) (by simp [results, Try.results18, go_sem]) rfl ?_
    unfold CheapestPost
    rw [HE.out, HR.out]
    exact ⟨_, rfl, own_nil _ _, K.out.below⟩
  have hv := (smallErr_zero hs).1
  have HCh := hid (fun W' hb => HCh.out W' hb hv)
  have HR := hid (show cheapB p items = bestP p items p.parts from by unfold cheapB; rw [if_pos hs])
  have HE := hid (show cheapErr p items = if (bestP p items p.parts).isSome = true then 0 else 7 from by unfold cheapErr; rw [if_pos hs])
  rw [hs] at HC
  obtain ⟨s, hs2⟩ : ∃ s, bestP p items p.parts = s := ⟨_, rfl⟩
  rw [hs2] at HCh HR HE
  clear hs hv hs2
  cases s with
  | none =>
    go_enter Try.func18, Try.ntmps18
    go_wp2_with (first
      | (go_at_call 58; refine (HC.out _ K.out.below).mono ?_; rintro e w2 ⟨rfl, hb2⟩; have K := hid (K.out.later hb2); clear hb2; have p0 := K.out.c (b := w.heap.size) (o := 0) (v := .slice ap p.persons.length cp) (by simp); have p1 := K.out.c (b := w.heap.size) (o := 1) (v := .slice aw p.walk.length cw) (by simp); have p2 := K.out.c (b := w.heap.size) (o := 2) (v := .slice ad p.dress.length cd) (by simp); have p3 := K.out.c (b := w.heap.size) (o := 3) (v := .slice aq p.parts.length cq) (by simp))
      | (go_at_call 59; refine (HCh.out _ K.out.below).mono ?_; rintro e w3 ⟨v', rfl, ho, hb3⟩; obtain ⟨a3, c3, rfl⟩ := (own_int.2 ho).form; have K := hid (K.out.later hb3); clear hb3 ho p0 p1 p2 p3))
    refine bodyPost_ret (v := .tuple #[.slice none 0 0, .int .i64 0, .int .i64 7]) (by simp [results, Try.results18, go_sem]) rfl ?_
    unfold CheapestPost
    rw [HE.out, HR.out]
    exact ⟨_, rfl, own_nil _ _, K.out.below⟩
  | some x =>
    obtain ⟨l, c⟩ := x
    go_enter Try.func18, Try.ntmps18
    go_wp2_with (first
      | (go_at_call 58; refine (HC.out _ K.out.below).mono ?_; rintro e w2 ⟨rfl, hb2⟩; have K := hid (K.out.later hb2); clear hb2; have p0 := K.out.c (b := w.heap.size) (o := 0) (v := .slice ap p.persons.length cp) (by simp); have p1 := K.out.c (b := w.heap.size) (o := 1) (v := .slice aw p.walk.length cw) (by simp); have p2 := K.out.c (b := w.heap.size) (o := 2) (v := .slice ad p.dress.length cd) (by simp); have p3 := K.out.c (b := w.heap.size) (o := 3) (v := .slice aq p.parts.length cq) (by simp))
      | (go_at_call 59; refine (HCh.out _ K.out.below).mono ?_; rintro e w3 ⟨v', rfl, ho, hb3⟩; obtain ⟨a3, c3, rfl⟩ := (own_int.2 ho).form; have HO := hid (OwnInts.base' (b' := w.heap.size) ho K.out.below.size); have K := hid (K.out.later hb3); clear hb3 ho p0 p1 p2 p3))
    refine bodyPost_ret (v := .tuple #[.slice a3 l.length c3, .int .i64 c, .int .i64 0]) (by simp [results, Try.results18, go_sem, bestL, bestC]) rfl ?_
    unfold CheapestPost
    rw [HE.out, HR.out]
    exact ⟨_, rfl, HO.out, K.out.below⟩
end Go.Proofs.Ytdcinngdilfpnaa
