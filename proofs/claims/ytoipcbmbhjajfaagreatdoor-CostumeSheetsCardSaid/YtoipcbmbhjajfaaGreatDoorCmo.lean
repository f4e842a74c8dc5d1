/-
  WALKS: the minutes, and how many costumes of a kind are on at once: minutes, Most.
-/
import Derived.Test.YtoipcbmbhjajfaaGreatDoorCwd
import Derived.Test.YtoipcbmbhjajfaaGreatDoorCdp
import Derived.Test.YtoipcbmbhjajfaaGreatDoorCpo
import Derived.Test.YtoipcbmbhjajfaaGreatDoorRoundHeld
import Derived.RangeFuncFrom
import Derived.Shelf.Abstract
import Derived.BigFrameIn
namespace Go.Proofs.YtoipcbmbhjajfaaGreatDoor
open Go.RowKit

def mostErr (p : Plot) (kind : Int) : Int := if plotErr p = 0 then (if inB kind 0 ((p.dress.length : Int) - 1) = false then 7 else 0) else plotErr p
def mostRes (p : Plot) (kind : Int) : Int × Int := if mostErr p kind = 0 then mostN p kind 1441 else (0, 0)
def stepM (p : Plot) (kind : Int) (s : Int × Int) (x : Nat) : Int × Int := if s.1 < onAll p kind x then (onAll p kind x, (x : Int)) else s
def accM (p : Plot) (kind : Int) (l : List Nat) : Int × Int := l.foldl (stepM p kind) (0, 0)
theorem accM_snoc (p : Plot) (kind : Int) (l : List Nat) (x : Nat) : accM p kind (l ++ [x]) = stepM p kind (accM p kind l) x := by simp [accM]
theorem accM_range (p : Plot) (kind : Int) : ∀ m, accM p kind (List.range m) = mostN p kind m := by
  intro m
  induction m with
  | zero => rfl
  | succ m ih => rw [List.range_succ, accM_snoc, ih]; rfl

/-- all old blocks stay but two -/
structure KeepC (n₁ X Y : Nat) (W W' : World) : Prop where
  size : W.heap.size ≤ W'.heap.size
  same : ∀ i, i < n₁ → i ≠ X → i ≠ Y → W'.heap[i]? = W.heap[i]?
theorem KeepC.refl (n₁ X Y : Nat) (W : World) : KeepC n₁ X Y W W := ⟨Nat.le_refl _, fun _ _ _ _ => rfl⟩
theorem KeepC.trans {n₁ X Y : Nat} {A B C : World} (h : KeepC n₁ X Y A B) (k : KeepC n₁ X Y B C) : KeepC n₁ X Y A C :=
  ⟨Nat.le_trans h.size k.size, fun i hi h1 h2 => (k.same i hi h1 h2).trans (h.same i hi h1 h2)⟩
theorem KeepC.cell {n₁ X Y : Nat} {W W' : World} (h : KeepC n₁ X Y W W') {b o : Nat} (hb : b < n₁) (h1 : b ≠ X) (h2 : b ≠ Y) {v : Value} (hc : W.cell? ⟨b, o, none⟩ = some v) : W'.cell? ⟨b, o, none⟩ = some v :=
  (World.cell?_of_block (a := ⟨b, o, none⟩) (h.same b hb h1 h2)).trans hc
theorem KeepC.of_below {n₁ X Y : Nat} {W W' : World} (h : Below W.heap.size W W') (hn : n₁ ≤ W.heap.size) : KeepC n₁ X Y W W' := ⟨h.size, fun i hi _ _ => h.block i (by omega)⟩

attribute [local go_sem] Oper.semAt_some

set_option maxHeartbeats 4000000 in
set_option maxRecDepth 100000 in
/-- THE ITERATOR: all minutes, each with the number of parts of a kind that are on -/
theorem min_stops (n : Nat) (hn : 1 ≤ n) (p : Plot) (kind : Int) (vq : Value) (A B n₁ X Y : Nat) (w : World) (hts : ∀ i, i < p.parts.length → Timed (pt p.parts i)) (hfew : p.parts.length ≤ 30)
    (h1 : A < n₁) (h2 : A ≠ X) (h3 : A ≠ Y) (h4 : B < n₁) (h5 : B ≠ X) (h6 : B ≠ Y) (hq : 0 < p.parts.length → ∀ b, vq.ownBlock = some b → b < n₁ ∧ b ≠ X ∧ b ≠ Y) (hn1 : n₁ ≤ w.heap.size)
    (hP : PartsAt none w vq p.parts) (hA : w.cell? ⟨A, 3, none⟩ = some vq) (hB : w.cell? ⟨B, 0, none⟩ = some (.int .i64 kind)) :
    SeqStopsK Fence.wide n Tryz.prog 66 #[.pointer (some ⟨A, 0, none⟩), .pointer (some ⟨B, 0, none⟩)]
      (fun x : Nat => #[.int .i64 ((x : Nat) : Int), .int .i64 (onAll p kind x)]) (KeepC n₁ X Y) (fun xs => xs = List.range 1441) (fun _ => True) 1441 w := fun l J Jx W hW hJ hJx hY h0 => by
  obtain ⟨aq, cq, rfl⟩ := hP.form
  refine callsIn_of_wp Tryz.func66 rfl trivial ?_ rfl
  simp only [Tryz.ntmps66, List.size_toArray, List.length_cons, List.length_nil, Nat.reduceAdd, Nat.reduceSub, Array.replicate_succ, Array.replicate_zero, List.push_toArray, List.append_toArray, List.nil_append, List.cons_append]
  have hn2 : n₁ ≤ W.heap.size := Nat.le_trans hn1 hW.size
  have HAW := hid ((hW.cell (p := ⟨A, 3, none⟩) (by show A < _; omega)).trans hA)
  have HBW := hid ((hW.cell (p := ⟨B, 0, none⟩) (by show B < _; omega)).trans hB)
  have HPW := hid (RecAt.below hP hW)
  have HJ := hid hJ
  have HY := hid hY
  have HT := hid hts
  have HQ := hid hq
  clear hP hA hB hJ hY hts hq
  gi_wp2
  gi_loopw [4] (fun mi wr => ∃ j : Nat, j ≤ 1441 ∧ mi = .int .i64 j ∧ J (List.range j) wr ∧ KeepC n₁ X Y W wr) (fun mi _ => 1441 - (intOf mi).toNat)
  case atStart => exact ⟨0, by omega, rfl, h0, KeepC.refl _ _ _ _⟩
  case round =>
    obtain ⟨j, hj, rfl, hJs, hkp⟩ := hrel
    have HJs := hid hJs
    have HK := hid hkp
    clear hJs hkp
    obtain ⟨wo, rfl⟩ : ∃ wo : World, wo = wr := ⟨_, rfl⟩
    by_cases hlt : j < 1441
    rotate_left
    · obtain rfl : j = 1441 := by omega
      gi_wp2
      go_end0
      exact ⟨⟨_, rfl⟩, .inl ⟨_, rfl, HJs.out⟩⟩
    have j1 : (j : Int) ≤ 1440 := by omega
    have hA := HK.out.cell h1 h2 h3 HAW.out
    have hB := HK.out.cell h4 h5 h6 HBW.out
    have hno : n₁ ≤ wo.heap.size := Nat.le_trans hn2 HK.out.size
    have HPo := hid (show PartsAt none wo (.slice aq p.parts.length cq) p.parts from by
      obtain ⟨a, c, e, hh⟩ := HPW.out
      refine ⟨a, c, e, fun g0 => ?_⟩
      obtain ⟨b, off, ea, q1, q2, q3, q4, q5⟩ := hh g0
      have hb := HQ.out g0 b (by rw [e, ea]; rfl)
      exact ⟨b, off, ea, q1, q2, q3, by omega, fun i hi k hk => HK.out.cell hb.1 hb.2.1 hb.2.2 (q5 i hi k hk)⟩)
    have hAl := World.block_lt_of_cell? wo ⟨A, 3, none⟩ hA
    have hBl := World.block_lt_of_cell? wo ⟨B, 0, none⟩ hB
    have HCel := hid (fun (W' : World) (hb : Below wo.heap.size wo W') => (⟨cell_back hb hAl hA, cell_back hb hBl hB⟩ : W'.cell? ⟨A, 3, none⟩ = some (.slice aq p.parts.length cq) ∧ W'.cell? ⟨B, 0, none⟩ = some (.int .i64 kind)))
    have z0 : IntKind.i64.wrap ((j : Int) + 1) = (j : Int) + 1 := IntWalk.i64_in _ (by omega)
    gi_wp2
    clear hA hB
    gi_loopw [5, 15] (fun nn i wi => ∃ q : Nat, q ≤ p.parts.length ∧ nn = .int .i64 (onN p kind j q) ∧ i = .int .i64 q ∧ Below wo.heap.size wo wi) (fun _ i _ => p.parts.length - (intOf i).toNat)
    case atStart => exact ⟨0, by omega, rfl, rfl, Below.refl _ _⟩
    case round =>
      obtain ⟨q, hq, rfl, rfl, hbel⟩ := hrel
      have HB := hid hbel
      clear hbel
      obtain ⟨wi, rfl⟩ : ∃ wi : World, wi = wr := ⟨_, rfl⟩
      have hbd := onN_bd p kind j q
      by_cases hltq : q < p.parts.length
      rotate_left
      · obtain rfl : q = p.parts.length := by omega
        have hJ2 : J (List.range j) wi := HJ.out _ _ _ none HJs.out (gb_below HB.out none) (fun r e => by cases e)
        obtain ⟨fn, tmps, assign, body, hy, hR⟩ := HY.out (List.range j) j wi hJ2 (by simp; omega)
        have hoa : onAll p kind (j : Int) = onN p kind (j : Int) p.parts.length := rfl
        rw [hoa] at hy
        clear hoa
        have HR := hid hR
        have HKi := hid (HK.out.trans (KeepC.of_below (n₁ := n₁) (X := X) (Y := Y) HB.out hno))
        clear hR hJ2
        gi_wp2
        refine HR.out.mono ?_
        rintro e W3 (⟨rfl, hJ3, hk3⟩ | ⟨rfl, hJx3⟩)
        · have H3 := hid (show J (List.range (j + 1)) W3 from by rw [List.range_succ]; exact hJ3)
          have K3 := hid (HKi.out.trans hk3)
          clear hJ3 hk3
          gi_wp2
          go_roundw
          case rel => exact ⟨j + 1, by omega, by go_num, H3.out, K3.out⟩
          case measure => simp [intOf] <;> omega
        · gi_wp2
          refine bodyPost_ret (results_none rfl _ _ _) rfl ?_
          exact ⟨⟨_, rfl⟩, .inr ⟨_, trivial, hJx3⟩⟩
      have hcc := PartsAt.cells (RecAt.below HPo.out HB.out) hltq
      obtain ⟨bq, oq, e, hbq, d0, d1, d2, d3, d4⟩ := hcc
      subst e
      have i1 : (q : Int) < (p.parts.length : Int) := by omega
      have z1 : IntKind.i64.wrap ((q : Int) + 1) = (q : Int) + 1 := IntWalk.i64_in _ (by omega)
      have z2 : IntKind.i64.wrap (onN p kind j q + 1) = onN p kind j q + 1 := IntWalk.i64_in _ (by omega)
      have hxt := HT.out q hltq
      have hstep := hid (show onN p kind j (q + 1) = if (pt p.parts q).kind = kind ∧ onB (pt p.parts q) j = true then onN p kind j q + 1 else onN p kind j q from rfl)
      have hc2 := (HCel.out wi HB.out).2
      have hBi := World.block_lt_of_cell? wi ⟨B, 0, none⟩ hc2
      obtain ⟨x, hx⟩ : ∃ x, pt p.parts q = x := ⟨_, rfl⟩
      rw [hx] at d0 d1 d2 d3 d4 hxt hstep
      have hob : onB x j = onP x j := rfl
      rw [hob] at hstep
      have HOn := hid (fun W' => on_any x (j : Int) W' hxt)
      have Hb5 := hid (below_alloc wi (.cells #[.int .i64 x.person, .int .i64 x.place, .int .i64 x.kind, .int .i64 x.start, .int .i64 x.stop] 60))
      clear hx hob hxt
      by_cases hk : x.kind = kind
      · obtain ⟨e1, e2⟩ := eq_bool hk
        cases hon : onP x (j : Int) with
        | true =>
          have HS := hid (hstep.out.trans (if_pos ⟨hk, hon⟩))
          rw [hon] at HOn
          clear hk hstep hon
          gi_wp2_with (refine ⟨trivial, ?_⟩; gi_at_call 67; refine (callsIn_wide.2 (HOn.out _)).mono ?_; rintro e w2 ⟨rfl, hb2⟩; have HB := hid (HB.out.trans ((below_trans Hb5.out hb2).mono HB.out.size)); clear hb2)
          go_roundw
          case rel => exact ⟨q + 1, by omega, by rw [HS.out], by go_num, HB.out⟩
          case measure => simp [intOf] <;> omega
        | false =>
          have HS := hid (hstep.out.trans (if_neg (fun h => by rw [hon] at h; cases h.2)))
          rw [hon] at HOn
          clear hk hstep hon
          gi_wp2_with (refine ⟨trivial, ?_⟩; gi_at_call 67; refine (callsIn_wide.2 (HOn.out _)).mono ?_; rintro e w2 ⟨rfl, hb2⟩; have HB := hid (HB.out.trans ((below_trans Hb5.out hb2).mono HB.out.size)); clear hb2)
          go_roundw
          case rel => exact ⟨q + 1, by omega, by rw [HS.out], by go_num, HB.out⟩
          case measure => simp [intOf] <;> omega
      · obtain ⟨e1, e2⟩ := ne_bool hk
        have HS := hid (hstep.out.trans (if_neg (fun h => hk h.1)))
        clear hk hstep
        gi_wp2
        refine ⟨trivial, ?_⟩
        gi_wp2
        go_roundw
        case rel => exact ⟨q + 1, by omega, by rw [HS.out], by go_num, HB.out.trans (Hb5.out.mono HB.out.size)⟩
        case measure => simp [intOf] <;> omega

set_option maxHeartbeats 400000 in
theorem minutes_any (vp vw vd vq : Value) (kind : Int) (w : World) (hp : ∃ a n c, vp = .slice a n c) (hw : ∃ a n c, vw = .slice a n c) (hd : ∃ a n c, vd = .slice a n c) (hq : ∃ a n c, vq = .slice a n c) :
    Calls Tryz.prog 47 #[plotV vp vw vd vq, .int .i64 kind] w
      fun e' w' => e' = .returned (.func (.func 66) #[] #[.pointer (some ⟨w.heap.size, 0, none⟩), .pointer (some ⟨w.heap.size + 1, 0, none⟩)]) ∧
        (w.alloc (.cells #[vp, vw, vd, vq] 27)).alloc (.cells #[.int .i64 kind] 3) = w' := by
  have hmf : ∀ (fn : Fn) (first cap : Array Value) (w : World), (Instr.makeFunc fn first cap).run Tryz.prog w = .ok (.func fn first cap) w := fun _ _ _ _ => rfl
  obtain ⟨_, _, _, rfl⟩ := hp
  obtain ⟨_, _, _, rfl⟩ := hw
  obtain ⟨_, _, _, rfl⟩ := hd
  obtain ⟨_, _, _, rfl⟩ := hq
  go_enter Tryz.func47, Tryz.ntmps47
  go_wp2
  go_ret
  exact ⟨rfl, rfl⟩

set_option maxHeartbeats 2000000 in
set_option maxRecDepth 100000 in
/-- the errors -/
theorem most_err (p : Plot) (kind : Int) (vp vw vd vq : Value) (w : World) (h : PlotAt none w vp vw vd vq p) (he : mostErr p kind ≠ 0) :
    Calls Tryz.prog 17 #[plotV vp vw vd vq, .int .i64 kind] w fun e w' => e = .returned (.tuple #[.int .i64 0, .int .i64 0, .int .i64 (mostErr p kind)]) ∧ Below w.heap.size w w' := by
  have H := hid h
  have HC := hid (fun a b c d W' g => ccheck_any p a b c d W' g)
  obtain ⟨ap, cp, rfl⟩ := h.persons.form
  obtain ⟨aw, cw, rfl⟩ := h.walk.form
  obtain ⟨ad, cd, rfl, _⟩ := h.dress
  obtain ⟨aq, cq, rfl⟩ := h.parts.form
  have K := hid ((((HK.start w).box4m (n := w.heap.size) rfl (.slice ap p.persons.length cp) (.slice aw p.walk.length cw) (.slice ad p.dress.length cd) (.slice aq p.parts.length cq) 27).box1n (n := w.heap.size + 1) (by simp) (.int .i64 0) 3).box1n (n := w.heap.size + 1 + 1) (by simp) (.int .i64 0) 3)
  clear h
  by_cases hv : plotErr p = 0
  · have V := hid (plotErr_zero.1 hv)
    have hin : inB kind 0 ((p.dress.length : Int) - 1) = false := by
      cases hi : inB kind 0 ((p.dress.length : Int) - 1) with
      | false => rfl
      | true => exact absurd (by unfold mostErr; rw [if_pos hv, hi]; rfl) he
    have HR := hid (show mostErr p kind = 7 from by unfold mostErr; rw [if_pos hv, if_pos hin])
    rw [hv] at HC
    have hl := V.out.dress.2
    have zl1 : IntKind.i64.wrap ((p.dress.length : Int) - 1) = (p.dress.length : Int) - 1 := IntWalk.i64_in _ (by omega)
    clear hv he
    go_enter Tryz.func17, Tryz.ntmps17
    go_wp2_with (first
      | (go_at_call 26; refine (HC.out _ _ _ _ _ (H.out.below K.out.below)).mono ?_; rintro e w2 ⟨rfl, hb2⟩; have K := hid (K.out.later hb2); clear hb2; have p0 := K.out.c (b := w.heap.size) (o := 2) (v := .slice ad p.dress.length cd) (by simp); have p1 := K.out.c (b := w.heap.size + 1) (o := 0) (v := .int .i64 0) (by simp); have p2 := K.out.c (b := w.heap.size + 1 + 1) (o := 0) (v := .int .i64 0) (by simp); have q1 := K.out.f (b := w.heap.size + 1) (o := 0) (v := .int .i64 0) (by simp); have q2 := K.out.f (b := w.heap.size + 1 + 1) (o := 0) (v := .int .i64 0) (by simp))
      | (go_at_call 46; refine (cin_any _ _ _ _).mono ?_; rintro e w' ⟨rfl, rfl⟩; rw [hin]))
    have c2 : ((w2.setCell ⟨w.heap.size + 1, 0, none⟩ (.int .i64 0)).setCell ⟨w.heap.size + 1 + 1, 0, none⟩ (.int .i64 0)).cell? ⟨w.heap.size + 1 + 1, 0, none⟩ = some (.int .i64 0) := World.cell?_setCell_same' _ _ _ (by rw [cell_set_far (by omega) p2]; rfl)
    have c1 : ((w2.setCell ⟨w.heap.size + 1, 0, none⟩ (.int .i64 0)).setCell ⟨w.heap.size + 1 + 1, 0, none⟩ (.int .i64 0)).cell? ⟨w.heap.size + 1, 0, none⟩ = some (.int .i64 0) := cell_set_far (by omega) (World.cell?_setCell_same' _ _ _ (by rw [p1]; rfl))
    exact bodyPost_ret (v := .tuple #[.int .i64 0, .int .i64 0, .int .i64 7]) (by simp [results, Tryz.results17, go_sem, c1, c2]) rfl ⟨by rw [HR.out], (K.out.below.setCell (p := ⟨w.heap.size + 1, 0, none⟩) (by simp) _).setCell (p := ⟨w.heap.size + 1 + 1, 0, none⟩) (by simp; omega) _⟩
  · obtain ⟨e1, e2⟩ := ne_bool hv
    have HR := hid (show mostErr p kind = plotErr p from by unfold mostErr; rw [if_neg hv])
    clear hv he
    go_enter Tryz.func17, Tryz.ntmps17
    go_wp2_with (first
      | (go_at_call 26; refine (HC.out _ _ _ _ _ (H.out.below K.out.below)).mono ?_; rintro e w2 ⟨rfl, hb2⟩; have K := hid (K.out.later hb2); clear hb2; have p1 := K.out.c (b := w.heap.size + 1) (o := 0) (v := .int .i64 0) (by simp); have p2 := K.out.c (b := w.heap.size + 1 + 1) (o := 0) (v := .int .i64 0) (by simp); have q1 := K.out.f (b := w.heap.size + 1) (o := 0) (v := .int .i64 0) (by simp); have q2 := K.out.f (b := w.heap.size + 1 + 1) (o := 0) (v := .int .i64 0) (by simp)))
    have c2 : ((w2.setCell ⟨w.heap.size + 1, 0, none⟩ (.int .i64 0)).setCell ⟨w.heap.size + 1 + 1, 0, none⟩ (.int .i64 0)).cell? ⟨w.heap.size + 1 + 1, 0, none⟩ = some (.int .i64 0) := World.cell?_setCell_same' _ _ _ (by rw [cell_set_far (by omega) p2]; rfl)
    have c1 : ((w2.setCell ⟨w.heap.size + 1, 0, none⟩ (.int .i64 0)).setCell ⟨w.heap.size + 1 + 1, 0, none⟩ (.int .i64 0)).cell? ⟨w.heap.size + 1, 0, none⟩ = some (.int .i64 0) := cell_set_far (by omega) (World.cell?_setCell_same' _ _ _ (by rw [p1]; rfl))
    exact bodyPost_ret (v := .tuple #[.int .i64 0, .int .i64 0, .int .i64 (plotErr p)]) (by simp [results, Tryz.results17, go_sem, c1, c2]) rfl ⟨by rw [HR.out], (K.out.below.setCell (p := ⟨w.heap.size + 1, 0, none⟩) (by simp) _).setCell (p := ⟨w.heap.size + 1 + 1, 0, none⟩) (by simp; omega) _⟩

set_option maxHeartbeats 4000000 in
set_option maxRecDepth 100000 in
theorem most_fine (p : Plot) (kind : Int) (vp vw vd vq : Value) (w : World) (h : PlotAt none w vp vw vd vq p) (he : mostErr p kind = 0) :
    Calls Tryz.prog 17 #[plotV vp vw vd vq, .int .i64 kind] w fun e w' => e = .returned (.tuple #[.int .i64 (mostN p kind 1441).1, .int .i64 (mostN p kind 1441).2, .int .i64 0]) ∧ Below w.heap.size w w' := by
  have H := hid h
  have HC := hid (fun a b c d W' g => ccheck_any p a b c d W' g)
  have hv : plotErr p = 0 := by
    by_cases hv : plotErr p = 0
    · exact hv
    · unfold mostErr at he; rw [if_neg hv] at he; exact absurd he hv
  have hin : inB kind 0 ((p.dress.length : Int) - 1) = true := by
    unfold mostErr at he
    rw [if_pos hv] at he
    cases hi : inB kind 0 ((p.dress.length : Int) - 1) with
    | true => rfl
    | false => rw [hi] at he; simp at he
  rw [hv] at HC
  have V := hid (plotErr_zero.1 hv)
  obtain ⟨ap, cp, rfl⟩ := h.persons.form
  obtain ⟨aw, cw, rfl⟩ := h.walk.form
  obtain ⟨ad, cd, rfl, _⟩ := h.dress
  obtain ⟨aq, cq, rfl⟩ := h.parts.form
  have K := hid ((((HK.start w).box4m (n := w.heap.size) rfl (.slice ap p.persons.length cp) (.slice aw p.walk.length cw) (.slice ad p.dress.length cd) (.slice aq p.parts.length cq) 27).box1n (n := w.heap.size + 1) (by simp) (.int .i64 0) 3).box1n (n := w.heap.size + 1 + 1) (by simp) (.int .i64 0) 3)
  have hl := V.out.dress.2
  have zl1 : IntKind.i64.wrap ((p.dress.length : Int) - 1) = (p.dress.length : Int) - 1 := IntWalk.i64_in _ (by omega)
  clear h hv he
  refine (callsIn_wide (n := 3)).1 ?_
  refine callsIn_of_wp_marks Tryz.func17 rfl trivial ?_ rfl
  simp only [Tryz.ntmps17, List.size_toArray, List.length_cons, List.length_nil, Nat.reduceAdd, Nat.reduceSub, Array.replicate_succ, Array.replicate_zero, List.push_toArray, List.append_toArray, List.nil_append, List.cons_append]
  gi_wp2_with (first
    | (refine ⟨trivial, ?_⟩; gi_at_call 26; refine (callsIn_wide.2 (HC.out _ _ _ _ _ (H.out.below K.out.below))).mono ?_; rintro e w2 ⟨rfl, hb2⟩; have K := hid (K.out.later hb2); clear hb2; have p0 := K.out.c (b := w.heap.size) (o := 2) (v := .slice ad p.dress.length cd) (by simp); have p1 := K.out.c (b := w.heap.size) (o := 0) (v := .slice ap p.persons.length cp) (by simp); have p2 := K.out.c (b := w.heap.size) (o := 1) (v := .slice aw p.walk.length cw) (by simp); have p3 := K.out.c (b := w.heap.size) (o := 3) (v := .slice aq p.parts.length cq) (by simp))
    | (refine ⟨trivial, ?_⟩; gi_at_call 46; refine (callsIn_wide.2 (cin_any _ _ _ _)).mono ?_; rintro e w' ⟨rfl, rfl⟩; rw [hin])
    | (refine ⟨trivial, ?_⟩; gi_at_call 47; refine (callsIn_wide.2 (minutes_any _ _ _ _ _ _ ⟨_, _, _, rfl⟩ ⟨_, _, _, rfl⟩ ⟨_, _, _, rfl⟩ ⟨_, _, _, rfl⟩)).mono ?_; rintro e w4 ⟨rfl, h4⟩))
  have hs3 := K.out.clt (b := w.heap.size + 1 + 1) (o := 0) (v := .int .i64 0) (by simp)
  have m1 := cell_up (X := .cells #[.int .i64 kind] 3) (cell_up (X := .cells #[.slice ap p.persons.length cp, .slice aw p.walk.length cw, .slice ad p.dress.length cd, .slice aq p.parts.length cq] 27) (K.out.c (b := w.heap.size + 1) (o := 0) (v := .int .i64 0) (by simp)))
  have m2 := cell_up (X := .cells #[.int .i64 kind] 3) (cell_up (X := .cells #[.slice ap p.persons.length cp, .slice aw p.walk.length cw, .slice ad p.dress.length cd, .slice aq p.parts.length cq] 27) (K.out.c (b := w.heap.size + 1 + 1) (o := 0) (v := .int .i64 0) (by simp)))
  have f1 := frozen_up (X := .cells #[.int .i64 kind] 3) (by simp; omega) (frozen_up (X := .cells #[.slice ap p.persons.length cp, .slice aw p.walk.length cw, .slice ad p.dress.length cd, .slice aq p.parts.length cq] 27) (by omega) (K.out.f (b := w.heap.size + 1) (o := 0) (v := .int .i64 0) (by simp)))
  have f2 := frozen_up (X := .cells #[.int .i64 kind] 3) (by simp; omega) (frozen_up (X := .cells #[.slice ap p.persons.length cp, .slice aw p.walk.length cw, .slice ad p.dress.length cd, .slice aq p.parts.length cq] 27) (by omega) (K.out.f (b := w.heap.size + 1 + 1) (o := 0) (v := .int .i64 0) (by simp)))
  have a3 : ((w2.alloc (.cells #[.slice ap p.persons.length cp, .slice aw p.walk.length cw, .slice ad p.dress.length cd, .slice aq p.parts.length cq] 27)).alloc (.cells #[.int .i64 kind] 3)).cell? ⟨w2.heap.size, 3, none⟩ = some (.slice aq p.parts.length cq) := cell_up (cell_at rfl rfl)
  have b0 : ((w2.alloc (.cells #[.slice ap p.persons.length cp, .slice aw p.walk.length cw, .slice ad p.dress.length cd, .slice aq p.parts.length cq] 27)).alloc (.cells #[.int .i64 kind] 3)).cell? ⟨w2.heap.size + 1, 0, none⟩ = some (.int .i64 kind) := cell_at (by simp) rfl
  have hb24 : Below w.heap.size w w4 := by rw [← h4]; exact ((K.out.below.trans ((below_alloc _ _).mono K.out.below.size)).trans ((below_alloc _ _).mono (by have := K.out.below.size; simp; omega)))
  have hs4 : w4.heap.size = w2.heap.size + 1 + 1 := by rw [← h4]; simp
  rw [h4] at m1 m2 f1 f2 a3 b0
  have hPq := RecAt.below H.out.parts hb24
  have hqo : 0 < p.parts.length → ∀ b, (Value.slice aq p.parts.length cq).ownBlock = some b → b < w2.heap.size + 1 + 1 ∧ b ≠ w.heap.size + 1 ∧ b ≠ w.heap.size + 1 + 1 := by
    intro g0 b hb
    obtain ⟨a, c, e, hh⟩ := H.out.parts
    obtain ⟨b', off, ea, q1, q2, q3, q4, q5⟩ := hh g0
    rw [e, ea] at hb
    obtain rfl : b' = b := Option.some.inj hb
    have h5 : b' < w.heap.size := q4
    exact ⟨by omega, by omega, by omega⟩
  have HP := hid hPq
  have HQ := hid hqo
  have hfew := V.out.few
  have hts := hid (fun i hi => alone_timed (V.out.parts i hi))
  clear h4 hPq hqo p0 p1 p2 p3 zl1 hin
  refine wpIn_rangeFunc_ownF (F := Fence.wide) (n := 3) rfl (by omega) (gf := 66) (lb := #[.pointer (some ⟨w2.heap.size, 0, none⟩), .pointer (some ⟨w2.heap.size + 1, 0, none⟩)]) rfl trivial (enters_of Tryz.func66 (by kernel_rfl) rfl)
    (min_stops 2 (by omega) p kind (.slice aq p.parts.length cq) w2.heap.size (w2.heap.size + 1) (w2.heap.size + 1 + 1) (w.heap.size + 1) (w.heap.size + 1 + 1) w4 hts.out hfew (by omega) (by omega) (by omega) (by omega) (by omega) (by omega) HQ.out (by omega) HP.out a3 b0)
    KeepC.trans (fun W l o o' hl _ _ _ => ⟨by simp, fun i hi _ _ => World.putObj_heap_other (by omega)⟩) (Below.refl _ _) (fun _ => rfl)
    (fun pre W => (W.cell? ⟨w.heap.size + 1, 0, none⟩ = some (.int .i64 (accM p kind pre).1) ∧ W.frozen? ⟨w.heap.size + 1, 0, none⟩ = false ∧ W.cell? ⟨w.heap.size + 1 + 1, 0, none⟩ = some (.int .i64 (accM p kind pre).2) ∧ W.frozen? ⟨w.heap.size + 1 + 1, 0, none⟩ = false) ∧ Below w.heap.size w W)
    (fun _ _ _ => False)
    (OwnFrom.and (Own.from (fun s A B row hs hg hr => ⟨cell_kept hs.1 hg hr, (frozen_kept hs.1 hg hr).trans hs.2.1, cell_kept hs.2.2.1 hg hr, (frozen_kept hs.2.2.1 hg hr).trans hs.2.2.2⟩) _) (ownFrom_below (Nat.le_refl _) (by omega)))
    (fun _ _ _ _ _ hs _ _ => hs)
    ⟨⟨m1, f1, m2, f2⟩, hb24⟩ ?a1 ?assign ?body ?done ?stop
  case assign =>
    intro l x W K hK
    gi_wp2
    exact hK
  case body =>
    rintro l pre x W ⟨⟨r1, g1, r2, g2⟩, hB⟩ _
    have hA := hid (accM_snoc p kind pre x)
    obtain ⟨acc, hacc⟩ : ∃ acc, accM p kind pre = acc := ⟨_, rfl⟩
    rw [hacc] at r1 r2 hA
    clear hacc
    obtain ⟨on, hon⟩ : ∃ on, onAll p kind (x : Int) = on := ⟨_, rfl⟩
    have hstep := hid (show stepM p kind acc x = if acc.1 < on then (on, (x : Int)) else acc from by rw [← hon]; rfl)
    rw [hon]
    clear hon
    have hB2 := hid hB
    have l2 := World.block_lt_of_cell? W ⟨w.heap.size + 1 + 1, 0, none⟩ r2
    clear hB
    by_cases hlt : acc.1 < on
    · have HS := hid (hA.out.trans (hstep.out.trans (if_pos hlt)))
      clear hA hstep
      gi_wp2
      exact ⟨(KeepsOthers.setCell _ _ _).trans (KeepsOthers.setCell _ _ _),
        ⟨by simp [World.setCell], fun i _ hi1 hi2 => (Below.heap_setCell _ _ _ i hi2).trans (Below.heap_setCell _ _ _ i hi1)⟩,
        ⟨by rw [HS.out]; exact cell_set_far (by omega) (World.cell?_setCell_same' _ _ _ (by rw [r1]; rfl)), by rw [World.frozen?_setCell, World.frozen?_setCell]; exact g1,
         by rw [HS.out]; exact World.cell?_setCell_same' _ _ _ (by rw [cell_set_far (by omega) r2]; rfl), by rw [World.frozen?_setCell, World.frozen?_setCell]; exact g2⟩,
        (hB2.out.setCell (p := ⟨w.heap.size + 1, 0, none⟩) (by simp) _).setCell (p := ⟨w.heap.size + 1 + 1, 0, none⟩) (by simp; omega) _⟩
    · have HS := hid (hA.out.trans (hstep.out.trans (if_neg hlt)))
      clear hA hstep
      gi_wp2
      exact ⟨KeepsOthers.refl _, KeepC.refl _ _ _ _, ⟨by rw [HS.out]; exact r1, g1, by rw [HS.out]; exact r2, g2⟩, hB2.out⟩
  case done =>
    rintro D ys W hD rfl ⟨⟨c1, g1, c2, g2⟩, hB⟩ hK
    rw [accM_range] at c1 c2
    gi_wp2
    gi_region
    gi_wp2
    have l1 := World.block_lt_of_cell? W ⟨w.heap.size + 1, 0, none⟩ c1
    have l2 := World.block_lt_of_cell? W ⟨w.heap.size + 1 + 1, 0, none⟩ c2
    have n2 : D ≠ w.heap.size + 1 + 1 := by omega
    have n1 : D ≠ w.heap.size + 1 := by omega
    obtain ⟨W5, hW5⟩ : ∃ W5, ((W.setCell ⟨w.heap.size + 1, 0, none⟩ (.int .i64 (mostN p kind 1441).1)).setCell ⟨w.heap.size + 1 + 1, 0, none⟩ (.int .i64 (mostN p kind 1441).2)).drew = W5 := ⟨_, rfl⟩
    have d2 : W5.cell? ⟨w.heap.size + 1 + 1, 0, none⟩ = some (.int .i64 (mostN p kind 1441).2) := by rw [← hW5]; exact World.cell?_setCell_same' _ _ _ (by rw [cell_set_far (by omega) c2]; rfl)
    have d1 : W5.cell? ⟨w.heap.size + 1, 0, none⟩ = some (.int .i64 (mostN p kind 1441).1) := by rw [← hW5]; exact cell_set_far (by omega) (World.cell?_setCell_same' _ _ _ (by rw [c1]; rfl))
    have hb5 : Below w.heap.size w W5 := by rw [← hW5]; exact ((hB.setCell (p := ⟨w.heap.size + 1, 0, none⟩) (by simp) _).setCell (p := ⟨w.heap.size + 1 + 1, 0, none⟩) (by simp; omega) _).drew
    have hK5 : W5.heap[D]? = some (.deferred (some [])) := by rw [← hW5]; exact ((Below.heap_setCell _ _ _ D n2).trans (Below.heap_setCell _ _ _ D n1)).trans hK
    rw [hW5]
    have e2 : (W5.putObj D (.deferred none)).cell? ⟨w.heap.size + 1 + 1, 0, none⟩ = some (.int .i64 (mostN p kind 1441).2) := (World.cell?_of_block (a := ⟨w.heap.size + 1 + 1, 0, none⟩) (World.putObj_heap_other (by simp; omega))).trans d2
    have e1 : (W5.putObj D (.deferred none)).cell? ⟨w.heap.size + 1, 0, none⟩ = some (.int .i64 (mostN p kind 1441).1) := (World.cell?_of_block (a := ⟨w.heap.size + 1, 0, none⟩) (World.putObj_heap_other (by simp; omega))).trans d1
    refine ⟨by simp, .inl ⟨_, _, rfl, run_takeDeferred hK5, ?_⟩⟩
    refine ⟨.tuple #[.int .i64 (mostN p kind 1441).1, .int .i64 (mostN p kind 1441).2, .int .i64 0], ?_, rfl, hb5.trans (belowK_b (w := w) (Nat.le_refl _) W5 D _ _ (by omega) hK5 rfl rfl)⟩
    simp [results, Tryz.results17, go_sem, e1, e2]
  case stop =>
    rintro D c pre W _ _ h _
    exact h.elim

/-- MOST: how many costumes of a kind are on at once, and when, or the error -/
theorem most_any (p : Plot) (kind : Int) (vp vw vd vq : Value) (w : World) (h : PlotAt none w vp vw vd vq p) :
    Calls Tryz.prog 17 #[plotV vp vw vd vq, .int .i64 kind] w fun e w' => e = .returned (.tuple #[.int .i64 (mostRes p kind).1, .int .i64 (mostRes p kind).2, .int .i64 (mostErr p kind)]) ∧ Below w.heap.size w w' := by
  by_cases he : mostErr p kind = 0
  · have hr : mostRes p kind = mostN p kind 1441 := by unfold mostRes; rw [if_pos he]
    rw [hr, he]
    exact most_fine p kind vp vw vd vq w h he
  · have hr : mostRes p kind = (0, 0) := by unfold mostRes; rw [if_neg he]
    rw [hr]
    exact most_err p kind vp vw vd vq w h he
end Go.Proofs.YtoipcbmbhjajfaaGreatDoor