/-
  WALK: the closure that looks for the cheapest wear: a wear that is not whole yet.
-/
import Derived.Test.YtdcinngdilfpnaaChq
import Derived.Deep.CutRange
import Derived.BigQuiet
import Derived.Deep.QuietTactic
namespace Go.Proofs.Ytdcinngdilfpnaa
open Go.RowKit

attribute [local go_sem] Oper.semAt_some
/-- what a call of the search leaves behind -/
def ChPost (p : Plot) (items : List Item) (S G F base : Nat) (cs : Cells) (w0 : World) (r : Nat) (b : List Int) (vn vb : Value) (s : Bst) (w : World) (e : Ending) (w' : World) : Prop :=
  e = .returned (.tuple #[]) ∧ ∃ vb' g' f', Rdy S G F base cs w0 vn b vb' g' f' (mergeB s (bestR p items p.parts r b)) w' ∧ FrC S G F vn.ownBlock w w' ∧ (∀ x, vb'.ownBlock = some x → vb.ownBlock = some x ∨ w.heap.size ≤ x)
/-- how far a round has come -/
def ChRel (p : Plot) (items : List Item) (S G F base : Nat) (cs : Cells) (w0 : World) (r : Nat) (b : List Int) (vn vb : Value) (s : Bst) (w : World) (k : Nat) (wr : World) : Prop :=
  ∃ vb' g' f' s', mergeB s (mergeN (fun i => bestR p items p.parts r (b ++ [(i : Int)])) k) = s' ∧ Rdy S G F base cs w0 vn b vb' g' f' s' wr ∧ FrC S G F vn.ownBlock w wr ∧ (∀ x, vb'.ownBlock = some x → vb.ownBlock = some x ∨ w.heap.size ≤ x)

set_option maxHeartbeats 4000000 in
set_option maxRecDepth 100000 in
theorem chp_step (p : Plot) (items : List Item) (T I S G F Y base : Nat) (vp vw vd vq vi : Value) (cs : Cells) (w0 : World) (h : PlotAt none w0 vp vw vd vq p) (hI : ItemsAt none w0 vi items) (hv : itemsErr p items = 0) (C : Ctx S G F base cs w0)
    (t0 : (T, 0, vp) ∈ cs) (t1 : (T, 1, vw) ∈ cs) (t2 : (T, 2, vd) ∈ cs) (t3 : (T, 3, vq) ∈ cs) (i0 : (I, 0, vi) ∈ cs)
    (y0 : (Y, 0, .func (.func 102) #[] #[.pointer (some ⟨T, 0, none⟩), .pointer (some ⟨I, 0, none⟩), .pointer (some ⟨F, 0, none⟩), .pointer (some ⟨G, 0, none⟩), .pointer (some ⟨S, 0, none⟩), .pointer (some ⟨Y, 0, none⟩)]) ∈ cs)
    (r : Nat) (ih : ∀ (b : List Int) (vn vb : Value) (g : Int) (f : Bool) (s : Bst) (w : World), wearsE p items p.parts b = 0 → b.length + r = p.parts.length → Rdy S G F base cs w0 vn b vb g f s w →
      Calls Try.prog 102 #[vn, .pointer (some ⟨T, 0, none⟩), .pointer (some ⟨I, 0, none⟩), .pointer (some ⟨F, 0, none⟩), .pointer (some ⟨G, 0, none⟩), .pointer (some ⟨S, 0, none⟩), .pointer (some ⟨Y, 0, none⟩)] w (ChPost p items S G F base cs w0 r b vn vb s w))
    (b : List Int) (vn vb : Value) (g : Int) (f : Bool) (s : Bst) (w : World) (hw : wearsE p items p.parts b = 0) (hl : b.length + (r + 1) = p.parts.length) (rd : Rdy S G F base cs w0 vn b vb g f s w) :
    Calls Try.prog 102 #[vn, .pointer (some ⟨T, 0, none⟩), .pointer (some ⟨I, 0, none⟩), .pointer (some ⟨F, 0, none⟩), .pointer (some ⟨G, 0, none⟩), .pointer (some ⟨S, 0, none⟩), .pointer (some ⟨Y, 0, none⟩)] w (ChPost p items S G F base cs w0 (r + 1) b vn vb s w) := by
  have R := hid rd
  have HC := hid C
  have H := hid h
  have HI := hid hI
  have IH := hid ih
  have HV := hid hv
  have HW := hid hw
  have HL := hid hl
  obtain ⟨ap, cp, rfl⟩ := h.persons.form
  obtain ⟨aw, cw, rfl⟩ := h.walk.form
  obtain ⟨ad, cd, ed, _⟩ := h.dress
  subst ed
  obtain ⟨aq, cq, rfl⟩ := h.parts.form
  obtain ⟨ai, ci, rfl⟩ := hI.form
  obtain ⟨an, cn, rfl⟩ := (own_int.2 rd.own).form
  have hfew := (plotErr_zero.1 (itemsErr_zero hv).1).few
  have hil := (itemsErr_zero hv).2.1
  have HCo := hid (fun W' (hb0 : Below w0.heap.size w0 W') (hw' : OwnInts base W' (.slice an b.length cn) b) => cost_any items b _ _ W' (HI.out.below hb0) (hw'.at (by simp)) (wears_within hw) (items_priced hv) (by omega) (by omega))
  have HNx := hid (fun W' (n : Int) (hb0 : Below w0.heap.size w0 W') (hw' : OwnInts base W' (.slice an b.length cn) b) => next_any p items b n _ _ _ _ _ _ W' (H.out.below hb0) (HI.out.below hb0) (hw'.at (by simp)) (itemsErr_zero hv).1 (by omega) hil (items_clean hv))
  have HBs := hid (show bestR p items p.parts (r + 1) b = mergeN (fun i => bestR p items p.parts r (b ++ [(i : Int)])) items.length from by simp only [bestR]; rw [if_pos hw])
  have HBad := hid (fun (k : Nat) (hk : nextE p items p.parts b (k : Int) ≠ 0) => bestR_bad (p := p) (items := items) (parts := p.parts) (b := b ++ [(k : Int)]) (by rw [wearsE_snoc, if_pos hw]; exact hk) r)
  have HGood := hid (fun (k : Nat) (hk : nextE p items p.parts b (k : Int) = 0) => show wearsE p items p.parts (b ++ [(k : Int)]) = 0 from by rw [wearsE_snoc, if_pos hw]; exact hk)
  have hcb := costW_bd (items_priced hv) (wears_within hw)
  have hblen : b.length ≤ 1000000 := by omega
  obtain ⟨d1, d2⟩ := ne_bool (a := (b.length : Int)) (b := (p.parts.length : Int)) (by omega)
  have x1 := R.out.k.c (b := T) (o := 3) (v := .slice aq p.parts.length cq) (by simp [t3])
  have x2 := R.out.k.c (b := I) (o := 0) (v := .slice ai items.length ci) (by simp [i0])
  have T0 := hid t0
  have T1 := hid t1
  have T2 := hid t2
  have T3 := hid t3
  have I0 := hid i0
  have Y0 := hid y0
  clear h hI hv hw hl rd C ih t0 t1 t2 t3 i0 y0
  go_enter Try.func102, Try.ntmps102
  go_step3
  go_wp2_with fail
  go_step3
  go_wp2_with fail
  clear d1 d2 x1 x2
  go_loopg [32] items.length (fun m i wr => ∃ k : Nat, k + m = items.length ∧ i = .int .i64 k ∧ ChRel p items S G F base cs w0 r b (.slice an b.length cn) vb s w k wr)
  case atStart => exact ⟨0, by omega, rfl, vb, g, f, s, by simp [mergeN, mergeB_none'], R.out, FrC.refl _ _ _ _ _, fun x hx => .inl hx⟩
  case round =>
    obtain ⟨k, hk, rfl, vb', g', f', s', hs', rd', hf', hv'⟩ := hrel
    have R := hid rd'
    have HS := hid hs'
    have HF := hid hf'
    have HVb := hid hv'
    clear rd' hs' hf' hv'
    obtain ⟨wo, rfl⟩ : ∃ wo : World, wo = wr := ⟨_, rfl⟩
    by_cases hlt : k < items.length
    rotate_left
    · obtain rfl : k = items.length := by omega
      go_wp2_with fail
      rw [Exit.noGoto_normal]
      exact bodyPost_end (v := .tuple #[]) (by simp [results, Try.results102, go_sem]) rfl ⟨rfl, vb', g', f', by rw [HBs.out, HS.out]; exact R.out, HF.out, HVb.out⟩
    have i1 : (k : Int) < (items.length : Int) := by omega
    have z1 : IntKind.i64.wrap ((k : Int) + 1) = (k : Int) + 1 := IntWalk.i64_in _ (by omega)
    go_upto_region 7 with fail
    go_cut [32, 46] from 32 to 59 (fun i v wx => i = .int .i64 k ∧ ∃ st : Bool, v = .bool st ∧ (st = true → ∃ l c, s' = some (l, c) ∧ c ≤ costW items b) ∧ Rdy S G F base cs w0 (.slice an b.length cn) b vb' g' f' s' wx ∧ Below wo.heap.size wo wx)
    case first =>
      cases s' with
      | none =>
        obtain ⟨rfl, rfl, rfl⟩ := R.out.st
        have y1 := R.out.k.c (b := F) (o := 0) (v := .bool false) (by simp)
        go_quiet (fail)
        go_wp2_with fail
        go_meet
        have hb2 : Below wo.heap.size wo (wo.drewN nq) := below_drewN (Below.refl _ _) nq
        exact ⟨rfl, false, rfl, (fun h => by cases h), R.out.later HC.out hb2, hb2⟩
      | some x =>
        obtain ⟨l, c⟩ := x
        obtain ⟨rfl, rfl, _⟩ := R.out.st
        obtain ⟨wy, hwy⟩ : ∃ wy, wo = wy := ⟨_, rfl⟩
        rw [hwy] at R ⊢
        have HBy := hid (show Below wo.heap.size wo wy.drew from by rw [← hwy]; exact (Below.refl _ _).drew)
        have R := hid (R.out.later HC.out (Below.refl _ _).drew)
        have hcb' := hcb
        clear hwy
        by_cases hc : g' ≤ costW items b
        · by_cases hg0 : 0 < g'
          · have Hc := hid hc
            go_region_held3 (fun w' => w'.cell? ⟨F, 0, none⟩ = some (.bool true) ∧ w'.cell? ⟨G, 0, none⟩ = some (.int .i64 g') ∧ w'.cell? ⟨I, 0, none⟩ = some (.slice ai items.length ci))
              (first | exact ⟨R.out.k.c (by simp), R.out.k.c (by simp), R.out.k.c (by simp [I0.out])⟩) (first
              | (go_at_call 88; refine (HCo.out _ R.out.k.below R.out.own).mono ?_; rintro e w1 ⟨rfl, hb1⟩; have HBy := hid (HBy.out.trans (hb1.mono HBy.out.size)); have R := hid (R.out.later HC.out hb1); clear hb1))
            all_goals (
              go_wp2_with fail
              go_meet
              exact ⟨rfl, true, rfl, fun _ => ⟨l, g', rfl, Hc.out⟩, R.out, HBy.out⟩)
          · go_region_held3 (fun w' => w'.cell? ⟨F, 0, none⟩ = some (.bool true) ∧ w'.cell? ⟨G, 0, none⟩ = some (.int .i64 g') ∧ w'.cell? ⟨I, 0, none⟩ = some (.slice ai items.length ci))
              (first | exact ⟨R.out.k.c (by simp), R.out.k.c (by simp), R.out.k.c (by simp [I0.out])⟩) (first
              | (go_at_call 88; refine (HCo.out _ R.out.k.below R.out.own).mono ?_; rintro e w1 ⟨rfl, hb1⟩; have HBy := hid (HBy.out.trans (hb1.mono HBy.out.size)); have R := hid (R.out.later HC.out hb1); clear hb1))
            all_goals (
              go_wp2_with fail
              go_meet
              exact ⟨rfl, false, by rw [decide_eq_false (by omega)], (fun h => by cases h), R.out, HBy.out⟩)
        · have y1 := R.out.k.c (b := F) (o := 0) (v := .bool true) (by simp)
          have y2 := R.out.k.c (b := G) (o := 0) (v := .int .i64 g') (by simp)
          have y3 := R.out.k.c (b := I) (o := 0) (v := .slice ai items.length ci) (by simp [I0.out])
          go_region_with (go_at_call 88; refine (HCo.out _ R.out.k.below R.out.own).mono ?_; rintro e w1 ⟨rfl, hb1⟩; have HBy := hid (HBy.out.trans (hb1.mono HBy.out.size)); have R := hid (R.out.later HC.out hb1); clear hb1 y1 y2 y3; have y1 := R.out.k.c (b := F) (o := 0) (v := .bool true) (by simp); have y2 := R.out.k.c (b := G) (o := 0) (v := .int .i64 g') (by simp); have y3 := R.out.k.c (b := I) (o := 0) (v := .slice ai items.length ci) (by simp [I0.out]))
          all_goals (
            go_wp2_with fail
            go_meet
            exact ⟨rfl, false, rfl, (fun h => by cases h), R.out, HBy.out⟩)
    case rest =>
      obtain ⟨rfl, st, rfl, hst, rd2, hb2⟩ := hcut
      have R := hid rd2
      have HB2 := hid hb2
      clear rd2 hb2
      cases st with
      | true =>
        obtain ⟨l, c, rfl, hc⟩ := hst rfl
        have hc := hid hc
        clear hst
        go_wp2_with fail
        rw [Exit.noGoto_normal]
        have hfin : mergeB s (bestR p items p.parts (r + 1) b) = some (l, c) := by
          rw [HBs.out]
          exact mergeN_idle (Nat.le_of_lt hlt) HS.out (fun i _ hi => merge_idle (items_priced HV.out) (Int.le_trans hc.out (costW_mono (items_priced HV.out) (by omega))))
        exact bodyPost_end (v := .tuple #[]) (by simp [results, Try.results102, go_sem]) rfl ⟨rfl, vb', g', f', by rw [hfin]; exact R.out, HF.out.trans' (FrC.of_below HB2.out), HVb.out⟩
      | false =>
        clear hst
        have y0 := R.out.k.c (b := T) (o := 0) (v := .slice ap p.persons.length cp) (by simp [T0.out])
        have y1 := R.out.k.c (b := T) (o := 1) (v := .slice aw p.walk.length cw) (by simp [T1.out])
        have y2 := R.out.k.c (b := T) (o := 2) (v := .slice ad p.dress.length cd) (by simp [T2.out])
        have y3 := R.out.k.c (b := T) (o := 3) (v := .slice aq p.parts.length cq) (by simp [T3.out])
        have y4 := R.out.k.c (b := I) (o := 0) (v := .slice ai items.length ci) (by simp [I0.out])
        obtain ⟨ne, hne⟩ : ∃ ne, nextE p items p.parts b (k : Int) = ne := ⟨_, rfl⟩
        have HN2 := hid (fun W' => HNx.out W' (k : Int))
        have HBad := hid (HBad.out k)
        have HGood := hid (HGood.out k)
        rw [hne] at HN2 HBad HGood
        clear hne
        by_cases hn0 : ne = 0
        rotate_left
        · obtain ⟨e1, e2⟩ := ne_bool hn0
          have HBad := hid (HBad.out hn0)
          clear hn0
          go_wp2_with (go_at_call 87; refine (HN2.out _ R.out.k.below R.out.own).mono ?_; rintro e w1 ⟨rfl, hb1⟩; have R1 := hid (R.out.later HC.out hb1); have HB3 := hid (HB2.out.trans (hb1.mono HB2.out.size)); clear hb1 y0 y1 y2 y3 y4)
          go_roundg (items.length - (k + 1))
          case measure => omega
          case rel => exact ⟨k + 1, by omega, by go_num, vb', g', f', s', by simp only [mergeN]; rw [HBad.out, mergeB_none', HS.out], R1.out, HF.out.trans' (FrC.of_below HB3.out), HVb.out⟩
        · subst hn0
          have HGd := hid (HGood.out rfl)
          clear HBad HGood
          go_upto_region 9 with (go_at_call 87; refine (HN2.out _ R.out.k.below R.out.own).mono ?_; rintro e w1 ⟨rfl, hb1⟩; have R1 := hid (R.out.later HC.out hb1); have HB3 := hid (HB2.out.trans (hb1.mono HB2.out.size)); clear hb1 y0 y1 y2 y3 y4)
          obtain ⟨wy, hwy⟩ : ∃ wy, w1 = wy := ⟨_, rfl⟩
          rw [hwy] at R1 HB3 ⊢
          clear hwy
          have RY := hid (R1.out.later HC.out (Below.refl _ wy).drew)
          have HB4 := hid (HB3.out.trans ((Below.refl _ wy).drew.mono HB3.out.size))
          have hlen2 := HL.out
          go_region_held3 (fun w' => w'.cell? ⟨Y, 0, none⟩ = some (.func (.func 102) #[] #[.pointer (some ⟨T, 0, none⟩), .pointer (some ⟨I, 0, none⟩), .pointer (some ⟨F, 0, none⟩), .pointer (some ⟨G, 0, none⟩), .pointer (some ⟨S, 0, none⟩), .pointer (some ⟨Y, 0, none⟩)]))
            (first | exact RY.out.k.c (by simp [Y0.out]) | exact (RY.out.k.later (below_alloc _ _)).c (by simp [Y0.out]) | exact RL.out.k.c (by simp) | exact R3.out.k.c (by simp [Y0.out]) | exact R4.out.k.c (by simp [Y0.out])) (first
            | (refine step_app_keep rfl _ _ rfl base b (k : Int) _ _ _ (OwnInts.later RY.out.own (below_alloc _ _)) (cell_at rfl rfl) rfl rfl hblen (Nat.le_trans RY.out.hb (below_alloc _ _).size) ?_; intro a3 c3 w3 hown3 hkeep3 hg3 hwk3; have RL := hid (RY.out.later HC.out (below_alloc wy.drew (.cells #[.int .i64 (k : Int)] 3))); have HBL := hid (HB4.out.trans ((below_alloc wy.drew (.cells #[.int .i64 (k : Int)] 3)).mono HB4.out.size)); have R3 := hid (RL.out.app HC.out hg3 hown3 hwk3); have HG3 := hid hg3; have HK3 := hid hkeep3; have HW3 := hid hwk3; clear hg3 hkeep3 hwk3 hown3)
            | (go_at_call 102; refine (IH.out (b ++ [(k : Int)]) _ _ _ _ _ _ HGd.out (by simp; omega) R3.out).mono ?_; rintro e w4 ⟨rfl, vb4, g4, f4, rd4, hf4, hv4⟩; have R4 := hid rd4; have HF4 := hid hf4; have HV4 := hid hv4; clear rd4 hf4 hv4))
          all_goals (
            obtain ⟨q1, q2, q3⟩ := RL.out.back HC.out HG3.out HK3.out HW3.out R4.out HF4.out HV4.out
            have Q1 := hid q1
            have Q2 := hid (HF.out.trans' ((FrC.of_below HBL.out).trans' q2))
            have Q3 := hid (fun x hx => (q3 x hx).elim (HVb.out x) (fun h => Or.inr (Nat.le_trans HF.out.size (Nat.le_trans HBL.out.size h))))
            clear q1 q2 q3
            go_wp2_with fail
            go_roundg (items.length - (k + 1))
            case measure => omega
            case rel => exact ⟨k + 1, by omega, by go_num, vb4, g4, f4, _, by simp only [mergeN]; rw [← mergeB_assoc, HS.out], Q1.out, Q2.out, Q3.out⟩)
end Go.Proofs.Ytdcinngdilfpnaa
