/-
  WALKS: an item more in a wear: next; CheckWear.
-/
import Derived.Test.YtoipcbmbhjajfaaGreatDoorCwe
import Derived.BigQuiet
import Derived.Deep.QuietTactic
namespace Go.Proofs.YtoipcbmbhjajfaaGreatDoor
open Go.RowKit

theorem single7 {p : Plot} {items : List Item} {x : Part} {n : Int} (h : inB n 0 ((items.length : Int) - 1) = false) : singleE p items x n = 7 := by unfold singleE; rw [if_pos h]
theorem single3 {p : Plot} {items : List Item} {x : Part} {n : Int} (h : inB n 0 ((items.length : Int) - 1) = true) (h2 : (it items n.toNat).kind ≠ x.kind) : singleE p items x n = 3 := by unfold singleE; rw [if_neg (by simp [h]), if_neg h2]
theorem singleF {p : Plot} {items : List Item} {x : Part} {n : Int} (h : inB n 0 ((items.length : Int) - 1) = true) (h2 : (it items n.toNat).kind = x.kind) : singleE p items x n = if fitE (it items n.toNat) (sp p.persons x.person.toNat) = 2 then 10 else if fitE (it items n.toNat) (sp p.persons x.person.toNat) = 3 then 15 else 0 := by unfold singleE; rw [if_neg (by simp [h]), if_pos h2]
theorem fitE_or (x : Item) (s : Int × Int) : fitE x s = 1 ∨ fitE x s = 2 ∨ fitE x s = 3 := by 
  unfold fitE
  split
  · exact .inl rfl
  · split
    · exact .inr (.inl rfl)
    · exact .inr (.inr rfl)
theorem next_bad {p : Plot} {items : List Item} {parts : List Part} {b : List Int} {n : Int} (h : singleE p items (pt parts b.length) n ≠ 0) : nextE p items parts b n = singleE p items (pt parts b.length) n := by unfold nextE; rw [if_neg h]
theorem next_fine {p : Plot} {items : List Item} {parts : List Part} {b : List Int} {n : Int} (h : singleE p items (pt parts b.length) n = 0) : nextE p items parts b n = firstBad (fun k => doubleE p items (pt parts k) (pt parts b.length) (nm b k) n) b.length := by unfold nextE; rw [if_pos h]
theorem double_same {p : Plot} {items : List Item} {y x : Part} {m n : Int} (h : y.person = x.person) : doubleE p items y x m n = if y.kind = x.kind ∧ m ≠ n ∧ betweenP y x < wayP p y x true then 12 else 0 := by unfold doubleE; rw [if_pos h]
theorem double_other {p : Plot} {items : List Item} {y x : Part} {m n : Int} (h : y.person ≠ x.person) : doubleE p items y x m n = if m = n ∧ betweenP y x < (it items n.toNat).clean then 11 else 0 := by unfold doubleE; rw [if_neg h]

set_option linter.unusedSimpArgs false in
set_option linter.unusedVariables false in
set_option maxHeartbeats 8000000 in
set_option maxRecDepth 100000 in
theorem next_any (p : Plot) (items : List Item) (b : List Int) (n : Int) (vp vw vd vq vi vb : Value) (w : World) (h : PlotAt none w vp vw vd vq p) (hI : ItemsAt none w vi items) (hB : IntsAt none w vb b) (hv : plotErr p = 0) (hb : b.length < p.parts.length) (hl : items.length ≤ 30) (hcl : ∀ i, i < items.length → 0 ≤ (it items i).clean ∧ (it items i).clean ≤ 1440) :
    Calls Tryz.prog 71 #[plotV vp vw vd vq, vi, vb, .int .i64 n] w fun e w' => e = .returned (.int .i64 (nextE p items p.parts b n)) ∧ Below w.heap.size w w' := by
  have H := hid h
  have HI := hid hI
  have HBv := hid hB
  have V := hid (plotErr_zero.1 hv)
  have hfew := V.out.few
  have Hsq := hid (show Square p from ⟨fun i hi => rowE_zero (V.out.rows i hi), V.out.dresses⟩)
  have Hcl := hid hcl
  have HWY := hid (fun (y x : Part) (d : Bool) (W' : World) (hb : Below w.heap.size w W') (hy : Placed p y) (hx : Placed p x) => way_any p y x d vp vw vd vq W' (h.below hb) Hsq.out hy hx)
  obtain ⟨ap, cp, rfl⟩ := h.persons.form
  obtain ⟨aw, cw, rfl⟩ := h.walk.form
  obtain ⟨ad, cd, ed, _⟩ := h.dress
  subst ed
  obtain ⟨aq, cq, rfl⟩ := h.parts.form
  obtain ⟨ai, ci, rfl⟩ := hI.form
  obtain ⟨ab, cb, eb, _⟩ := hB
  subst eb
  clear h hI hv hcl
  have zl : IntKind.i64.wrap ((items.length : Int) - 1) = (items.length : Int) - 1 := IntWalk.i64_in _ (by omega)
  have hcc := PartsAt.cells H.out.parts hb
  obtain ⟨bq, oq, e, hbq, d0, d1, d2, d3, d4⟩ := hcc
  subst e
  have HQ := hid (show ∀ (j : Nat) (W' : World), j < p.parts.length → Below w.heap.size w W' → (W'.cell? ⟨bq, oq + j * 5, none⟩ = some (.int .i64 (pt p.parts j).person) ∧ W'.cell? ⟨bq, oq + j * 5 + 1, none⟩ = some (.int .i64 (pt p.parts j).place) ∧ W'.cell? ⟨bq, oq + j * 5 + 2, none⟩ = some (.int .i64 (pt p.parts j).kind) ∧ W'.cell? ⟨bq, oq + j * 5 + 3, none⟩ = some (.int .i64 (pt p.parts j).start) ∧ W'.cell? ⟨bq, oq + j * 5 + 4, none⟩ = some (.int .i64 (pt p.parts j).stop)) from fun j W' hj hb => by
    have hcc := PartsAt.cells (H.out.parts.below hb) hj
    obtain ⟨b', o', e, _, d⟩ := hcc
    cases e
    exact d)
  have hxa := V.out.parts b.length hb
  have hxt := alone_timed hxa
  have hxp := alone_placed hxa
  have hxq := (aloneE_zero hxa).1
  have HX0 := hid (fun (v : Int) (h0 : singleE p items (pt p.parts b.length) n = v) (h1 : v ≠ 0) => (next_bad (p := p) (items := items) (parts := p.parts) (b := b) (n := n) (by rw [h0]; exact h1)).trans h0)
  have HX1 := hid (fun (h0 : singleE p items (pt p.parts b.length) n = 0) => next_fine h0)
  have i0 : (b.length : Int) < (p.parts.length : Int) := by omega
  obtain ⟨x, hx⟩ : ∃ x, pt p.parts b.length = x := ⟨_, rfl⟩
  rw [hx] at d0 d1 d2 d3 d4 hxt hxp hxq HX0 HX1
  obtain ⟨ne, hne⟩ : ∃ ne, nextE p items p.parts b n = ne := ⟨_, rfl⟩
  rw [hne] at HX0 HX1 ⊢
  clear hx hxa hne
  have K := hid (((HK.start w).box4m (n := w.heap.size) rfl (.slice ap p.persons.length cp) (.slice aw p.walk.length cw) (.slice ad p.dress.length cd) (.slice (some ⟨bq, oq, none⟩) p.parts.length cq) 27).box5 (n := w.heap.size + 1) (by simp) (.int .i64 x.person) (.int .i64 x.place) (.int .i64 x.kind) (.int .i64 x.start) (.int .i64 x.stop) 60)
  cases hin : inB n 0 ((items.length : Int) - 1) with
  | false =>
    have HE := hid (HX0.out 7 (single7 hin) (by decide))
    clear HX0 HX1
    go_enter Tryz.func71, Tryz.ntmps71
    go_wp2_with (go_at_call 46; refine (cin_any _ _ _ _).mono ?_; rintro e w' ⟨rfl, rfl⟩; rw [hin])
    go_ret
    exact ⟨ret_int HE.out.symm, K.out.below⟩
  | true =>
    have hn := inB_true.1 hin
    obtain ⟨m, rfl⟩ := Int.eq_ofNat_of_zero_le hn.1
    have hm : m < items.length := by omega
    have hci := ItemsAt.cells HI.out hm
    obtain ⟨bi, oi, e, hbi, g0, g1, g2, g3, g4⟩ := hci
    subst e
    have i1 : (m : Int) < (items.length : Int) := by omega
    have HS3 := hid (fun h2 => single3 (p := p) (x := x) hin h2)
    have HSF := hid (fun h2 => singleF (p := p) (x := x) hin h2)
    have HDo := hid (fun (y : Part) (m' : Int) h => double_other (p := p) (items := items) (y := y) (x := x) (m := m') (n := (m : Int)) h)
    have hgc := Hcl.out m hm
    rw [Int.toNat_natCast] at HS3 HSF HDo
    obtain ⟨g, hg⟩ : ∃ g, it items m = g := ⟨_, rfl⟩
    rw [hg] at g0 g1 g2 g3 g4 HS3 HSF HDo hgc
    clear hg hn
    have K := hid (K.out.box5 (n := w.heap.size + 1 + 1) (by simp) (.int .i64 g.kind) (.int .i64 g.lo) (.int .i64 g.hi) (.int .i64 g.cost) (.int .i64 g.clean) 101)
    by_cases hk : g.kind = x.kind
    rotate_left
    · have HE := hid (HX0.out 3 (HS3.out hk) (by decide))
      obtain ⟨e1, e2⟩ := ne_bool hk
      clear HX0 HX1 hk
      go_enter Tryz.func71, Tryz.ntmps71
      go_wp2_with (go_at_call 46; refine (cin_any _ _ _ _).mono ?_; rintro e w' ⟨rfl, rfl⟩; rw [hin])
      go_ret
      exact ⟨ret_int HE.out.symm, K.out.below⟩
    have HSF := hid (HSF.out hk)
    obtain ⟨e1, e2⟩ := eq_bool hk
    have hql : x.person.toNat < p.persons.length := by omega
    have hxq1 := hxq.1
    have hxq2 := hxq.2
    have hcs := SpansAt.cells H.out.persons hql
    obtain ⟨bs, os, e, hbs, s0, s1⟩ := hcs
    subst e
    obtain ⟨⟨sl, sh⟩, hsp⟩ : ∃ s, sp p.persons x.person.toNat = s := ⟨_, rfl⟩
    rw [hsp] at s0 s1 HSF
    dsimp only at s0 s1
    have HSp := hid (show ∀ W', Below w.heap.size w W' → W'.cell? ⟨bs, os + x.person.toNat * 2, none⟩ = some (.int .i64 sl) ∧ W'.cell? ⟨bs, os + x.person.toNat * 2 + 1, none⟩ = some (.int .i64 sh) from fun W' hb => ⟨cell_back hb hbs s0, cell_back hb hbs s1⟩)
    have HFt := hid (fun W' => fit_of g sl sh W')
    obtain ⟨fe, hfe⟩ : ∃ fe, fitE g (sl, sh) = fe := ⟨_, rfl⟩
    have hor := fitE_or g (sl, sh)
    rw [hfe] at HSF HFt hor
    have Hor := hid hor
    clear hfe hsp hk hor s0 s1
    go_enter Tryz.func71, Tryz.ntmps71
    go_upto_region 7 with (go_at_call 46; refine (cin_any _ _ _ _).mono ?_; rintro e w' ⟨rfl, rfl⟩; rw [hin])
    clear e1 e2 d0 d1 d2 d3 d4 g0 g1 g2 g3 g4 hin
    obtain ⟨w1, hw1, K1⟩ := K.out.name
    rw [hw1]
    have K := hid K1.drew
    clear hw1 K1
    have c0 := K.out.c (b := w.heap.size) (o := 0) (v := .slice (some ⟨bs, os, none⟩) p.persons.length cp) (by simp)
    go_region_held3 (fun w' => w'.cell? ⟨w.heap.size + 1 + 1, 0, none⟩ = some (.int .i64 g.kind) ∧ w'.cell? ⟨w.heap.size + 1 + 1, 1, none⟩ = some (.int .i64 g.lo) ∧ w'.cell? ⟨w.heap.size + 1 + 1, 2, none⟩ = some (.int .i64 g.hi) ∧ w'.cell? ⟨w.heap.size + 1 + 1, 3, none⟩ = some (.int .i64 g.cost) ∧ w'.cell? ⟨w.heap.size + 1 + 1, 4, none⟩ = some (.int .i64 g.clean) ∧ w'.cell? ⟨w.heap.size, 0, none⟩ = some (.slice (some ⟨bs, os, none⟩) p.persons.length cp) ∧ w'.cell? ⟨w.heap.size + 1, 0, none⟩ = some (.int .i64 x.person) ∧ w'.cell? ⟨bs, os + x.person.toNat * 2, none⟩ = some (.int .i64 sl) ∧ w'.cell? ⟨bs, os + x.person.toNat * 2 + 1, none⟩ = some (.int .i64 sh))
      (first | exact ⟨K.out.c (by simp), K.out.c (by simp), K.out.c (by simp), K.out.c (by simp), K.out.c (by simp), K.out.c (by simp), K.out.c (by simp), HSp.out _ K.out.below⟩) (first
      | (go_at_call 88; refine (HFt.out _).mono ?_; rintro e w2 ⟨rfl, hb2⟩; have K := hid (K.out.later hb2); clear hb2))
    clear c0
    by_cases hf2 : fe = 2
    · subst hf2
      have HE := hid (HX0.out 10 (HSF.out.trans (if_pos rfl)) (by decide))
      clear HX0 HX1
      go_wp2_with fail
      go_ret
      exact ⟨ret_int HE.out.symm, K.out.below⟩
    have HSF := hid (HSF.out.trans (if_neg hf2))
    by_cases hf3 : fe = 3
    · subst hf3
      have HE := hid (HX0.out 15 (HSF.out.trans (if_pos rfl)) (by decide))
      clear HX0 HX1
      go_wp2_with fail
      go_ret
      exact ⟨ret_int HE.out.symm, K.out.below⟩
    obtain rfl : fe = 1 := by have := Hor.out; omega
    have HE := hid (HX1.out (HSF.out.trans (if_neg hf3)))
    clear HX0 HX1 HSF hf2 hf3
    go_wp2_with fail
    go_loopw [49] (fun a wr => ∃ k : Nat, k ≤ b.length ∧ a = .int .i64 k ∧ (∀ j, j < k → doubleE p items (pt p.parts j) x (nm b j) (m : Int) = 0) ∧ HK [(w.heap.size + 1 + 1, 0, .int .i64 g.kind), (w.heap.size + 1 + 1, 1, .int .i64 g.lo), (w.heap.size + 1 + 1, 2, .int .i64 g.hi), (w.heap.size + 1 + 1, 3, .int .i64 g.cost), (w.heap.size + 1 + 1, 4, .int .i64 g.clean), (w.heap.size + 1, 0, .int .i64 x.person), (w.heap.size + 1, 1, .int .i64 x.place), (w.heap.size + 1, 2, .int .i64 x.kind), (w.heap.size + 1, 3, .int .i64 x.start), (w.heap.size + 1, 4, .int .i64 x.stop), (w.heap.size, 0, .slice (some ⟨bs, os, none⟩) p.persons.length cp), (w.heap.size, 1, .slice aw p.walk.length cw), (w.heap.size, 2, .slice ad p.dress.length cd), (w.heap.size, 3, .slice (some ⟨bq, oq, none⟩) p.parts.length cq)] w wr) (fun a _ => b.length - (intOf a).toNat)
    case atStart => exact ⟨0, by omega, rfl, fun j hj => absurd hj (by omega), K.out⟩
    case round =>
      obtain ⟨k, hk, rfl, hf, KK⟩ := hrel
      have K := hid KK
      have HF := hid hf
      clear KK hf
      obtain ⟨wo, rfl⟩ : ∃ wo : World, wo = wr := ⟨_, rfl⟩
      by_cases hlt : k < b.length
      rotate_left
      · obtain rfl : k = b.length := by omega
        have HR := hid (HE.out.trans (firstBad_zero.2 HF.out))
        clear HF
        go_wp2_with fail
        go_ret
        exact ⟨ret_int HR.out.symm, K.out.below⟩
      have hkp : k < p.parts.length := by omega
      have hB2 := HBv.out.below K.out.below
      obtain ⟨bb, ob, cb', e, _, _⟩ := hB2.slice (by omega)
      cases e
      have cb0 := hB2.cell hlt
      have hya := V.out.parts k hkp
      have hyt := alone_timed hya
      have hyp := alone_placed hya
      have dk := HQ.out k _ hkp K.out.below
      have HXk := hid (fun (v : Int) (hv : doubleE p items (pt p.parts k) x (nm b k) (m : Int) = v) (h0 : v ≠ 0) => HE.out.trans ((firstBad_at (f := fun k => doubleE p items (pt p.parts k) x (nm b k) (m : Int)) hlt HF.out (by show doubleE p items (pt p.parts k) x (nm b k) (m : Int) ≠ 0; rw [hv]; exact h0)).trans hv))
      have HNk := hid (fun (hv : doubleE p items (pt p.parts k) x (nm b k) (m : Int) = 0) (j : Nat) (hj : j < k + 1) => show doubleE p items (pt p.parts j) x (nm b j) (m : Int) = 0 from by
        by_cases e : j = k
        · rw [e]; exact hv
        · exact HF.out j (by omega))
      obtain ⟨y, hy⟩ : ∃ y, pt p.parts k = y := ⟨_, rfl⟩
      obtain ⟨o, ho⟩ : ∃ o, nm b k = o := ⟨_, rfl⟩
      rw [hy] at HXk HNk hyt hyp dk
      rw [ho] at HXk HNk cb0
      obtain ⟨d0, d1, d2, d3, d4⟩ := dk
      clear hya HF hy ho hB2
      have j1 : (k : Int) < (b.length : Int) := by omega
      have j2 : (k : Int) < (p.parts.length : Int) := by omega
      have z1 : IntKind.i64.wrap ((k : Int) + 1) = (k : Int) + 1 := IntWalk.i64_in _ (by omega)
      have HBt := hid (fun W' => between_any y x W' hyt hxt)
      have HCl := hid (fun W' => cleaned_any y x W' hyt hxt)
      have HWy := hid (fun W' hb => HWY.out y x true W' hb hyp hxp)
      have HDs := hid (fun h => double_same (p := p) (items := items) (y := y) (x := x) (m := o) (n := (m : Int)) h)
      have HDo := hid (fun h => HDo.out y o h)
      obtain ⟨bt, hbt⟩ : ∃ bt, betweenP y x = bt := ⟨_, rfl⟩
      obtain ⟨wy, hwy⟩ : ∃ wy, wayP p y x true = wy := ⟨_, rfl⟩
      rw [hbt] at HBt HCl HDs HDo
      rw [hwy] at HWy HDs
      clear hbt hwy
      have p3 := K.out.c (b := w.heap.size) (o := 3) (v := .slice (some ⟨bq, oq, none⟩) p.parts.length cq) (by simp)
      have K := hid (K.out.box5 (n := wo.heap.size) rfl (.int .i64 y.person) (.int .i64 y.place) (.int .i64 y.kind) (.int .i64 y.start) (.int .i64 y.stop) 60)
      go_upto_region 16 with fail
      obtain ⟨Y, hY⟩ : ∃ Y, wo.heap.size = Y := ⟨_, rfl⟩
      obtain ⟨wz, hwz, KY⟩ := K.out.name
      rw [hwz, hY]
      rw [hY] at KY
      have K := hid KY
      clear hwz KY hY d0 d1 d2 d3 d4 p3
      by_cases hpp : y.person = x.person
      · have HDs := hid (HDs.out hpp)
        obtain ⟨a1, a2⟩ := eq_bool hpp
        clear hpp HDo
        by_cases hkd : y.kind = x.kind
        · obtain ⟨a3, a4⟩ := eq_bool hkd
          by_cases hon : o = (m : Int)
          · obtain ⟨a5, a6⟩ := eq_bool hon
            have HG := hid (HNk.out (HDs.out.trans (if_neg (fun h => h.2.1 hon))))
            clear hkd hon HNk HXk
            have c0 := K.out.c (b := Y) (o := 0) (v := .int .i64 y.person) (by simp)
            have c1 := K.out.c (b := Y) (o := 2) (v := .int .i64 y.kind) (by simp)
            have c2 := K.out.c (b := w.heap.size + 1) (o := 0) (v := .int .i64 x.person) (by simp)
            have c3 := K.out.c (b := w.heap.size + 1) (o := 2) (v := .int .i64 x.kind) (by simp)
            go_quiet (fail)
            have K := hid (K.out.drewN nq)
            clear c0 c1 c2 c3
            go_upto_region 18 with fail
            obtain ⟨wq, hwq, KQ⟩ := K.out.name
            rw [hwq]
            have K := hid KQ
            clear hwq KQ
            have c0 := K.out.c (b := Y) (o := 0) (v := .int .i64 y.person) (by simp)
            have c1 := K.out.c (b := Y) (o := 2) (v := .int .i64 y.kind) (by simp)
            have c2 := K.out.c (b := w.heap.size + 1) (o := 0) (v := .int .i64 x.person) (by simp)
            have c3 := K.out.c (b := w.heap.size + 1) (o := 2) (v := .int .i64 x.kind) (by simp)
            go_quiet (fail)
            have K := hid (K.out.drewN nq)
            clear c0 c1 c2 c3
            go_wp2_with fail
            go_roundw
            case rel => exact ⟨k + 1, by omega, by go_num, HG.out, K.out.subs (fun x hx => List.mem_cons_of_mem _ (List.mem_cons_of_mem _ (List.mem_cons_of_mem _ (List.mem_cons_of_mem _ (List.mem_cons_of_mem _ hx)))))⟩
            case measure => simp [intOf] <;> omega
          · obtain ⟨a5, a6⟩ := ne_bool hon
            by_cases hlt2 : bt < wy
            · have HR := hid (HXk.out 12 (HDs.out.trans (if_pos ⟨hkd, hon, hlt2⟩)) (by decide))
              clear hkd hon HNk HXk
              have K := hid K.out.drew
              go_region_held3 (fun w' => w'.cell? ⟨Y, 0, none⟩ = some (.int .i64 y.person) ∧ w'.cell? ⟨Y, 1, none⟩ = some (.int .i64 y.place) ∧ w'.cell? ⟨Y, 2, none⟩ = some (.int .i64 y.kind) ∧ w'.cell? ⟨Y, 3, none⟩ = some (.int .i64 y.start) ∧ w'.cell? ⟨Y, 4, none⟩ = some (.int .i64 y.stop) ∧ w'.cell? ⟨w.heap.size + 1, 0, none⟩ = some (.int .i64 x.person) ∧ w'.cell? ⟨w.heap.size + 1, 1, none⟩ = some (.int .i64 x.place) ∧ w'.cell? ⟨w.heap.size + 1, 2, none⟩ = some (.int .i64 x.kind) ∧ w'.cell? ⟨w.heap.size + 1, 3, none⟩ = some (.int .i64 x.start) ∧ w'.cell? ⟨w.heap.size + 1, 4, none⟩ = some (.int .i64 x.stop) ∧ w'.cell? ⟨w.heap.size, 0, none⟩ = some (.slice (some ⟨bs, os, none⟩) p.persons.length cp) ∧ w'.cell? ⟨w.heap.size, 1, none⟩ = some (.slice aw p.walk.length cw) ∧ w'.cell? ⟨w.heap.size, 2, none⟩ = some (.slice ad p.dress.length cd) ∧ w'.cell? ⟨w.heap.size, 3, none⟩ = some (.slice (some ⟨bq, oq, none⟩) p.parts.length cq))
                (first | exact ⟨K.out.c (by simp), K.out.c (by simp), K.out.c (by simp), K.out.c (by simp), K.out.c (by simp), K.out.c (by simp), K.out.c (by simp), K.out.c (by simp), K.out.c (by simp), K.out.c (by simp), K.out.c (by simp), K.out.c (by simp), K.out.c (by simp), K.out.c (by simp)⟩) (first
                | (go_at_call 76; refine (HBt.out _).mono ?_; rintro e w2 ⟨rfl, hb2⟩; have K := hid (K.out.later hb2); clear hb2)
                | (go_at_call 77; refine (HWy.out _ K.out.below).mono ?_; rintro e w3 ⟨rfl, hb2⟩; have K := hid (K.out.later hb2); clear hb2))
              go_wp2_with fail
              go_ret
              exact ⟨ret_int HR.out.symm, K.out.below⟩
            · have HG := hid (HNk.out (HDs.out.trans (if_neg (fun h => hlt2 h.2.2))))
              clear hkd hon HNk HXk
              have K := hid K.out.drew
              go_region_held3 (fun w' => w'.cell? ⟨Y, 0, none⟩ = some (.int .i64 y.person) ∧ w'.cell? ⟨Y, 1, none⟩ = some (.int .i64 y.place) ∧ w'.cell? ⟨Y, 2, none⟩ = some (.int .i64 y.kind) ∧ w'.cell? ⟨Y, 3, none⟩ = some (.int .i64 y.start) ∧ w'.cell? ⟨Y, 4, none⟩ = some (.int .i64 y.stop) ∧ w'.cell? ⟨w.heap.size + 1, 0, none⟩ = some (.int .i64 x.person) ∧ w'.cell? ⟨w.heap.size + 1, 1, none⟩ = some (.int .i64 x.place) ∧ w'.cell? ⟨w.heap.size + 1, 2, none⟩ = some (.int .i64 x.kind) ∧ w'.cell? ⟨w.heap.size + 1, 3, none⟩ = some (.int .i64 x.start) ∧ w'.cell? ⟨w.heap.size + 1, 4, none⟩ = some (.int .i64 x.stop) ∧ w'.cell? ⟨w.heap.size, 0, none⟩ = some (.slice (some ⟨bs, os, none⟩) p.persons.length cp) ∧ w'.cell? ⟨w.heap.size, 1, none⟩ = some (.slice aw p.walk.length cw) ∧ w'.cell? ⟨w.heap.size, 2, none⟩ = some (.slice ad p.dress.length cd) ∧ w'.cell? ⟨w.heap.size, 3, none⟩ = some (.slice (some ⟨bq, oq, none⟩) p.parts.length cq))
                (first | exact ⟨K.out.c (by simp), K.out.c (by simp), K.out.c (by simp), K.out.c (by simp), K.out.c (by simp), K.out.c (by simp), K.out.c (by simp), K.out.c (by simp), K.out.c (by simp), K.out.c (by simp), K.out.c (by simp), K.out.c (by simp), K.out.c (by simp), K.out.c (by simp)⟩) (first
                | (go_at_call 76; refine (HBt.out _).mono ?_; rintro e w2 ⟨rfl, hb2⟩; have K := hid (K.out.later hb2); clear hb2)
                | (go_at_call 77; refine (HWy.out _ K.out.below).mono ?_; rintro e w3 ⟨rfl, hb2⟩; have K := hid (K.out.later hb2); clear hb2))
              go_upto_region 18 with fail
              obtain ⟨wq, hwq, KQ⟩ := K.out.name
              rw [hwq]
              have K := hid KQ
              clear hwq KQ
              have c0 := K.out.c (b := Y) (o := 0) (v := .int .i64 y.person) (by simp)
              have c1 := K.out.c (b := Y) (o := 2) (v := .int .i64 y.kind) (by simp)
              have c2 := K.out.c (b := w.heap.size + 1) (o := 0) (v := .int .i64 x.person) (by simp)
              have c3 := K.out.c (b := w.heap.size + 1) (o := 2) (v := .int .i64 x.kind) (by simp)
              go_quiet (fail)
              have K := hid (K.out.drewN nq)
              clear c0 c1 c2 c3
              go_wp2_with fail
              go_roundw
              case rel => exact ⟨k + 1, by omega, by go_num, HG.out, K.out.subs (fun x hx => List.mem_cons_of_mem _ (List.mem_cons_of_mem _ (List.mem_cons_of_mem _ (List.mem_cons_of_mem _ (List.mem_cons_of_mem _ hx)))))⟩
              case measure => simp [intOf] <;> omega
        · obtain ⟨a3, a4⟩ := ne_bool hkd
          have HG := hid (HNk.out (HDs.out.trans (if_neg (fun h => hkd h.1))))
          clear hkd HNk HXk
          have c0 := K.out.c (b := Y) (o := 0) (v := .int .i64 y.person) (by simp)
          have c1 := K.out.c (b := Y) (o := 2) (v := .int .i64 y.kind) (by simp)
          have c2 := K.out.c (b := w.heap.size + 1) (o := 0) (v := .int .i64 x.person) (by simp)
          have c3 := K.out.c (b := w.heap.size + 1) (o := 2) (v := .int .i64 x.kind) (by simp)
          go_quiet (fail)
          have K := hid (K.out.drewN nq)
          clear c0 c1 c2 c3
          go_upto_region 18 with fail
          obtain ⟨wq, hwq, KQ⟩ := K.out.name
          rw [hwq]
          have K := hid KQ
          clear hwq KQ
          have c0 := K.out.c (b := Y) (o := 0) (v := .int .i64 y.person) (by simp)
          have c1 := K.out.c (b := Y) (o := 2) (v := .int .i64 y.kind) (by simp)
          have c2 := K.out.c (b := w.heap.size + 1) (o := 0) (v := .int .i64 x.person) (by simp)
          have c3 := K.out.c (b := w.heap.size + 1) (o := 2) (v := .int .i64 x.kind) (by simp)
          go_quiet (fail)
          have K := hid (K.out.drewN nq)
          clear c0 c1 c2 c3
          go_wp2_with fail
          go_roundw
          case rel => exact ⟨k + 1, by omega, by go_num, HG.out, K.out.subs (fun x hx => List.mem_cons_of_mem _ (List.mem_cons_of_mem _ (List.mem_cons_of_mem _ (List.mem_cons_of_mem _ (List.mem_cons_of_mem _ hx)))))⟩
          case measure => simp [intOf] <;> omega
      · have HDo := hid (HDo.out hpp)
        obtain ⟨a1, a2⟩ := ne_bool hpp
        clear hpp HDs
        by_cases hon : o = (m : Int)
        · obtain ⟨a5, a6⟩ := eq_bool hon
          by_cases hlt2 : bt < g.clean
          · have HR := hid (HXk.out 11 (HDo.out.trans (if_pos ⟨hon, hlt2⟩)) (by decide))
            clear hon HNk HXk
            have c0 := K.out.c (b := Y) (o := 0) (v := .int .i64 y.person) (by simp)
            have c1 := K.out.c (b := Y) (o := 2) (v := .int .i64 y.kind) (by simp)
            have c2 := K.out.c (b := w.heap.size + 1) (o := 0) (v := .int .i64 x.person) (by simp)
            have c3 := K.out.c (b := w.heap.size + 1) (o := 2) (v := .int .i64 x.kind) (by simp)
            go_quiet (fail)
            have K := hid (K.out.drewN nq)
            clear c0 c1 c2 c3
            go_upto_region 18 with fail
            have K := hid K.out.drew
            go_region_held3 (fun w' => w'.cell? ⟨Y, 0, none⟩ = some (.int .i64 y.person) ∧ w'.cell? ⟨Y, 1, none⟩ = some (.int .i64 y.place) ∧ w'.cell? ⟨Y, 2, none⟩ = some (.int .i64 y.kind) ∧ w'.cell? ⟨Y, 3, none⟩ = some (.int .i64 y.start) ∧ w'.cell? ⟨Y, 4, none⟩ = some (.int .i64 y.stop) ∧ w'.cell? ⟨w.heap.size + 1, 0, none⟩ = some (.int .i64 x.person) ∧ w'.cell? ⟨w.heap.size + 1, 1, none⟩ = some (.int .i64 x.place) ∧ w'.cell? ⟨w.heap.size + 1, 2, none⟩ = some (.int .i64 x.kind) ∧ w'.cell? ⟨w.heap.size + 1, 3, none⟩ = some (.int .i64 x.start) ∧ w'.cell? ⟨w.heap.size + 1, 4, none⟩ = some (.int .i64 x.stop) ∧ w'.cell? ⟨w.heap.size + 1 + 1, 4, none⟩ = some (.int .i64 g.clean))
              (first | exact ⟨K.out.c (by simp), K.out.c (by simp), K.out.c (by simp), K.out.c (by simp), K.out.c (by simp), K.out.c (by simp), K.out.c (by simp), K.out.c (by simp), K.out.c (by simp), K.out.c (by simp), K.out.c (by simp)⟩) (first
              | (go_at_call 89; refine (HCl.out _).mono ?_; rintro e w4 ⟨rfl, hb2⟩; have K := hid (K.out.later hb2); clear hb2))
            go_wp2_with fail
            go_ret
            exact ⟨ret_int HR.out.symm, K.out.below⟩
          · have HG := hid (HNk.out (HDo.out.trans (if_neg (fun h => hlt2 h.2))))
            clear hon HNk HXk
            have c0 := K.out.c (b := Y) (o := 0) (v := .int .i64 y.person) (by simp)
            have c1 := K.out.c (b := Y) (o := 2) (v := .int .i64 y.kind) (by simp)
            have c2 := K.out.c (b := w.heap.size + 1) (o := 0) (v := .int .i64 x.person) (by simp)
            have c3 := K.out.c (b := w.heap.size + 1) (o := 2) (v := .int .i64 x.kind) (by simp)
            go_quiet (fail)
            have K := hid (K.out.drewN nq)
            clear c0 c1 c2 c3
            go_upto_region 18 with fail
            have K := hid K.out.drew
            go_region_held3 (fun w' => w'.cell? ⟨Y, 0, none⟩ = some (.int .i64 y.person) ∧ w'.cell? ⟨Y, 1, none⟩ = some (.int .i64 y.place) ∧ w'.cell? ⟨Y, 2, none⟩ = some (.int .i64 y.kind) ∧ w'.cell? ⟨Y, 3, none⟩ = some (.int .i64 y.start) ∧ w'.cell? ⟨Y, 4, none⟩ = some (.int .i64 y.stop) ∧ w'.cell? ⟨w.heap.size + 1, 0, none⟩ = some (.int .i64 x.person) ∧ w'.cell? ⟨w.heap.size + 1, 1, none⟩ = some (.int .i64 x.place) ∧ w'.cell? ⟨w.heap.size + 1, 2, none⟩ = some (.int .i64 x.kind) ∧ w'.cell? ⟨w.heap.size + 1, 3, none⟩ = some (.int .i64 x.start) ∧ w'.cell? ⟨w.heap.size + 1, 4, none⟩ = some (.int .i64 x.stop) ∧ w'.cell? ⟨w.heap.size + 1 + 1, 4, none⟩ = some (.int .i64 g.clean))
              (first | exact ⟨K.out.c (by simp), K.out.c (by simp), K.out.c (by simp), K.out.c (by simp), K.out.c (by simp), K.out.c (by simp), K.out.c (by simp), K.out.c (by simp), K.out.c (by simp), K.out.c (by simp), K.out.c (by simp)⟩) (first
              | (go_at_call 89; refine (HCl.out _).mono ?_; rintro e w4 ⟨rfl, hb2⟩; have K := hid (K.out.later hb2); clear hb2))
            go_wp2_with fail
            go_roundw
            case rel => exact ⟨k + 1, by omega, by go_num, HG.out, K.out.subs (fun x hx => List.mem_cons_of_mem _ (List.mem_cons_of_mem _ (List.mem_cons_of_mem _ (List.mem_cons_of_mem _ (List.mem_cons_of_mem _ hx)))))⟩
            case measure => simp [intOf] <;> omega
        · obtain ⟨a5, a6⟩ := ne_bool hon
          have HG := hid (HNk.out (HDo.out.trans (if_neg (fun h => hon h.1))))
          clear hon HNk HXk
          have c0 := K.out.c (b := Y) (o := 0) (v := .int .i64 y.person) (by simp)
          have c1 := K.out.c (b := Y) (o := 2) (v := .int .i64 y.kind) (by simp)
          have c2 := K.out.c (b := w.heap.size + 1) (o := 0) (v := .int .i64 x.person) (by simp)
          have c3 := K.out.c (b := w.heap.size + 1) (o := 2) (v := .int .i64 x.kind) (by simp)
          go_quiet (fail)
          have K := hid (K.out.drewN nq)
          clear c0 c1 c2 c3
          go_upto_region 18 with fail
          obtain ⟨wq, hwq, KQ⟩ := K.out.name
          rw [hwq]
          have K := hid KQ
          clear hwq KQ
          have c0 := K.out.c (b := Y) (o := 0) (v := .int .i64 y.person) (by simp)
          have c1 := K.out.c (b := Y) (o := 2) (v := .int .i64 y.kind) (by simp)
          have c2 := K.out.c (b := w.heap.size + 1) (o := 0) (v := .int .i64 x.person) (by simp)
          have c3 := K.out.c (b := w.heap.size + 1) (o := 2) (v := .int .i64 x.kind) (by simp)
          go_quiet (fail)
          have K := hid (K.out.drewN nq)
          clear c0 c1 c2 c3
          go_wp2_with fail
          go_roundw
          case rel => exact ⟨k + 1, by omega, by go_num, HG.out, K.out.subs (fun x hx => List.mem_cons_of_mem _ (List.mem_cons_of_mem _ (List.mem_cons_of_mem _ (List.mem_cons_of_mem _ (List.mem_cons_of_mem _ hx)))))⟩
          case measure => simp [intOf] <;> omega
end Go.Proofs.YtoipcbmbhjajfaaGreatDoor
