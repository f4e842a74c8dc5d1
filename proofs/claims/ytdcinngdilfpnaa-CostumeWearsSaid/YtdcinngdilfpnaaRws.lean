/-
  WALKS: the reference's look at a wear: single, double.
  WALKS: the reference's look at two parts of a wear: double.
  WALKS: the reference's cost.
  WALKS: the reference's look at a wear: Wears, CheckWear, Cost, checkFew.
-/
import Derived.Test.YtdcinngdilfpnaaRfi
import Derived.BigQuiet
import Derived.Deep.QuietTactic
import Derived.Test.YtdcinngdilfpnaaRci
import Derived.Test.YtdcinngdilfpnaaCfw
import Derived.Test.YtdcinngdilfpnaaCht
namespace Go.Proofs.Ytdcinngdilfpnaa
open Go.RowKit

set_option linter.unusedSimpArgs false in
set_option linter.unusedVariables false in
set_option maxHeartbeats 4000000 in
set_option maxRecDepth 100000 in
theorem rsingle_any (p : Plot) (items : List Item) (x : Part) (n : Int) (vp vw vd vq vi : Value) (w : World) (h : PlotAt none w vp vw vd vq p) (hI : ItemsAt none w vi items) (hxq : 0 ≤ x.person ∧ x.person < p.persons.length) (hl : items.length ≤ 30) :
    Calls Try.prog 110 #[plotV vp vw vd vq, vi, partV x, .int .i64 n] w fun e w' => e = .returned (.int .i64 (singleE p items x n)) ∧ Below w.heap.size w w' := by
  have H := hid h
  have HI := hid hI
  obtain ⟨ap, cp, rfl⟩ := h.persons.form
  obtain ⟨ai, ci, rfl⟩ := hI.form
  clear h hI
  have zl : IntKind.i64.wrap ((items.length : Int) - 1) = (items.length : Int) - 1 := IntWalk.i64_in _ (by omega)
  have K := hid (((HK.start w).box4m (n := w.heap.size) rfl (.slice ap p.persons.length cp) vw vd vq 29).box5 (n := w.heap.size + 1) (by simp) (.int .i64 x.person) (.int .i64 x.place) (.int .i64 x.kind) (.int .i64 x.start) (.int .i64 x.stop) 38)
  cases hin : inB n 0 ((items.length : Int) - 1) with
  | false =>
    have HE := hid (single7 (p := p) (x := x) hin)
    go_enter Try.func110, Try.ntmps110
    go_wp2_with (go_at_call 74; refine (rwithin_any _ _ _ _).mono ?_; rintro e w' ⟨rfl, rfl⟩; rw [hin])
    go_ret
    exact ⟨ret_int HE.out.symm, K.out.below⟩
  | true =>
    have hn := inB_true.1 hin
    obtain ⟨m, rfl⟩ := Int.eq_ofNat_of_zero_le hn.1
    have hm : m < items.length := by omega
    have hci := ItemsAt.cells HI.out hm
    obtain ⟨bi, oi, e, hbi, g0, g1, g2, g3, g4⟩ := hci
    subst e
    have i1 : (m : Int) < (items.length : Int) := by omega
    have HS3 := hid (fun h2 => single3 (p := p) (x := x) hin h2)
    have HSF := hid (fun h2 => singleF (p := p) (x := x) hin h2)
    rw [Int.toNat_natCast] at HS3 HSF
    obtain ⟨g, hg⟩ : ∃ g, it items m = g := ⟨_, rfl⟩
    rw [hg] at g0 g1 g2 g3 g4 HS3 HSF
    have HG := hid (show ∀ W', Below w.heap.size w W' → (W'.cell? ⟨bi, oi + m * 5, none⟩ = some (.int .i64 g.kind) ∧ W'.cell? ⟨bi, oi + m * 5 + 1, none⟩ = some (.int .i64 g.lo) ∧ W'.cell? ⟨bi, oi + m * 5 + 2, none⟩ = some (.int .i64 g.hi)) from
      fun W' hb => ⟨cell_back hb hbi g0, cell_back hb hbi g1, cell_back hb hbi g2⟩)
    obtain ⟨se, hse⟩ : ∃ se, singleE p items x (m : Int) = se := ⟨_, rfl⟩
    rw [hse] at HS3 HSF ⊢
    clear hg hn hse
    by_cases hk : g.kind = x.kind
    rotate_left
    · have HE := hid (HS3.out hk)
      obtain ⟨e1, e2⟩ := ne_bool hk
      clear hk HS3 HSF
      go_enter Try.func110, Try.ntmps110
      go_upto_region 3 with (go_at_call 74; refine (rwithin_any _ _ _ _).mono ?_; rintro e w' ⟨rfl, rfl⟩; rw [hin])
      clear hin
      go_quiet (fail)
      have K := hid (K.out.drewN nq)
      go_wp2_with fail
      go_ret
      exact ⟨ret_int HE.out.symm, K.out.below⟩
    have HSF := hid (HSF.out hk)
    obtain ⟨e1, e2⟩ := eq_bool hk
    have hql : x.person.toNat < p.persons.length := by omega
    have hxq1 := hxq.1
    have hxq2 := hxq.2
    have hcs := SpansAt.cells H.out.persons hql
    obtain ⟨bs, os, e, hbs, s0, s1⟩ := hcs
    subst e
    obtain ⟨⟨sl, sh⟩, hsp⟩ : ∃ s, sp p.persons x.person.toNat = s := ⟨_, rfl⟩
    rw [hsp] at s0 s1 HSF
    dsimp only at s0 s1
    have HSp := hid (show ∀ W', Below w.heap.size w W' → W'.cell? ⟨bs, os + x.person.toNat * 2, none⟩ = some (.int .i64 sl) ∧ W'.cell? ⟨bs, os + x.person.toNat * 2 + 1, none⟩ = some (.int .i64 sh) from fun W' hb => ⟨cell_back hb hbs s0, cell_back hb hbs s1⟩)
    have HFt := hid (fun W' => rfit_any g sl sh W')
    obtain ⟨fe, hfe⟩ : ∃ fe, fitE g (sl, sh) = fe := ⟨_, rfl⟩
    have hor := fitE_or g (sl, sh)
    rw [hfe] at HSF HFt hor
    have Hor := hid hor
    clear hfe hsp hk hor s0 s1 HS3
    go_enter Try.func110, Try.ntmps110
    go_upto_region 3 with (go_at_call 74; refine (rwithin_any _ _ _ _).mono ?_; rintro e w' ⟨rfl, rfl⟩; rw [hin])
    clear hin
    go_quiet (fail)
    have K := hid (K.out.drewN nq)
    clear g0 g1 g2 g3 g4
    go_upto_region 5 with fail
    clear e1 e2
    obtain ⟨w1, hw1, K1⟩ := K.out.name
    rw [hw1]
    have K := hid K1.drew
    clear hw1 K1
    go_region_held3 (fun w' => w'.cell? ⟨w.heap.size, 0, none⟩ = some (.slice (some ⟨bs, os, none⟩) p.persons.length cp) ∧ w'.cell? ⟨w.heap.size + 1, 0, none⟩ = some (.int .i64 x.person) ∧ (w'.cell? ⟨bi, oi + m * 5, none⟩ = some (.int .i64 g.kind) ∧ w'.cell? ⟨bi, oi + m * 5 + 1, none⟩ = some (.int .i64 g.lo) ∧ w'.cell? ⟨bi, oi + m * 5 + 2, none⟩ = some (.int .i64 g.hi)) ∧ w'.cell? ⟨bs, os + x.person.toNat * 2, none⟩ = some (.int .i64 sl) ∧ w'.cell? ⟨bs, os + x.person.toNat * 2 + 1, none⟩ = some (.int .i64 sh))
      (first | exact ⟨K.out.c (by simp), K.out.c (by simp), HG.out _ K.out.below, HSp.out _ K.out.below⟩) (first
      | (go_at_call 92; refine (HFt.out _).mono ?_; rintro e w2 ⟨rfl, hb2⟩; have K := hid (K.out.later hb2); clear hb2))
    by_cases hf2 : fe = 2
    · subst hf2
      have HE := hid (HSF.out.trans (if_pos rfl))
      go_wp2_with fail
      go_ret
      exact ⟨ret_int HE.out.symm, K.out.below⟩
    have HSF := hid (HSF.out.trans (if_neg hf2))
    by_cases hf3 : fe = 3
    · subst hf3
      have HE := hid (HSF.out.trans (if_pos rfl))
      go_wp2_with fail
      go_ret
      exact ⟨ret_int HE.out.symm, K.out.below⟩
    obtain rfl : fe = 1 := by have := Hor.out; omega
    have HE := hid (HSF.out.trans (if_neg hf3))
    clear HSF hf2 hf3
    go_wp2_with fail
    go_ret
    exact ⟨ret_int HE.out.symm, K.out.below⟩
end Go.Proofs.Ytdcinngdilfpnaa

namespace Go.Proofs.Ytdcinngdilfpnaa
open Go.RowKit

set_option linter.unusedSimpArgs false in
set_option linter.unusedVariables false in
set_option maxHeartbeats 8000000 in
set_option maxRecDepth 100000 in
theorem rdouble_any (p : Plot) (items : List Item) (y x : Part) (m : Nat) (n : Int) (vp vw vd vq vi : Value) (w : World) (h : PlotAt none w vp vw vd vq p) (hI : ItemsAt none w vi items) (hs : Square p) (hy : Placed p y) (hx : Placed p x) (hty : Timed y) (htx : Timed x) (hm : m < items.length) (hcl : 0 ≤ (it items m).clean ∧ (it items m).clean ≤ 1440) :
    Calls Try.prog 111 #[plotV vp vw vd vq, vi, partV y, partV x, .int .i64 m, .int .i64 n] w fun e w' => e = .returned (.int .i64 (doubleE p items y x m n)) ∧ Below w.heap.size w w' := by
  have hT := placed_inTime hy hx
  have hTm := timed_inTime hty htx
  have HT := hid (fun W => rordered_any y x W)
  have HDs := hid (fun h => double_same (p := p) (items := items) (y := y) (x := x) (m := (m : Int)) (n := n) h)
  have HDo := hid (fun h => double_other (p := p) (items := items) (y := y) (x := x) (m := (m : Int)) (n := n) h)
  have HDp := hid (fun (h1 : y.person ≠ x.person) (h2 : (m : Int) ≠ n) => (double_other (p := p) (items := items) (y := y) (x := x) (m := (m : Int)) (n := n) h1).trans (if_neg fun hh => h2 hh.1))
  have hkk : y.kind = x.kind → (inTime y x).2.kind = y.kind := fun e => by unfold inTime; split <;> simp [e]
  have eb : betweenP y x = (inTime y x).2.start - (inTime y x).1.stop := rfl
  have ew : wayP p y x true = nm (lst p.walk (inTime y x).1.place.toNat) (inTime y x).2.place.toNat + nm p.dress (inTime y x).2.kind.toNat := by unfold wayP; rw [if_pos rfl]
  rw [eb, ew] at HDs
  rw [eb] at HDo
  obtain ⟨de, hde⟩ : ∃ de, doubleE p items y x (m : Int) n = de := ⟨_, rfl⟩
  rw [hde] at HDs HDo HDp ⊢
  clear eb ew hde
  obtain ⟨⟨a1, a2, a3, a4, a5⟩, ⟨b1, b2, b3, b4, b5⟩, hAB⟩ : ∃ A B, inTime y x = (A, B) := ⟨_, _, rfl⟩
  rw [hAB] at HT hT hTm HDs HDo hkk
  dsimp only at hT HT hTm HDs HDo hkk
  obtain ⟨⟨⟨q1, q2⟩, q3, q4⟩, ⟨r1, r2⟩, r3, r4⟩ := hT
  obtain ⟨⟨t1, t2, t3, t4⟩, t5, t6, t7, t8⟩ := hTm
  dsimp only at q1 q2 q3 q4 r1 r2 r3 r4 t1 t2 t3 t4 t5 t6 t7 t8
  obtain ⟨i, rfl⟩ : ∃ m : Nat, a2 = m := ⟨a2.toNat, by omega⟩
  obtain ⟨j, rfl⟩ : ∃ n : Nat, b2 = n := ⟨b2.toNat, by omega⟩
  simp only [Int.toNat_natCast] at HDs HDo
  have hi : i < p.walk.length := by omega
  have hj : j < p.walk.length := by omega
  obtain ⟨ai, ci, rfl⟩ := hI.form
  have hci := ItemsAt.cells hI hm
  obtain ⟨bi, oi, e, hbi, g0, g1, g2, g3, g4⟩ := hci
  subst e
  obtain ⟨aw, cw, rfl⟩ := h.walk.form
  obtain ⟨bw, ow, u, rfl, hbw, cu, hu⟩ := h.walk.row hi
  obtain ⟨hrl, hrb⟩ := hs.row i hi
  obtain ⟨br, or', cr, rfl, _, _⟩ := hu.slice (by omega)
  have cn := hu.cell (i := j) (by omega)
  have hyk := hy.2
  obtain ⟨q, hq⟩ : ∃ q : Nat, y.kind = q := ⟨y.kind.toNat, by omega⟩
  have hql : q < p.dress.length := by omega
  obtain ⟨bd, od, cd, rfl, _, _⟩ := h.dress.slice (by omega)
  have cq := h.dress.cell hql
  have hbr := World.block_lt_of_cell? w ⟨br, or' + j, none⟩ cn
  have hbd := World.block_lt_of_cell? w ⟨bd, od + q, none⟩ cq
  have hN := hrb j hj
  have hQ := hs.dress q hql
  have hkk2 : y.kind = x.kind → b3.toNat = q := fun e => by rw [hkk e, hq]; rfl
  have HDk := hid (fun (e : y.kind = x.kind) => (by rw [hkk2 e] at HDs; exact HDs.out : (h : y.person = x.person) → de = if y.kind = x.kind ∧ (m : Int) ≠ n ∧ b4 - a5 < nm (lst p.walk i) j + nm p.dress q then 12 else 0))
  have HDn := hid (fun (h : y.person = x.person) (e : ¬ (y.kind = x.kind ∧ (m : Int) ≠ n)) => (HDs.out h).trans (if_neg fun hh => e ⟨hh.1, hh.2.1⟩))
  obtain ⟨N, hNe⟩ : ∃ N, nm (lst p.walk i) j = N := ⟨_, rfl⟩
  obtain ⟨D, hDe⟩ : ∃ D, nm p.dress q = D := ⟨_, rfl⟩
  rw [hNe] at cn hN HDk
  rw [hDe] at cq hQ HDk
  rw [hrl] at cu
  have HDo := hid (fun (h1 : y.person ≠ x.person) (h2 : (m : Int) = n) => (by have := HDo.out h1; rw [← h2, Int.toNat_natCast] at this; simpa using this : de = if b4 - a5 < (it items m).clean then 11 else 0))
  obtain ⟨cl, hcl2⟩ : ∃ cl, (it items m).clean = cl := ⟨_, rfl⟩
  rw [hcl2] at HDo g4 hcl
  have z1 : IntKind.i64.wrap (N + D) = N + D := IntWalk.i64_in _ (by omega)
  have z2 : IntKind.i64.wrap (b4 - a5) = b4 - a5 := IntWalk.i64_in _ (by omega)
  have CU := hid (show ∀ W', Below w.heap.size w W' → W'.cell? ⟨bw, ow + i, none⟩ = some (.slice (some ⟨br, or', none⟩) p.walk.length cr) ∧ W'.cell? ⟨br, or' + j, none⟩ = some (.int .i64 N) ∧ W'.cell? ⟨bd, od + q, none⟩ = some (.int .i64 D) ∧ W'.cell? ⟨bi, oi + m * 5 + 4, none⟩ = some (.int .i64 cl) from fun W' hb => ⟨cell_back hb hbw cu, cell_back hb hbr cn, cell_back hb hbd cq, cell_back hb hbi g4⟩)
  have i1 : (i : Int) < (p.walk.length : Int) := by omega
  have i2 : (j : Int) < (p.walk.length : Int) := by omega
  have i3 : (q : Int) < (p.dress.length : Int) := by omega
  have i4 : (m : Int) < (items.length : Int) := by omega
  clear hAB h hI hs hy hx hty htx hu hrl hrb cu cn cq hNe hDe q1 q2 q3 q4 r1 r2 r3 r4 g0 g1 g2 g3 g4 hkk hkk2 hyk HDs hcl2 hm
  have Hq := hid hq
  clear hq
  have K := hid ((((HK.start w).box4m (n := w.heap.size) rfl vp (.slice (some ⟨bw, ow, none⟩) p.walk.length cw) (.slice (some ⟨bd, od, none⟩) p.dress.length cd) vq 29).box5 (n := w.heap.size + 1) (by simp) (.int .i64 y.person) (.int .i64 y.place) (.int .i64 y.kind) (.int .i64 y.start) (.int .i64 y.stop) 38).box5 (n := w.heap.size + 1 + 1) (by simp) (.int .i64 x.person) (.int .i64 x.place) (.int .i64 x.kind) (.int .i64 x.start) (.int .i64 x.stop) 38)
  go_enter Try.func111, Try.ntmps111
  go_upto_region 2 with (go_at_call 108; refine (HT.out _).mono ?_; rintro e w1 ⟨rfl, hb1⟩; have K := hid (K.out.later hb1); clear hb1)
  have KB := hid ((K.out.box5 (n := w1.heap.size) rfl (.int .i64 a1) (.int .i64 i) (.int .i64 a3) (.int .i64 a4) (.int .i64 a5) 38).box5 (n := w1.heap.size + 1) (by simp) (.int .i64 b1) (.int .i64 j) (.int .i64 b3) (.int .i64 b4) (.int .i64 b5) 38)
  obtain ⟨A, hA⟩ : ∃ A, w1.heap.size = A := ⟨_, rfl⟩
  obtain ⟨wz, hwz, KZ⟩ := KB.out.name
  rw [hwz, hA]
  rw [hA] at KZ
  have K := hid KZ
  clear hwz KZ hA KB
  by_cases hpp : y.person = x.person
  · obtain ⟨p1, p2⟩ := eq_bool hpp
    have HDn := hid (HDn.out hpp)
    by_cases hk : y.kind = x.kind
    · obtain ⟨p3, p4⟩ := eq_bool hk
      by_cases hmn : (m : Int) = n
      · obtain ⟨p5, p6⟩ := eq_bool hmn
        have HR := hid (HDn.out (fun h => h.2 hmn))
        clear hpp hk hmn
        have c0 := K.out.c (b := w.heap.size + 1) (o := 0) (v := .int .i64 y.person) (by simp)
        have c1 := K.out.c (b := w.heap.size + 1) (o := 2) (v := .int .i64 y.kind) (by simp)
        have c2 := K.out.c (b := w.heap.size + 1 + 1) (o := 0) (v := .int .i64 x.person) (by simp)
        have c3 := K.out.c (b := w.heap.size + 1 + 1) (o := 2) (v := .int .i64 x.kind) (by simp)
        have c4 := K.out.c (b := A) (o := 1) (v := .int .i64 i) (by simp)
        have c5 := K.out.c (b := A) (o := 4) (v := .int .i64 a5) (by simp)
        have c6 := K.out.c (b := A + 1) (o := 1) (v := .int .i64 j) (by simp)
        have c7 := K.out.c (b := A + 1) (o := 3) (v := .int .i64 b4) (by simp)
        go_quiet (fail)
        have K := hid (K.out.drewN nq)
        clear c0 c1 c2 c3 c4 c5 c6 c7
        go_upto_region 4 with fail
        obtain ⟨wq, hwq, KQ⟩ := K.out.name
        rw [hwq]
        have K := hid KQ
        clear hwq KQ
        have c0 := K.out.c (b := w.heap.size + 1) (o := 0) (v := .int .i64 y.person) (by simp)
        have c1 := K.out.c (b := w.heap.size + 1) (o := 2) (v := .int .i64 y.kind) (by simp)
        have c2 := K.out.c (b := w.heap.size + 1 + 1) (o := 0) (v := .int .i64 x.person) (by simp)
        have c3 := K.out.c (b := w.heap.size + 1 + 1) (o := 2) (v := .int .i64 x.kind) (by simp)
        have c4 := K.out.c (b := A) (o := 1) (v := .int .i64 i) (by simp)
        have c5 := K.out.c (b := A) (o := 4) (v := .int .i64 a5) (by simp)
        have c6 := K.out.c (b := A + 1) (o := 1) (v := .int .i64 j) (by simp)
        have c7 := K.out.c (b := A + 1) (o := 3) (v := .int .i64 b4) (by simp)
        go_quiet (fail)
        have K := hid (K.out.drewN nq)
        clear c0 c1 c2 c3 c4 c5 c6 c7
        go_wp2_with fail
        go_ret
        exact ⟨ret_int HR.out.symm, K.out.below⟩
      · obtain ⟨p5, p6⟩ := ne_bool hmn
        have HDk := hid (HDk.out hk hpp)
        by_cases hlt : b4 - a5 < N + D
        · have HR := hid (HDk.out.trans (if_pos ⟨hk, hmn, hlt⟩))
          clear hpp hk hmn
          have qz := Hq.out
          have c0 := K.out.c (b := w.heap.size + 1) (o := 0) (v := .int .i64 y.person) (by simp)
          have c1 := K.out.c (b := w.heap.size + 1) (o := 2) (v := .int .i64 y.kind) (by simp)
          have c2 := K.out.c (b := w.heap.size + 1 + 1) (o := 0) (v := .int .i64 x.person) (by simp)
          have c3 := K.out.c (b := w.heap.size + 1 + 1) (o := 2) (v := .int .i64 x.kind) (by simp)
          have c4 := K.out.c (b := A) (o := 1) (v := .int .i64 i) (by simp)
          have c5 := K.out.c (b := A) (o := 4) (v := .int .i64 a5) (by simp)
          have c6 := K.out.c (b := A + 1) (o := 1) (v := .int .i64 j) (by simp)
          have c7 := K.out.c (b := A + 1) (o := 3) (v := .int .i64 b4) (by simp)
          rw [qz] at c1 p3 p4
          obtain ⟨u0, u1, u2, _⟩ := CU.out _ K.out.below
          have c8 := K.out.c (b := w.heap.size) (o := 1) (v := .slice (some ⟨bw, ow, none⟩) p.walk.length cw) (by simp)
          have c9 := K.out.c (b := w.heap.size) (o := 2) (v := .slice (some ⟨bd, od, none⟩) p.dress.length cd) (by simp)
          clear qz
          go_quiet (fail)
          have K := hid (K.out.drewN nq)
          clear c8 c9 u0 u1 u2 c0 c1 c2 c3 c4 c5 c6 c7
          go_wp2_with fail
          go_ret
          exact ⟨ret_int HR.out.symm, K.out.below⟩
        · have HR := hid (HDk.out.trans (if_neg (fun h => hlt h.2.2)))
          clear hpp hk hmn
          have qz := Hq.out
          have c0 := K.out.c (b := w.heap.size + 1) (o := 0) (v := .int .i64 y.person) (by simp)
          have c1 := K.out.c (b := w.heap.size + 1) (o := 2) (v := .int .i64 y.kind) (by simp)
          have c2 := K.out.c (b := w.heap.size + 1 + 1) (o := 0) (v := .int .i64 x.person) (by simp)
          have c3 := K.out.c (b := w.heap.size + 1 + 1) (o := 2) (v := .int .i64 x.kind) (by simp)
          have c4 := K.out.c (b := A) (o := 1) (v := .int .i64 i) (by simp)
          have c5 := K.out.c (b := A) (o := 4) (v := .int .i64 a5) (by simp)
          have c6 := K.out.c (b := A + 1) (o := 1) (v := .int .i64 j) (by simp)
          have c7 := K.out.c (b := A + 1) (o := 3) (v := .int .i64 b4) (by simp)
          rw [qz] at c1 p3 p4
          obtain ⟨u0, u1, u2, _⟩ := CU.out _ K.out.below
          have c8 := K.out.c (b := w.heap.size) (o := 1) (v := .slice (some ⟨bw, ow, none⟩) p.walk.length cw) (by simp)
          have c9 := K.out.c (b := w.heap.size) (o := 2) (v := .slice (some ⟨bd, od, none⟩) p.dress.length cd) (by simp)
          clear qz
          go_quiet (fail)
          have K := hid (K.out.drewN nq)
          clear c8 c9 u0 u1 u2 c0 c1 c2 c3 c4 c5 c6 c7
          go_upto_region 4 with fail
          obtain ⟨wq, hwq, KQ⟩ := K.out.name
          rw [hwq]
          have K := hid KQ
          clear hwq KQ
          have c0 := K.out.c (b := w.heap.size + 1) (o := 0) (v := .int .i64 y.person) (by simp)
          have c1 := K.out.c (b := w.heap.size + 1) (o := 2) (v := .int .i64 y.kind) (by simp)
          have c2 := K.out.c (b := w.heap.size + 1 + 1) (o := 0) (v := .int .i64 x.person) (by simp)
          have c3 := K.out.c (b := w.heap.size + 1 + 1) (o := 2) (v := .int .i64 x.kind) (by simp)
          have c4 := K.out.c (b := A) (o := 1) (v := .int .i64 i) (by simp)
          have c5 := K.out.c (b := A) (o := 4) (v := .int .i64 a5) (by simp)
          have c6 := K.out.c (b := A + 1) (o := 1) (v := .int .i64 j) (by simp)
          have c7 := K.out.c (b := A + 1) (o := 3) (v := .int .i64 b4) (by simp)
          go_quiet (fail)
          have K := hid (K.out.drewN nq)
          clear c0 c1 c2 c3 c4 c5 c6 c7
          go_wp2_with fail
          go_ret
          exact ⟨ret_int HR.out.symm, K.out.below⟩
    · obtain ⟨p3, p4⟩ := ne_bool hk
      have HR := hid (HDn.out (fun h => hk h.1))
      clear hpp hk
      have c0 := K.out.c (b := w.heap.size + 1) (o := 0) (v := .int .i64 y.person) (by simp)
      have c1 := K.out.c (b := w.heap.size + 1) (o := 2) (v := .int .i64 y.kind) (by simp)
      have c2 := K.out.c (b := w.heap.size + 1 + 1) (o := 0) (v := .int .i64 x.person) (by simp)
      have c3 := K.out.c (b := w.heap.size + 1 + 1) (o := 2) (v := .int .i64 x.kind) (by simp)
      have c4 := K.out.c (b := A) (o := 1) (v := .int .i64 i) (by simp)
      have c5 := K.out.c (b := A) (o := 4) (v := .int .i64 a5) (by simp)
      have c6 := K.out.c (b := A + 1) (o := 1) (v := .int .i64 j) (by simp)
      have c7 := K.out.c (b := A + 1) (o := 3) (v := .int .i64 b4) (by simp)
      go_quiet (fail)
      have K := hid (K.out.drewN nq)
      clear c0 c1 c2 c3 c4 c5 c6 c7
      go_upto_region 4 with fail
      obtain ⟨wq, hwq, KQ⟩ := K.out.name
      rw [hwq]
      have K := hid KQ
      clear hwq KQ
      have c0 := K.out.c (b := w.heap.size + 1) (o := 0) (v := .int .i64 y.person) (by simp)
      have c1 := K.out.c (b := w.heap.size + 1) (o := 2) (v := .int .i64 y.kind) (by simp)
      have c2 := K.out.c (b := w.heap.size + 1 + 1) (o := 0) (v := .int .i64 x.person) (by simp)
      have c3 := K.out.c (b := w.heap.size + 1 + 1) (o := 2) (v := .int .i64 x.kind) (by simp)
      have c4 := K.out.c (b := A) (o := 1) (v := .int .i64 i) (by simp)
      have c5 := K.out.c (b := A) (o := 4) (v := .int .i64 a5) (by simp)
      have c6 := K.out.c (b := A + 1) (o := 1) (v := .int .i64 j) (by simp)
      have c7 := K.out.c (b := A + 1) (o := 3) (v := .int .i64 b4) (by simp)
      go_quiet (fail)
      have K := hid (K.out.drewN nq)
      clear c0 c1 c2 c3 c4 c5 c6 c7
      go_wp2_with fail
      go_ret
      exact ⟨ret_int HR.out.symm, K.out.below⟩
  · obtain ⟨p1, p2⟩ := ne_bool hpp
    have HDp := hid (HDp.out hpp)
    have HDo := hid (HDo.out hpp)
    by_cases hmn : (m : Int) = n
    · obtain ⟨p5, p6⟩ := eq_bool hmn
      have HDo := hid (HDo.out hmn)
      clear hpp hmn
      have c0 := K.out.c (b := w.heap.size + 1) (o := 0) (v := .int .i64 y.person) (by simp)
      have c1 := K.out.c (b := w.heap.size + 1) (o := 2) (v := .int .i64 y.kind) (by simp)
      have c2 := K.out.c (b := w.heap.size + 1 + 1) (o := 0) (v := .int .i64 x.person) (by simp)
      have c3 := K.out.c (b := w.heap.size + 1 + 1) (o := 2) (v := .int .i64 x.kind) (by simp)
      have c4 := K.out.c (b := A) (o := 1) (v := .int .i64 i) (by simp)
      have c5 := K.out.c (b := A) (o := 4) (v := .int .i64 a5) (by simp)
      have c6 := K.out.c (b := A + 1) (o := 1) (v := .int .i64 j) (by simp)
      have c7 := K.out.c (b := A + 1) (o := 3) (v := .int .i64 b4) (by simp)
      go_quiet (fail)
      have K := hid (K.out.drewN nq)
      clear c0 c1 c2 c3 c4 c5 c6 c7
      go_upto_region 4 with fail
      obtain ⟨wq, hwq, KQ⟩ := K.out.name
      rw [hwq]
      have K := hid KQ
      clear hwq KQ
      have c0 := K.out.c (b := w.heap.size + 1) (o := 0) (v := .int .i64 y.person) (by simp)
      have c1 := K.out.c (b := w.heap.size + 1) (o := 2) (v := .int .i64 y.kind) (by simp)
      have c2 := K.out.c (b := w.heap.size + 1 + 1) (o := 0) (v := .int .i64 x.person) (by simp)
      have c3 := K.out.c (b := w.heap.size + 1 + 1) (o := 2) (v := .int .i64 x.kind) (by simp)
      have c4 := K.out.c (b := A) (o := 1) (v := .int .i64 i) (by simp)
      have c5 := K.out.c (b := A) (o := 4) (v := .int .i64 a5) (by simp)
      have c6 := K.out.c (b := A + 1) (o := 1) (v := .int .i64 j) (by simp)
      have c7 := K.out.c (b := A + 1) (o := 3) (v := .int .i64 b4) (by simp)
      obtain ⟨_, _, _, g4⟩ := CU.out _ K.out.below
      by_cases hlt : b4 - a5 < cl
      · have HR := hid (HDo.out.trans (if_pos hlt))
        go_quiet (fail)
        have K := hid (K.out.drewN nq)
        clear c0 c1 c2 c3 c4 c5 c6 c7 g4
        go_wp2_with fail
        go_ret
        exact ⟨ret_int HR.out.symm, K.out.below⟩
      · have HR := hid (HDo.out.trans (if_neg hlt))
        go_quiet (fail)
        have K := hid (K.out.drewN nq)
        clear c0 c1 c2 c3 c4 c5 c6 c7 g4
        go_wp2_with fail
        go_ret
        exact ⟨ret_int HR.out.symm, K.out.below⟩
    · obtain ⟨p5, p6⟩ := ne_bool hmn
      have HR := hid (HDp.out hmn)
      clear hpp hmn
      have c0 := K.out.c (b := w.heap.size + 1) (o := 0) (v := .int .i64 y.person) (by simp)
      have c1 := K.out.c (b := w.heap.size + 1) (o := 2) (v := .int .i64 y.kind) (by simp)
      have c2 := K.out.c (b := w.heap.size + 1 + 1) (o := 0) (v := .int .i64 x.person) (by simp)
      have c3 := K.out.c (b := w.heap.size + 1 + 1) (o := 2) (v := .int .i64 x.kind) (by simp)
      have c4 := K.out.c (b := A) (o := 1) (v := .int .i64 i) (by simp)
      have c5 := K.out.c (b := A) (o := 4) (v := .int .i64 a5) (by simp)
      have c6 := K.out.c (b := A + 1) (o := 1) (v := .int .i64 j) (by simp)
      have c7 := K.out.c (b := A + 1) (o := 3) (v := .int .i64 b4) (by simp)
      go_quiet (fail)
      have K := hid (K.out.drewN nq)
      clear c0 c1 c2 c3 c4 c5 c6 c7
      go_upto_region 4 with fail
      obtain ⟨wq, hwq, KQ⟩ := K.out.name
      rw [hwq]
      have K := hid KQ
      clear hwq KQ
      have c0 := K.out.c (b := w.heap.size + 1) (o := 0) (v := .int .i64 y.person) (by simp)
      have c1 := K.out.c (b := w.heap.size + 1) (o := 2) (v := .int .i64 y.kind) (by simp)
      have c2 := K.out.c (b := w.heap.size + 1 + 1) (o := 0) (v := .int .i64 x.person) (by simp)
      have c3 := K.out.c (b := w.heap.size + 1 + 1) (o := 2) (v := .int .i64 x.kind) (by simp)
      have c4 := K.out.c (b := A) (o := 1) (v := .int .i64 i) (by simp)
      have c5 := K.out.c (b := A) (o := 4) (v := .int .i64 a5) (by simp)
      have c6 := K.out.c (b := A + 1) (o := 1) (v := .int .i64 j) (by simp)
      have c7 := K.out.c (b := A + 1) (o := 3) (v := .int .i64 b4) (by simp)
      go_quiet (fail)
      have K := hid (K.out.drewN nq)
      clear c0 c1 c2 c3 c4 c5 c6 c7
      go_wp2_with fail
      go_ret
      exact ⟨ret_int HR.out.symm, K.out.below⟩
end Go.Proofs.Ytdcinngdilfpnaa

namespace Go.Proofs.Ytdcinngdilfpnaa
open Go.RowKit

theorem costI_step (items : List Item) (b : List Int) (i : Nat) : sumN (fun i => if hasN b (i : Int) b.length = true then (it items i).cost else 0) (i + 1) = sumN (fun i => if hasN b (i : Int) b.length = true then (it items i).cost else 0) i + (if hasN b (i : Int) b.length = true then (it items i).cost else 0) := rfl
set_option maxHeartbeats 4000000 in
/-- what a wear costs: each item once -/
theorem rcost_any (items : List Item) (b : List Int) (vi vb : Value) (w : World) (hI : ItemsAt none w vi items) (hB : IntsAt none w vb b) (hw : Within items b) (hp : Priced items) (hlen : b.length ≤ 100) (hil : items.length ≤ 1000) :
    Calls Try.prog 91 #[vi, vb] w fun e w' => e = .returned (.int .i64 (costW items b)) ∧ Below w.heap.size w w' := by
  have HI := hid hI
  have HBv := hid hB
  have HP := hid hp
  have HC := hid (show costW items b = sumN (fun i => if hasN b (i : Int) b.length = true then (it items i).cost else 0) items.length from costW_I fun k hk => hw k hk)
  obtain ⟨r, hr⟩ : ∃ r, costW items b = r := ⟨_, rfl⟩
  rw [hr] at HC ⊢
  obtain ⟨ai, ci, rfl⟩ := hI.form
  obtain ⟨ab, cb, rfl, _⟩ := hB
  clear hI hw hp hr
  go_enter Try.func91, Try.ntmps91
  go_wp2_with fail
  go_loopw [5, 6] (fun s i wr => ∃ q : Nat, q ≤ items.length ∧ s = .int .i64 (sumN (fun i => if hasN b (i : Int) b.length = true then (it items i).cost else 0) q) ∧ i = .int .i64 q ∧ Below w.heap.size w wr) (fun _ i _ => items.length - (intOf i).toNat)
  case atStart => exact ⟨0, by omega, rfl, rfl, Below.refl _ _⟩
  case round =>
    obtain ⟨q, hq, rfl, rfl, hbel⟩ := hrel
    have HB := hid hbel
    clear hbel
    by_cases hlt : q < items.length
    rotate_left
    · obtain rfl : q = items.length := by omega
      rw [← HC.out]
      go_wp2_with fail
      go_ret
      exact ⟨rfl, HB.out⟩
    have hpm := HP.out q hlt
    have hsb := sumN_bound (f := fun i => if hasN b (i : Int) b.length = true then (it items i).cost else 0) (n := q) (M := 1000000) fun k hk => by
      have := HP.out k (by omega)
      split <;> omega
    have HST := hid (costI_step items b q)
    have hcc := ItemsAt.cells (HI.out.below HB.out) hlt
    obtain ⟨bi, oi, e, hbi, g0, g1, g2, g3, g4⟩ := hcc
    cases e
    obtain ⟨s, hs⟩ : ∃ s, sumN (fun i => if hasN b (i : Int) b.length = true then (it items i).cost else 0) q = s := ⟨_, rfl⟩
    rw [hs] at hsb HST ⊢
    obtain ⟨c, hc⟩ : ∃ c, (it items q).cost = c := ⟨_, rfl⟩
    rw [hc] at HST hpm g3
    have i2 : (q : Int) < (items.length : Int) := by omega
    have z1 : IntKind.i64.wrap ((q : Int) + 1) = (q : Int) + 1 := IntWalk.i64_in _ (by omega)
    have z2 : IntKind.i64.wrap (s + c) = s + c := IntWalk.i64_in _ (by omega)
    clear hs hc g0 g1 g2 g4
    go_wp2_with fail
    go_loopw [5, 7] (fun s' k wr2 => ∃ n : Nat, n ≤ b.length ∧ s' = .int .i64 s ∧ k = .int .i64 n ∧ hasN b (q : Int) n = false ∧ wr2 = wr) (fun _ k _ => b.length - (intOf k).toNat)
    case atStart => exact ⟨0, by omega, rfl, rfl, rfl, rfl⟩
    case round =>
      obtain ⟨n, hn, rfl, rfl, hno, rfl⟩ := hrel
      have HN := hid hno
      clear hno
      by_cases hnl : n < b.length
      rotate_left
      · obtain rfl : n = b.length := by omega
        have HS2 := hid (HST.out.trans (by rw [if_neg (by rw [HN.out]; simp), Int.add_zero]))
        go_wp2_with fail
        go_roundw
        case rel => exact ⟨q + 1, by omega, by rw [HS2.out], by go_num, HB.out⟩
        case measure => simp [intOf] <;> omega
      obtain ⟨bb, ob, c', e, hcl, hcm⟩ := (IntsAt.below HBv.out HB.out).slice (by omega)
      cases e
      have hcell := IntsAt.cell (IntsAt.below HBv.out HB.out) hnl
      have i1 : (n : Int) < (b.length : Int) := by omega
      have z3 : IntKind.i64.wrap ((n : Int) + 1) = (n : Int) + 1 := IntWalk.i64_in _ (by omega)
      by_cases hon : nm b n = (q : Int)
      · obtain ⟨e1, e2⟩ := eq_bool hon
        have HS2 := hid (HST.out.trans (by rw [if_pos (hasN_true.2 ⟨n, hnl, hon⟩)]))
        clear hon
        go_wp2_with fail
        go_roundw
        case rel => exact ⟨q + 1, by omega, by rw [HS2.out], by go_num, HB.out⟩
        case measure => simp [intOf] <;> omega
      · obtain ⟨e1, e2⟩ := ne_bool hon
        have HN2 := hid (show hasN b (q : Int) (n + 1) = false from by simp only [hasN]; rw [HN.out, decide_eq_false hon]; rfl)
        clear hon
        go_wp2_with fail
        go_roundw
        case rel => exact ⟨n + 1, by omega, rfl, by go_num, HN2.out, trivial⟩
        case measure => simp [intOf] <;> omega
end Go.Proofs.Ytdcinngdilfpnaa

namespace Go.Proofs.Ytdcinngdilfpnaa
open Go.RowKit

theorem nextE_take {p : Plot} {items : List Item} {parts : List Part} {b : List Int} {n : Int} {k : Nat} (hk : k ≤ b.length) : nextE p items parts (b.take k) n =
    if singleE p items (pt parts k) n = 0 then firstBad (fun i => doubleE p items (pt parts i) (pt parts k) (nm b i) n) k else singleE p items (pt parts k) n := by
  unfold nextE
  rw [List.length_take, Nat.min_eq_left hk]
  rw [firstBad_congr (f := fun i => doubleE p items (pt parts i) (pt parts k) (nm (b.take k) i) n) (g := fun i => doubleE p items (pt parts i) (pt parts k) (nm b i) n) (fun i hi => by rw [nm_takeC hi])]

set_option maxHeartbeats 8000000 in
set_option maxRecDepth 100000 in
theorem rwears_any (p : Plot) (items : List Item) (parts : List Part) (b : List Int) (vp vw vd vq vi vr vb : Value) (w : World) (h : PlotAt none w vp vw vd vq p) (hI : ItemsAt none w vi items) (hR : PartsAt none w vr parts) (hB : IntsAt none w vb b) (hv : itemsErr p items = 0) (hps : ∀ i, i < parts.length → aloneE p (pt parts i) = 0) (hb : b.length ≤ parts.length) (hpl : parts.length ≤ 1000) :
    Calls Try.prog 95 #[plotV vp vw vd vq, vi, vr, vb] w fun e w' => e = .returned (.int .i64 (wearsE p items parts b)) ∧ Below w.heap.size w w' := by
  have H := hid h
  have HI := hid hI
  have HR := hid hR
  have HBv := hid hB
  obtain ⟨hpe, hil, _⟩ := itemsErr_zero hv
  have Vd := hid (plotErr_zero.1 hpe)
  have HSq := hid (show Square p from ⟨fun i hi => rowE_zero (Vd.out.rows i hi), Vd.out.dresses⟩)
  have Hcl := hid (items_clean hv)
  have Hps := hid hps
  have HSi := hid (fun (x : Part) (n : Int) (W' : World) (hb : Below w.heap.size w W') (hx : 0 ≤ x.person ∧ x.person < p.persons.length) => rsingle_any p items x n vp vw vd vq vi W' (h.below hb) (hI.below hb) hx hil)
  have HDb := hid (fun (y x : Part) (m : Nat) (n : Int) (W' : World) (hb : Below w.heap.size w W') (hy : aloneE p y = 0) (hx : aloneE p x = 0) (hm : m < items.length) => rdouble_any p items y x m n vp vw vd vq vi W' (h.below hb) (hI.below hb) HSq.out (alone_placed hy) (alone_placed hx) (alone_timed hy) (alone_timed hx) hm (Hcl.out m hm))
  have HE := hid (show wearsE p items parts b = firstBad (fun i => nextE p items parts (b.take i) (nm b i)) b.length from rfl)
  obtain ⟨we, hwe⟩ : ∃ we, wearsE p items parts b = we := ⟨_, rfl⟩
  rw [hwe] at HE ⊢
  obtain ⟨ap, cp, rfl⟩ := h.persons.form
  obtain ⟨aw, cw, rfl⟩ := h.walk.form
  obtain ⟨ad, cd, ed, _⟩ := h.dress
  subst ed
  obtain ⟨aq, cq, rfl⟩ := h.parts.form
  obtain ⟨ai, ci, rfl⟩ := hI.form
  obtain ⟨ar, cr, rfl⟩ := hR.form
  obtain ⟨ab, cb, eb, _⟩ := hB
  subst eb
  clear h hI hR hv hps hpe hwe
  have K := hid ((HK.start w).box4m (n := w.heap.size) rfl (.slice ap p.persons.length cp) (.slice aw p.walk.length cw) (.slice ad p.dress.length cd) (.slice aq p.parts.length cq) 29)
  go_enter Try.func95, Try.ntmps95
  go_wp2_with fail
  go_loopw [9] (fun a wr => ∃ k : Nat, k ≤ b.length ∧ a = .int .i64 k ∧ (∀ j, j < k → nextE p items parts (b.take j) (nm b j) = 0) ∧ HK [(w.heap.size, 0, .slice ap p.persons.length cp), (w.heap.size, 1, .slice aw p.walk.length cw), (w.heap.size, 2, .slice ad p.dress.length cd), (w.heap.size, 3, .slice aq p.parts.length cq)] w wr) (fun a _ => b.length - (intOf a).toNat)
  case atStart => exact ⟨0, by omega, rfl, fun j hj => absurd hj (by omega), K.out⟩
  case round =>
    obtain ⟨k, hk, rfl, hf, KK⟩ := hrel
    have K := hid KK
    have HF := hid hf
    clear KK hf
    obtain ⟨wo, rfl⟩ : ∃ wo : World, wo = wr := ⟨_, rfl⟩
    by_cases hlt : k < b.length
    rotate_left
    · obtain rfl : k = b.length := by omega
      have HR0 := hid (HE.out.trans (firstBad_zero.2 HF.out))
      clear HF
      go_wp2_with fail
      go_ret
      exact ⟨ret_int HR0.out.symm, K.out.below⟩
    have hkp : k < parts.length := by omega
    have i0 : (k : Int) < (b.length : Int) := by omega
    have i1 : (k : Int) < (parts.length : Int) := by omega
    have z1 : IntKind.i64.wrap ((k : Int) + 1) = (k : Int) + 1 := IntWalk.i64_in _ (by omega)
    have hcq := PartsAt.cells HR.out hkp
    obtain ⟨bq, oq, e, hbq, _⟩ := hcq
    subst e
    have hB2 := HBv.out
    obtain ⟨bb, ob, cb', e, _, _⟩ := hB2.slice (by omega)
    cases e
    have HQ := hid (show ∀ (j : Nat) (W' : World), j < parts.length → Below w.heap.size w W' → (W'.cell? ⟨bq, oq + j * 5, none⟩ = some (.int .i64 (pt parts j).person) ∧ W'.cell? ⟨bq, oq + j * 5 + 1, none⟩ = some (.int .i64 (pt parts j).place) ∧ W'.cell? ⟨bq, oq + j * 5 + 2, none⟩ = some (.int .i64 (pt parts j).kind) ∧ W'.cell? ⟨bq, oq + j * 5 + 3, none⟩ = some (.int .i64 (pt parts j).start) ∧ W'.cell? ⟨bq, oq + j * 5 + 4, none⟩ = some (.int .i64 (pt parts j).stop)) from fun j W' hj hb => by
      have hcc := PartsAt.cells (HR.out.below hb) hj
      obtain ⟨b', o', e, _, d⟩ := hcc
      cases e
      exact d)
    have HN := hid (show ∀ (j : Nat) (W' : World), j < b.length → Below w.heap.size w W' → W'.cell? ⟨bb, ob + j, none⟩ = some (.int .i64 (nm b j)) from fun j W' hj hb => (HBv.out.below hb).cell hj)
    have hxa := Hps.out k hkp
    have hxq := (aloneE_zero hxa).1
    have HT := hid (nextE_take (p := p) (items := items) (parts := parts) (b := b) (n := nm b k) (Nat.le_of_lt hlt))
    have HX := hid (fun (v : Int) (hv : nextE p items parts (b.take k) (nm b k) = v) (h0 : v ≠ 0) => HE.out.trans ((firstBad_at (f := fun i => nextE p items parts (b.take i) (nm b i)) hlt HF.out (by show nextE p items parts (b.take k) (nm b k) ≠ 0; rw [hv]; exact h0)).trans hv))
    have HNx := hid (fun (hv : nextE p items parts (b.take k) (nm b k) = 0) (j : Nat) (hj : j < k + 1) => show nextE p items parts (b.take j) (nm b j) = 0 from by
      by_cases e : j = k
      · rw [e]; exact hv
      · exact HF.out j (by omega))
    have HWi := hid (fun (j : Nat) (hj : j < k) => (by have := HF.out j hj; rw [nextE_take (by omega)] at this; split at this; · exact single_within ‹_›
                                                       · exact absurd this ‹_› : 0 ≤ nm b j ∧ nm b j < items.length))
    have HXa := hid hxa
    have dk := HQ.out k _ hkp K.out.below
    have nk := HN.out k _ hlt K.out.below
    have HSk := hid (fun W' hb => HSi.out (pt parts k) (nm b k) W' hb hxq)
    obtain ⟨x, hx⟩ : ∃ x, pt parts k = x := ⟨_, rfl⟩
    obtain ⟨n, hn⟩ : ∃ n, nm b k = n := ⟨_, rfl⟩
    rw [hx, hn] at HT HSk
    rw [hx] at HXa
    rw [hn] at HX HNx
    have HQk := hid (show ∀ W', Below w.heap.size w W' → _ from fun W' hb => HQ.out k W' hkp hb)
    have HNk := hid (show ∀ W', Below w.heap.size w W' → _ from fun W' hb => HN.out k W' hlt hb)
    rw [hx] at HQk
    rw [hn] at HNk
    obtain ⟨se, hse⟩ : ∃ se, singleE p items x n = se := ⟨_, rfl⟩
    rw [hse] at HSk HT
    clear hxa hxq dk nk hse
    go_upto_region 4 with fail
    obtain ⟨wy, hwy, KY⟩ := K.out.name
    rw [hwy]
    have K := hid KY.drew
    clear hwy KY
    go_region_held3 (fun w' => w'.cell? ⟨w.heap.size, 0, none⟩ = some (.slice ap p.persons.length cp) ∧ w'.cell? ⟨w.heap.size, 1, none⟩ = some (.slice aw p.walk.length cw) ∧ w'.cell? ⟨w.heap.size, 2, none⟩ = some (.slice ad p.dress.length cd) ∧ w'.cell? ⟨w.heap.size, 3, none⟩ = some (.slice aq p.parts.length cq) ∧ (w'.cell? ⟨bq, oq + k * 5, none⟩ = some (.int .i64 x.person) ∧ w'.cell? ⟨bq, oq + k * 5 + 1, none⟩ = some (.int .i64 x.place) ∧ w'.cell? ⟨bq, oq + k * 5 + 2, none⟩ = some (.int .i64 x.kind) ∧ w'.cell? ⟨bq, oq + k * 5 + 3, none⟩ = some (.int .i64 x.start) ∧ w'.cell? ⟨bq, oq + k * 5 + 4, none⟩ = some (.int .i64 x.stop)) ∧ w'.cell? ⟨bb, ob + k, none⟩ = some (.int .i64 n))
      (first | exact ⟨K.out.c (by simp), K.out.c (by simp), K.out.c (by simp), K.out.c (by simp), HQk.out _ K.out.below, HNk.out _ K.out.below⟩) (first
      | (go_at_call 110; refine (HSk.out _ K.out.below).mono ?_; rintro e w4 ⟨rfl, hb2⟩; have K := hid (K.out.later hb2); clear hb2))
    by_cases hs0 : se = 0
    rotate_left
    · obtain ⟨e1, e2⟩ := ne_bool hs0
      have HR0 := hid (HX.out se (HT.out.trans (if_neg hs0)) hs0)
      clear hs0
      go_wp2_with fail
      go_ret
      exact ⟨ret_int HR0.out.symm, K.out.below⟩
    have HT := hid (HT.out.trans (if_pos hs0))
    subst hs0
    go_wp2_with fail
    go_loopw [11] (fun a wr => ∃ j : Nat, j ≤ k ∧ a = .int .i64 j ∧ (∀ i, i < j → doubleE p items (pt parts i) x (nm b i) n = 0) ∧ HK [(w.heap.size, 0, .slice ap p.persons.length cp), (w.heap.size, 1, .slice aw p.walk.length cw), (w.heap.size, 2, .slice ad p.dress.length cd), (w.heap.size, 3, .slice aq p.parts.length cq)] w wr) (fun a _ => k - (intOf a).toNat)
    case atStart => exact ⟨0, by omega, rfl, fun j hj => absurd hj (by omega), K.out⟩
    case round =>
      obtain ⟨j, hj, rfl, hf, KK⟩ := hrel
      have K := hid KK
      have HFj := hid hf
      clear KK hf
      obtain ⟨wo2, rfl⟩ : ∃ wo : World, wo = wr := ⟨_, rfl⟩
      by_cases hjk : j < k
      rotate_left
      · obtain rfl : j = k := by omega
        have HG := hid (HNx.out (HT.out.trans (firstBad_zero.2 HFj.out)))
        go_wp2_with fail
        go_roundw
        case rel => exact ⟨j + 1, by omega, by go_num, HG.out, K.out⟩
        case measure => simp [intOf] <;> omega
      have hjp : j < parts.length := by omega
      have hjb : j < b.length := by omega
      have j0 : (j : Int) < (b.length : Int) := by omega
      have j1 : (j : Int) < (parts.length : Int) := by omega
      have j2 : (j : Int) < (k : Int) := by omega
      have z2 : IntKind.i64.wrap ((j : Int) + 1) = (j : Int) + 1 := IntWalk.i64_in _ (by omega)
      have hwi := HWi.out j hjk
      have HYa := Hps.out j hjp
      have HXj := hid (fun (v : Int) (hv : doubleE p items (pt parts j) x (nm b j) n = v) (h0 : v ≠ 0) => HX.out v (HT.out.trans ((firstBad_at (f := fun i => doubleE p items (pt parts i) x (nm b i) n) hjk HFj.out (by show doubleE p items (pt parts j) x (nm b j) n ≠ 0; rw [hv]; exact h0)).trans hv)) h0)
      have HNj := hid (fun (hv : doubleE p items (pt parts j) x (nm b j) n = 0) (i : Nat) (hi : i < j + 1) => show doubleE p items (pt parts i) x (nm b i) n = 0 from by
        by_cases e : i = j
        · rw [e]; exact hv
        · exact HFj.out i (by omega))
      have HQj := hid (show ∀ W', Below w.heap.size w W' → _ from fun W' hb => HQ.out j W' hjp hb)
      have HMj := hid (show ∀ W', Below w.heap.size w W' → _ from fun W' hb => HN.out j W' hjb hb)
      obtain ⟨m, hm⟩ := Int.eq_ofNat_of_zero_le hwi.1
      have hml : m < items.length := by omega
      have HDj := hid (fun W' hb => HDb.out (pt parts j) x m n W' hb HYa HXa.out hml)
      rw [hm] at HXj HNj HMj
      obtain ⟨y, hy⟩ : ∃ y, pt parts j = y := ⟨_, rfl⟩
      rw [hy] at HXj HNj HQj HDj
      obtain ⟨de, hde⟩ : ∃ de, doubleE p items y x (m : Int) n = de := ⟨_, rfl⟩
      rw [hde] at HXj HNj HDj
      clear hwi HYa hm hy hde
      go_upto_region 10 with fail
      obtain ⟨wz, hwz, KZ⟩ := K.out.name
      rw [hwz]
      have K := hid KZ.drew
      clear hwz KZ
      go_region_held3 (fun w' => w'.cell? ⟨w.heap.size, 0, none⟩ = some (.slice ap p.persons.length cp) ∧ w'.cell? ⟨w.heap.size, 1, none⟩ = some (.slice aw p.walk.length cw) ∧ w'.cell? ⟨w.heap.size, 2, none⟩ = some (.slice ad p.dress.length cd) ∧ w'.cell? ⟨w.heap.size, 3, none⟩ = some (.slice aq p.parts.length cq) ∧ (w'.cell? ⟨bq, oq + k * 5, none⟩ = some (.int .i64 x.person) ∧ w'.cell? ⟨bq, oq + k * 5 + 1, none⟩ = some (.int .i64 x.place) ∧ w'.cell? ⟨bq, oq + k * 5 + 2, none⟩ = some (.int .i64 x.kind) ∧ w'.cell? ⟨bq, oq + k * 5 + 3, none⟩ = some (.int .i64 x.start) ∧ w'.cell? ⟨bq, oq + k * 5 + 4, none⟩ = some (.int .i64 x.stop)) ∧ w'.cell? ⟨bb, ob + k, none⟩ = some (.int .i64 n) ∧ (w'.cell? ⟨bq, oq + j * 5, none⟩ = some (.int .i64 y.person) ∧ w'.cell? ⟨bq, oq + j * 5 + 1, none⟩ = some (.int .i64 y.place) ∧ w'.cell? ⟨bq, oq + j * 5 + 2, none⟩ = some (.int .i64 y.kind) ∧ w'.cell? ⟨bq, oq + j * 5 + 3, none⟩ = some (.int .i64 y.start) ∧ w'.cell? ⟨bq, oq + j * 5 + 4, none⟩ = some (.int .i64 y.stop)) ∧ w'.cell? ⟨bb, ob + j, none⟩ = some (.int .i64 (m : Nat)))
        (first | exact ⟨K.out.c (by simp), K.out.c (by simp), K.out.c (by simp), K.out.c (by simp), HQk.out _ K.out.below, HNk.out _ K.out.below, HQj.out _ K.out.below, HMj.out _ K.out.below⟩) (first
        | (go_at_call 111; refine (HDj.out _ K.out.below).mono ?_; rintro e w4 ⟨rfl, hb2⟩; have K := hid (K.out.later hb2); clear hb2))
      by_cases hd0 : de = 0
      rotate_left
      · obtain ⟨e1, e2⟩ := ne_bool hd0
        have HR0 := hid (HXj.out de rfl hd0)
        clear hd0
        go_wp2_with fail
        go_ret
        exact ⟨ret_int HR0.out.symm, K.out.below⟩
      have HG := hid (HNj.out hd0)
      subst hd0
      go_wp2_with fail
      go_roundw
      case rel => exact ⟨j + 1, by omega, by go_num, HG.out, K.out⟩
      case measure => simp [intOf] <;> omega

set_option maxHeartbeats 4000000 in
set_option maxRecDepth 100000 in
theorem rwear_any (p : Plot) (items : List Item) (b : List Int) (vp vw vd vq vi vb : Value) (w : World) (h : PlotAt none w vp vw vd vq p) (hI : ItemsAt none w vi items) (hB : IntsAt none w vb b) :
    Calls Try.prog 48 #[plotV vp vw vd vq, vi, vb] w fun e w' => e = .returned (.int .i64 (wearErr p items b)) ∧ Below w.heap.size w w' := by
  have H := hid h
  have HI := hid hI
  have HBv := hid hB
  have HC := hid (fun W' hb => rcitems_any p items vp vw vd vq vi W' (H.out.below hb) (HI.out.below hb))
  obtain ⟨ap, cp, rfl⟩ := h.persons.form
  obtain ⟨aw, cw, rfl⟩ := h.walk.form
  obtain ⟨ad, cd, ed, _⟩ := h.dress
  subst ed
  obtain ⟨aq, cq, rfl⟩ := h.parts.form
  obtain ⟨ai, ci, rfl⟩ := hI.form
  obtain ⟨ab, cb, eb, _⟩ := hB
  subst eb
  clear h hI
  have K := hid ((HK.start w).box4m (n := w.heap.size) rfl (.slice ap p.persons.length cp) (.slice aw p.walk.length cw) (.slice ad p.dress.length cd) (.slice aq p.parts.length cq) 29)
  by_cases hi : itemsErr p items = 0
  rotate_left
  · obtain ⟨e1, e2⟩ := ne_bool hi
    have HE := hid (show wearErr p items b = itemsErr p items from by unfold wearErr; rw [if_neg hi])
    clear hi
    go_enter Try.func48, Try.ntmps48
    go_wp2_with (go_at_call 47; refine (HC.out _ K.out.below).mono ?_; rintro e w2 ⟨rfl, hb2⟩; have K := hid (K.out.later hb2); clear hb2)
    go_ret
    exact ⟨ret_int HE.out.symm, K.out.below⟩
  have Hi := hid hi
  rw [hi] at HC
  by_cases hl : b.length = p.parts.length
  rotate_left
  · obtain ⟨e1, e2⟩ := ne_bool (a := (b.length : Int)) (b := (p.parts.length : Int)) (by omega)
    have HE := hid (show wearErr p items b = 1 from by unfold wearErr; rw [if_pos hi, if_neg hl])
    clear hi hl
    go_enter Try.func48, Try.ntmps48
    go_wp2_with (go_at_call 47; refine (HC.out _ K.out.below).mono ?_; rintro e w2 ⟨rfl, hb2⟩; have K := hid (K.out.later hb2); clear hb2; have p3 := K.out.c (b := w.heap.size) (o := 3) (v := .slice aq p.parts.length cq) (by simp))
    go_ret
    exact ⟨ret_int HE.out.symm, K.out.below⟩
  have HE := hid (show wearErr p items b = wearsE p items p.parts b from by unfold wearErr; rw [if_pos hi, if_pos hl])
  have HW := hid (fun W' hb => rwears_any p items p.parts b _ _ _ _ _ _ _ W' (H.out.below hb) (HI.out.below hb) (H.out.parts.below hb) (HBv.out.below hb) hi ((plotErr_zero.1 (itemsErr_zero hi).1).parts) (by omega) (by have := (plotErr_zero.1 (itemsErr_zero hi).1).few; omega))
  have Hl := hid hl
  obtain ⟨e1, e2⟩ := eq_bool (a := (b.length : Int)) (b := (p.parts.length : Int)) (by omega)
  have hfew := (plotErr_zero.1 (itemsErr_zero hi).1).few
  clear hi hl
  go_enter Try.func48, Try.ntmps48
  obtain ⟨we, hwe⟩ : ∃ we, wearsE p items p.parts b = we := ⟨_, rfl⟩
  rw [hwe] at HW HE
  clear hwe
  go_wp2_with (first
    | (go_at_call 47; refine (HC.out _ K.out.below).mono ?_; rintro e w2 ⟨rfl, hb2⟩; have K := hid (K.out.later hb2); clear hb2; have p3 := K.out.c (b := w.heap.size) (o := 3) (v := .slice aq p.parts.length cq) (by simp); have p0 := K.out.c (b := w.heap.size) (o := 0) (v := .slice ap p.persons.length cp) (by simp); have p1 := K.out.c (b := w.heap.size) (o := 1) (v := .slice aw p.walk.length cw) (by simp); have p2 := K.out.c (b := w.heap.size) (o := 2) (v := .slice ad p.dress.length cd) (by simp))
    | (go_at_call 95; refine (HW.out _ K.out.below).mono ?_; rintro e w3 ⟨rfl, hb3⟩; have K := hid (K.out.later hb3); clear hb3))
  go_ret
  exact ⟨ret_int HE.out.symm, K.out.below⟩

set_option maxHeartbeats 2000000 in
set_option maxRecDepth 100000 in
theorem rcostc_any (p : Plot) (items : List Item) (b : List Int) (vp vw vd vq vi vb : Value) (w : World) (h : PlotAt none w vp vw vd vq p) (hI : ItemsAt none w vi items) (hB : IntsAt none w vb b) :
    Calls Try.prog 45 #[plotV vp vw vd vq, vi, vb] w fun e w' => e = .returned (.tuple #[.int .i64 (costRes p items b), .int .i64 (wearErr p items b)]) ∧ Below w.heap.size w w' := by
  have H := hid h
  have HI := hid hI
  have HBv := hid hB
  have HC := hid (fun W' hb => rwear_any p items b vp vw vd vq vi vb W' (H.out.below hb) (HI.out.below hb) (HBv.out.below hb))
  obtain ⟨ap, cp, rfl⟩ := h.persons.form
  obtain ⟨aw, cw, rfl⟩ := h.walk.form
  obtain ⟨ad, cd, ed, _⟩ := h.dress
  subst ed
  obtain ⟨aq, cq, rfl⟩ := h.parts.form
  obtain ⟨ai, ci, rfl⟩ := hI.form
  obtain ⟨ab, cb, eb, _⟩ := hB
  subst eb
  clear h hI
  have K := hid ((HK.start w).box4m (n := w.heap.size) rfl (.slice ap p.persons.length cp) (.slice aw p.walk.length cw) (.slice ad p.dress.length cd) (.slice aq p.parts.length cq) 29)
  by_cases hi : wearErr p items b = 0
  · have HR := hid (show costRes p items b = costW items b from by unfold costRes; rw [if_pos hi])
    obtain ⟨q1, q2, q3⟩ := wear_fine hi
    have hfew := (plotErr_zero.1 (itemsErr_zero q1).1).few
    have hil := (itemsErr_zero q1).2.1
    have HCo := hid (fun W' hb => rcost_any items b _ _ W' (HI.out.below hb) (HBv.out.below hb) (wears_within q3) (items_priced q1) (by omega) (by omega))
    rw [hi] at HC ⊢
    clear hi q1 q2 q3
    go_enter Try.func45, Try.ntmps45
    go_wp2_with (first
      | (go_at_call 48; refine (HC.out _ K.out.below).mono ?_; rintro e w2 ⟨rfl, hb2⟩; have K := hid (K.out.later hb2); clear hb2)
      | (go_at_call 91; refine (HCo.out _ K.out.below).mono ?_; rintro e w2 ⟨rfl, hb2⟩; have K := hid (K.out.later hb2); clear hb2))
    exact bodyPost_ret (v := .tuple #[.int .i64 (costW items b), .int .i64 0]) (by simp [results, Try.results45, go_sem]) rfl ⟨by rw [HR.out], K.out.below⟩
  · obtain ⟨e1, e2⟩ := ne_bool hi
    have HR := hid (show costRes p items b = 0 from by unfold costRes; rw [if_neg hi])
    clear hi
    go_enter Try.func45, Try.ntmps45
    go_wp2_with (go_at_call 48; refine (HC.out _ K.out.below).mono ?_; rintro e w2 ⟨rfl, hb2⟩; have K := hid (K.out.later hb2); clear hb2)
    exact bodyPost_ret (v := .tuple #[.int .i64 0, .int .i64 (wearErr p items b)]) (by simp [results, Try.results45, go_sem]) rfl ⟨by rw [HR.out], K.out.below⟩

set_option maxHeartbeats 2000000 in
set_option maxRecDepth 100000 in
theorem rfew_any (p : Plot) (items : List Item) (vp vw vd vq vi : Value) (w : World) (h : PlotAt none w vp vw vd vq p) (hI : ItemsAt none w vi items) :
    Calls Try.prog 89 #[plotV vp vw vd vq, vi] w fun e w' => e = .returned (.int .i64 (smallErr p items)) ∧ Below w.heap.size w w' := by
  have H := hid h
  have HI := hid hI
  have HC := hid (fun W' hb => rcitems_any p items vp vw vd vq vi W' (H.out.below hb) (HI.out.below hb))
  obtain ⟨ap, cp, rfl⟩ := h.persons.form
  obtain ⟨aw, cw, rfl⟩ := h.walk.form
  obtain ⟨ad, cd, ed, _⟩ := h.dress
  subst ed
  obtain ⟨aq, cq, rfl⟩ := h.parts.form
  obtain ⟨ai, ci, rfl⟩ := hI.form
  clear h hI
  have K := hid ((HK.start w).box4m (n := w.heap.size) rfl (.slice ap p.persons.length cp) (.slice aw p.walk.length cw) (.slice ad p.dress.length cd) (.slice aq p.parts.length cq) 29)
  by_cases hi : itemsErr p items = 0
  rotate_left
  · obtain ⟨e1, e2⟩ := ne_bool hi
    have HE := hid (show smallErr p items = itemsErr p items from by unfold smallErr; rw [if_neg hi])
    clear hi
    go_enter Try.func89, Try.ntmps89
    go_wp2_with (go_at_call 47; refine (HC.out _ K.out.below).mono ?_; rintro e w2 ⟨rfl, hb2⟩; have K := hid (K.out.later hb2); clear hb2)
    go_ret
    exact ⟨ret_int HE.out.symm, K.out.below⟩
  rw [hi] at HC
  have HS := hid (show smallErr p items = if 6 < p.parts.length ∨ 10 < items.length then 5 else 0 from by unfold smallErr; rw [if_pos hi])
  clear hi
  by_cases h6 : (6 : Int) < (p.parts.length : Int)
  · have HE := hid (HS.out.trans (if_pos (.inl (by omega))))
    go_enter Try.func89, Try.ntmps89
    go_wp2_with (go_at_call 47; refine (HC.out _ K.out.below).mono ?_; rintro e w2 ⟨rfl, hb2⟩; have K := hid (K.out.later hb2); clear hb2; have p3 := K.out.c (b := w.heap.size) (o := 3) (v := .slice aq p.parts.length cq) (by simp))
    go_ret
    exact ⟨ret_int HE.out.symm, K.out.below⟩
  by_cases h10 : (10 : Int) < (items.length : Int)
  · have HE := hid (HS.out.trans (if_pos (.inr (by omega))))
    go_enter Try.func89, Try.ntmps89
    go_wp2_with (go_at_call 47; refine (HC.out _ K.out.below).mono ?_; rintro e w2 ⟨rfl, hb2⟩; have K := hid (K.out.later hb2); clear hb2; have p3 := K.out.c (b := w.heap.size) (o := 3) (v := .slice aq p.parts.length cq) (by simp))
    go_ret
    exact ⟨ret_int HE.out.symm, K.out.below⟩
  · have HE := hid (HS.out.trans (if_neg (by omega)))
    go_enter Try.func89, Try.ntmps89
    go_wp2_with (go_at_call 47; refine (HC.out _ K.out.below).mono ?_; rintro e w2 ⟨rfl, hb2⟩; have K := hid (K.out.later hb2); clear hb2; have p3 := K.out.c (b := w.heap.size) (o := 3) (v := .slice aq p.parts.length cq) (by simp))
    go_ret
    exact ⟨ret_int HE.out.symm, K.out.below⟩

end Go.Proofs.Ytdcinngdilfpnaa
