/-
  WALKS: the reference's fit, Fit.
-/
import Derived.Test.YtdcinngdilfpnaaRci
import Derived.Test.YtdcinngdilfpnaaCfw
namespace Go.Proofs.Ytdcinngdilfpnaa
open Go.RowKit

set_option maxHeartbeats 2000000 in
theorem rfit_any (x : Item) (a b : Int) (w : World) :
    Calls Try.prog 92 #[.agg #[.int .i64 a, .int .i64 b], .agg #[.int .i64 x.lo, .int .i64 x.hi]] w fun e w' => e = .returned (.int .i64 (fitE x (a, b))) ∧ Below w.heap.size w w' := by
  have hb := hid (show Below w.heap.size w ((w.alloc (.cells #[.int .i64 a, .int .i64 b] 40)).alloc (.cells #[.int .i64 x.lo, .int .i64 x.hi] 40)) from below_trans (below_alloc w _) (below_alloc _ _))
  have hF := hid (show fitE x (a, b) = if x.lo ≤ a ∧ b ≤ x.hi then 1 else if x.hi < a ∨ b < x.lo then 2 else 3 from rfl)
  obtain ⟨r, hr⟩ : ∃ r, fitE x (a, b) = r := ⟨_, rfl⟩
  rw [hr] at hF ⊢
  clear hr
  by_cases h1 : x.lo ≤ a
  · by_cases h2 : b ≤ x.hi
    · obtain rfl : r = 1 := hF.out.trans (if_pos ⟨h1, h2⟩)
      clear hF
      go_enter Try.func92, Try.ntmps92
      go_wp2_with fail
      go_ret
      exact ⟨rfl, hb.out⟩
    · by_cases h3 : x.hi < a
      · obtain rfl : r = 2 := hF.out.trans ((if_neg (fun h => h2 h.2)).trans (if_pos (.inl h3)))
        clear hF
        go_enter Try.func92, Try.ntmps92
        go_wp2_with fail
        go_ret
        exact ⟨rfl, hb.out⟩
      · by_cases h4 : b < x.lo
        · omega
        · obtain rfl : r = 3 := hF.out.trans ((if_neg (fun h => h2 h.2)).trans (if_neg (fun h => h.elim h3 h4)))
          clear hF
          go_enter Try.func92, Try.ntmps92
          go_wp2_with fail
          go_ret
          exact ⟨rfl, hb.out⟩
  · by_cases h3 : x.hi < a
    · obtain rfl : r = 2 := hF.out.trans ((if_neg (fun h => h1 h.1)).trans (if_pos (.inl h3)))
      clear hF
      go_enter Try.func92, Try.ntmps92
      go_wp2_with fail
      go_ret
      exact ⟨rfl, hb.out⟩
    · by_cases h4 : b < x.lo
      · obtain rfl : r = 2 := hF.out.trans ((if_neg (fun h => h1 h.1)).trans (if_pos (.inr h4)))
        clear hF
        go_enter Try.func92, Try.ntmps92
        go_wp2_with fail
        go_ret
        exact ⟨rfl, hb.out⟩
      · obtain rfl : r = 3 := hF.out.trans ((if_neg (fun h => h1 h.1)).trans (if_neg (fun h => h.elim h3 h4)))
        clear hF
        go_enter Try.func92, Try.ntmps92
        go_wp2_with fail
        go_ret
        exact ⟨rfl, hb.out⟩

set_option maxHeartbeats 4000000 in
set_option maxRecDepth 100000 in
theorem rfitc_any (p : Plot) (items : List Item) (person number : Int) (vp vw vd vq vi : Value) (w : World) (h : PlotAt none w vp vw vd vq p) (hI : ItemsAt none w vi items) :
    Calls Try.prog 44 #[plotV vp vw vd vq, vi, .int .i64 person, .int .i64 number] w fun e w' => e = .returned (.tuple #[.int .i64 (fitcRes p items person number), .int .i64 (fitcErr p items person number)]) ∧ Below w.heap.size w w' := by
  have H := hid h
  have HI := hid hI
  have HC := hid (fun W' hb => rcitems_any p items vp vw vd vq vi W' (H.out.below hb) (HI.out.below hb))
  obtain ⟨ap, cp, rfl⟩ := h.persons.form
  obtain ⟨aw, cw, rfl⟩ := h.walk.form
  obtain ⟨ad, cd, ed, _⟩ := h.dress
  subst ed
  obtain ⟨aq, cq, rfl⟩ := h.parts.form
  obtain ⟨ai, ci, rfl⟩ := hI.form
  clear h hI
  have K := hid ((HK.start w).box4m (n := w.heap.size) rfl (.slice ap p.persons.length cp) (.slice aw p.walk.length cw) (.slice ad p.dress.length cd) (.slice aq p.parts.length cq) 29)
  by_cases hi : itemsErr p items = 0
  rotate_left
  · obtain ⟨e1, e2⟩ := ne_bool hi
    have HE := hid (show fitcErr p items person number = itemsErr p items from by unfold fitcErr; rw [if_neg hi])
    have HR := hid (show fitcRes p items person number = 0 from by unfold fitcRes; rw [HE.out, if_neg hi])
    clear hi
    go_enter Try.func44, Try.ntmps44
    go_wp2_with (go_at_call 47; refine (HC.out _ K.out.below).mono ?_; rintro e w2 ⟨rfl, hb2⟩; have K := hid (K.out.later hb2); clear hb2)
    exact bodyPost_ret (v := .tuple #[.int .i64 0, .int .i64 (itemsErr p items)]) (by simp [results, Try.results44, go_sem]) rfl ⟨by rw [HR.out, HE.out], K.out.below⟩
  have hpl := (plotErr_zero.1 (itemsErr_zero hi).1).persons.2
  have hil := (itemsErr_zero hi).2.1
  have z1 : IntKind.i64.wrap ((p.persons.length : Int) - 1) = (p.persons.length : Int) - 1 := IntWalk.i64_in _ (by omega)
  have z2 : IntKind.i64.wrap ((items.length : Int) - 1) = (items.length : Int) - 1 := IntWalk.i64_in _ (by omega)
  have HS := hid (show fitcErr p items person number = if inB person 0 ((p.persons.length : Int) - 1) = true ∧ inB number 0 ((items.length : Int) - 1) = true then 0 else 7 from by unfold fitcErr; rw [if_pos hi])
  rw [hi] at HC
  clear hi
  cases ha : inB person 0 ((p.persons.length : Int) - 1) with
  | false =>
    have HE := hid (HS.out.trans (if_neg (fun h => by rw [ha] at h; cases h.1)))
    have HR := hid (show fitcRes p items person number = 0 from by unfold fitcRes; rw [HE.out]; rfl)
    clear HS
    go_enter Try.func44, Try.ntmps44
    go_wp2_with (first
      | (go_at_call 47; refine (HC.out _ K.out.below).mono ?_; rintro e w2 ⟨rfl, hb2⟩; have K := hid (K.out.later hb2); clear hb2; have p0 := K.out.c (b := w.heap.size) (o := 0) (v := .slice ap p.persons.length cp) (by simp))
      | (go_at_call 74; refine (rwithin_any _ _ _ _).mono ?_; rintro e w' ⟨rfl, rfl⟩; rw [ha]))
    exact bodyPost_ret (v := .tuple #[.int .i64 0, .int .i64 7]) (by simp [results, Try.results44, go_sem]) rfl ⟨by rw [HR.out, HE.out], K.out.below⟩
  | true =>
    have hn1 := inB_true.1 ha
    cases hb : inB number 0 ((items.length : Int) - 1) with
    | false =>
      have HE := hid (HS.out.trans (if_neg (fun h => by rw [hb] at h; cases h.2)))
      have HR := hid (show fitcRes p items person number = 0 from by unfold fitcRes; rw [HE.out]; rfl)
      clear HS
      go_enter Try.func44, Try.ntmps44
      go_wp2_with (first
        | (go_at_call 47; refine (HC.out _ K.out.below).mono ?_; rintro e w2 ⟨rfl, hb2⟩; have K := hid (K.out.later hb2); clear hb2; have p0 := K.out.c (b := w.heap.size) (o := 0) (v := .slice ap p.persons.length cp) (by simp))
        | (go_at_call 74; refine (rwithin_any _ _ _ _).mono ?_; rintro e w' ⟨rfl, rfl⟩; first | rw [ha] | rw [hb]))
      exact bodyPost_ret (v := .tuple #[.int .i64 0, .int .i64 7]) (by simp [results, Try.results44, go_sem]) rfl ⟨by rw [HR.out, HE.out], K.out.below⟩
    | true =>
      have hn2 := inB_true.1 hb
      have HE := hid (HS.out.trans (if_pos ⟨ha, hb⟩))
      have HR := hid (show fitcRes p items person number = fitE (it items number.toNat) (sp p.persons person.toNat) from by unfold fitcRes; rw [HE.out]; rfl)
      obtain ⟨m, rfl⟩ := Int.eq_ofNat_of_zero_le hn1.1
      obtain ⟨n, rfl⟩ := Int.eq_ofNat_of_zero_le hn2.1
      have hm : m < p.persons.length := by omega
      have hn : n < items.length := by omega
      rw [Int.toNat_natCast, Int.toNat_natCast] at HR
      have hci := ItemsAt.cells HI.out hn
      obtain ⟨bi, oi, e, hbi, g0, g1, g2, g3, g4⟩ := hci
      subst e
      have hcs := SpansAt.cells H.out.persons hm
      obtain ⟨bs, os, e, hbs, s0, s1⟩ := hcs
      subst e
      have i1 : (m : Int) < (p.persons.length : Int) := by omega
      have i2 : (n : Int) < (items.length : Int) := by omega
      obtain ⟨⟨sl, sh⟩, hsp⟩ : ∃ s, sp p.persons m = s := ⟨_, rfl⟩
      obtain ⟨g, hg⟩ : ∃ g, it items n = g := ⟨_, rfl⟩
      rw [hsp, hg] at HR
      rw [hsp] at s0 s1
      rw [hg] at g0 g1 g2 g3 g4
      dsimp only at s0 s1
      have HG := hid (show ∀ W', Below w.heap.size w W' → (W'.cell? ⟨bi, oi + n * 5, none⟩ = some (.int .i64 g.kind) ∧ W'.cell? ⟨bi, oi + n * 5 + 1, none⟩ = some (.int .i64 g.lo) ∧ W'.cell? ⟨bi, oi + n * 5 + 2, none⟩ = some (.int .i64 g.hi) ∧ W'.cell? ⟨bi, oi + n * 5 + 3, none⟩ = some (.int .i64 g.cost) ∧ W'.cell? ⟨bi, oi + n * 5 + 4, none⟩ = some (.int .i64 g.clean)) ∧ W'.cell? ⟨bs, os + m * 2, none⟩ = some (.int .i64 sl) ∧ W'.cell? ⟨bs, os + m * 2 + 1, none⟩ = some (.int .i64 sh) from
        fun W' hb => ⟨⟨cell_back hb hbi g0, cell_back hb hbi g1, cell_back hb hbi g2, cell_back hb hbi g3, cell_back hb hbi g4⟩, cell_back hb hbs s0, cell_back hb hbs s1⟩)
      have HFt := hid (fun W' => rfit_any g sl sh W')
      obtain ⟨fe, hfe⟩ : ∃ fe, fitE g (sl, sh) = fe := ⟨_, rfl⟩
      rw [hfe] at HFt HR
      clear hsp hg hfe HS g0 g1 g2 g3 g4 s0 s1
      go_enter Try.func44, Try.ntmps44
      go_upto_region 6 with (first
        | (go_at_call 47; refine (HC.out _ K.out.below).mono ?_; rintro e w2 ⟨rfl, hb2⟩; have K := hid (K.out.later hb2); clear hb2; have p0 := K.out.c (b := w.heap.size) (o := 0) (v := .slice (some ⟨bs, os, none⟩) p.persons.length cp) (by simp))
        | (go_at_call 74; refine (rwithin_any _ _ _ _).mono ?_; rintro e w' ⟨rfl, rfl⟩; first | rw [ha] | rw [hb]))
      obtain ⟨wy, hwy, KY⟩ := K.out.name
      rw [hwy]
      have K := hid KY.drew
      clear hwy KY p0 ha hb
      go_region_held3 (fun w' => w'.cell? ⟨w.heap.size, 0, none⟩ = some (.slice (some ⟨bs, os, none⟩) p.persons.length cp) ∧ (w'.cell? ⟨bi, oi + n * 5, none⟩ = some (.int .i64 g.kind) ∧ w'.cell? ⟨bi, oi + n * 5 + 1, none⟩ = some (.int .i64 g.lo) ∧ w'.cell? ⟨bi, oi + n * 5 + 2, none⟩ = some (.int .i64 g.hi) ∧ w'.cell? ⟨bi, oi + n * 5 + 3, none⟩ = some (.int .i64 g.cost) ∧ w'.cell? ⟨bi, oi + n * 5 + 4, none⟩ = some (.int .i64 g.clean)) ∧ w'.cell? ⟨bs, os + m * 2, none⟩ = some (.int .i64 sl) ∧ w'.cell? ⟨bs, os + m * 2 + 1, none⟩ = some (.int .i64 sh))
        (first | exact ⟨K.out.c (by simp), HG.out _ K.out.below⟩) (first
        | (go_at_call 92; refine (HFt.out _).mono ?_; rintro e w4 ⟨rfl, hb2⟩; have K := hid (K.out.later hb2); clear hb2))
      go_wp2_with fail
      exact bodyPost_ret (v := .tuple #[.int .i64 fe, .int .i64 0]) (by simp [results, Try.results44, go_sem]) rfl ⟨by rw [HR.out, HE.out], K.out.below⟩
end Go.Proofs.Ytdcinngdilfpnaa
