/-
  WALKS: ParadeTrue.
-/
import Derived.Test.YtgfipifgijohhaaDoorTrp
import Derived.Test.YtgfipifgijohhaaDoorLl
namespace Go.Proofs.YtgfipifgijohhaaDoor
open Go.RowKit

/-- a list that a call has made lies apart from all that is held -/
theorem LK.far {d : Nat} {cs : Cells} {li : List (Value × List Int)} {lw : List (Value × List Wing)} {w0 w w' : World} (k : LK d cs li lw w0 w) {xs : List Int} {b off n c : Nat} (h : OwnInts w.heap.size w' (.slice (some ⟨b, off, none⟩) n c) xs) :
    d < w.heap.size ∧ b ≠ d ∧ w0.heap.size ≤ b ∧ w.heap.size ≤ b ∧ (∀ b' o' u, (b', o', u) ∈ cs → b' ≠ b) ∧ (∀ v' xs', (v', xs') ∈ li → 0 < xs'.length → v'.ownBlock ≠ some b) ∧ (∀ v' ws', (v', ws') ∈ lw → 0 < ws'.length → v'.ownBlock ≠ some b) := by
  have h1 := (World.ownsRow.lt h b rfl).1
  have h2 := k.below.size
  refine ⟨k.lt, by have := k.lt; omega, by omega, h1, fun b' o' u hm => by have := k.clt hm; omega, fun v' xs' hm h0 e => ?_, fun v' xs' hm h0 e => ?_⟩
  · obtain ⟨b2, e2, hb2, _⟩ := (k.i hm).block h0
    rw [e2] at e; cases e; omega
  · obtain ⟨b2, e2, hb2, _⟩ := (k.g hm).block h0
    rw [e2] at e; cases e; omega

theorem ints_thawed {w : World} {base : Nat} {xs : List Int} {b off n c : Nat} (h : OwnInts base w (.slice (some ⟨b, off, none⟩) n c) xs) : ∀ o, w.frozen? ⟨b, o, none⟩ = false := by
  obtain ⟨_, h2⟩ := h
  rcases h2 with ⟨h0, _⟩ | ⟨g, cap, cur, e, hb, hh, h1, hm, hs, ht⟩
  · cases h0
  · cases e
    intro o
    unfold World.frozen?
    rw [hh]
    simp

theorem LK.dropC {d : Nat} {cs cs2 : Cells} {li : List (Value × List Int)} {lw : List (Value × List Wing)} {w0 w : World} (k : LK d cs li lw w0 w) (h : ∀ x, x ∈ cs2 → x ∈ cs) : LK d cs2 li lw w0 w := k.sub h

theorem gap_at {route : Int} {ws : List Wing} {st : List Int} (hc : checkStarts route ws st = 0) {m : Nat} (hm : m < ws.length) {t : Int} (ht : nm st m ≤ t) (ht2 : t ≤ 100000) :
    ∃ e a b : Int, gapErr route ws st (m : Int) t = e ∧ gapSpan route ws st (m : Int) t = (a, b) ∧ ((m = 0 ∧ e = 7) ∨ (0 < m ∧ e = 0)) ∧ (0 < m → a = max 0 (gapAt ws st 0 (m - 1) t) ∧ b = max 0 (gapAt ws st 1 (m - 1) t)) := by
  have e1 := asked_fine (second := t) hc hm ht ht2
  cases m with
  | zero =>
    have g1 : gapErr route ws st ((0 : Nat) : Int) t = 7 := by unfold gapErr; rw [if_pos e1, if_pos (by simp)]
    exact ⟨7, 0, 0, g1, by unfold gapSpan; rw [if_neg (by rw [g1]; decide)], .inl ⟨rfl, rfl⟩, fun h => by omega⟩
  | succ m =>
    obtain ⟨g1, s1⟩ := gap_fine e1
    exact ⟨0, _, _, g1, s1, .inr ⟨by omega, rfl⟩, fun _ => ⟨rfl, rfl⟩⟩

set_option maxHeartbeats 1000000 in
set_option maxRecDepth 100000 in
theorem kin_in {lo hi n : Int} (h1 : lo ≤ n) (h2 : n ≤ hi) (w : World) :
    Calls Tryd.prog 52 #[.agg #[.int .i64 lo, .int .i64 hi], .int .i64 n] w fun e w' => e = .returned (.bool true) ∧ Below w.heap.size w w' := by
  have h := kin_any lo hi n w
  rw [inB_true.2 ⟨h1, h2⟩] at h
  exact h

theorem LK.subI {d : Nat} {cs : Cells} {li li2 : List (Value × List Int)} {lw : List (Value × List Wing)} {w0 w : World} (k : LK d cs li lw w0 w) (h : ∀ x, x ∈ li2 → x ∈ li) : LK d cs li2 lw w0 w :=
  ⟨k.below, k.d0, k.beat, k.cell, fun v xs hm => k.ints v xs (h _ hm), k.wgs⟩

/-- a cell of a block that a call has made -/
theorem LK.addFar {d : Nat} {cs : Cells} {li : List (Value × List Int)} {lw : List (Value × List Wing)} {w0 w w' : World} (k : LK d cs li lw w0 w) {cs' : Cells} (k' : LK d cs' li lw w0 w') {b o : Nat} {v : Value} (hb : w.heap.size ≤ b)
    (hc : w'.cell? ⟨b, o, none⟩ = some v) (hf : w'.frozen? ⟨b, o, none⟩ = false) : LK d ((b, o, v) :: cs') li lw w0 w' where
  below := k'.below
  d0 := k'.d0
  beat := k'.beat
  cell := fun b o' u h => by
    rcases List.mem_cons.1 h with h | h
    · cases h; exact ⟨by have := k.lt; omega, Nat.le_trans k.below.size hb, hc, hf⟩
    · exact k'.cell b o' u h
  ints := fun v xs h => ⟨k'.i h, fun h0 b o' u hm => by
    rcases List.mem_cons.1 hm with hm | hm
    · cases hm
      obtain ⟨b, e, hb, _⟩ := (k.i h).block h0
      intro e2; rw [e] at e2; cases e2; omega
    · exact (k'.ints v xs h).2 h0 b o' u hm⟩
  wgs := fun v xs h => ⟨k'.g h, fun h0 b o' u hm => by
    rcases List.mem_cons.1 hm with hm | hm
    · cases hm
      obtain ⟨b, e, hb, _⟩ := (k.g h).block h0
      intro e2; rw [e] at e2; cases e2; omega
    · exact (k'.wgs v xs h).2 h0 b o' u hm⟩

/-- the row of one second, cell by cell -/
theorem Rows2.at {base : Nat} {w : World} {v : Value} {us : List Value} {rows : List (List Int)} (h : Rows2 base w v us rows) {t : Nat} {r : List Int} (hr : rows[t]? = some r) :
    ∃ gt ct gu cu, v = .slice (some ⟨gt, 0, none⟩) rows.length ct ∧ base ≤ gt ∧ w.cell? ⟨gt, t, none⟩ = some (.slice (some ⟨gu, 0, none⟩) r.length cu) ∧ w.frozen? ⟨gt, t, none⟩ = false ∧ base ≤ gu ∧
      ∀ i, i < r.length → w.cell? ⟨gu, i, none⟩ = some (.int .i64 (nm r i)) ∧ w.frozen? ⟨gu, i, none⟩ = false := by
  have ht : t < us.length := by rw [h.len]; exact (List.getElem?_eq_some_iff.1 hr).1
  obtain ⟨gt, ct, rfl, hb, _, _, _, _, hc⟩ := h.own.cell (by omega)
  have hfz : ∀ o, w.frozen? ⟨gt, o, none⟩ = false := by
    obtain ⟨_, h2⟩ := h.own
    rcases h2 with ⟨h0, _⟩ | ⟨g, cap, cur, e, hb, hh, h1, hm, hs, ht⟩
    · cases h0
    · cases e
      intro o
      unfold World.frozen?
      rw [hh]
      simp
  obtain ⟨h1, h2, _⟩ := h.row t us[t] r (by simp) hr
  obtain ⟨gu, cu, e, hbu, _, _, hcu⟩ := h1.cell h2
  have hc := hc t ht us[t] (by simp)
  rw [e] at h1 hc
  exact ⟨gt, ct, gu, cu, by rw [h.len], hb, hc, hfz t, hbu, fun i hi => ⟨hcu i hi, ints_thawed h1 i⟩⟩

theorem RowOk.sane {route : Int} {ws : List Wing} {st q : List Int} {m k : Nat} {t x a0 a1 c0 c1 d0 d1 ga gb : Int} (h : RowOk route ws st m t x a0 a1 c0 c1 d0 d1 ga gb q k) (hls : st.length = ws.length) (hm : MadeW ws) (hms : MadeS ws st) (h8 : ws.length ≤ 8) {i : Nat} (hi : i < ws.length) : Sane ws st q i := by
  have hs := hms.bound
  exact ⟨hi, by omega, by have := h.len; omega, by omega, fun j hj => by have := hm j (by omega); unfold Ln; omega, fun j hj => by have := hs j (by omega); omega, fun j hj => by have := h.pace j (by omega); omega⟩

set_option maxHeartbeats 16000000 in
set_option maxRecDepth 100000 in
theorem true_any (xs : List Int) (v : Value) (w : World) (hX : IntsAt none w v xs) (hn : xs.length ≤ 9223372036854775807) :
    Calls Tryd.prog 10 #[v] w fun e w' => e = .returned (.bool true) ∧ Below w.heap.size w w' := by
  have HX := hid hX
  obtain ⟨ax, cx, rfl, _⟩ := hX
  go_enter Tryd.func10, Tryd.ntmps10
  go_wp2_with fail
  refine (drumOf_any xs _ w HX.out hn).mono ?_
  rintro e w1 ⟨rfl, hb1, hl1⟩
  have K := hid (LK.start hb1 hl1 (Nat.le_refl _))
  clear hb1 hl1 HX
  go_wp2_with fail
  refine (schoolOf_any _ 5 _ K.out.beat (by decide) (by decide)).mono ?_
  rintro e w2 ⟨route, vw, ws, rfl, hr1, hr2, h0, h5, hm, hown, hbt, hgb⟩
  obtain ⟨bw, ow, cap, rfl, _, _⟩ := (hown.at (d := none) (by simp)).slice h0
  have K := hid (K.out.addWgs (K.out.go hgb hbt) hown)
  clear hgb hbt hown
  have h8 : ws.length ≤ 8 := by omega
  have hc := hid (made_check hm hr1 hr2 h0 h8)
  have K := hid (K.out.box2 (.int .i64 route) (.slice (some ⟨bw, ow, none⟩) ws.length cap) 24)
  have b0 := K.out.c (o := 0) (v := .int .i64 route) (List.Mem.head _)
  have b1 := K.out.c (o := 1) (v := .slice (some ⟨bw, ow, none⟩) ws.length cap) (List.Mem.tail _ (List.Mem.head _))
  go_wp2_with fail
  refine (startsOf_any _ ws route _ _ K.out.beat (K.out.g (by simp)) hc.out hm).mono ?_
  rintro e w4 ⟨vs, st, rfl, hls, hms, hso, hbt, hgb⟩
  have K := hid (K.out.addInts (K.out.go hgb hbt) hso)
  clear hbt hgb hso
  have hcs := hid (made_starts hc.out hls h8 hms)
  have Hls := hid hls
  have hls8 : st.length ≤ 5 := by omega
  obtain ⟨bs, os, cv, rfl, _, _⟩ := (K.out.i (v := vs) (xs := st) (by simp)).slice (by omega)
  clear hls b0 b1
  generalize w2.heap.size = B at *
  have b1 := K.out.c (b := B) (o := 1) (v := .slice (some ⟨bw, ow, none⟩) ws.length cap) (by simp)
  go_wp2_with fail
  refine (roll_any _ _ _ K.out.beat (by omega)).mono ?_
  rintro e w9 ⟨wi, rfl, hw1, hw2, hbt, hgb⟩
  obtain ⟨m, rfl⟩ := Int.eq_ofNat_of_zero_le hw1
  have hmw : m < ws.length := by omega
  have hms1 : m < st.length := by have := Hls.out; omega
  have K := hid (K.out.go hgb hbt)
  clear hbt hgb b1
  go_wp2_with fail
  have K := hid K.out.drew
  have hsb := hms.bound m hms1
  have i2 : (m : Int) < (st.length : Int) := by omega
  have wr : IntKind.i64.wrap (route + 1) = route + 1 := IntWalk.i64_in _ (by omega)
  go_region_held3 (fun w' => w'.cell? ⟨bs, os + m, none⟩ = some (.int .i64 (nm st m)) ∧ w'.cell? ⟨B, 0, none⟩ = some (.int .i64 route))
    (first | exact ⟨(K.out.i (v := .slice (some ⟨bs, os, none⟩) st.length cv) (xs := st) (by simp)).cell hms1, K.out.c (by simp)⟩) (first
    | (go_at_call 40; refine (roll_any _ _ _ K.out.beat (by omega)).mono ?_; rintro e w10 ⟨r, rfl, hr3, hr4, hbt, hgb⟩; have K := hid (K.out.go hgb hbt); clear hgb hbt; first | (have hx : rr = rr := rfl; clear hx; obtain ⟨x, rfl⟩ : ∃ z, z = r := ⟨r, rfl⟩) | (obtain ⟨rr, rfl⟩ : ∃ z, z = r := ⟨r, rfl⟩; have zw : IntKind.i64.wrap (nm st m + rr) = nm st m + rr := IntWalk.i64_in _ (by omega))))
  obtain ⟨t, ht⟩ : ∃ t : Nat, nm st m + rr = (t : Int) := ⟨(nm st m + rr).toNat, by omega⟩
  rw [ht]
  have ht1 : nm st m ≤ (t : Int) := by omega
  have ht2 : (t : Int) ≤ 10000 := by omega
  have hx0 : 0 ≤ x := by omega
  have hx1 : x ≤ 2000 := by omega
  clear zw ht wr
  have A0 := hid (asked_fine (second := (t : Int)) hcs.out hmw ht1 (by omega))
  have W0 := hid (where_fine A0.out)
  obtain ⟨p0, p1⟩ := pass_fine (route := route) (place := x) hcs.out hmw hx0 (by omega)
  have P0 := hid p0
  have P1 := hid p1
  have B0 := hid (both_rules hcs.out (rules_fine (a := 0) (b := 0) (c := 0) (by omega) (by omega) (by omega) (by omega) (by omega)))
  have V0 := hid (lasts_fine B0.out)
  obtain ⟨ge, ga, gb, g0, g1, g2, g3⟩ := gap_at (route := route) hcs.out hmw ht1 (by omega)
  have G0 := hid g0
  have G1 := hid g1
  have R5 := hid (fun ps hlp hp => rows_ok (route := route) (ws := ws) (st := st) (ps := ps) (m := m) (t := (t : Int)) (x := x) (ga := ga) (gb := gb) hcs.out hm hlp hp hmw ht1 hx0 hr1 rfl rfl rfl rfl rfl rfl g3)
  rw [long_over, long_over] at V0
  clear p0 p1 g0 g1 g3
  generalize front (Ln ws) (nm st) (Lo ws) m (t : Int) = a0 at *
  generalize front (Ln ws) (nm st) (Hi ws) m (t : Int) = a1 at *
  generalize passed (Ln ws) (nm st) (Hi ws) m x = c0 at *
  generalize passed (Ln ws) (nm st) (Lo ws) m x = c1 at *
  generalize overAt route ws st (Hi ws) - nm st 0 = d0 at *
  generalize overAt route ws st (Lo ws) - nm st 0 = d1 at *
  generalize verdictOf 0 0 d0 d1 = v0 at *
  have hns : st.length ≤ 1000000 := by omega
  have b0 := K.out.c (b := B) (o := 0) (v := .int .i64 route) (by simp)
  have b1 := K.out.c (b := B) (o := 1) (v := .slice (some ⟨bw, ow, none⟩) ws.length cap) (by simp)
  go_wp2_with fail
  refine (where_any ws st route _ _ _ _ _ (K.out.g (by simp)).any (K.out.i (by simp)).any (by omega) (made_size hm h8) hns).mono ?_
  rintro e w11 ⟨rfl, hb⟩
  rw [A0.out, W0.out]
  dsimp only
  have K := hid (K.out.later hb)
  clear hb b0 b1
  have K := hid (K.out.box2 (.int .i64 a0) (.int .i64 a1) 27)
  have b0 := K.out.c (b := B) (o := 0) (v := .int .i64 route) (by simp)
  have b1 := K.out.c (b := B) (o := 1) (v := .slice (some ⟨bw, ow, none⟩) ws.length cap) (by simp)
  go_wp2_with fail
  refine (ppasses_any ws st route _ _ _ _ _ (K.out.g (by simp)).any (K.out.i (by simp)).any (by omega) (made_size hm h8) hns).mono ?_
  rintro e w12 ⟨rfl, hb⟩
  rw [P0.out, P1.out]
  dsimp only
  have K := hid (K.out.later hb)
  clear hb b0 b1
  have K := hid (K.out.box2 (.int .i64 c0) (.int .i64 c1) 27)
  have b0 := K.out.c (b := B) (o := 0) (v := .int .i64 route) (by simp)
  have b1 := K.out.c (b := B) (o := 1) (v := .slice (some ⟨bw, ow, none⟩) ws.length cap) (by simp)
  go_wp2_with fail
  refine (pLasts_any ws st route 0 0 0 _ _ _ (K.out.g (by simp)).any (K.out.i (by simp)).any (by omega) (made_size hm h8) hns).mono ?_
  rintro e w13 ⟨rfl, hb⟩
  rw [B0.out, V0.out]
  dsimp only
  have K := hid (K.out.later hb)
  clear hb b0 b1
  have K := hid (K.out.box2 (.int .i64 d0) (.int .i64 d1) 27)
  have b0 := K.out.c (b := B) (o := 0) (v := .int .i64 route) (by simp)
  have b1 := K.out.c (b := B) (o := 1) (v := .slice (some ⟨bw, ow, none⟩) ws.length cap) (by simp)
  go_wp2_with fail
  refine (Gap_any ws st route _ _ _ _ _ (K.out.g (by simp)).any (K.out.i (by simp)).any (by omega) (made_size hm h8) hns).mono ?_
  rintro e w14 ⟨rfl, hb⟩
  rw [G0.out, G1.out]
  dsimp only
  have K := hid (K.out.later hb)
  clear hb b0 b1
  have K := hid (K.out.box2 (.int .i64 ga) (.int .i64 gb) 27)
  generalize w11.heap.size = X1 at *
  generalize w12.heap.size = X2 at *
  generalize w13.heap.size = X3 at *
  go_upto_region 10 with fail
  obtain ⟨X4, hX4⟩ : ∃ X, w14.heap.size = X := ⟨_, rfl⟩
  rw [hX4] at K ⊢
  go_cut [98] from 82 to 97 (fun c wx => c = .bool false ∧ LK w.heap.size [(X4, 0, .int .i64 ga), (X4, 1, .int .i64 gb), (X3, 0, .int .i64 d0), (X3, 1, .int .i64 d1), (X2, 0, .int .i64 c0), (X2, 1, .int .i64 c1), (X1, 0, .int .i64 a0), (X1, 1, .int .i64 a1), (B, 0, .int .i64 route), (B, 1, .slice (some ⟨bw, ow, none⟩) ws.length cap)] [(.slice (some ⟨bs, os, none⟩) st.length cv, st)] [(.slice (some ⟨bw, ow, none⟩) ws.length cap, ws)] w wx)
  case first =>
    as_aux_lemma =>
    rcases g2 with ⟨hmz, rfl⟩ | ⟨hmz, rfl⟩
    · have hmy : ¬ 0 < m := by omega
      clear hmz
      go_wp2_with fail
      go_meet
      exact ⟨rfl, K.out⟩
    · have hmy : 0 < m := by omega
      go_wp2_with fail
      go_meet
      exact ⟨rfl, K.out⟩
  case rest =>
    as_aux_lemma =>
    obtain ⟨rfl, KK⟩ := hcut
    have K := hid KK
    clear KK
    go_wp2_with fail
    have K := hid K.out.drew
    have hlm : 0 < (ws.map Wing.lo).length := by rw [List.length_map]; exact h0
    have hlh : 0 < (ws.map Wing.hi).length := by rw [List.length_map]; exact h0
    have hwl : ws.length ≤ 100 := by omega
    have hpp : ∀ i, i < ws.length → 0 ≤ Lo ws i ∧ Lo ws i ≤ Hi ws i ∧ Hi ws i ≤ 1000 := fun i hi => by have := hm i hi; unfold Lo Hi; omega
    go_region_held3 (fun w' => w'.cell? ⟨B, 0, none⟩ = some (.int .i64 route) ∧ w'.cell? ⟨B, 1, none⟩ = some (.slice (some ⟨bw, ow, none⟩) ws.length cap))
      (first | with_reducible exact ⟨K.out.c (by simp), K.out.c (by simp)⟩ | exact ⟨(K.out.alloc _).c (by simp), (K.out.alloc _).c (by simp)⟩) (first
      | (go_at_call 50; refine (slow_any ws route _ _ _ (K.out.g (by simp)) hwl).mono ?_; rintro e wq ⟨vq, rfl, hso, hb⟩; have K0 := K; have K := hid (K.out.addInts (K.out.later hb) hso); obtain ⟨bq, oq, kq, rfl, _, _⟩ := (hso.at (d := none) (by simp)).slice hlm; have hfar := K0.out.far hso; (first
          | (have hx : r0 = r0 := rfl; clear hx; have F4 := hid hfar; have O4 := hid hso; have O3 := hid (own_gb O3.out F3.out.1 (gb_below hb _)); clear hfar hso; obtain ⟨r4, rfl⟩ : ∃ z, z = bq := ⟨_, rfl⟩; obtain ⟨s4, rfl⟩ : ∃ z, z = oq := ⟨_, rfl⟩; obtain ⟨k4, rfl⟩ : ∃ z, z = kq := ⟨_, rfl⟩)
          | (obtain ⟨r0, rfl⟩ : ∃ z, z = bq := ⟨_, rfl⟩; obtain ⟨s0, rfl⟩ : ∃ z, z = oq := ⟨_, rfl⟩; obtain ⟨k0, rfl⟩ : ∃ z, z = kq := ⟨_, rfl⟩)); clear K0 hb)
      | (go_at_call 51; refine (fast_any ws route _ _ _ (K.out.g (by simp)) hwl).mono ?_; rintro e wq ⟨vq, rfl, hso, hb⟩; have K0 := K; have K := hid (K.out.addInts (K.out.later hb) hso); obtain ⟨bq, oq, kq, rfl, _, _⟩ := (hso.at (d := none) (by simp)).slice hlh; have hfar := K0.out.far hso; (first
          | (have hx : r1 = r1 := rfl; clear hx; have F3 := hid hfar; have O3 := hid hso; clear hfar hso; obtain ⟨r3, rfl⟩ : ∃ z, z = bq := ⟨_, rfl⟩; obtain ⟨s3, rfl⟩ : ∃ z, z = oq := ⟨_, rfl⟩; obtain ⟨k3, rfl⟩ : ∃ z, z = kq := ⟨_, rfl⟩)
          | (obtain ⟨r1, rfl⟩ : ∃ z, z = bq := ⟨_, rfl⟩; obtain ⟨s1, rfl⟩ : ∃ z, z = oq := ⟨_, rfl⟩; obtain ⟨k1, rfl⟩ : ∃ z, z = kq := ⟨_, rfl⟩)); clear K0 hb)
      | (go_at_call 38; refine (pacesOf_any _ ws route _ _ K.out.beat (K.out.g (by simp)) hwl hpp).mono ?_; rintro e wq ⟨vq, ps, rfl, hlp, hmp, hso, hbt, hgb⟩; have K := hid (K.out.addInts (K.out.go hgb hbt) hso); obtain ⟨r2, s2, k2, rfl, _, _⟩ := (hso.at (d := none) (by simp)).slice (by rw [hlp]; exact h0); clear hgb hbt hso))
    have Hlp := hid hlp
    have Hmp := hid hmp
    clear hlp hmp
    have T3 := hid (ints_thawed O3.out)
    have T4 := hid (ints_thawed O4.out)
    have hr3 : r3 < wq.heap.size := (World.ownsRow.lt O3.out r3 rfl).2
    have hr4 : r4 < wq.heap.size := (World.ownsRow.lt O4.out r4 rfl).2
    have K5 := hid (K.out.addAll (x := #[.slice (some ⟨r0, s0, none⟩) ws.length k0, .slice (some ⟨r1, s1, none⟩) ws.length k1, .slice (some ⟨r2, s2, none⟩) ws.length k2, .slice (some ⟨r3, s3, none⟩) ws.length k3, .slice (some ⟨r4, s4, none⟩) ws.length k4]) (t := 25) (K.out.alloc _) [(wq.heap.size, 0, .slice (some ⟨r0, s0, none⟩) ws.length k0), (wq.heap.size, 1, .slice (some ⟨r1, s1, none⟩) ws.length k1), (wq.heap.size, 2, .slice (some ⟨r2, s2, none⟩) ws.length k2), (wq.heap.size, 3, .slice (some ⟨r3, s3, none⟩) ws.length k3), (wq.heap.size, 4, .slice (some ⟨r4, s4, none⟩) ws.length k4)] (by
      intro b o v h
      simp only [List.mem_cons, Prod.mk.injEq, List.not_mem_nil, or_false] at h
      rcases h with ⟨rfl, rfl, rfl⟩ | ⟨rfl, rfl, rfl⟩ | ⟨rfl, rfl, rfl⟩ | ⟨rfl, rfl, rfl⟩ | ⟨rfl, rfl, rfl⟩ <;> exact ⟨rfl, rfl⟩))
    have T3 := hid (fun o => frozen_gb (w := wq) (gb_below (below_alloc wq (.cells #[.slice (some ⟨r0, s0, none⟩) ws.length k0, .slice (some ⟨r1, s1, none⟩) ws.length k1, .slice (some ⟨r2, s2, none⟩) ws.length k2, .slice (some ⟨r3, s3, none⟩) ws.length k3, .slice (some ⟨r4, s4, none⟩) ws.length k4] 25)) (some wq.heap.size)) hr3 (Nat.ne_of_lt hr3) (T3.out o))
    have T4 := hid (fun o => frozen_gb (w := wq) (gb_below (below_alloc wq (.cells #[.slice (some ⟨r0, s0, none⟩) ws.length k0, .slice (some ⟨r1, s1, none⟩) ws.length k1, .slice (some ⟨r2, s2, none⟩) ws.length k2, .slice (some ⟨r3, s3, none⟩) ws.length k3, .slice (some ⟨r4, s4, none⟩) ws.length k4] 25)) (some wq.heap.size)) hr4 (Nat.ne_of_lt hr4) (T4.out o))
    have hA3 : r3 ≠ wq.heap.size := Nat.ne_of_lt hr3
    have hA4 : r4 ≠ wq.heap.size := Nat.ne_of_lt hr4
    obtain ⟨wn, hwn, KN⟩ := K5.out.name
    rw [hwn] at T3 T4 ⊢
    generalize wq.heap.size = A at *
    clear hwn K K5 O3 O4 hr3 hr4
    have K : Hid (LK w.heap.size [(A, 0, .slice (some ⟨r0, s0, none⟩) ws.length k0), (A, 1, .slice (some ⟨r1, s1, none⟩) ws.length k1), (A, 2, .slice (some ⟨r2, s2, none⟩) ws.length k2), (A, 3, .slice (some ⟨r3, s3, none⟩) ws.length k3), (A, 4, .slice (some ⟨r4, s4, none⟩) ws.length k4), (X4, 0, .int .i64 ga), (X4, 1, .int .i64 gb), (X3, 0, .int .i64 d0), (X3, 1, .int .i64 d1), (X2, 0, .int .i64 c0), (X2, 1, .int .i64 c1), (X1, 0, .int .i64 a0), (X1, 1, .int .i64 a1), (B, 0, .int .i64 route), (B, 1, .slice (some ⟨bw, ow, none⟩) ws.length cap)] [(.slice (some ⟨r4, s4, none⟩) ws.length k4, ws.map Wing.lo), (.slice (some ⟨r3, s3, none⟩) ws.length k3, ws.map Wing.hi), (.slice (some ⟨r2, s2, none⟩) ws.length k2, ps), (.slice (some ⟨r1, s1, none⟩) ws.length k1, ws.map Wing.hi), (.slice (some ⟨r0, s0, none⟩) ws.length k0, ws.map Wing.lo), (.slice (some ⟨bs, os, none⟩) st.length cv, st)] [(.slice (some ⟨bw, ow, none⟩) ws.length cap, ws)] w wn) := hid (by have h := KN; rw [List.length_map, List.length_map, Hlp.out] at h; exact h)
    clear KN
    obtain ⟨_, n3, n30, _, n3c, n3i, n3w⟩ := F3.out
    obtain ⟨_, n4, n40, _, n4c, n4i, n4w⟩ := F4.out
    have h43 : r3 ≠ r4 := fun e => n4i _ _ (List.Mem.head _) (by rw [List.length_map]; exact h0) (by rw [← e]; rfl)
    rw [List.length_map, List.length_map, Hlp.out] at n3i
    rw [List.length_map, List.length_map, Hlp.out] at n4i
    have N3c := hid (show ∀ b' o' u, (b', o', u) ∈ ([(A, 0, .slice (some ⟨r0, s0, none⟩) ws.length k0), (A, 1, .slice (some ⟨r1, s1, none⟩) ws.length k1), (A, 2, .slice (some ⟨r2, s2, none⟩) ws.length k2), (A, 3, .slice (some ⟨r3, s3, none⟩) ws.length k3), (A, 4, .slice (some ⟨r4, s4, none⟩) ws.length k4), (X4, 0, .int .i64 ga), (X4, 1, .int .i64 gb), (X3, 0, .int .i64 d0), (X3, 1, .int .i64 d1), (X2, 0, .int .i64 c0), (X2, 1, .int .i64 c1), (X1, 0, .int .i64 a0), (X1, 1, .int .i64 a1), (B, 0, .int .i64 route), (B, 1, .slice (some ⟨bw, ow, none⟩) ws.length cap)] : Cells) → b' ≠ r3 from fun b' o' u hm => by
      rcases List.mem_cons.1 hm with hm | hm; · cases hm; exact Ne.symm hA3
      rcases List.mem_cons.1 hm with hm | hm; · cases hm; exact Ne.symm hA3
      rcases List.mem_cons.1 hm with hm | hm; · cases hm; exact Ne.symm hA3
      rcases List.mem_cons.1 hm with hm | hm; · cases hm; exact Ne.symm hA3
      rcases List.mem_cons.1 hm with hm | hm; · cases hm; exact Ne.symm hA3
      exact n3c _ _ _ hm)
    have N4c := hid (show ∀ b' o' u, (b', o', u) ∈ ([(A, 0, .slice (some ⟨r0, s0, none⟩) ws.length k0), (A, 1, .slice (some ⟨r1, s1, none⟩) ws.length k1), (A, 2, .slice (some ⟨r2, s2, none⟩) ws.length k2), (A, 3, .slice (some ⟨r3, s3, none⟩) ws.length k3), (A, 4, .slice (some ⟨r4, s4, none⟩) ws.length k4), (X4, 0, .int .i64 ga), (X4, 1, .int .i64 gb), (X3, 0, .int .i64 d0), (X3, 1, .int .i64 d1), (X2, 0, .int .i64 c0), (X2, 1, .int .i64 c1), (X1, 0, .int .i64 a0), (X1, 1, .int .i64 a1), (B, 0, .int .i64 route), (B, 1, .slice (some ⟨bw, ow, none⟩) ws.length cap)] : Cells) → b' ≠ r4 from fun b' o' u hm => by
      rcases List.mem_cons.1 hm with hm | hm; · cases hm; exact Ne.symm hA4
      rcases List.mem_cons.1 hm with hm | hm; · cases hm; exact Ne.symm hA4
      rcases List.mem_cons.1 hm with hm | hm; · cases hm; exact Ne.symm hA4
      rcases List.mem_cons.1 hm with hm | hm; · cases hm; exact Ne.symm hA4
      rcases List.mem_cons.1 hm with hm | hm; · cases hm; exact Ne.symm hA4
      exact n4c _ _ _ hm)
    have N3i := hid n3i
    have N4i := hid (show ∀ v' xs', (v', xs') ∈ ([(.slice (some ⟨r2, s2, none⟩) ws.length k2, ps), (.slice (some ⟨r1, s1, none⟩) ws.length k1, ws.map Wing.hi), (.slice (some ⟨r0, s0, none⟩) ws.length k0, ws.map Wing.lo), (.slice (some ⟨bs, os, none⟩) st.length cv, st)] : List (Value × List Int)) → 0 < xs'.length → v'.ownBlock ≠ some r4 from fun v' xs' hm => n4i v' xs' (List.mem_cons_of_mem _ hm))
    have N3w := hid n3w
    have N4w := hid n4w
    have hb3 : bw ≠ r3 := fun e => n3w _ _ (List.Mem.head _) h0 (by rw [← e]; rfl)
    have hb4 : bw ≠ r4 := fun e => n4w _ _ (List.Mem.head _) h0 (by rw [← e]; rfl)
    have hB3 : B ≠ r3 := n3c B 0 (.int .i64 route) (by simp)
    have hB4 : B ≠ r4 := n4c B 0 (.int .i64 route) (by simp)
    clear n3c n3i n3w n4c n4i n4w F3 F4
    have i3 : (m : Int) < (ws.length : Int) := by omega
    have i0 : (0 : Int) ≤ (m : Int) := by omega
    have hml : m < (ws.map Wing.lo).length := by rw [List.length_map]; exact hmw
    have hmh : m < (ws.map Wing.hi).length := by rw [List.length_map]; exact hmw
    have q3 := (K.out.i (v := .slice (some ⟨r3, s3, none⟩) ws.length k3) (xs := ws.map Wing.hi) (by simp)).cell hmh
    have q4 := (K.out.i (v := .slice (some ⟨r4, s4, none⟩) ws.length k4) (xs := ws.map Wing.lo) (by simp)).cell hml
    obtain ⟨_, _, c2, c3⟩ := (K.out.g (v := .slice (some ⟨bw, ow, none⟩) ws.length cap) (ws := ws) (by simp)).cells hmw
    have y3 := K.out.c (b := A) (o := 3) (v := .slice (some ⟨r3, s3, none⟩) ws.length k3) (by simp)
    have y4 := K.out.c (b := A) (o := 4) (v := .slice (some ⟨r4, s4, none⟩) ws.length k4) (by simp)
    have yB := K.out.c (b := B) (o := 1) (v := .slice (some ⟨bw, ow, none⟩) ws.length cap) (by simp)
    have f3 := T3.out (s3 + m)
    have f4 := T4.out (s4 + m)
    have hS0 := hid (show wn.cell? ⟨A, 3, none⟩ = some (.slice (some ⟨r3, s3, none⟩) ws.length k3) ∧ wn.cell? ⟨A, 4, none⟩ = some (.slice (some ⟨r4, s4, none⟩) ws.length k4) ∧ wn.cell? ⟨B, 1, none⟩ = some (.slice (some ⟨bw, ow, none⟩) ws.length cap) ∧ wn.cell? ⟨bw, ow + m * 4 + 2, none⟩ = some (.int .i64 (wg ws m).lo) ∧ wn.cell? ⟨bw, ow + m * 4 + 2 + 1, none⟩ = some (.int .i64 (wg ws m).hi) from ⟨y3, y4, yB, c2, c3⟩)
    go_wp2_with fail
    go_region_held3 (fun w' => w'.cell? ⟨A, 3, none⟩ = some (.slice (some ⟨r3, s3, none⟩) ws.length k3) ∧ w'.cell? ⟨A, 4, none⟩ = some (.slice (some ⟨r4, s4, none⟩) ws.length k4) ∧ w'.cell? ⟨B, 1, none⟩ = some (.slice (some ⟨bw, ow, none⟩) ws.length cap) ∧ w'.cell? ⟨bw, ow + m * 4 + 2, none⟩ = some (.int .i64 (wg ws m).lo) ∧ w'.cell? ⟨bw, ow + m * 4 + 2 + 1, none⟩ = some (.int .i64 (wg ws m).hi))
      (first | exact hS0.out | exact ⟨cell_set_far hA3 y3, cell_set_far hA3 y4, cell_set_far (Ne.symm hB3) yB, cell_set_far (Ne.symm hb3) c2, cell_set_far (Ne.symm hb3) c3⟩ | exact ⟨cell_set_far hA4 (cell_set_far hA3 y3), cell_set_far hA4 (cell_set_far hA3 y4), cell_set_far (Ne.symm hB4) (cell_set_far (Ne.symm hB3) yB), cell_set_far (Ne.symm hb4) (cell_set_far (Ne.symm hb3) c2), cell_set_far (Ne.symm hb4) (cell_set_far (Ne.symm hb3) c3)⟩) (fail)
    have kA := hid ((K.out.subI (li2 := [(.slice (some ⟨r2, s2, none⟩) ws.length k2, ps), (.slice (some ⟨r1, s1, none⟩) ws.length k1, ws.map Wing.hi), (.slice (some ⟨r0, s0, none⟩) ws.length k0, ws.map Wing.lo), (.slice (some ⟨bs, os, none⟩) st.length cv, st)]) (fun x h => List.mem_cons_of_mem _ (List.mem_cons_of_mem _ h))).store1 (b := r3) (o := s3 + m) (.int .i64 (wg ws m).lo) n3 n30 N3c.out N3i.out N3w.out)
    have e3 := hid ((((K.out.i (v := .slice (some ⟨r3, s3, none⟩) ws.length k3) (xs := ws.map Wing.hi) (by simp)).set hmh (wg ws m).lo).put (b := r4) (o := s4 + m) (u := .int .i64 (wg ws m).hi) (fun _ e => h43 (by injection e))))
    have e4 := hid ((((K.out.i (v := .slice (some ⟨r4, s4, none⟩) ws.length k4) (xs := ws.map Wing.lo) (by simp)).put (b := r3) (o := s3 + m) (u := .int .i64 (wg ws m).lo) (fun _ e => h43 (by injection e with e; exact e.symm))).set hml (wg ws m).hi))
    have kB := hid (kA.out.store1 (b := r4) (o := s4 + m) (.int .i64 (wg ws m).hi) n4 n40 N4c.out N4i.out N4w.out)
    have kC := hid (kB.out.addI e4.out (fun _ b o u hb e => N4c.out _ _ _ hb (by injection e with e; exact e.symm)))
    have K := hid (kC.out.addI e3.out (fun _ b o u hb e => N3c.out _ _ _ hb (by injection e with e; exact e.symm))).drew
    clear kA kB kC e3 e4 q3 q4 c2 c3 y3 y4 yB f3 f4 hS0
    obtain ⟨we, hwe, KE⟩ := K.out.name
    rw [hwe]
    clear hwe K
    have K : Hid (LK w.heap.size [(A, 0, .slice (some ⟨r0, s0, none⟩) ws.length k0), (A, 1, .slice (some ⟨r1, s1, none⟩) ws.length k1), (A, 2, .slice (some ⟨r2, s2, none⟩) ws.length k2), (A, 3, .slice (some ⟨r3, s3, none⟩) ws.length k3), (A, 4, .slice (some ⟨r4, s4, none⟩) ws.length k4), (X4, 0, .int .i64 ga), (X4, 1, .int .i64 gb), (X3, 0, .int .i64 d0), (X3, 1, .int .i64 d1), (X2, 0, .int .i64 c0), (X2, 1, .int .i64 c1), (X1, 0, .int .i64 a0), (X1, 1, .int .i64 a1), (B, 0, .int .i64 route), (B, 1, .slice (some ⟨bw, ow, none⟩) ws.length cap)] [(.slice (some ⟨r3, s3, none⟩) ws.length k3, (ws.map Wing.hi).set m (wg ws m).lo), (.slice (some ⟨r4, s4, none⟩) ws.length k4, (ws.map Wing.lo).set m (wg ws m).hi), (.slice (some ⟨r2, s2, none⟩) ws.length k2, ps), (.slice (some ⟨r1, s1, none⟩) ws.length k1, ws.map Wing.hi), (.slice (some ⟨r0, s0, none⟩) ws.length k0, ws.map Wing.lo), (.slice (some ⟨bs, os, none⟩) st.length cv, st)] [(.slice (some ⟨bw, ow, none⟩) ws.length cap, ws)] w we) := hid KE
    clear KE T3 T4 N3c N4c N3i N4i N3w N4w n3 n30 n4 n40 hb3 hb4 hB3 hB4 hA3 hA4 h43 hml hmh
    obtain ⟨ro0, ro1, ro2, ro3, ro4⟩ := R5.out ps Hlp.out Hmp.out
    have R := hid (show ∀ k, k < 5 → ∃ (bq oq kq : Nat) (q : List Int), (A, k, Value.slice (some ⟨bq, oq, none⟩) ws.length kq) ∈ ([(A, 0, .slice (some ⟨r0, s0, none⟩) ws.length k0), (A, 1, .slice (some ⟨r1, s1, none⟩) ws.length k1), (A, 2, .slice (some ⟨r2, s2, none⟩) ws.length k2), (A, 3, .slice (some ⟨r3, s3, none⟩) ws.length k3), (A, 4, .slice (some ⟨r4, s4, none⟩) ws.length k4), (X4, 0, .int .i64 ga), (X4, 1, .int .i64 gb), (X3, 0, .int .i64 d0), (X3, 1, .int .i64 d1), (X2, 0, .int .i64 c0), (X2, 1, .int .i64 c1), (X1, 0, .int .i64 a0), (X1, 1, .int .i64 a1), (B, 0, .int .i64 route), (B, 1, .slice (some ⟨bw, ow, none⟩) ws.length cap)] : Cells) ∧ (Value.slice (some ⟨bq, oq, none⟩) ws.length kq, q) ∈ ([(.slice (some ⟨r3, s3, none⟩) ws.length k3, (ws.map Wing.hi).set m (wg ws m).lo), (.slice (some ⟨r4, s4, none⟩) ws.length k4, (ws.map Wing.lo).set m (wg ws m).hi), (.slice (some ⟨r2, s2, none⟩) ws.length k2, ps), (.slice (some ⟨r1, s1, none⟩) ws.length k1, ws.map Wing.hi), (.slice (some ⟨r0, s0, none⟩) ws.length k0, ws.map Wing.lo), (.slice (some ⟨bs, os, none⟩) st.length cv, st)] : List (Value × List Int)) ∧ RowOk route ws st m (t : Int) x a0 a1 c0 c1 d0 d1 ga gb q k from fun k hk => by
      rcases (by omega : k = 0 ∨ k = 1 ∨ k = 2 ∨ k = 3 ∨ k = 4) with rfl | rfl | rfl | rfl | rfl
      · exact ⟨r0, s0, k0, _, by simp, by simp, ro0⟩
      · exact ⟨r1, s1, k1, _, by simp, by simp, ro1⟩
      · exact ⟨r2, s2, k2, _, by simp, by simp, ro2⟩
      · exact ⟨r3, s3, k3, _, by simp, by simp, ro3⟩
      · exact ⟨r4, s4, k4, _, by simp, by simp, ro4⟩)
    clear ro0 ro1 ro2 ro3 ro4 R5 Hmp Hlp A0 W0 P0 P1 B0 V0 G0 G1 hpp hlm hlh
    go_wp2_with fail
    go_loopw [19] (fun i wr => ∃ k : Nat, k ≤ 5 ∧ i = .int .i64 k ∧ LK w.heap.size [(A, 0, .slice (some ⟨r0, s0, none⟩) ws.length k0), (A, 1, .slice (some ⟨r1, s1, none⟩) ws.length k1), (A, 2, .slice (some ⟨r2, s2, none⟩) ws.length k2), (A, 3, .slice (some ⟨r3, s3, none⟩) ws.length k3), (A, 4, .slice (some ⟨r4, s4, none⟩) ws.length k4), (X4, 0, .int .i64 ga), (X4, 1, .int .i64 gb), (X3, 0, .int .i64 d0), (X3, 1, .int .i64 d1), (X2, 0, .int .i64 c0), (X2, 1, .int .i64 c1), (X1, 0, .int .i64 a0), (X1, 1, .int .i64 a1), (B, 0, .int .i64 route), (B, 1, .slice (some ⟨bw, ow, none⟩) ws.length cap)] [(.slice (some ⟨r3, s3, none⟩) ws.length k3, (ws.map Wing.hi).set m (wg ws m).lo), (.slice (some ⟨r4, s4, none⟩) ws.length k4, (ws.map Wing.lo).set m (wg ws m).hi), (.slice (some ⟨r2, s2, none⟩) ws.length k2, ps), (.slice (some ⟨r1, s1, none⟩) ws.length k1, ws.map Wing.hi), (.slice (some ⟨r0, s0, none⟩) ws.length k0, ws.map Wing.lo), (.slice (some ⟨bs, os, none⟩) st.length cv, st)] [(.slice (some ⟨bw, ow, none⟩) ws.length cap, ws)] w wr)
      (fun i _ => 5 - (intOf i).toNat)
    case atStart => exact ⟨0, by omega, rfl, K.out⟩
    case round =>
      as_aux_lemma =>
      obtain ⟨k, hk, rfl, KK⟩ := hrel
      obtain ⟨wo, rfl⟩ : ∃ wo : World, wo = wr := ⟨_, rfl⟩
      have K := hid KK
      clear KK
      by_cases hlt : k < 5
      · obtain ⟨bq, oq, kq, q, mA, mI, RO⟩ := R.out k hlt
        have hk5 : (k : Int) < 5 := by omega
        obtain ⟨bF, bF1, bO⟩ := RO.bounds hcs.out hm hms h8 hmw hx0 hx1 hr1 hr2 ht1 (by omega)
        go_wp2_with fail
        have K := hid K.out.drew
        go_region_held3 (fun w' => w'.cell? ⟨A, k, none⟩ = some (.slice (some ⟨bq, oq, none⟩) ws.length kq) ∧ w'.cell? ⟨B, 0, none⟩ = some (.int .i64 route) ∧ w'.cell? ⟨B, 1, none⟩ = some (.slice (some ⟨bw, ow, none⟩) ws.length cap))
          (first | with_reducible exact ⟨K.out.c mA, K.out.c (by simp), K.out.c (by simp)⟩) (first
          | (go_at_call 39; refine (walk_any ws st q route t _ _ _ _ (K.out.g (by simp)).any (K.out.i (by simp)).any (K.out.i mI).any h0 (by omega) Hls.out RO.len (fun i hi => by have := hm i hi; unfold Ln; omega) (fun i hi => by have := RO.pace i hi; omega) (fun i hi => by have := hms.bound i (by have := Hls.out; omega); omega) (by omega)).mono ?_; rintro e wx ⟨vt, us, rfl, hR, hbx⟩; have hR := hid hR; have K0 := K; have K := hid (K.out.later hbx); clear hbx))
        have RF := RO.f
        have RP := RO.p
        have RL := RO.l
        have RK0 := hid RO.k0
        have RK1 := hid RO.k1
        have RG := RO.g
        have RK3 := hid RO.k3
        have RK4 := hid RO.k4
        obtain ⟨l, hle⟩ : ∃ l, ws.length - 1 = l := ⟨_, rfl⟩
        have hll : l < ws.length := by omega
        have e1 : (ws.length : Int) - 1 = (l : Int) := by omega
        have i6 : (l : Int) < (ws.length : Int) := by omega
        have i7 : (t : Int) < ((t + 1 : Nat) : Int) := by omega
        have hpos : 0 < st.length := by omega
        have hpos2 : ¬ st.length = 0 := by omega
        have hpos3 : (0 : Int) < (st.length : Int) := by omega
        have i8 : (t : Int) < (t : Int) + 1 := by omega
        have i9 : (0 : Int) ≤ (t : Int) := by omega
        have hc1 : ∀ W', WgAt none W' (.slice (some ⟨bw, ow, none⟩) ws.length cap) ws → IntsAt none W' (.slice (some ⟨bs, os, none⟩) st.length cv) st → IntsAt none W' (.slice (some ⟨bq, oq, none⟩) ws.length kq) q → Calls Tryd.prog 44 #[.agg #[.int .i64 route, .slice (some ⟨bw, ow, none⟩) ws.length cap], .slice (some ⟨bs, os, none⟩) st.length cv, .slice (some ⟨bq, oq, none⟩) ws.length kq, .int .i64 (m : Int), .int .i64 x] W' (fun e' w' => e' = .returned (.int .i64 (passed (Ln ws) (nm st) (nm q) m x)) ∧ Below W'.heap.size W' w') := fun W' h1 h2 h3 => by
          have h := passed_any ws st q (m : Int) x route _ _ _ none W' h1 h2 h3 (by omega) (by rw [Int.toNat_natCast]; exact RO.sane Hls.out hm hms h8 hmw) hx0 (by omega)
          rw [Int.toNat_natCast] at h
          exact h
        have hlen := hm l hll
        have hc2 : ∀ W', WgAt none W' (.slice (some ⟨bw, ow, none⟩) ws.length cap) ws → IntsAt none W' (.slice (some ⟨bs, os, none⟩) st.length cv) st → IntsAt none W' (.slice (some ⟨bq, oq, none⟩) ws.length kq) q → Calls Tryd.prog 44 #[.agg #[.int .i64 route, .slice (some ⟨bw, ow, none⟩) ws.length cap], .slice (some ⟨bs, os, none⟩) st.length cv, .slice (some ⟨bq, oq, none⟩) ws.length kq, .int .i64 (l : Int), .int .i64 (route + (wg ws l).len)] W' (fun e' w' => e' = .returned (.int .i64 (overAt route ws st (nm q))) ∧ Below W'.heap.size W' w') := fun W' h1 h2 h3 => by
          have h := passed_any ws st q (l : Int) (route + (wg ws l).len) route _ _ _ none W' h1 h2 h3 (by omega) (by rw [Int.toNat_natCast]; exact RO.sane Hls.out hm hms h8 hll) (by omega) (by omega)
          rw [Int.toNat_natCast] at h
          unfold overAt
          rw [hle]
          exact h
        have C1 := hid hc1
        have C2 := hid hc2
        clear hc1 hc2
        obtain ⟨n, hne⟩ : ∃ n, m - 1 = n := ⟨_, rfl⟩
        have hnw : n < ws.length := by omega
        obtain ⟨gt, ct, gu, cu, rfl, hgt, u1, u2, hgu, hrow⟩ := hR.out.at (rowsN_at ws st q (t + 1) t (by omega))
        rw [rowsN_length]
        obtain ⟨p1, p2⟩ := hrow m (by rw [rowN_length]; exact hmw)
        obtain ⟨p3, p4⟩ := hrow n (by rw [rowN_length]; omega)
        rw [rowN_length] at u1
        rw [rowN_front hcs.out m hmw, if_neg (by omega)] at p1
        rw [rowN_front hcs.out n (by omega), if_neg (by have := starts_le hcs.out hms1 n (by omega); omega)] at p3
        have K := hid (K0.out.addFar (K0.out.addFar (K0.out.addFar K.out hgu p3 p4) hgu p1 p2) hgt u1 u2)
        clear K0 hgt u1 u2 hgu hrow p1 p2 p3 p4 hR
        have RG : 0 < m → ga ≤ front (Ln ws) (nm st) (nm q) n t - (wg ws n).len - front (Ln ws) (nm st) (nm q) m t ∧ front (Ln ws) (nm st) (nm q) n t - (wg ws n).len - front (Ln ws) (nm st) (nm q) m t ≤ gb := by
          have h := RG; unfold gapTrue at h; rw [hne] at h; exact h
        have RK3 : Hid (0 < m → k = 3 → front (Ln ws) (nm st) (nm q) n t - (wg ws n).len - front (Ln ws) (nm st) (nm q) m t = gb) := hid (by
          have h := RK3.out; unfold gapTrue at h; rw [hne] at h; exact h)
        have RK4 : Hid (0 < m → k = 4 → front (Ln ws) (nm st) (nm q) n t - (wg ws n).len - front (Ln ws) (nm st) (nm q) m t = ga) := hid (by
          have h := RK4.out; unfold gapTrue at h; rw [hne] at h; exact h)
        rw [hne] at bF1
        clear RO
        have RG := hid RG
        generalize front (Ln ws) (nm st) (nm q) m (t : Int) = F at *
        generalize front (Ln ws) (nm st) (nm q) n (t : Int) = F1 at *
        generalize passed (Ln ws) (nm st) (nm q) m x = PX at *
        obtain ⟨OV, hOV⟩ : ∃ OV, overAt route ws st (nm q) = OV := ⟨_, rfl⟩
        rw [hOV] at bO RL RK0 RK1 C2
        clear hOV
        obtain ⟨LG, hLG⟩ : ∃ LG, OV - nm st 0 = LG := ⟨_, rfl⟩
        have hs0 := hms.bound 0 (by omega)
        have z1 : IntKind.i64.wrap (OV - nm st 0) = LG := by rw [← hLG]; exact IntWalk.i64_in _ (by omega)
        rw [hLG] at RL RK0 RK1
        clear hLG
        have z5 : IntKind.i64.wrap (route + (wg ws l).len) = route + (wg ws l).len := IntWalk.i64_in _ (by omega)
        have mA3 : (A, k, Value.slice (some ⟨bq, oq, none⟩) ws.length kq) ∈ ((gt, t, Value.slice (some ⟨gu, 0, none⟩) ws.length cu) :: (gu, m, .int .i64 F) :: (gu, n, .int .i64 F1) :: [(A, 0, .slice (some ⟨r0, s0, none⟩) ws.length k0), (A, 1, .slice (some ⟨r1, s1, none⟩) ws.length k1), (A, 2, .slice (some ⟨r2, s2, none⟩) ws.length k2), (A, 3, .slice (some ⟨r3, s3, none⟩) ws.length k3), (A, 4, .slice (some ⟨r4, s4, none⟩) ws.length k4), (X4, 0, .int .i64 ga), (X4, 1, .int .i64 gb), (X3, 0, .int .i64 d0), (X3, 1, .int .i64 d1), (X2, 0, .int .i64 c0), (X2, 1, .int .i64 c1), (X1, 0, .int .i64 a0), (X1, 1, .int .i64 a1), (B, 0, .int .i64 route), (B, 1, .slice (some ⟨bw, ow, none⟩) ws.length cap)] : Cells) := List.mem_cons_of_mem _ (List.mem_cons_of_mem _ (List.mem_cons_of_mem _ mA))
        have MI := hid mI
        have MA := hid mA3
        clear mA mA3 mI
        go_wp2_with fail
        have K := hid K.out.drew
        go_region_held3 (fun w' => w'.cell? ⟨gt, t, none⟩ = some (.slice (some ⟨gu, 0, none⟩) ws.length cu) ∧ w'.cell? ⟨gu, m, none⟩ = some (.int .i64 F) ∧ w'.cell? ⟨A, k, none⟩ = some (.slice (some ⟨bq, oq, none⟩) ws.length kq) ∧ w'.cell? ⟨B, 0, none⟩ = some (.int .i64 route) ∧ w'.cell? ⟨B, 1, none⟩ = some (.slice (some ⟨bw, ow, none⟩) ws.length cap))
          (first | with_reducible exact ⟨K.out.c (by simp), K.out.c (by simp), K.out.c MA.out, K.out.c (by simp), K.out.c (by simp)⟩) (first
          | (go_at_call 44; refine (C1.out _ (K.out.g (by simp)).any (K.out.i (by simp)).any (K.out.i MI.out).any).mono ?_; rintro e wy ⟨rfl, hb⟩; have K := hid (K.out.later hb); clear hb))
        have yB := K.out.c (b := B) (o := 1) (v := .slice (some ⟨bw, ow, none⟩) ws.length cap) (by simp)
        go_wp2_with fail
        clear yB
        have K := hid K.out.drew
        go_region_held3 (fun w' => w'.cell? ⟨A, k, none⟩ = some (.slice (some ⟨bq, oq, none⟩) ws.length kq) ∧ w'.cell? ⟨B, 0, none⟩ = some (.int .i64 route) ∧ w'.cell? ⟨B, 1, none⟩ = some (.slice (some ⟨bw, ow, none⟩) ws.length cap) ∧ w'.cell? ⟨bw, ow + l * 4 + 1, none⟩ = some (.int .i64 (wg ws l).len) ∧ w'.cell? ⟨bs, os, none⟩ = some (.int .i64 (nm st 0)))
          (first | exact ⟨K.out.c MA.out, K.out.c (by simp), K.out.c (by simp), ((K.out.g (v := .slice (some ⟨bw, ow, none⟩) ws.length cap) (ws := ws) (by simp)).cells hll).2.1, by have h := (K.out.i (v := .slice (some ⟨bs, os, none⟩) st.length cv) (xs := st) (by simp)).cell (i := 0) (by omega); rw [Nat.add_zero] at h; exact h⟩) (first
          | (go_at_call 44; refine (C2.out _ (K.out.g (by simp)).any (K.out.i (by simp)).any (K.out.i MI.out).any).mono ?_; rintro e wz ⟨rfl, hb⟩; have K := hid (K.out.later hb); clear hb))
        clear z1 z5 C1 C2
        have hneqk : k < 5 := hlt
        have RF1 := RF.1
        have RF2 := RF.2
        have RP1 := RP.1
        have RP2 := RP.2
        have RL1 := RL.1
        have RL2 := RL.2
        go_upto_region 21 with fail
        go_cut [249] from 135 to 293 (fun c wx => c = .bool false ∧ LK w.heap.size ((gt, t, Value.slice (some ⟨gu, 0, none⟩) ws.length cu) :: (gu, m, .int .i64 F) :: (gu, n, .int .i64 F1) :: [(A, 0, .slice (some ⟨r0, s0, none⟩) ws.length k0), (A, 1, .slice (some ⟨r1, s1, none⟩) ws.length k1), (A, 2, .slice (some ⟨r2, s2, none⟩) ws.length k2), (A, 3, .slice (some ⟨r3, s3, none⟩) ws.length k3), (A, 4, .slice (some ⟨r4, s4, none⟩) ws.length k4), (X4, 0, .int .i64 ga), (X4, 1, .int .i64 gb), (X3, 0, .int .i64 d0), (X3, 1, .int .i64 d1), (X2, 0, .int .i64 c0), (X2, 1, .int .i64 c1), (X1, 0, .int .i64 a0), (X1, 1, .int .i64 a1), (B, 0, .int .i64 route), (B, 1, .slice (some ⟨bw, ow, none⟩) ws.length cap)]) [(.slice (some ⟨r3, s3, none⟩) ws.length k3, (ws.map Wing.hi).set m (wg ws m).lo), (.slice (some ⟨r4, s4, none⟩) ws.length k4, (ws.map Wing.lo).set m (wg ws m).hi), (.slice (some ⟨r2, s2, none⟩) ws.length k2, ps), (.slice (some ⟨r1, s1, none⟩) ws.length k1, ws.map Wing.hi), (.slice (some ⟨r0, s0, none⟩) ws.length k0, ws.map Wing.lo), (.slice (some ⟨bs, os, none⟩) st.length cv, st)] [(.slice (some ⟨bw, ow, none⟩) ws.length cap, ws)] w wx)
        case first =>
          as_aux_lemma =>
          have x0 := K.out.c (b := X1) (o := 0) (v := .int .i64 a0) (by simp)
          have x1 := K.out.c (b := X1) (o := 1) (v := .int .i64 a1) (by simp)
          have x2 := K.out.c (b := X2) (o := 0) (v := .int .i64 c0) (by simp)
          have x3 := K.out.c (b := X2) (o := 1) (v := .int .i64 c1) (by simp)
          have x4 := K.out.c (b := X3) (o := 0) (v := .int .i64 d0) (by simp)
          have x5 := K.out.c (b := X3) (o := 1) (v := .int .i64 d1) (by simp)
          by_cases hk0 : k = 0
          · obtain ⟨q1, q2, q3⟩ := RK0.out hk0; replace q1 := q1.symm; replace q2 := q2.symm; replace q3 := q3.symm; subst q1 q2 q3
            obtain ⟨g1, g2⟩ := eq_bool (a := (k : Int)) (b := 0) (by omega)
            obtain ⟨g3, g4⟩ := ne_bool (a := (k : Int)) (b := 1) (by omega)
            clear hk0
            go_wp2_with (go_at_call 52; first | (with_reducible refine (kin_in RF1 RF2 _).mono ?_; rintro e wv ⟨rfl, hb⟩; have K := hid (K.out.later hb); clear hb x0 x1 x2 x3 x4 x5; have x0 := K.out.c (b := X1) (o := 0) (v := .int .i64 a0) (by simp); have x1 := K.out.c (b := X1) (o := 1) (v := .int .i64 a1) (by simp); have x2 := K.out.c (b := X2) (o := 0) (v := .int .i64 c0) (by simp); have x3 := K.out.c (b := X2) (o := 1) (v := .int .i64 c1) (by simp); have x4 := K.out.c (b := X3) (o := 0) (v := .int .i64 d0) (by simp); have x5 := K.out.c (b := X3) (o := 1) (v := .int .i64 d1) (by simp)) | (with_reducible refine (kin_in RP1 RP2 _).mono ?_; rintro e wv ⟨rfl, hb⟩; have K := hid (K.out.later hb); clear hb x0 x1 x2 x3 x4 x5; have x0 := K.out.c (b := X1) (o := 0) (v := .int .i64 a0) (by simp); have x1 := K.out.c (b := X1) (o := 1) (v := .int .i64 a1) (by simp); have x2 := K.out.c (b := X2) (o := 0) (v := .int .i64 c0) (by simp); have x3 := K.out.c (b := X2) (o := 1) (v := .int .i64 c1) (by simp); have x4 := K.out.c (b := X3) (o := 0) (v := .int .i64 d0) (by simp); have x5 := K.out.c (b := X3) (o := 1) (v := .int .i64 d1) (by simp)) | (with_reducible refine (kin_in RL1 RL2 _).mono ?_; rintro e wv ⟨rfl, hb⟩; have K := hid (K.out.later hb); clear hb x0 x1 x2 x3 x4 x5; have x0 := K.out.c (b := X1) (o := 0) (v := .int .i64 a0) (by simp); have x1 := K.out.c (b := X1) (o := 1) (v := .int .i64 a1) (by simp); have x2 := K.out.c (b := X2) (o := 0) (v := .int .i64 c0) (by simp); have x3 := K.out.c (b := X2) (o := 1) (v := .int .i64 c1) (by simp); have x4 := K.out.c (b := X3) (o := 0) (v := .int .i64 d0) (by simp); have x5 := K.out.c (b := X3) (o := 1) (v := .int .i64 d1) (by simp)))
            go_meet
            exact ⟨rfl, K.out⟩
          · by_cases hk1 : k = 1
            · obtain ⟨q1, q2, q3⟩ := RK1.out hk1; replace q1 := q1.symm; replace q2 := q2.symm; replace q3 := q3.symm; subst q1 q2 q3
              obtain ⟨g1, g2⟩ := eq_bool (a := (k : Int)) (b := 1) (by omega)
              obtain ⟨g3, g4⟩ := ne_bool (a := (k : Int)) (b := 0) (by omega)
              clear hk0 hk1
              go_wp2_with (go_at_call 52; first | (with_reducible refine (kin_in RF1 RF2 _).mono ?_; rintro e wv ⟨rfl, hb⟩; have K := hid (K.out.later hb); clear hb x0 x1 x2 x3 x4 x5; have x0 := K.out.c (b := X1) (o := 0) (v := .int .i64 a0) (by simp); have x1 := K.out.c (b := X1) (o := 1) (v := .int .i64 a1) (by simp); have x2 := K.out.c (b := X2) (o := 0) (v := .int .i64 c0) (by simp); have x3 := K.out.c (b := X2) (o := 1) (v := .int .i64 c1) (by simp); have x4 := K.out.c (b := X3) (o := 0) (v := .int .i64 d0) (by simp); have x5 := K.out.c (b := X3) (o := 1) (v := .int .i64 d1) (by simp)) | (with_reducible refine (kin_in RP1 RP2 _).mono ?_; rintro e wv ⟨rfl, hb⟩; have K := hid (K.out.later hb); clear hb x0 x1 x2 x3 x4 x5; have x0 := K.out.c (b := X1) (o := 0) (v := .int .i64 a0) (by simp); have x1 := K.out.c (b := X1) (o := 1) (v := .int .i64 a1) (by simp); have x2 := K.out.c (b := X2) (o := 0) (v := .int .i64 c0) (by simp); have x3 := K.out.c (b := X2) (o := 1) (v := .int .i64 c1) (by simp); have x4 := K.out.c (b := X3) (o := 0) (v := .int .i64 d0) (by simp); have x5 := K.out.c (b := X3) (o := 1) (v := .int .i64 d1) (by simp)) | (with_reducible refine (kin_in RL1 RL2 _).mono ?_; rintro e wv ⟨rfl, hb⟩; have K := hid (K.out.later hb); clear hb x0 x1 x2 x3 x4 x5; have x0 := K.out.c (b := X1) (o := 0) (v := .int .i64 a0) (by simp); have x1 := K.out.c (b := X1) (o := 1) (v := .int .i64 a1) (by simp); have x2 := K.out.c (b := X2) (o := 0) (v := .int .i64 c0) (by simp); have x3 := K.out.c (b := X2) (o := 1) (v := .int .i64 c1) (by simp); have x4 := K.out.c (b := X3) (o := 0) (v := .int .i64 d0) (by simp); have x5 := K.out.c (b := X3) (o := 1) (v := .int .i64 d1) (by simp)))
              go_meet
              exact ⟨rfl, K.out⟩
            · obtain ⟨g1, g2⟩ := ne_bool (a := (k : Int)) (b := 1) (by omega)
              obtain ⟨g3, g4⟩ := ne_bool (a := (k : Int)) (b := 0) (by omega)
              clear hk0 hk1
              go_wp2_with (go_at_call 52; first | (with_reducible refine (kin_in RF1 RF2 _).mono ?_; rintro e wv ⟨rfl, hb⟩; have K := hid (K.out.later hb); clear hb x0 x1 x2 x3 x4 x5; have x0 := K.out.c (b := X1) (o := 0) (v := .int .i64 a0) (by simp); have x1 := K.out.c (b := X1) (o := 1) (v := .int .i64 a1) (by simp); have x2 := K.out.c (b := X2) (o := 0) (v := .int .i64 c0) (by simp); have x3 := K.out.c (b := X2) (o := 1) (v := .int .i64 c1) (by simp); have x4 := K.out.c (b := X3) (o := 0) (v := .int .i64 d0) (by simp); have x5 := K.out.c (b := X3) (o := 1) (v := .int .i64 d1) (by simp)) | (with_reducible refine (kin_in RP1 RP2 _).mono ?_; rintro e wv ⟨rfl, hb⟩; have K := hid (K.out.later hb); clear hb x0 x1 x2 x3 x4 x5; have x0 := K.out.c (b := X1) (o := 0) (v := .int .i64 a0) (by simp); have x1 := K.out.c (b := X1) (o := 1) (v := .int .i64 a1) (by simp); have x2 := K.out.c (b := X2) (o := 0) (v := .int .i64 c0) (by simp); have x3 := K.out.c (b := X2) (o := 1) (v := .int .i64 c1) (by simp); have x4 := K.out.c (b := X3) (o := 0) (v := .int .i64 d0) (by simp); have x5 := K.out.c (b := X3) (o := 1) (v := .int .i64 d1) (by simp)) | (with_reducible refine (kin_in RL1 RL2 _).mono ?_; rintro e wv ⟨rfl, hb⟩; have K := hid (K.out.later hb); clear hb x0 x1 x2 x3 x4 x5; have x0 := K.out.c (b := X1) (o := 0) (v := .int .i64 a0) (by simp); have x1 := K.out.c (b := X1) (o := 1) (v := .int .i64 a1) (by simp); have x2 := K.out.c (b := X2) (o := 0) (v := .int .i64 c0) (by simp); have x3 := K.out.c (b := X2) (o := 1) (v := .int .i64 c1) (by simp); have x4 := K.out.c (b := X3) (o := 0) (v := .int .i64 d0) (by simp); have x5 := K.out.c (b := X3) (o := 1) (v := .int .i64 d1) (by simp)))
              go_meet
              exact ⟨rfl, K.out⟩
        case rest =>
          as_aux_lemma =>
          obtain ⟨rfl, KK⟩ := hcut
          have K := hid KK
          clear KK RK0 RK1 RF RP RL RF1 RF2 RP1 RP2 RL1 RL2
          by_cases hm0 : m = 0
          · have hmz : (m : Int) = 0 := by omega
            go_wp2_with fail
            go_roundw
            case rel => exact ⟨k + 1, by omega, by go_num, K.out.sub (fun x hx => List.mem_cons_of_mem _ (List.mem_cons_of_mem _ (List.mem_cons_of_mem _ hx)))⟩
            case measure => simp [intOf] <;> omega
          · have hmz : ¬ (m : Int) = 0 := by omega
            have e2 : (m : Int) - 1 = (n : Int) := by omega
            have i10 : (n : Int) < (ws.length : Int) := by omega
            obtain ⟨RG1, RG2⟩ := RG.out (by omega)
            have RK3 := hid (RK3.out (by omega))
            have RK4 := hid (RK4.out (by omega))
            have hln := hm n hnw
            have z2 : IntKind.i64.wrap (F1 - (wg ws n).len) = F1 - (wg ws n).len := IntWalk.i64_in _ (by omega)
            obtain ⟨N, hN⟩ : ∃ N, F1 - (wg ws n).len - F = N := ⟨_, rfl⟩
            have z3 : IntKind.i64.wrap (F1 - (wg ws n).len - F) = N := by rw [← hN]; exact IntWalk.i64_in _ (by omega)
            rw [hN] at RG1 RG2 RK3 RK4
            clear hN
            have y1 := K.out.c (b := gt) (o := t) (v := .slice (some ⟨gu, 0, none⟩) ws.length cu) (by simp)
            have y2 := K.out.c (b := gu) (o := n) (v := .int .i64 F1) (by simp)
            have yB := K.out.c (b := B) (o := 1) (v := .slice (some ⟨bw, ow, none⟩) ws.length cap) (by simp)
            obtain ⟨_, y3, _, _⟩ := (K.out.g (v := .slice (some ⟨bw, ow, none⟩) ws.length cap) (ws := ws) (by simp)).cells hnw
            go_wp2_with fail
            go_quiet (fail)
            clear y1 y2 y3 yB z2 z3
            have K := hid (K.out.drewN nq)
            have x0 := K.out.c (b := X4) (o := 0) (v := .int .i64 ga) (by simp)
            have x1 := K.out.c (b := X4) (o := 1) (v := .int .i64 gb) (by simp)
            by_cases hk3 : k = 3
            · have e3 := (RK3.out hk3).symm
              subst e3
              obtain ⟨g1, g2⟩ := eq_bool (a := (k : Int)) (b := 3) (by omega)
              obtain ⟨g3, g4⟩ := ne_bool (a := (k : Int)) (b := 4) (by omega)
              clear hk3
              go_wp2_with (go_at_call 52; with_reducible refine (kin_in RG1 RG2 _).mono ?_; rintro e wv ⟨rfl, hb⟩; have K := hid (K.out.later hb); clear hb x0 x1; have x0 := K.out.c (b := X4) (o := 0) (v := .int .i64 ga) (by simp); have x1 := K.out.c (b := X4) (o := 1) (v := .int .i64 gb) (by simp))
              go_roundw
              case rel => exact ⟨k + 1, by omega, by go_num, K.out.sub (fun x hx => List.mem_cons_of_mem _ (List.mem_cons_of_mem _ (List.mem_cons_of_mem _ hx)))⟩
              case measure => simp [intOf] <;> omega
            · by_cases hk4 : k = 4
              · have e4 := (RK4.out hk4).symm
                subst e4
                obtain ⟨g1, g2⟩ := eq_bool (a := (k : Int)) (b := 4) (by omega)
                obtain ⟨g3, g4⟩ := ne_bool (a := (k : Int)) (b := 3) (by omega)
                clear hk3 hk4
                go_wp2_with (go_at_call 52; with_reducible refine (kin_in RG1 RG2 _).mono ?_; rintro e wv ⟨rfl, hb⟩; have K := hid (K.out.later hb); clear hb x0 x1; have x0 := K.out.c (b := X4) (o := 0) (v := .int .i64 ga) (by simp); have x1 := K.out.c (b := X4) (o := 1) (v := .int .i64 gb) (by simp))
                go_roundw
                case rel => exact ⟨k + 1, by omega, by go_num, K.out.sub (fun x hx => List.mem_cons_of_mem _ (List.mem_cons_of_mem _ (List.mem_cons_of_mem _ hx)))⟩
                case measure => simp [intOf] <;> omega
              · obtain ⟨g1, g2⟩ := ne_bool (a := (k : Int)) (b := 4) (by omega)
                obtain ⟨g3, g4⟩ := ne_bool (a := (k : Int)) (b := 3) (by omega)
                clear hk3 hk4
                go_wp2_with (go_at_call 52; with_reducible refine (kin_in RG1 RG2 _).mono ?_; rintro e wv ⟨rfl, hb⟩; have K := hid (K.out.later hb); clear hb x0 x1; have x0 := K.out.c (b := X4) (o := 0) (v := .int .i64 ga) (by simp); have x1 := K.out.c (b := X4) (o := 1) (v := .int .i64 gb) (by simp))
                go_roundw
                case rel => exact ⟨k + 1, by omega, by go_num, K.out.sub (fun x hx => List.mem_cons_of_mem _ (List.mem_cons_of_mem _ (List.mem_cons_of_mem _ hx)))⟩
                case measure => simp [intOf] <;> omega
      · obtain rfl : k = 5 := by omega
        go_wp2_with (go_at_call 18; refine (awake_any _).mono ?_; rintro e w10 ⟨rfl, hb10⟩)
        go_ret
        exact ⟨rfl, (K.out.later hb10).below⟩
end Go.Proofs.YtgfipifgijohhaaDoor
