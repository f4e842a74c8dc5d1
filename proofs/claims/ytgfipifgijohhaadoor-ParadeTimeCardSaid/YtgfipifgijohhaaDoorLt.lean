/-
  WALKS: ParadeTime.
-/
import Derived.Test.YtgfipifgijohhaaDoorLtp
namespace Go.Proofs.YtgfipifgijohhaaDoor
open Go.RowKit

set_option maxHeartbeats 4000000 in
set_option maxRecDepth 100000 in
theorem time_any (xs : List Int) (v : Value) (w : World) (hX : IntsAt none w v xs) (hn : xs.length ≤ 9223372036854775807) :
    Calls Tryd.prog 5 #[v] w fun e w' => e = .returned (.bool true) ∧ Below w.heap.size w w' := by
  have HX := hid hX
  obtain ⟨ax, cx, rfl, _⟩ := hX
  go_enter Tryd.func5, Tryd.ntmps5
  go_wp2_with fail
  refine (drumOf_any xs _ w HX.out hn).mono ?_
  rintro e w1 ⟨rfl, hb1, hl1⟩
  have K := hid (LK.start hb1 hl1 (Nat.le_refl _))
  clear hb1 hl1 HX
  go_wp2_with fail
  refine (schoolOf_any _ 5 _ K.out.beat (by decide) (by decide)).mono ?_
  rintro e w2 ⟨route, vw, ws, rfl, hr1, hr2, h0, h5, hm, hown, hbt, hgb⟩
  obtain ⟨bw, ow, cap, rfl, _, _⟩ := (hown.at (d := none) (by simp)).slice h0
  have K := hid (K.out.addWgs (K.out.go hgb hbt) hown)
  clear hgb hbt hown
  have hc := made_check hm hr1 hr2 h0 (by omega)
  have K := hid (K.out.box2 (.int .i64 route) (.slice (some ⟨bw, ow, none⟩) ws.length cap) 24)
  go_wp2_with fail
  obtain ⟨w3, hw3⟩ : ∃ x, w2.alloc (.cells #[.int .i64 route, .slice (some ⟨bw, ow, none⟩) ws.length cap] 24) = x := ⟨_, rfl⟩
  rw [hw3] at K
  rw [hw3]
  have hBz : w2.heap.size < w3.heap.size := by rw [← hw3]; simp
  clear hw3
  generalize w2.heap.size = B at *
  generalize w.heap.size = d at *
  have K := hid K.out.drew
  go_region_held3 (fun w' => w'.cell? ⟨B, 0, none⟩ = some (.int .i64 route) ∧ w'.cell? ⟨B, 1, none⟩ = some (.slice (some ⟨bw, ow, none⟩) ws.length cap))
    (first | with_reducible exact ⟨K.out.c (by simp), K.out.c (by simp)⟩ | with_reducible exact ⟨cell_set_far hZB (cell_set_far hZB (cell_set_far hZB (K.out.c (by simp)))), cell_set_far hZB (cell_set_far hZB (cell_set_far hZB (K.out.c (by simp))))⟩ | exact ⟨(K.out.alloc _).c (by simp), (K.out.alloc _).c (by simp)⟩) (first
    | (go_at_call 21; refine (startsOf_any d ws route _ _ (by first | with_reducible exact K.out.beat | exact (K.out.alloc _).beat) (by first | with_reducible exact K.out.g (by simp) | exact (K.out.alloc _).g (by simp)) hc hm).mono ?_; rintro e w4 ⟨vs, st, rfl, hls, hms, hso, hbt, hgb⟩; (first
        | (with_reducible have K := hid (K.out.addInts (K.out.go hgb hbt) hso))
        | (have hZB := Nat.ne_of_gt (K.out.clt (b := B) (o := 0) (v := .int .i64 route) (by simp)); have K := hid (K.out.box3 (.int .i64 0) (.int .i64 0) (.int .i64 0) 50); (try simp only [World.size_drew] at K hZB); have K := hid (K.out.addInts (K.out.go hgb hbt) hso))); (try ((have z0 := K.out.c (o := 0) (v := .int .i64 0) (List.Mem.head _); have z1 := K.out.c (o := 1) (v := .int .i64 0) (List.Mem.tail _ (List.Mem.head _)); have z2 := K.out.c (o := 2) (v := .int .i64 0) (List.Mem.tail _ (List.Mem.tail _ (List.Mem.head _))); have y0 := K.out.f (o := 0) (v := .int .i64 0) (List.Mem.head _); have y1 := K.out.f (o := 1) (v := .int .i64 0) (List.Mem.tail _ (List.Mem.head _)); have y2 := K.out.f (o := 2) (v := .int .i64 0) (List.Mem.tail _ (List.Mem.tail _ (List.Mem.head _)))))); clear hbt hgb hso)
    | (go_at_call 33; refine (rulesOf_any d _ (by first | with_reducible exact K.out.beat | exact (K.out.alloc _).beat)).mono ?_; rintro e w5 ⟨ra, rb, rc, rfl, ha1, ha2, hab, hb2, hc1, hc2, hbt, hgb⟩; (first
        | (with_reducible have K := hid (K.out.go hgb hbt))
        | (have hZB := Nat.ne_of_gt (K.out.clt (b := B) (o := 0) (v := .int .i64 route) (by simp)); have K := hid (K.out.box3 (.int .i64 0) (.int .i64 0) (.int .i64 0) 50); (try simp only [World.size_drew] at K hZB); have K := hid (K.out.go hgb hbt))); (try ((have z0 := K.out.c (o := 0) (v := .int .i64 0) (List.Mem.head _); have z1 := K.out.c (o := 1) (v := .int .i64 0) (List.Mem.tail _ (List.Mem.head _)); have z2 := K.out.c (o := 2) (v := .int .i64 0) (List.Mem.tail _ (List.Mem.tail _ (List.Mem.head _))); have y0 := K.out.f (o := 0) (v := .int .i64 0) (List.Mem.head _); have y1 := K.out.f (o := 1) (v := .int .i64 0) (List.Mem.tail _ (List.Mem.head _)); have y2 := K.out.f (o := 2) (v := .int .i64 0) (List.Mem.tail _ (List.Mem.tail _ (List.Mem.head _)))))); clear hbt hgb)
    | (go_at_call 38; (refine (pacesOf_any d ws route _ _ (by first | with_reducible exact K.out.beat | exact (K.out.alloc _).beat) (by first | with_reducible exact K.out.g (by simp) | exact (K.out.alloc _).g (by simp)) (by omega) (fun i hi => by have := hm i hi; unfold Lo Hi; omega)).mono ?_); rintro e w6 ⟨vp, ps, rfl, hlp, hmp, hso, hbt, hgb⟩; (first
        | (with_reducible have K := hid (K.out.addInts (K.out.go hgb hbt) hso))
        | (have hZB := Nat.ne_of_gt (K.out.clt (b := B) (o := 0) (v := .int .i64 route) (by simp)); have K := hid (K.out.box3 (.int .i64 0) (.int .i64 0) (.int .i64 0) 50); (try simp only [World.size_drew] at K hZB); have K := hid (K.out.addInts (K.out.go hgb hbt) hso))); (try ((have z0 := K.out.c (o := 0) (v := .int .i64 0) (List.Mem.head _); have z1 := K.out.c (o := 1) (v := .int .i64 0) (List.Mem.tail _ (List.Mem.head _)); have z2 := K.out.c (o := 2) (v := .int .i64 0) (List.Mem.tail _ (List.Mem.tail _ (List.Mem.head _))); have y0 := K.out.f (o := 0) (v := .int .i64 0) (List.Mem.head _); have y1 := K.out.f (o := 1) (v := .int .i64 0) (List.Mem.tail _ (List.Mem.head _)); have y2 := K.out.f (o := 2) (v := .int .i64 0) (List.Mem.tail _ (List.Mem.tail _ (List.Mem.head _)))))); clear hbt hgb hso))
  all_goals (
    have Hls := hid hls
    have Hlp := hid hlp
    have h8 : ws.length ≤ 8 := by omega
    have hcs := hid (made_starts hc Hls.out h8 hms)
    clear hls hlp
    first
      | (have K := hid (K.out.put3 (x' := .int .i64 ra) (y' := .int .i64 rb) (z' := .int .i64 rc) (by intro b o v h; simp at h; rcases h with ⟨rfl, _⟩ | ⟨rfl, _⟩ <;> exact hZB.symm)))
      | (have K := hid (K.out.box3 (.int .i64 ra) (.int .i64 rb) (.int .i64 rc) 50))
    obtain ⟨bs, os, cv, rfl, _, _⟩ := (K.out.i (v := vs) (xs := st) (by simp)).slice (by rw [Hls.out]; exact h0)
    obtain ⟨bp, op, cp, rfl, _, _⟩ := (K.out.i (v := vp) (xs := ps) (by simp)).slice (by rw [Hlp.out]; exact h0)
    obtain ⟨W5, hW5, K5⟩ := K.out.name
    rw [hW5]
    clear hW5 K
    have K := hid K5
    have b0 := K.out.c (b := B) (o := 0) (v := .int .i64 route) (by simp)
    have b1 := K.out.c (b := B) (o := 1) (v := .slice (some ⟨bw, ow, none⟩) ws.length cap) (by simp)
    have z0 := K.out.c (o := 0) (v := .int .i64 ra) (List.Mem.head _)
    have z1 := K.out.c (o := 1) (v := .int .i64 rb) (List.Mem.tail _ (List.Mem.head _))
    have z2 := K.out.c (o := 2) (v := .int .i64 rc) (List.Mem.tail _ (List.Mem.tail _ (List.Mem.head _)))
    clear K5
    have hbe := hid (both_rules hcs.out (rules_fine (a := ra) (b := rb) (c := rc) (by omega) (by omega) (by omega) (by omega) (by omega)))
    have hT := hid (time_plain hcs.out hm hms hmp Hlp.out h0 h8 hr1 hr2)
    go_wp2_with fail
    refine (pLasts_any ws st route ra rb rc _ _ W5 (K.out.g (by simp)).any (K.out.i (v := .slice (some ⟨bs, os, none⟩) st.length cv) (xs := st) (by simp)).any (by omega) (made_size hm h8) (by rw [Hls.out]; omega)).mono ?_
    rintro e w7 ⟨rfl, hb7⟩
    rw [hbe.out, lasts_fine hbe.out, long_over, long_over]
    dsimp only
    have K := hid (K.out.later hb7)
    clear hb7 b0 b1 z0 z1 z2
    obtain ⟨g0, g1, g2, g3, g4, g5⟩ := hT.out
    clear hT
    generalize overAt route ws st (Hi ws) = PF at *
    generalize overAt route ws st (Lo ws) = PS at *
    generalize overAt route ws st (nm ps) = PT at *
    obtain ⟨m, rfl⟩ := Int.eq_ofNat_of_zero_le (show 0 ≤ PS by omega)
    obtain ⟨n, hn⟩ : ∃ n, n = ws.length - 1 := ⟨_, rfl⟩
    have hn1 : (ws.length : Int) - 1 = (n : Int) := by omega
    have hnl : n < ws.length := by omega
    rw [← hn] at g5
    have Hn := hid hn
    have G5 := hid g5
    clear hn g5
    obtain ⟨vd, hvd⟩ : ∃ vd, verdictOf ra rb (PF - nm st 0) ((m : Int) - nm st 0) = vd := ⟨_, rfl⟩
    rw [hvd]
    have Hvd := hid hvd
    clear hvd
    have K := hid (K.out.box2 (.int .i64 (PF - nm st 0)) (.int .i64 ((m : Int) - nm st 0)) 27)
    have b0 := K.out.c (b := B) (o := 0) (v := .int .i64 route) (by simp)
    have b1 := K.out.c (b := B) (o := 1) (v := .slice (some ⟨bw, ow, none⟩) ws.length cap) (by simp)
    have y0 := K.out.c (o := 0) (v := .int .i64 (PF - nm st 0)) (List.Mem.head _)
    have y1 := K.out.c (o := 1) (v := .int .i64 ((m : Int) - nm st 0)) (List.Mem.tail _ (List.Mem.head _))
    have sc := (K.out.i (v := .slice (some ⟨bs, os, none⟩) st.length cv) (xs := st) (by simp)).cell (i := 0) (by rw [Hls.out]; exact h0)
    rw [Nat.add_zero] at sc
    have lc := ((K.out.g (v := .slice (some ⟨bw, ow, none⟩) ws.length cap) (ws := ws) (by simp)).cells hnl).2.1
    have hlen : 1 ≤ (wg ws n).len ∧ (wg ws n).len ≤ 80 := by have := hm n hnl; omega
    have e7 : nm st 0 + (PF - nm st 0) = PF := by omega
    have e8 : nm st 0 + ((m : Int) - nm st 0) = (m : Int) := by omega
    have hpos : (0 : Int) < (st.length : Int) := by have := Hls.out; omega
    have hpos1 : 0 < st.length := by omega
    have hpos2 : ¬ st.length = 0 := by omega
    go_wp2
    go_quiet (fail)
    have K := hid (K.out.drewN nq)
    go_wp2
    go_quiet (fail)
    have K := hid (K.out.drewN nq)
    simp only [World.drewN_drewN] at K
    go_wp2
    have K := hid K.out.drew
    have e9 : IntKind.i64.wrap (nm st 0 + ((m : Int) - nm st 0)) = (m : Int) := by rw [IntWalk.i64_in _ (by omega)]; omega
    have e10 : IntKind.i64.wrap (m : Int) = (m : Int) := IntWalk.i64_in _ (by omega)
    go_region_held3 (fun w' => w'.cell? ⟨B, 0, none⟩ = some (.int .i64 route) ∧ w'.cell? ⟨B, 1, none⟩ = some (.slice (some ⟨bw, ow, none⟩) ws.length cap) ∧ w'.cell? ⟨w7.heap.size, 1, none⟩ = some (.int .i64 ((m : Int) - nm st 0)) ∧ w'.cell? ⟨bs, os, none⟩ = some (.int .i64 (nm st 0)))
      (first | exact ⟨K.out.c (by simp), K.out.c (by simp), K.out.c (by simp), by have := (K.out.i (v := .slice (some ⟨bs, os, none⟩) st.length cv) (xs := st) (by simp)).cell (i := 0) (by rw [Hls.out]; exact h0); rw [Nat.add_zero] at this; exact this⟩) (first
      | (go_at_call 39; refine (walk_any ws st ps route m _ _ _ _ (K.out.g (by simp)).any (K.out.i (by simp)).any (K.out.i (by simp)).any h0 (by omega) Hls.out Hlp.out (fun i hi => by have := hm i hi; unfold Ln; omega) (fun i hi => by have := hmp i (by have := Hlp.out; omega); have := hm i hi; unfold Lo Hi at *; omega) (fun i hi => by have := hms.bound i (by have := Hls.out; omega); have := Hls.out; omega) (by omega)).mono ?_; rintro e w9 ⟨vt, us, rfl, hR, hb9⟩; have hR := hid hR; have K := hid (K.out.later hb9); clear hb9))
    go_wp2
    obtain ⟨gt, ct, rfl, _, hgt, _, _, _, hcell⟩ := hR.out.own.cell (by rw [hR.out.len, rowsN_length]; omega)
    have hcell := hid hcell
    have hul : us.length = m + 1 := by rw [hR.out.len, rowsN_length]
    have Hul := hid hul
    clear hul
    go_loopw [13] (fun t wr => ∃ k : Nat, t = .int .i64 k ∧ PF ≤ k ∧ (k : Int) ≤ PT ∧ Below w9.heap.size w9 wr)
      (fun t _ => (PT - intOf t).toNat)
    case atStart => 
      obtain ⟨f, rfl⟩ := Int.eq_ofNat_of_zero_le (show 0 ≤ PF by omega)
      exact ⟨f, rfl, by omega, by omega, Below.refl _ _⟩
    case round =>
      obtain ⟨k, rfl, hk1, hk2, hkr⟩ := hrel
      have G := G5.out k hk1
      have hkm : k < us.length := by have := Hul.out; omega
      obtain ⟨u, hu⟩ : ∃ u, us[k]? = some u := ⟨us[k], by simp⟩
      have c1 := cell_back hkr hgt (hcell.out k hkm u hu)
      have hro := hR.out.row k u _ hu (rowsN_at ws st ps (m + 1) k (by omega))
      obtain ⟨gu, cu, hue, _, hgu, _, hc2⟩ := hro.1.cell hro.2.1
      rw [rowN_length] at hue hc2
      have c2 := cell_back hkr hgu (hc2 n hnl)
      subst hue
      have hnl2 : (n : Int) < (ws.length : Int) := by omega
      have hkm2 : (k : Int) < (us.length : Int) := by omega
      obtain ⟨x, hx⟩ : ∃ x, nm (rowN ws st ps (k : Int) ws.length) n = x := ⟨_, rfl⟩
      rw [hx] at G c2
      have G : x < route + (wg ws n).len ↔ (k : Int) < PT := G
      have hkr := hid hkr
      clear hc2 hro hu hx
      by_cases hlt : (k : Int) < PT
      · have hx1 := G.2 hlt
        clear G
        go_wp2
        go_roundw
        case rel => exact ⟨k + 1, by go_num, by omega, by omega, hkr.out⟩
        case measure => simp [intOf] <;> omega
      · have hx1 : ¬ x < route + (wg ws n).len := fun h => hlt (G.1 h)
        clear G
        have K := hid (K.out.later hkr.out)
        have sc := (K.out.i (v := .slice (some ⟨bs, os, none⟩) st.length cv) (xs := st) (by simp)).cell (i := 0) (by rw [Hls.out]; exact h0)
        rw [Nat.add_zero] at sc
        have z0 := K.out.c (o := 0) (v := .int .i64 ra) (List.Mem.tail _ (List.Mem.tail _ (List.Mem.head _)))
        have z1 := K.out.c (o := 1) (v := .int .i64 rb) (List.Mem.tail _ (List.Mem.tail _ (List.Mem.tail _ (List.Mem.head _))))
        have hv : (vd = 1 ∧ ra ≤ (k : Int) - nm st 0 ∧ (k : Int) - nm st 0 ≤ rb) ∨ (vd = 2 ∧ ¬ (ra ≤ (k : Int) - nm st 0 ∧ (k : Int) - nm st 0 ≤ rb)) ∨ vd = 3 := by
          have h := Hvd.out
          unfold verdictOf at h
          split at h
          · left; omega
          · split at h
            · right; left; omega
            · right; right; omega
        have wk : IntKind.i64.wrap ((k : Int) - nm st 0) = (k : Int) - nm st 0 := IntWalk.i64_in _ (by omega)
        rcases hv with ⟨rfl, ha, hb⟩ | ⟨rfl, hnn⟩ | rfl
        · go_wp2_with (go_at_call 18; refine (awake_any _).mono ?_; rintro e w10 ⟨rfl, hb10⟩); go_ret; exact ⟨rfl, (K.out.later hb10).below⟩
        · by_cases ha : ra ≤ (k : Int) - nm st 0
          · have hb : ¬ (k : Int) - nm st 0 ≤ rb := fun h => hnn ⟨ha, h⟩
            clear hnn
            go_wp2_with (go_at_call 18; refine (awake_any _).mono ?_; rintro e w10 ⟨rfl, hb10⟩); go_ret; exact ⟨rfl, (K.out.later hb10).below⟩
          · clear hnn
            go_wp2_with (go_at_call 18; refine (awake_any _).mono ?_; rintro e w10 ⟨rfl, hb10⟩); go_ret; exact ⟨rfl, (K.out.later hb10).below⟩
        · by_cases ha : ra ≤ (k : Int) - nm st 0
          · by_cases hb : (k : Int) - nm st 0 ≤ rb
            · go_wp2_with (go_at_call 18; refine (awake_any _).mono ?_; rintro e w10 ⟨rfl, hb10⟩); go_ret; exact ⟨rfl, (K.out.later hb10).below⟩
            · go_wp2_with (go_at_call 18; refine (awake_any _).mono ?_; rintro e w10 ⟨rfl, hb10⟩); go_ret; exact ⟨rfl, (K.out.later hb10).below⟩
          · go_wp2_with (go_at_call 18; refine (awake_any _).mono ?_; rintro e w10 ⟨rfl, hb10⟩); go_ret; exact ⟨rfl, (K.out.later hb10).below⟩)
end Go.Proofs.YtgfipifgijohhaaDoor
