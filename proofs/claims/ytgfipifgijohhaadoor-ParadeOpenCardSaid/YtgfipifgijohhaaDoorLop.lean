/-
  WALKS: ParadeOpen.
-/
import Derived.Test.YtgfipifgijohhaaDoorLob
import Derived.StillTailTactics
namespace Go.Proofs.YtgfipifgijohhaaDoor
open Go.RowKit

set_option linter.unusedSimpArgs false in
set_option maxHeartbeats 16000000 in
set_option maxRecDepth 100000 in
theorem open_any (xs : List Int) (v : Value) (w : World) (hX : IntsAt none w v xs) (hn : xs.length ≤ 9223372036854775807) :
    Calls Tryd.prog 12 #[v] w fun e w' => e = .returned (.bool true) ∧ Below w.heap.size w w' := by
  have HX := hid hX
  obtain ⟨ax, cx, rfl, _⟩ := hX
  go_enter Tryd.func12, Tryd.ntmps12
  go_wp2_with fail
  refine (drumOf_any xs _ w HX.out hn).mono ?_
  rintro e w1 ⟨rfl, hb1, hl1⟩
  have K := hid (LK.start hb1 hl1 (Nat.le_refl _))
  clear hb1 hl1 HX
  go_wp2_with fail
  refine (schoolOf_any _ 3 _ K.out.beat (by decide) (by decide)).mono ?_
  rintro e w2 ⟨route, vw, ws, rfl, hr1, hr2, h0, h6, hm, hown, hbt, hgb⟩
  obtain ⟨bw, ow, cap, rfl, _, _⟩ := (hown.at (d := none) (by simp)).slice h0
  have Fw := hid (K.out.fresh (World.ownsRow.lt hown bw rfl).1)
  have lbw := (World.ownsRow.lt hown bw rfl).2
  have Tw := own_thawed hown rfl
  have K := hid (K.out.addWgs (K.out.go hgb hbt) hown)
  clear hgb hbt hown
  have h8 : ws.length ≤ 8 := by omega
  have hBw : w2.heap.size ≠ bw := by omega
  have Hneq := hid (fun b o v h => Nat.ne_of_lt (K.out.clt (b := b) (o := o) (v := v) h))
  have K := hid (K.out.box2 (.int .i64 (min route 200)) (.slice (some ⟨bw, ow, none⟩) ws.length cap) 24)
  have Tw : ∀ o, (w2.alloc (.cells #[.int .i64 (min route 200), .slice (some ⟨bw, ow, none⟩) ws.length cap] 24)).frozen? ⟨bw, o, none⟩ = false := fun o => frozen_up (by omega) (Tw o)
  have HTw := hid Tw
  clear Tw
  go_wp2_with fail
  obtain ⟨rt, hrt⟩ : ∃ rt, min route 200 = rt := ⟨_, rfl⟩
  have hrt1 : 1 ≤ rt ∧ rt ≤ 2000 := by omega
  rw [hrt] at K HTw ⊢
  clear hrt hr1 hr2
  obtain ⟨wn, hwn, KN⟩ := K.out.name
  rw [hwn] at HTw ⊢
  clear hwn K
  have K := hid KN
  clear KN
  obtain ⟨B, hB⟩ : ∃ B, w2.heap.size = B := ⟨_, rfl⟩
  rw [hB] at K hBw Hneq ⊢
  clear hB
  have Hcs := hid (show ∀ b' o v, (b', o, v) ∈ ([(B, 0, .int .i64 rt), (B, 1, .slice (some ⟨bw, ow, none⟩) ws.length cap)] : Cells) → b' ≠ bw from fun b' o v h => by
    simp only [List.mem_cons, Prod.mk.injEq, List.not_mem_nil, or_false] at h
    omega)
  go_loopw [5] (fun i wr => ∃ (k : Nat) (wl : List Wing), k ≤ ws.length ∧ i = .int .i64 k ∧ wl.length = ws.length ∧ MadeW wl ∧ (∀ j, j < k → Hi wl j ≤ Lo wl j + 3) ∧ (∀ o, wr.frozen? ⟨bw, o, none⟩ = false) ∧ LK w.heap.size [(B, 0, .int .i64 rt), (B, 1, .slice (some ⟨bw, ow, none⟩) ws.length cap)] [] [(.slice (some ⟨bw, ow, none⟩) ws.length cap, wl)] w wr)
    (fun i _ => ws.length - (intOf i).toNat)
  case atStart => exact ⟨0, ws, by omega, rfl, rfl, hm, fun j hj => by omega, HTw.out, K.out⟩
  case round =>
    obtain ⟨k, wl, hk, rfl, hwl, hmw, hlo, hfr, KK⟩ := hrel
    have K := hid KK
    have Hfr := hid hfr
    have Hmw := hid hmw
    have Hlo := hid hlo
    have Hwl := hid hwl
    clear KK hfr hmw hlo hwl
    obtain ⟨wo, rfl⟩ : ∃ wo : World, wo = wr := ⟨_, rfl⟩
    have l1 := K.out.c (b := B) (o := 1) (v := .slice (some ⟨bw, ow, none⟩) ws.length cap) (by simp)
    by_cases hlt : k < ws.length
    · have hkl : k < wl.length := by have := Hwl.out; omega
      have cc := (K.out.g (v := .slice (some ⟨bw, ow, none⟩) ws.length cap) (ws := wl) (by simp))
      have HC := hid cc
      have Hm0 := Hmw.out k hkl
      have cc2 := K.out.drew.g (v := .slice (some ⟨bw, ow, none⟩) ws.length cap) (ws := wl) (by simp)
      have cc3 : WgAt (some w.heap.size) wo.drew (.slice (some ⟨bw, ow, none⟩) ws.length cap) wl := cc2
      obtain ⟨_, _, c2, c3⟩ := cc3.cells hkl
      clear cc cc2 cc3
      have i1 : (k : Int) < (ws.length : Int) := by omega
      have i0 : (0 : Int) ≤ (k : Int) := by omega
      have z1 : IntKind.i64.wrap ((k : Int) + 1) = (k : Int) + 1 := IntWalk.i64_in _ (by omega)
      have z2 : IntKind.i64.wrap ((wg wl k).lo + 3) = (wg wl k).lo + 3 := IntWalk.i64_in _ (by omega)
      go_wp2_with fail
      have f3 : wo.drew.frozen? ⟨bw, ow + k * 4 + 3, none⟩ = false := Hfr.out _
      go_still_tail 22, (by kernel_rfl)
      change wpList _ _ _ _ _ wo.drew
      have l2 := K.out.drew.c (b := B) (o := 1) (v := .slice (some ⟨bw, ow, none⟩) ws.length cap) (by simp)
      have K := hid K.out.drew
      have Hfr := hid (show ∀ o, wo.drew.frozen? ⟨bw, o, none⟩ = false from fun o => Hfr.out o)
      generalize wo.drew = we at *
      go_wp2
      go_roundw
      case rel =>
        have hX := (K.out.g (v := .slice (some ⟨bw, ow, none⟩) ws.length cap) (ws := wl) (by simp)).top hkl (min (wg wl k).hi ((wg wl k).lo + 3))
        refine ⟨k + 1, _, by omega, by go_num, by rw [List.length_set]; exact Hwl.out, Hmw.out.top hkl, fun j hj => ?_, fun o => (World.frozen?_setCell _ _ _ _).trans (Hfr.out o), (K.out.dropW.store1 (b := bw) (o := ow + k * 4 + 2 + 1) (.int .i64 (min (wg wl k).hi ((wg wl k).lo + 3))) Fw.out.1 Fw.out.2.1 Hcs.out (fun _ _ h => by cases h) (fun _ _ h => by cases h)).addW hX (fun _ b o u hb e => by cases e; exact Hcs.out _ _ _ hb rfl)⟩
        unfold Hi Lo
        rw [wg_set _ _ _ _ hkl]
        split
        · simp only; omega
        · have := Hlo.out j (by omega)
          unfold Hi Lo at this
          exact this
      case measure => simp [intOf] <;> omega
    · obtain rfl : k = ws.length := by omega
      have hlw2 : 0 < wl.length ∧ wl.length ≤ 3 := by have := Hwl.out; omega
      have hc := hid (made_check Hmw.out hrt1.1 hrt1.2 (by omega) (by omega))
      have l0 := K.out.c (b := B) (o := 0) (v := .int .i64 rt) (by simp)
      clear HTw Fw Hcs Hneq hm Hfr
      go_wp2_with fail
      refine (startsOf_any _ wl rt _ _ K.out.beat (K.out.g (by simp)) hc.out Hmw.out).mono ?_
      rintro e w4 ⟨vs, st, rfl, hls, hms, hso, hbt, hgb⟩
      have K := hid (K.out.addInts (K.out.go hgb hbt) hso)
      clear hbt hgb hso l0 l1
      have hcs := hid (made_starts hc.out hls (by omega) hms)
      have Hls := hid hls
      obtain ⟨bs, os, cv, rfl, _, _⟩ := (K.out.i (v := vs) (xs := st) (by simp)).slice (by omega)
      clear hls
      go_wp2_with fail
      refine (rulesOf_any _ _ K.out.beat).mono ?_
      rintro e w5 ⟨ra, rb, rc, rfl, ha1, ha2, hab, hb2, hc1, hc2, hbt, hgb⟩
      have K := hid (K.out.go hgb hbt)
      clear hbt hgb
      have K := hid (K.out.box3 (.int .i64 ra) (.int .i64 rb) (.int .i64 rc) 50)
      have q0 := K.out.c (b := B) (o := 0) (v := .int .i64 rt) (by simp)
      have q1 := K.out.c (b := B) (o := 1) (v := .slice (some ⟨bw, ow, none⟩) ws.length cap) (by simp)
      have y0 := K.out.c (b := w5.heap.size) (o := 0) (v := .int .i64 ra) (by simp)
      have y1 := K.out.c (b := w5.heap.size) (o := 1) (v := .int .i64 rb) (by simp)
      have y2 := K.out.c (b := w5.heap.size) (o := 2) (v := .int .i64 rc) (by simp)
      go_wp2_with fail
      have hnm : ∀ i, i < wl.length → (wg wl i).name.size ≤ 1000000 := made_size Hmw.out (by omega)
      refine (Opens_any wl st rt ra rb rc _ _ _ (K.out.g (by simp)).any (K.out.i (v := .slice (some ⟨bs, os, none⟩) st.length cv) (xs := st) (by simp)).any (by omega) hnm (by have := Hls.out; omega)).mono ?_
      rintro e w6 ⟨vl, rfl, how, hb6⟩
      have hbe := both_rules hcs.out (rules_fine (a := ra) (b := rb) (c := rc) (by omega) (by omega) (by omega) (by omega) (by omega))
      have hOr : opensRes rt wl st ra rb rc = (opensN rt wl st rc (wl.length - 1), 0) := by unfold opensRes; rw [if_pos hbe]
      rw [hOr] at how ⊢
      obtain ⟨al, cl, rfl⟩ := how.form
      have K := hid (K.out.addInts (K.out.later hb6) how)
      clear how hb6 hbe hOr q0 q1 y0 y1 y2
      dsimp only
      have q0 := K.out.c (b := B) (o := 0) (v := .int .i64 rt) (by simp)
      have q1 := K.out.c (b := B) (o := 1) (v := .slice (some ⟨bw, ow, none⟩) ws.length cap) (by simp)
      go_wp2_with fail
      refine (Widest_any wl st rt _ _ _ (K.out.g (by simp)).any (K.out.i (v := .slice (some ⟨bs, os, none⟩) st.length cv) (xs := st) (by simp)).any (by omega) hnm (by have := Hls.out; omega)).mono ?_
      rintro e w7 ⟨rfl, hb7⟩
      have hWr : widestRes rt wl st = ((mostN rt wl st (wl.length - 1)).1, (mostN rt wl st (wl.length - 1)).2.1, (mostN rt wl st (wl.length - 1)).2.2, 0) := by unfold widestRes; rw [if_pos hcs.out]
      obtain ⟨W, S, G, hmo⟩ : ∃ W S G, mostN rt wl st (wl.length - 1) = (W, S, G) := ⟨_, _, _, rfl⟩
      rw [hmo] at hWr
      rw [hWr]
      have K := hid (K.out.later hb7)
      clear hb7 hWr q0 q1
      dsimp only
      have hsg := most_signs (fun i hi => ((starts_zero hcs.out).2.2.bound i (by have := Hls.out; omega)).1) hmo
      have Hmo := hid hmo
      have Hol := hid (opensN_length rt wl st rc (wl.length - 1))
      clear hmo
      have q1 := K.out.c (b := B) (o := 1) (v := .slice (some ⟨bw, ow, none⟩) ws.length cap) (by simp)
      go_upto_region 11 with fail
      have hlc : (((opensN rt wl st rc (wl.length - 1)).length : Int) != (ws.length : Int)) = false := (eq_bool (by have := Hol.out; have := Hwl.out; omega)).2
      go_cut [113] from 86 to 112 (fun s wx => s = .bool false ∧ wx = w7)
      case first =>
        rcases hsg with ⟨rfl, rfl, rfl⟩ | ⟨g1, g2, g3, g4⟩
        · go_wp2_with fail
          go_meet
          exact ⟨rfl, rfl⟩
        · obtain ⟨d1, d2⟩ := ne_bool (a := W) (b := -1) (by omega)
          obtain ⟨d3, d4⟩ := ne_bool (a := S) (b := -1) (by omega)
          obtain ⟨d5, d6⟩ := ne_bool (a := G) (b := 0) (by omega)
          go_wp2_with fail
          go_meet
          exact ⟨rfl, rfl⟩
      case rest =>
        obtain ⟨rfl, rfl⟩ := hcut
        have W1K := hid K.out
        clear K q1 hlc
        go_wp2_with fail
        obtain ⟨W1, rfl⟩ : ∃ W1 : World, W1 = wc := ⟨_, rfl⟩
        have Hav := hid (fun k (hk : k ≤ ws.length) => show (allV wl k).length ≤ 64 from by
          have h1 := allV_length (ws := wl) (fun i hi => Hlo.out i (by have := Hwl.out; omega)) k (by have := Hwl.out; omega)
          have h2 : 4 ^ k ≤ 4 ^ 3 := Nat.pow_le_pow_right (by omega) (by omega)
          omega)
        go_loopw [14, 15] (fun va i wr => ∃ (k : Nat) (vs' : List Value), k ≤ ws.length ∧ i = .int .i64 k ∧ ReadR W1.heap.size wr va vs' (allV wl k) ∧ Below W1.heap.size W1 wr)
          (fun _ i _ => ws.length - (intOf i).toNat)
        case atStart => exact ⟨0, [.slice none 0 0], by omega, rfl, ReadR.one W1, below_alloc _ _⟩
        case round =>
          obtain ⟨k, vs', hk, rfl, hR, hbk⟩ := hrel
          have hfm := hR.own.form
          rw [hR.len] at hfm
          obtain ⟨aa, ca, rfl⟩ := hfm
          have HR := hid hR
          have Hbk := hid hbk
          have K := hid (W1K.out.later hbk)
          clear hR hbk
          obtain ⟨wo, rfl⟩ : ∃ wo : World, wo = wr := ⟨_, rfl⟩
          have l1 := K.out.c (b := B) (o := 1) (v := .slice (some ⟨bw, ow, none⟩) ws.length cap) (by simp)
          by_cases hlt : k < ws.length
          · as_aux_lemma =>
            have hkl : k < wl.length := by have := Hwl.out; omega
            have Hm0 := Hmw.out k hkl
            have hlen := Hav.out k hk
            have i1 : (k : Int) < (ws.length : Int) := by omega
            have i0 : (0 : Int) ≤ (k : Int) := by omega
            have z1 : IntKind.i64.wrap ((k : Int) + 1) = (k : Int) + 1 := IntWalk.i64_in _ (by omega)
            have HC := hid (fun W' (hb : Below wo.heap.size wo W') => ((K.out.later hb).g (v := .slice (some ⟨bw, ow, none⟩) ws.length cap) (ws := wl) (by simp)).cells hkl)
            have HB := hid (fun W' (hb : Below wo.heap.size wo W') => (K.out.later hb).c (b := B) (o := 1) (v := .slice (some ⟨bw, ow, none⟩) ws.length cap) (by simp))
            obtain ⟨L, hL⟩ : ∃ L, (wg wl k).lo = L := ⟨_, rfl⟩
            obtain ⟨H, hH⟩ : ∃ H, (wg wl k).hi = H := ⟨_, rfl⟩
            have hLo : Lo wl k = L := hL
            have hHi : Hi wl k = H := hH
            have hmp : manyP wl k = (H - L + 1).toNat := by unfold manyP; rw [hLo, hHi]
            have HC2 := hid (show ∀ W', Below wo.heap.size wo W' → W'.cell? ⟨bw, ow + k * 4 + 2, none⟩ = some (.int .i64 L) ∧ W'.cell? ⟨bw, ow + k * 4 + 2 + 1, none⟩ = some (.int .i64 H) from fun W' hb => by
              have h := HC.out W' hb
              rw [hL, hH] at h
              exact ⟨h.2.2.1, h.2.2.2⟩)
            rw [hL, hH] at Hm0
            have hLH : 1 ≤ L ∧ L ≤ 40 ∧ L ≤ H ∧ H ≤ L + 29 := ⟨Hm0.2.2.2.1, Hm0.2.2.2.2.1, Hm0.2.2.2.2.2.1, Hm0.2.2.2.2.2.2⟩
            have Hmp := hid hmp
            have HLo := hid hLo
            clear HC Hm0 hL hH hHi hLo hmp
            obtain ⟨R, hRr⟩ : ∃ R, allV wl k = R := ⟨_, rfl⟩
            have HRr := hid hRr
            rw [hRr] at HR hlen ⊢
            clear hRr
            go_wp2_with fail
            go_loopw [16, 17] (fun vn j wi => ∃ (jj : Nat) (us : List Value), jj ≤ R.length ∧ j = .int .i64 jj ∧ Rows2 wo.heap.size wi vn us (nextV L (H - L + 1).toNat (R.take jj)) ∧ Below wo.heap.size wo wi)
              (fun _ j _ => R.length - (intOf j).toNat)
            case atStart => exact ⟨0, [], by omega, rfl, Rows2.nil _ _, Below.refl _ _⟩
            case round =>
              obtain ⟨jj, us, hjj, rfl, hN, hbi⟩ := hrel
              obtain ⟨an, cn, rfl⟩ := hN.own.form
              have HN := hid hN
              have Hbi := hid hbi
              clear hN hbi
              have b1 := HB.out _ Hbi.out
              by_cases hj : jj < R.length
              · obtain ⟨c2, c3⟩ := HC2.out _ Hbi.out
                have i2 : (jj : Int) < (R.length : Int) := by omega
                have z2 : IntKind.i64.wrap ((jj : Int) + 1) = (jj : Int) + 1 := IntWalk.i64_in _ (by omega)
                obtain ⟨g, cg, ra', rc', eg, hg1, hg2, hcell, hrow⟩ := HR.out.at hj
                cases eg
                obtain ⟨r, hr⟩ : ∃ r, R[jj] = r := ⟨_, rfl⟩
                have hrl : r.length ≤ 3 := by
                  have hmem : r ∈ allV wl k := by rw [HRr.out, ← hr]; exact List.getElem_mem hj
                  have := (allV_mem.1 hmem).1
                  have := Hwl.out
                  omega
                rw [hr] at hcell hrow
                have Hr := hid hr
                have Hrow := hid hrow
                clear hr hrow
                have rc := cell_back Hbi.out hg2 hcell
                obtain ⟨wi', rfl⟩ : ∃ wi' : World, wi' = wr := ⟨_, rfl⟩
                go_wp2_with fail
                go_loopw [16, 18] (fun vn p wj => ∃ (q : Nat) (us' : List Value), q ≤ (H - L + 1).toNat ∧ p = .int .i64 (L + (q : Int)) ∧ Rows2 wo.heap.size wj vn us' (nextV L (H - L + 1).toNat (R.take jj) ++ moreV L r q) ∧ Below wo.heap.size wo wj)
                  (fun _ p _ => (H - L + 1).toNat - (intOf p - L).toNat)
                case atStart => exact ⟨0, us, by omega, by simp, by simpa [moreV] using HN.out, Hbi.out⟩
                case round =>
                  obtain ⟨q, us', hq, rfl, hN2, hb2⟩ := hrel
                  obtain ⟨an2, cn2, rfl⟩ := hN2.own.form
                  have HN2 := hid hN2
                  have Hb2 := hid hb2
                  clear hN2 hb2 rc c2 c3 b1
                  obtain ⟨wj, rfl⟩ : ∃ wj : World, wj = wr := ⟨_, rfl⟩
                  have b1 := HB.out _ Hb2.out
                  obtain ⟨c2, c3⟩ := HC2.out _ Hb2.out
                  have rc := cell_back Hb2.out hg2 hcell
                  have hsz := Hb2.out.size
                  by_cases hq2 : q < (H - L + 1).toNat
                  · have hpH : L + (q : Int) ≤ H := by omega
                    have z3 : IntKind.i64.wrap (L + (q : Int) + 1) = L + (q : Int) + 1 := IntWalk.i64_in _ (by omega)
                    have hul : us'.length ≤ 1000000 := by
                      rw [HN2.out.len, List.length_append, nextV_length, moreV_length, List.length_take]
                      have h1 : min jj R.length ≤ 64 := by omega
                      have h2 : (H - L + 1).toNat ≤ 30 := by omega
                      have h3 := Nat.mul_le_mul h1 h2
                      omega
                    go_wp2_with (first
                      | (go_at_call 23; refine (ints_any r _ none _ (OwnInts.at (OwnInts.later Hrow.out Hb2.out) (by simp)) (OwnInts.sound (OwnInts.later Hrow.out Hb2.out)) (by omega)).mono ?_; rintro e w8 ⟨vq, rfl, hq8, hb8⟩; obtain ⟨qa, qc, rfl⟩ := hq8.form; have Hq8 := hid hq8; clear hq8)
                      | (at_builtin; refine app_int rfl _ _ rfl wj.heap.size r (L + (q : Int)) _ Hq8.out rfl rfl (by omega) hb8.size ?_; intro v9 w9 hown9 hb9 _ _; obtain ⟨v9a, v9c, rfl⟩ := hown9.form; have Hown9 := hid hown9; have Hb9 := hid (hb8.trans hb9); clear hown9 hb9)
                      | (at_builtin; refine app_sl rfl _ _ rfl wo.heap.size us' _ _ rfl (HN2.out.kept (gb_below Hb9.out none) (by simp)).own rfl rfl (by omega) (Nat.le_trans hsz Hb9.out.size) ?_; intro v10 w10 hown10 hg10))
                    go_roundw
                    case rel =>
                      have e1 : nextV L (H - L + 1).toNat (R.take jj) ++ moreV L r (q + 1) = (nextV L (H - L + 1).toNat (R.take jj) ++ moreV L r q) ++ [r ++ [L + (q : Int)]] := by simp [moreV]
                      have hK9 := HN2.out.kept (gb_below Hb9.out none) (by simp)
                      have hl9 : (r ++ [L + (q : Int)]).length = r.length + 1 := by simp
                      have h9 := Hown9.out
                      rw [hl9] at h9
                      refine ⟨q + 1, us' ++ [.slice v9a (r.length + 1) v9c], by omega, by go_num, ?_, ?_⟩
                      · rw [e1]
                        refine hK9.snoc (OwnInts.base' h9 hsz) (by simp) ?_ hown10 hg10
                        intro e
                        obtain ⟨gu, cu, eu, hgu, _, eb, _⟩ := h9.cell (by simp)
                        rw [eb] at e
                        have := (World.ownsRow.lt HN2.out.own gu e.symm).2
                        omega
                      · exact (Hb2.out.trans (Hb9.out.mono hsz)).trans (below_of_own hK9.own hg10 (Nat.le_trans hsz Hb9.out.size))
                    case measure => simp [intOf] <;> omega
                  · obtain rfl : q = (H - L + 1).toNat := by omega
                    have hpH : ¬ (L + (((H - L + 1).toNat : Nat) : Int) ≤ H) := by omega
                    go_wp2
                    go_roundw
                    case rel => exact ⟨jj + 1, us', by omega, by go_num, by rw [nextV_take hj, Hr.out]; exact HN2.out, Hb2.out⟩
                    case measure => simp [intOf] <;> omega
              · obtain rfl : jj = R.length := by omega
                go_wp2
                go_roundw
                case rel =>
                  have h1 := HN.out
                  rw [List.take_length] at h1
                  refine ⟨k + 1, us, by omega, by go_num, ?_, Hbk.out.trans (Hbi.out.mono Hbk.out.size)⟩
                  rw [show allV wl (k + 1) = nextV (Lo wl k) (manyP wl k) (allV wl k) from rfl, HLo.out, Hmp.out, HRr.out]
                  exact (h1.base' Hbk.out.size).read
                case measure => simp [intOf] <;> omega
          · obtain rfl : k = ws.length := by omega
            have hwl2 := Hwl.out
            have HAll := hid (show allV wl ws.length = allV wl wl.length from by rw [hwl2])
            clear hwl2
            obtain ⟨A, hA⟩ : ∃ A, allV wl wl.length = A := ⟨_, rfl⟩
            have HA := hid hA
            have hAn : A.length ≤ 64 := by have := Hav.out ws.length (Nat.le_refl _); rw [HAll.out, hA] at this; exact this
            rw [HAll.out, hA] at HR ⊢
            clear hA
            have HR := hid HR.out
            have hmet := met_at (route := rt) (st := st) (fun i hi => by have := Hmw.out i hi; unfold Lo Hi; omega) Hmo.out
            rw [HA.out] at hmet
            have Hmet := hid hmet
            clear hmet
            have q0 := K.out.c (b := B) (o := 0) (v := .int .i64 rt) (by simp)
            have hOr := hid (show ∀ m, m + 1 < wl.length → nm (opensN rt wl st rc (wl.length - 1)) (m + 1) = openAt rt wl st rc m from fun m hm => opensN_nm rt wl st rc (by omega))
            have hO0 := opensN_zero rt wl st rc (wl.length - 1)
            have hol2 : (opensN rt wl st rc (wl.length - 1)).length = ws.length := by have := Hol.out; have := Hwl.out; omega
            obtain ⟨OL, hOL⟩ : ∃ OL, opensN rt wl st rc (wl.length - 1) = OL := ⟨_, rfl⟩
            have KO := hid (W1K.out.later Hbk.out)
            have KV := KO.out.i (v := .slice al (opensN rt wl st rc (wl.length - 1)).length cl) (xs := opensN rt wl st rc (wl.length - 1)) (by simp)
            rw [hOL] at hOr hO0 hol2 KV ⊢
            have Hol2 := hid hol2
            have HO0 := hid hO0
            have HKV := hid KV
            obtain ⟨bq, oq, cq, eq', _, _⟩ := KV.slice (by omega)
            cases eq'
            clear hOL hO0 hol2 KV
            have hex : ∃ m0 k0 : Nat, W = -1 ∨ (m0 + 1 < wl.length ∧ W = (m0 : Int) + 1 ∧ ∃ hk : k0 < A.length, nm st (m0 + 1) ≤ S ∧ S < endW rt wl st m0 ∧ gapTrue wl st (nm A[k0]) (m0 + 1) S = G) := by
              by_cases hW : W = -1
              · exact ⟨0, 0, .inl hW⟩
              · obtain ⟨m0, k0, g1, g2, g3, g4, g5, g6⟩ := Hmet.out hW
                exact ⟨m0, k0, .inr ⟨g1, g2, g3, g4, g5, g6⟩⟩
            obtain ⟨m0, k0, hhit⟩ := hex
            have Hhit := hid hhit
            clear hhit Hmet
            go_wp2_with fail
            go_loopw [19, 20] (fun met i wr => ∃ (k : Nat) (b : Bool), k ≤ ws.length ∧ met = .bool b ∧ i = .int .i64 k ∧ (W = -1 ∨ m0 + 1 < k → b = true) ∧ Below wo.heap.size wo wr)
              (fun _ i _ => ws.length - (intOf i).toNat)
            case atStart => exact ⟨0, _, by omega, rfl, rfl, fun h => h.elim (fun h => by simp [h]) (fun h => by omega), Below.refl _ _⟩
            case round =>
              as_aux_lemma =>
              obtain ⟨k, b, hk, rfl, rfl, hb, hbw⟩ := hrel
              have Hb := hid hb
              have Hbw := hid hbw
              have K := hid (KO.out.later hbw)
              clear hb hbw
              obtain ⟨wa, rfl⟩ : ∃ wa : World, wa = wr := ⟨_, rfl⟩
              by_cases hlt : k < ws.length
              · have i1 : (k : Int) < (OL.length : Int) := by have := Hol2.out; omega
                have z1 : IntKind.i64.wrap ((k : Int) + 1) = (k : Int) + 1 := IntWalk.i64_in _ (by omega)
                by_cases hk0 : k = 0
                · obtain ⟨d1, d2⟩ := eq_bool (a := (k : Int)) (b := 0) (by omega)
                  have c0 := ((HKV.out.kept (gb_below Hbw.out _)).cell (i := 0) (by have := Hol2.out; omega))
                  rw [HO0.out, Nat.add_zero] at c0
                  have i2 : (0 : Int) < (OL.length : Int) := by omega
                  go_wp2_with fail
                  go_roundw
                  case rel => exact ⟨k + 1, b, by omega, rfl, by go_num, fun h => Hb.out (by omega), Hbw.out⟩
                  case measure => simp [intOf] <;> omega
                · obtain ⟨m, rfl⟩ : ∃ m, k = m + 1 := ⟨k - 1, by omega⟩
                  obtain ⟨d1, d2⟩ := ne_bool (a := (m : Int) + 1) (b := 0) (by omega)
                  have hmw2 : m + 1 < wl.length := by have := Hwl.out; omega
                  have hst1 : m + 1 < st.length := by have := Hls.out; omega
                  have q0 := K.out.c (b := B) (o := 0) (v := .int .i64 rt) (by simp)
                  have q1 := K.out.c (b := B) (o := 1) (v := .slice (some ⟨bw, ow, none⟩) ws.length cap) (by simp)
                  go_wp2_with fail
                  refine (rwatched_any wl st m rt _ _ _ (K.out.g (by simp)).any (K.out.i (v := .slice (some ⟨bs, os, none⟩) st.length cv) (xs := st) (by simp)).any hcs.out hmw2).mono ?_
                  rintro e w8 ⟨rfl, hb8⟩
                  have Hbw := hid (Hbw.out.trans (hb8.mono Hbw.out.size))
                  have K := hid (K.out.later hb8)
                  clear hb8 q0 q1
                  have hsb := (starts_zero hcs.out).2.2.bound (m + 1) hst1
                  have hVb := endW_le hcs.out hmw2
                  obtain ⟨U, hU⟩ : ∃ U, nm st (m + 1) = U := ⟨_, rfl⟩
                  obtain ⟨V, hV⟩ : ∃ V, endW rt wl st m = V := ⟨_, rfl⟩
                  have hev := every_iff hcs.out (fun i hi => by have := Hmw.out i hi; unfold Lo Hi; omega) hmw2 (g := rc) hc1
                  have hso := some_iff hcs.out (fun i hi => by have := Hmw.out i hi; unfold Lo Hi; omega) hmw2 (g := rc) hc1
                  rw [HA.out] at hev hso
                  have HEv := hid hev
                  have HSo := hid hso
                  rw [hU] at hsb ⊢
                  rw [hV] at hVb ⊢
                  have HU := hid hU
                  have HV := hid hV
                  clear hU hV hev hso
                  go_wp2_with fail
                  go_loopw [19, 23, 24, 25] (fun met so ev kk wr => ∃ (j : Nat) (b' : Bool), j ≤ A.length ∧ met = .bool b' ∧ so = .bool ((A.take j).any (wideV rt wl st rc m)) ∧ ev = .bool ((A.take j).all (wideV rt wl st rc m)) ∧ kk = .int .i64 j ∧ (W = -1 ∨ m0 < m ∨ (m0 = m ∧ k0 < j) → b' = true) ∧ Below wo.heap.size wo wr)
                    (fun _ _ _ kk _ => A.length - (intOf kk).toNat)
                  case atStart => exact ⟨0, b, by omega, rfl, by simp, by simp, rfl, fun h => Hb.out (by omega), Hbw.out⟩
                  case round =>
                    as_aux_lemma =>
                    obtain ⟨j, b', hj, rfl, rfl, rfl, rfl, hb', hbw'⟩ := hrel
                    have Hb' := hid hb'
                    have Hbw' := hid hbw'
                    have K := hid (KO.out.later hbw')
                    clear hb' hbw'
                    obtain ⟨wb, rfl⟩ : ∃ wb : World, wb = wr := ⟨_, rfl⟩
                    by_cases hj2 : j < A.length
                    · obtain ⟨g, cg, ra', rc', eg, hg1, hg2, hcell, hrow⟩ := HR.out.at hj2
                      cases eg
                      have hmem : A[j] ∈ allV wl wl.length := by rw [HA.out]; exact List.getElem_mem hj2
                      have Hgm := hid (fun t h1 h2 => gapT_most hcs.out hmw2 hmem (t := t) h1 h2)
                      obtain ⟨hrl, hrp⟩ := allV_pace Hmw.out hmem
                      have Hwv := hid (show wideV rt wl st rc m A[j] = wideTo (fun t => gapTrue wl st (nm A[j]) (m + 1) t) rc U (V - U).toNat from by unfold wideV; rw [HU.out, HV.out])
                      have Han := hid (any_take (f := wideV rt wl st rc m) hj2)
                      have Hal := hid (all_take (f := wideV rt wl st rc m) hj2)
                      have hHit2 : k0 = j → m0 = m → W ≠ -1 → W = (m : Int) + 1 ∧ U ≤ S ∧ S < V ∧ gapTrue wl st (nm A[j]) (m + 1) S = G := fun e1 e2 e3 => by
                        rcases Hhit.out with h | ⟨_, h2, hk, h3, h4, h5⟩
                        · exact absurd h e3
                        · subst e1 e2
                          rw [HU.out] at h3
                          rw [HV.out] at h4
                          exact ⟨h2, h3, h4, h5⟩
                      have HHit2 := hid hHit2
                      obtain ⟨r, hr⟩ : ∃ r, A[j] = r := ⟨_, rfl⟩
                      rw [hr] at hcell hrow hrl hrp Hgm Hwv Han Hal HHit2
                      have Hrow := hid hrow
                      have Hrp := hid hrp
                      clear hr hrow hmem hHit2 hrp
                      go_wp2_with fail
                      go_loopw [19, 26, 27] (fun met wi t wr => ∃ (q : Nat) (b' : Bool), q ≤ (V - U).toNat ∧ met = .bool b' ∧ wi = .bool (wideTo (fun t => gapTrue wl st (nm r) (m + 1) t) rc U q) ∧ t = .int .i64 (U + (q : Int)) ∧ (W = -1 ∨ m0 < m ∨ (m0 = m ∧ (k0 < j ∨ (k0 = j ∧ S < U + (q : Int)))) → b' = true) ∧ Below wo.heap.size wo wr)
                        (fun _ _ t _ => (V - U).toNat - (intOf t - U).toNat)
                      case atStart => exact ⟨0, b', by omega, rfl, rfl, by simp, fun h => by
                        by_cases hs : W = -1 ∨ m0 < m ∨ (m0 = m ∧ k0 < j)
                        · exact Hb'.out hs
                        · have h1 := HHit2.out (by omega) (by omega) (by omega)
                          have h2 := h1.2.1
                          exfalso
                          simp at h
                          omega, Hbw'.out⟩
                      case round =>
                        obtain ⟨q, b7, hq, rfl, rfl, rfl, hb7, hbw7⟩ := hrel
                        have Hb7 := hid hb7
                        have Hbw7 := hid hbw7
                        have K := hid (KO.out.later hbw7)
                        clear hb7 hbw7
                        obtain ⟨wd, rfl⟩ : ∃ wd : World, wd = wr := ⟨_, rfl⟩
                        by_cases hq2 : q < (V - U).toNat
                        · as_aux_lemma =>
                          have hS1 : ∀ x, x ≤ m + 1 → Sane wl st r x := fun x hx => ⟨by omega, by omega, by omega, by omega, fun i hi => by have := Hmw.out i (by omega); unfold Ln; omega, fun i hi => (starts_zero hcs.out).2.2.bound i (by omega), fun i hi => Hrp.out i (by omega)⟩
                          have ht2 : U + (q : Int) ≤ 2000000 := by omega
                          have hb1 := front_bound (hS1 (m + 1) (Nat.le_refl _)) (t := U + (q : Int)) (by omega) (by omega)
                          have hF1 := hb1 m (by omega)
                          have hF2 := hb1 (m + 1) (Nat.le_refl _)
                          have hlm := Hmw.out m (by omega)
                          have hgq := Hgm.out (U + (q : Int)) (by rw [HU.out]; omega) (by rw [HV.out]; omega)
                          rw [Hmo.out] at hgq
                          have hgt : gapTrue wl st (nm r) (m + 1) (U + (q : Int)) = front (Ln wl) (nm st) (nm r) m (U + (q : Int)) - Ln wl m - front (Ln wl) (nm st) (nm r) (m + 1) (U + (q : Int)) := by
                            unfold gapTrue
                            rw [Nat.add_sub_cancel]
                          have Hf1 := hid (show ∀ vp W', WgAt none W' (.slice (some ⟨bw, ow, none⟩) ws.length cap) wl → IntsAt none W' (.slice (some ⟨bs, os, none⟩) st.length cv) st → IntsAt none W' vp r → Calls Tryd.prog 58 #[.agg #[.int .i64 rt, .slice (some ⟨bw, ow, none⟩) ws.length cap], .slice (some ⟨bs, os, none⟩) st.length cv, vp, .int .i64 (m : Int), .int .i64 (U + (q : Int))] W' fun e' w' => e' = .returned (.int .i64 (front (Ln wl) (nm st) (nm r) m (U + (q : Int)))) ∧ Below W'.heap.size W' w' from fun vp W' h1 h2 h3 => by
                            have h := front_any wl st r (m : Int) (U + (q : Int)) rt _ _ vp none W' h1 h2 h3 (by omega) (by rw [Int.toNat_natCast]; exact hS1 m (by omega)) (by omega) (by omega)
                            rw [Int.toNat_natCast] at h
                            exact h)
                          have Hf2 := hid (show ∀ vp W', WgAt none W' (.slice (some ⟨bw, ow, none⟩) ws.length cap) wl → IntsAt none W' (.slice (some ⟨bs, os, none⟩) st.length cv) st → IntsAt none W' vp r → Calls Tryd.prog 58 #[.agg #[.int .i64 rt, .slice (some ⟨bw, ow, none⟩) ws.length cap], .slice (some ⟨bs, os, none⟩) st.length cv, vp, .int .i64 ((m : Int) + 1), .int .i64 (U + (q : Int))] W' fun e' w' => e' = .returned (.int .i64 (front (Ln wl) (nm st) (nm r) (m + 1) (U + (q : Int)))) ∧ Below W'.heap.size W' w' from fun vp W' h1 h2 h3 => by
                            have h := front_any wl st r ((m + 1 : Nat) : Int) (U + (q : Int)) rt _ _ vp none W' h1 h2 h3 (by omega) (by rw [Int.toNat_natCast]; exact hS1 (m + 1) (Nat.le_refl _)) (by omega) (by omega)
                            rw [Int.toNat_natCast] at h
                            exact h)
                          have e0 : Ln wl m = (wg wl m).len := rfl
                          rw [e0] at hgt
                          obtain ⟨F1, hf1⟩ : ∃ F, front (Ln wl) (nm st) (nm r) m (U + (q : Int)) = F := ⟨_, rfl⟩
                          obtain ⟨F2, hf2⟩ : ∃ F, front (Ln wl) (nm st) (nm r) (m + 1) (U + (q : Int)) = F := ⟨_, rfl⟩
                          rw [hf1] at Hf1 hF1 hgt
                          rw [hf2] at Hf2 hF2 hgt
                          obtain ⟨LM, hLM⟩ : ∃ L, (wg wl m).len = L := ⟨_, rfl⟩
                          rw [hLM] at hgt hlm
                          obtain ⟨n, hn'⟩ : ∃ n, F1 - LM - F2 = n := ⟨_, rfl⟩
                          have z1 : IntKind.i64.wrap (F1 - LM) = F1 - LM := IntWalk.i64_in _ (by omega)
                          have z2 : IntKind.i64.wrap (F1 - LM - F2) = n := by rw [IntWalk.i64_in _ (by omega)]; exact hn'
                          have z3 : IntKind.i64.wrap (m : Int) = (m : Int) := IntWalk.i64_in _ (by omega)
                          have z4 : IntKind.i64.wrap (U + (q : Int) + 1) = U + (q : Int) + 1 := IntWalk.i64_in _ (by omega)
                          rw [hn'] at hgt
                          have Hgt := hid hgt
                          have hn1 : ¬ G < n := by rw [hgt] at hgq; simp only at hgq; omega
                          have hn2 : ¬ n < 0 := by rw [hgt] at hgq; omega
                          have HL := hid (show ∀ W', Below wo.heap.size wo W' → W'.cell? ⟨bw, ow + m * 4 + 1, none⟩ = some (.int .i64 LM) from fun W' hb => by
                            have h := ((KO.out.later hb).g (v := .slice (some ⟨bw, ow, none⟩) ws.length cap) (ws := wl) (by simp)).cells (i := m) (by omega)
                            rw [hLM] at h
                            exact h.2.1)
                          have i5 : (m : Int) < (ws.length : Int) := by omega
                          have i6 : (j : Int) < (A.length : Int) := by omega
                          have i7 : U + (q : Int) < V := by omega
                          clear hS1 ht2 hb1 hF1 hF2 hlm hgq hgt e0 hf1 hf2 hLM hn' Hgm hrl
                          go_wp2_with fail
                          have K := hid K.out.drew
                          have Hbw7 := hid Hbw7.out.drew
                          go_region_held3 (fun w' => w'.cell? ⟨B, 0, none⟩ = some (.int .i64 rt) ∧ w'.cell? ⟨B, 1, none⟩ = some (.slice (some ⟨bw, ow, none⟩) ws.length cap) ∧ w'.cell? ⟨g, j, none⟩ = some (.slice ra' r.length rc') ∧ w'.cell? ⟨bw, ow + m * 4 + 1, none⟩ = some (.int .i64 LM))
                            (first | with_reducible exact ⟨K.out.c (by simp), K.out.c (by simp), cell_back Hbw7.out hg2 hcell, HL.out _ Hbw7.out⟩) (first
                            | (go_at_call 58; (first | with_reducible refine (Hf1.out _ _ (K.out.g (by simp)).any (K.out.i (v := .slice (some ⟨bs, os, none⟩) st.length cv) (xs := st) (by simp)).any (OwnInts.at (OwnInts.later Hrow.out Hbw7.out) (by simp))).mono ?_ | with_reducible refine (Hf2.out _ _ (K.out.g (by simp)).any (K.out.i (v := .slice (some ⟨bs, os, none⟩) st.length cv) (xs := st) (by simp)).any (OwnInts.at (OwnInts.later Hrow.out Hbw7.out) (by simp))).mono ?_); rintro e w9 ⟨rfl, hb⟩; have K := hid (K.out.later hb); have Hbw7 := hid (Hbw7.out.trans (hb.mono Hbw7.out.size)); clear hb))
                          all_goals (
                            have y2 := K.out.c (b := w5.heap.size) (o := 2) (v := .int .i64 rc) (by simp)
                            obtain ⟨wq, hwq⟩ : ∃ wq, wideTo (fun t => gapTrue wl st (nm r) (m + 1) t) rc U q = wq := ⟨_, rfl⟩
                            have Hw1 := hid (show wideTo (fun t => gapTrue wl st (nm r) (m + 1) t) rc U (q + 1) = (wq || decide (rc < n)) from by
                              have h1 : wideTo (fun t => gapTrue wl st (nm r) (m + 1) t) rc U (q + 1) = (wideTo (fun t => gapTrue wl st (nm r) (m + 1) t) rc U q || decide (rc < gapTrue wl st (nm r) (m + 1) (U + (q : Int)))) := rfl
                              rw [h1, hwq, Hgt.out])
                            have HP := hid (show (W = -1 ∨ m0 < m ∨ (m0 = m ∧ (k0 < j ∨ (k0 = j ∧ S < U + ((q + 1 : Nat) : Int))))) → (b7 = true ∨ ((m : Int) + 1 = W ∧ U + (q : Int) = S ∧ n = G)) from fun h => by
                              by_cases h7 : W = -1 ∨ m0 < m ∨ (m0 = m ∧ (k0 < j ∨ (k0 = j ∧ S < U + (q : Int))))
                              · exact .inl (Hb7.out h7)
                              · obtain ⟨a1, _, _, a4⟩ := HHit2.out (by omega) (by omega) (by omega)
                                have hS : U + (q : Int) = S := by omega
                                rw [← hS, Hgt.out] at a4
                                exact .inr ⟨a1.symm, hS, a4⟩)
                            rw [hwq]
                            clear hwq
                            have hd : b7 = true ∨ (b7 = false ∧ (m : Int) + 1 ≠ W) ∨ (b7 = false ∧ (m : Int) + 1 = W ∧ U + (q : Int) ≠ S) ∨ (b7 = false ∧ (m : Int) + 1 = W ∧ U + (q : Int) = S ∧ n ≠ G) ∨ (b7 = false ∧ (m : Int) + 1 = W ∧ U + (q : Int) = S ∧ n = G) := by
                              cases b7
                              · by_cases e1 : (m : Int) + 1 = W
                                · by_cases e2 : U + (q : Int) = S
                                  · by_cases e3 : n = G
                                    · exact .inr (.inr (.inr (.inr ⟨rfl, e1, e2, e3⟩)))
                                    · exact .inr (.inr (.inr (.inl ⟨rfl, e1, e2, e3⟩)))
                                  · exact .inr (.inr (.inl ⟨rfl, e1, e2⟩))
                                · exact .inr (.inl ⟨rfl, e1⟩)
                              · exact .inl rfl
                            by_cases hg : rc < n
                            · cases wq with
                              | true =>
                                rcases hd with rfl | ⟨rfl, e1⟩ | ⟨rfl, e1, e2⟩ | ⟨rfl, e1, e2, e3⟩ | ⟨rfl, e1, e2, e3⟩
                                · skip
                                  go_wp2
                                  go_roundw
                                  case rel => exact ⟨q + 1, true, by omega, rfl, by rw [Hw1.out]; simp [hg], by go_num, fun _ => rfl, Hbw7.out⟩
                                  case measure => simp [intOf] <;> omega
                                · skip
                                  obtain ⟨e1a, e1b⟩ := ne_bool (a := (m : Int) + 1) (b := W) e1
                                  have e1h := hid e1
                                  clear e1
                                  go_wp2
                                  go_roundw
                                  case rel => exact ⟨q + 1, false, by omega, rfl, by rw [Hw1.out]; simp [hg], by go_num, fun h => (HP.out h).elim (fun h => h) (fun h => absurd h.1 e1h.out), Hbw7.out⟩
                                  case measure => simp [intOf] <;> omega
                                · skip
                                  obtain ⟨e1a, e1b⟩ := eq_bool (a := (m : Int) + 1) (b := W) e1
                                  have e1h := hid e1
                                  clear e1
                                  obtain ⟨e2a, e2b⟩ := ne_bool (a := U + (q : Int)) (b := S) e2
                                  have e2h := hid e2
                                  clear e2
                                  go_wp2
                                  go_roundw
                                  case rel => exact ⟨q + 1, false, by omega, rfl, by rw [Hw1.out]; simp [hg], by go_num, fun h => (HP.out h).elim (fun h => h) (fun h => absurd h.2.1 e2h.out), Hbw7.out⟩
                                  case measure => simp [intOf] <;> omega
                                · skip
                                  obtain ⟨e1a, e1b⟩ := eq_bool (a := (m : Int) + 1) (b := W) e1
                                  have e1h := hid e1
                                  clear e1
                                  obtain ⟨e2a, e2b⟩ := eq_bool (a := U + (q : Int)) (b := S) e2
                                  have e2h := hid e2
                                  clear e2
                                  obtain ⟨e3a, e3b⟩ := ne_bool (a := n) (b := G) e3
                                  have e3h := hid e3
                                  clear e3
                                  go_wp2
                                  go_roundw
                                  case rel => exact ⟨q + 1, false, by omega, rfl, by rw [Hw1.out]; simp [hg], by go_num, fun h => (HP.out h).elim (fun h => h) (fun h => absurd h.2.2 e3h.out), Hbw7.out⟩
                                  case measure => simp [intOf] <;> omega
                                · skip
                                  obtain ⟨e1a, e1b⟩ := eq_bool (a := (m : Int) + 1) (b := W) e1
                                  have e1h := hid e1
                                  clear e1
                                  obtain ⟨e2a, e2b⟩ := eq_bool (a := U + (q : Int)) (b := S) e2
                                  have e2h := hid e2
                                  clear e2
                                  obtain ⟨e3a, e3b⟩ := eq_bool (a := n) (b := G) e3
                                  have e3h := hid e3
                                  clear e3
                                  go_wp2
                                  go_roundw
                                  case rel => exact ⟨q + 1, true, by omega, rfl, by rw [Hw1.out]; simp [hg], by go_num, fun _ => rfl, Hbw7.out⟩
                                  case measure => simp [intOf] <;> omega
                              | false =>
                                rcases hd with rfl | ⟨rfl, e1⟩ | ⟨rfl, e1, e2⟩ | ⟨rfl, e1, e2, e3⟩ | ⟨rfl, e1, e2, e3⟩
                                · skip
                                  go_wp2
                                  go_roundw
                                  case rel => exact ⟨q + 1, true, by omega, rfl, by rw [Hw1.out]; simp [hg], by go_num, fun _ => rfl, Hbw7.out⟩
                                  case measure => simp [intOf] <;> omega
                                · skip
                                  obtain ⟨e1a, e1b⟩ := ne_bool (a := (m : Int) + 1) (b := W) e1
                                  have e1h := hid e1
                                  clear e1
                                  go_wp2
                                  go_roundw
                                  case rel => exact ⟨q + 1, false, by omega, rfl, by rw [Hw1.out]; simp [hg], by go_num, fun h => (HP.out h).elim (fun h => h) (fun h => absurd h.1 e1h.out), Hbw7.out⟩
                                  case measure => simp [intOf] <;> omega
                                · skip
                                  obtain ⟨e1a, e1b⟩ := eq_bool (a := (m : Int) + 1) (b := W) e1
                                  have e1h := hid e1
                                  clear e1
                                  obtain ⟨e2a, e2b⟩ := ne_bool (a := U + (q : Int)) (b := S) e2
                                  have e2h := hid e2
                                  clear e2
                                  go_wp2
                                  go_roundw
                                  case rel => exact ⟨q + 1, false, by omega, rfl, by rw [Hw1.out]; simp [hg], by go_num, fun h => (HP.out h).elim (fun h => h) (fun h => absurd h.2.1 e2h.out), Hbw7.out⟩
                                  case measure => simp [intOf] <;> omega
                                · skip
                                  obtain ⟨e1a, e1b⟩ := eq_bool (a := (m : Int) + 1) (b := W) e1
                                  have e1h := hid e1
                                  clear e1
                                  obtain ⟨e2a, e2b⟩ := eq_bool (a := U + (q : Int)) (b := S) e2
                                  have e2h := hid e2
                                  clear e2
                                  obtain ⟨e3a, e3b⟩ := ne_bool (a := n) (b := G) e3
                                  have e3h := hid e3
                                  clear e3
                                  go_wp2
                                  go_roundw
                                  case rel => exact ⟨q + 1, false, by omega, rfl, by rw [Hw1.out]; simp [hg], by go_num, fun h => (HP.out h).elim (fun h => h) (fun h => absurd h.2.2 e3h.out), Hbw7.out⟩
                                  case measure => simp [intOf] <;> omega
                                · skip
                                  obtain ⟨e1a, e1b⟩ := eq_bool (a := (m : Int) + 1) (b := W) e1
                                  have e1h := hid e1
                                  clear e1
                                  obtain ⟨e2a, e2b⟩ := eq_bool (a := U + (q : Int)) (b := S) e2
                                  have e2h := hid e2
                                  clear e2
                                  obtain ⟨e3a, e3b⟩ := eq_bool (a := n) (b := G) e3
                                  have e3h := hid e3
                                  clear e3
                                  go_wp2
                                  go_roundw
                                  case rel => exact ⟨q + 1, true, by omega, rfl, by rw [Hw1.out]; simp [hg], by go_num, fun _ => rfl, Hbw7.out⟩
                                  case measure => simp [intOf] <;> omega
                            · cases wq with
                              | true =>
                                rcases hd with rfl | ⟨rfl, e1⟩ | ⟨rfl, e1, e2⟩ | ⟨rfl, e1, e2, e3⟩ | ⟨rfl, e1, e2, e3⟩
                                · skip
                                  go_wp2
                                  go_roundw
                                  case rel => exact ⟨q + 1, true, by omega, rfl, by rw [Hw1.out]; simp [hg], by go_num, fun _ => rfl, Hbw7.out⟩
                                  case measure => simp [intOf] <;> omega
                                · skip
                                  obtain ⟨e1a, e1b⟩ := ne_bool (a := (m : Int) + 1) (b := W) e1
                                  have e1h := hid e1
                                  clear e1
                                  go_wp2
                                  go_roundw
                                  case rel => exact ⟨q + 1, false, by omega, rfl, by rw [Hw1.out]; simp [hg], by go_num, fun h => (HP.out h).elim (fun h => h) (fun h => absurd h.1 e1h.out), Hbw7.out⟩
                                  case measure => simp [intOf] <;> omega
                                · skip
                                  obtain ⟨e1a, e1b⟩ := eq_bool (a := (m : Int) + 1) (b := W) e1
                                  have e1h := hid e1
                                  clear e1
                                  obtain ⟨e2a, e2b⟩ := ne_bool (a := U + (q : Int)) (b := S) e2
                                  have e2h := hid e2
                                  clear e2
                                  go_wp2
                                  go_roundw
                                  case rel => exact ⟨q + 1, false, by omega, rfl, by rw [Hw1.out]; simp [hg], by go_num, fun h => (HP.out h).elim (fun h => h) (fun h => absurd h.2.1 e2h.out), Hbw7.out⟩
                                  case measure => simp [intOf] <;> omega
                                · skip
                                  obtain ⟨e1a, e1b⟩ := eq_bool (a := (m : Int) + 1) (b := W) e1
                                  have e1h := hid e1
                                  clear e1
                                  obtain ⟨e2a, e2b⟩ := eq_bool (a := U + (q : Int)) (b := S) e2
                                  have e2h := hid e2
                                  clear e2
                                  obtain ⟨e3a, e3b⟩ := ne_bool (a := n) (b := G) e3
                                  have e3h := hid e3
                                  clear e3
                                  go_wp2
                                  go_roundw
                                  case rel => exact ⟨q + 1, false, by omega, rfl, by rw [Hw1.out]; simp [hg], by go_num, fun h => (HP.out h).elim (fun h => h) (fun h => absurd h.2.2 e3h.out), Hbw7.out⟩
                                  case measure => simp [intOf] <;> omega
                                · skip
                                  obtain ⟨e1a, e1b⟩ := eq_bool (a := (m : Int) + 1) (b := W) e1
                                  have e1h := hid e1
                                  clear e1
                                  obtain ⟨e2a, e2b⟩ := eq_bool (a := U + (q : Int)) (b := S) e2
                                  have e2h := hid e2
                                  clear e2
                                  obtain ⟨e3a, e3b⟩ := eq_bool (a := n) (b := G) e3
                                  have e3h := hid e3
                                  clear e3
                                  go_wp2
                                  go_roundw
                                  case rel => exact ⟨q + 1, true, by omega, rfl, by rw [Hw1.out]; simp [hg], by go_num, fun _ => rfl, Hbw7.out⟩
                                  case measure => simp [intOf] <;> omega
                              | false =>
                                rcases hd with rfl | ⟨rfl, e1⟩ | ⟨rfl, e1, e2⟩ | ⟨rfl, e1, e2, e3⟩ | ⟨rfl, e1, e2, e3⟩
                                · skip
                                  go_wp2
                                  go_roundw
                                  case rel => exact ⟨q + 1, true, by omega, rfl, by rw [Hw1.out]; simp [hg], by go_num, fun _ => rfl, Hbw7.out⟩
                                  case measure => simp [intOf] <;> omega
                                · skip
                                  obtain ⟨e1a, e1b⟩ := ne_bool (a := (m : Int) + 1) (b := W) e1
                                  have e1h := hid e1
                                  clear e1
                                  go_wp2
                                  go_roundw
                                  case rel => exact ⟨q + 1, false, by omega, rfl, by rw [Hw1.out]; simp [hg], by go_num, fun h => (HP.out h).elim (fun h => h) (fun h => absurd h.1 e1h.out), Hbw7.out⟩
                                  case measure => simp [intOf] <;> omega
                                · skip
                                  obtain ⟨e1a, e1b⟩ := eq_bool (a := (m : Int) + 1) (b := W) e1
                                  have e1h := hid e1
                                  clear e1
                                  obtain ⟨e2a, e2b⟩ := ne_bool (a := U + (q : Int)) (b := S) e2
                                  have e2h := hid e2
                                  clear e2
                                  go_wp2
                                  go_roundw
                                  case rel => exact ⟨q + 1, false, by omega, rfl, by rw [Hw1.out]; simp [hg], by go_num, fun h => (HP.out h).elim (fun h => h) (fun h => absurd h.2.1 e2h.out), Hbw7.out⟩
                                  case measure => simp [intOf] <;> omega
                                · skip
                                  obtain ⟨e1a, e1b⟩ := eq_bool (a := (m : Int) + 1) (b := W) e1
                                  have e1h := hid e1
                                  clear e1
                                  obtain ⟨e2a, e2b⟩ := eq_bool (a := U + (q : Int)) (b := S) e2
                                  have e2h := hid e2
                                  clear e2
                                  obtain ⟨e3a, e3b⟩ := ne_bool (a := n) (b := G) e3
                                  have e3h := hid e3
                                  clear e3
                                  go_wp2
                                  go_roundw
                                  case rel => exact ⟨q + 1, false, by omega, rfl, by rw [Hw1.out]; simp [hg], by go_num, fun h => (HP.out h).elim (fun h => h) (fun h => absurd h.2.2 e3h.out), Hbw7.out⟩
                                  case measure => simp [intOf] <;> omega
                                · skip
                                  obtain ⟨e1a, e1b⟩ := eq_bool (a := (m : Int) + 1) (b := W) e1
                                  have e1h := hid e1
                                  clear e1
                                  obtain ⟨e2a, e2b⟩ := eq_bool (a := U + (q : Int)) (b := S) e2
                                  have e2h := hid e2
                                  clear e2
                                  obtain ⟨e3a, e3b⟩ := eq_bool (a := n) (b := G) e3
                                  have e3h := hid e3
                                  clear e3
                                  go_wp2
                                  go_roundw
                                  case rel => exact ⟨q + 1, true, by omega, rfl, by rw [Hw1.out]; simp [hg], by go_num, fun _ => rfl, Hbw7.out⟩
                                  case measure => simp [intOf] <;> omega)
                        · obtain rfl : q = (V - U).toNat := by omega
                          have i7 : ¬ U + (((V - U).toNat : Nat) : Int) < V := by omega
                          obtain ⟨x, hx⟩ : ∃ x, (A.take j).any (wideV rt wl st rc m) = x := ⟨_, rfl⟩
                          obtain ⟨y, hy⟩ : ∃ y, (A.take j).all (wideV rt wl st rc m) = y := ⟨_, rfl⟩
                          obtain ⟨z, hz⟩ : ∃ z, wideTo (fun t => gapTrue wl st (nm r) (m + 1) t) rc U (V - U).toNat = z := ⟨_, rfl⟩
                          rw [hx, hy, hz]
                          have Hx := hid (show (A.take (j + 1)).any (wideV rt wl st rc m) = (x || z) from by rw [Han.out, hx, Hwv.out, hz])
                          have Hy := hid (show (A.take (j + 1)).all (wideV rt wl st rc m) = (y && z) from by rw [Hal.out, hy, Hwv.out, hz])
                          clear hx hy hz
                          have HP := hid (show (W = -1 ∨ m0 < m ∨ (m0 = m ∧ k0 < j + 1)) → b7 = true from fun h => Hb7.out (by
                            by_cases hk : k0 = j ∧ m0 = m ∧ W ≠ -1
                            · obtain ⟨_, a2, a3, _⟩ := HHit2.out hk.1 hk.2.1 hk.2.2
                              exact .inr (.inr ⟨hk.2.1, .inr ⟨hk.1, by omega⟩⟩)
                            · omega))
                          cases x <;> cases y <;> cases z
                          all_goals (
                            go_wp2
                            go_roundw
                            case rel => exact ⟨j + 1, b7, by omega, rfl, by rw [Hx.out]; rfl, by rw [Hy.out]; rfl, by go_num, HP.out, Hbw7.out⟩
                            case measure => simp [intOf] <;> omega)
                    · obtain rfl : j = A.length := by omega
                      have hcase : ∃ (o : Int) (E F : Bool), nm OL (m + 1) = o ∧ A.all (wideV rt wl st rc m) = E ∧ A.any (wideV rt wl st rc m) = F ∧ ((o = 1 ∧ E = true ∧ F = true) ∨ (o = 3 ∧ E = false ∧ F = true) ∨ (o = 2 ∧ E = false ∧ F = false)) := by
                        have h01 := wide_01 hcs.out (fun i hi => by have := Hmw.out i hi; unfold Lo Hi; omega) hmw2
                        refine ⟨_, _, _, rfl, rfl, rfl, ?_⟩
                        rw [hOr m hmw2, HEv.out, HSo.out]
                        unfold openAt
                        by_cases c1 : rc < (wideAt rt wl st 0 m).2
                        · have c2 : rc < (wideAt rt wl st 1 m).2 := by omega
                          exact .inl ⟨if_pos c1, by simp [c1], by simp [c2]⟩
                        · by_cases c2 : rc < (wideAt rt wl st 1 m).2
                          · exact .inr (.inl ⟨by rw [if_neg c1, if_pos c2], by simp [c1], by simp [c2]⟩)
                          · exact .inr (.inr ⟨by rw [if_neg c1, if_neg c2], by simp [c1], by simp [c2]⟩)
                      obtain ⟨o, E, F, ho, hE, hF, hoEF⟩ := hcase
                      rw [List.take_length, hE, hF]
                      have c0 := ((HKV.out.kept (gb_below Hbw'.out _)).cell (i := m + 1) (by have := Hol2.out; omega))
                      rw [ho] at c0
                      have Hfin := hid (show (W = -1 ∨ m0 + 1 < m + 2) → b' = true from fun h => Hb'.out (by
                        rcases Hhit.out with h1 | ⟨_, _, hk, _⟩
                        · exact .inl h1
                        · omega))
                      clear ho hE hF HEv HSo
                      rcases hoEF with ⟨rfl, rfl, rfl⟩ | ⟨rfl, rfl, rfl⟩ | ⟨rfl, rfl, rfl⟩
                      all_goals (
                        go_wp2
                        go_roundw
                        case rel => exact ⟨m + 2, b', by omega, rfl, by go_num, Hfin.out, Hbw'.out⟩
                        case measure => simp [intOf] <;> omega)
              · obtain rfl : k = ws.length := by omega
                have hbt : b = true := Hb.out (by
                  rcases Hhit.out with h1 | ⟨h1, _⟩
                  · exact .inl h1
                  · have := Hwl.out; omega)
                subst hbt
                have i1 : ¬ ((ws.length : Int) < (OL.length : Int)) := by have := Hol2.out; omega
                go_wp2_with (go_at_call 18; refine (awake_any _).mono ?_; rintro e w10 ⟨rfl, hb10⟩)
                go_ret
                exact ⟨rfl, ((K.out.later hb10)).below⟩
end Go.Proofs.YtgfipifgijohhaaDoor
