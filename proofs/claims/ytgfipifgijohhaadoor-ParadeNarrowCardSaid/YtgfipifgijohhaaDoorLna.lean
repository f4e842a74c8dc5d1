/-
  WALKS: ParadeNarrow.
-/
import Derived.Test.YtgfipifgijohhaaDoorNap
import Derived.Test.YtgfipifgijohhaaDoorOrdG
import Derived.Deep.CutRange
namespace Go.Proofs.YtgfipifgijohhaaDoor
open Go.RowKit

set_option maxHeartbeats 4000000 in
set_option maxRecDepth 100000 in
theorem narrow_any (xs : List Int) (v : Value) (w : World) (hX : IntsAt none w v xs) (hn : xs.length ≤ 9223372036854775807) :
    Calls Tryd.prog 11 #[v] w fun e w' => e = .returned (.bool true) ∧ Below w.heap.size w w' := by
  have HX := hid hX
  obtain ⟨ax, cx, rfl, _⟩ := hX
  go_enter Tryd.func11, Tryd.ntmps11
  go_wp2_with fail
  refine (drumOf_any xs _ w HX.out hn).mono ?_
  rintro e w1 ⟨rfl, hb1, hl1⟩
  have K := hid (LK.start hb1 hl1 (Nat.le_refl _))
  clear hb1 hl1 HX
  go_wp2_with fail
  refine (schoolOf_any _ 5 _ K.out.beat (by decide) (by decide)).mono ?_
  rintro e w2 ⟨route, vw, ws, rfl, hr1, hr2, h0, h6, hm, hown, hbt, hgb⟩
  obtain ⟨bw, ow, cap, rfl, _, _⟩ := (hown.at (d := none) (by simp)).slice h0
  have K := hid (K.out.addWgs (K.out.go hgb hbt) hown)
  clear hgb hbt hown
  have h8 : ws.length ≤ 8 := by omega
  have hc := hid (made_check hm hr1 hr2 h0 h8)
  have K := hid (K.out.box2 (.int .i64 route) (.slice (some ⟨bw, ow, none⟩) ws.length cap) 24)
  have b0 := K.out.c (o := 0) (v := .int .i64 route) (List.Mem.head _)
  have b1 := K.out.c (o := 1) (v := .slice (some ⟨bw, ow, none⟩) ws.length cap) (List.Mem.tail _ (List.Mem.head _))
  have h5 : ws.length ≤ 5 := by omega
  go_wp2_with fail
  refine (startsOf_any _ ws route _ _ K.out.beat (K.out.g (by simp)) hc.out hm).mono ?_
  rintro e w4 ⟨vs, st, rfl, hls, hms, hso, hbt, hgb⟩
  have K := hid (K.out.addInts (K.out.go hgb hbt) hso)
  clear hbt hgb hso
  have hcs := hid (made_starts hc.out hls h8 hms)
  have Hls := hid hls
  have hls8 : st.length ≤ 5 := by omega
  obtain ⟨bs, os, cv, rfl, _, _⟩ := (K.out.i (v := vs) (xs := st) (by simp)).slice (by omega)
  clear hls b0 b1
  generalize w2.heap.size = B at *
  go_wp2_with fail
  refine (rulesOf_any _ _ K.out.beat).mono ?_
  rintro e w5 ⟨ra, rb, rc, rfl, ha1, ha2, hab, hb2, hc1, hc2, hbt, hgb⟩
  have K := hid (K.out.go hgb hbt)
  clear hbt hgb
  have K := hid (K.out.box3 (.int .i64 ra) (.int .i64 rb) (.int .i64 rc) 50)
  have b0 := K.out.c (b := B) (o := 0) (v := .int .i64 route) (by simp)
  have b1 := K.out.c (b := B) (o := 1) (v := .slice (some ⟨bw, ow, none⟩) ws.length cap) (by simp)
  go_wp2_with fail
  refine (ownSchool_any ws route _ none _ (K.out.g (by simp)).any (by intro n c e; cases e) (by omega)).mono ?_
  rintro e w6 ⟨vl, rfl, hol, hb6⟩
  obtain ⟨Y, hY⟩ : ∃ Y, w5.heap.size = Y := ⟨_, rfl⟩
  rw [hY] at K
  rw [hY]
  clear hY b0 b1
  obtain ⟨xw, ew, hbw, _⟩ := (K.out.g (v := .slice (some ⟨bw, ow, none⟩) ws.length cap) (ws := ws) (by simp)).block h0
  cases ew
  obtain ⟨xs', es, hbs, _⟩ := (K.out.i (v := .slice (some ⟨bs, os, none⟩) st.length cv) (xs := st) (by simp)).block (by have := Hls.out; omega)
  cases es
  have hK5 := hid (fun b o v h => K.out.clt (b := b) (o := o) (v := v) h)
  have hsz5 := K.out.below.size
  have K := hid (K.out.addWgs (K.out.later hb6) hol)
  obtain ⟨bl, ol, cl, rfl, _, _⟩ := (K.out.g (v := vl) (ws := ws) (by simp)).slice h0
  have hbl := World.ownsRow.lt hol bl rfl
  have hfr : ∀ o, w6.frozen? ⟨bl, o, none⟩ = false := own_thawed hol rfl
  have hbld : bl ≠ w.heap.size := by
    obtain ⟨x2, e2, _, h2⟩ := (K.out.g (v := .slice (some ⟨bl, ol, none⟩) ws.length cl) (ws := ws) (by simp)).block h0
    cases e2
    intro e; exact h2 (by rw [e])
  dsimp only at hbw hbs
  have hneW : bw ≠ bl := by omega
  have hneS : bs ≠ bl := by omega
  have hl0 : w.heap.size ≤ bl := by omega
  have hYB := hid (show Y ≠ bl ∧ B ≠ bl from ⟨by have := hK5.out Y 0 (.int .i64 ra) (by simp); omega, by have := hK5.out B 0 (.int .i64 route) (by simp); omega⟩)
  have hLL : w6.heap.size ≠ bl := by omega
  have hbl2 : bl < w6.heap.size := by omega
  have K := hid (K.out.box2 (.int .i64 route) (.slice (some ⟨bl, ol, none⟩) ws.length cl) 24)
  clear hb6 hol hK5 hsz5 hbw hbs hbl
  go_wp2_with fail
  obtain ⟨W7, hW7, K7⟩ := K.out.name
  have hfr7 : ∀ o, W7.frozen? ⟨bl, o, none⟩ = false := fun o => by rw [← hW7]; exact frozen_up hbl2 (hfr o)
  rw [hW7]
  clear hW7 K hbl2
  have K := hid K7
  clear K7 hfr
  generalize w6.heap.size = L at *
  have Hcs : Hid (∀ b o v, (b, o, v) ∈ ([(L, 0, .int .i64 route), (L, 1, .slice (some ⟨bl, ol, none⟩) ws.length cl), (Y, 0, .int .i64 ra), (Y, 1, .int .i64 rb), (Y, 2, .int .i64 rc), (B, 0, .int .i64 route), (B, 1, .slice (some ⟨bw, ow, none⟩) ws.length cap)] : Cells) → b ≠ bl) := hid (fun b o v h => by
    have h1 := hYB.out
    simp only [List.mem_cons, Prod.mk.injEq, List.not_mem_nil, or_false] at h
    omega)
  have Hli : Hid (∀ (v : Value) (xs : List Int), (v, xs) ∈ ([(.slice (some ⟨bs, os, none⟩) st.length cv, st)] : List (Value × List Int)) → 0 < xs.length → v.ownBlock ≠ some bl) := hid (fun v xs h _ e => by
    have h := List.mem_singleton.1 h
    cases h; cases e; exact hneS rfl)
  have Hlw : Hid (∀ (v : Value) (xs : List Wing), (v, xs) ∈ ([(.slice (some ⟨bw, ow, none⟩) ws.length cap, ws)] : List (Value × List Wing)) → 0 < xs.length → v.ownBlock ≠ some bl) := hid (fun v xs h _ e => by
    have h := List.mem_singleton.1 h
    cases h; cases e; exact hneW rfl)
  have Hfr := hid hfr7
  clear hfr7
  have hnr := hid (Narrow.refl (ws := ws) (fun i hi => by have := hm i hi; unfold Lo Hi; omega))
  go_loopw [8] (fun i wr => ∃ (k : Nat) (wl : List Wing), k ≤ ws.length ∧ i = .int .i64 k ∧ Narrow ws wl ∧ (∀ o, wr.frozen? ⟨bl, o, none⟩ = false) ∧
      LK w.heap.size [(L, 0, .int .i64 route), (L, 1, .slice (some ⟨bl, ol, none⟩) ws.length cl), (Y, 0, .int .i64 ra), (Y, 1, .int .i64 rb), (Y, 2, .int .i64 rc), (B, 0, .int .i64 route), (B, 1, .slice (some ⟨bw, ow, none⟩) ws.length cap)] [(.slice (some ⟨bs, os, none⟩) st.length cv, st)] [(.slice (some ⟨bl, ol, none⟩) ws.length cl, wl), (.slice (some ⟨bw, ow, none⟩) ws.length cap, ws)] w wr)
    (fun i _ => ws.length - (intOf i).toNat)
  case atStart => exact ⟨0, ws, by omega, rfl, hnr.out, Hfr.out, K.out⟩
  case round =>
    obtain ⟨k, wl, hk, rfl, hnw, hfk, KK⟩ := hrel
    have K := hid KK
    have Hnw := hid hnw
    have Hfk := hid hfk
    clear KK hnw hfk
    obtain ⟨wo, rfl⟩ : ∃ wo : World, wo = wr := ⟨_, rfl⟩
    have l1 := K.out.c (b := L) (o := 1) (v := .slice (some ⟨bl, ol, none⟩) ws.length cl) (by simp)
    by_cases hlt : k < ws.length
    · have hkl : k < wl.length := by rw [Hnw.out.len]; exact hlt
      have cc := (K.out.g (v := .slice (some ⟨bl, ol, none⟩) ws.length cl) (ws := wl) (by simp)).cells hkl
      obtain ⟨_, _, c2, c3⟩ := cc
      have hlo : 1 ≤ (wg wl k).lo ∧ (wg wl k).lo ≤ (wg wl k).hi ∧ (wg wl k).hi ≤ 100 := by
        have h1 : Lo ws k ≤ (wg wl k).lo ∧ (wg wl k).lo ≤ (wg wl k).hi ∧ (wg wl k).hi ≤ Hi ws k := Hnw.out.lo k hlt
        have h2 := hm k hlt
        unfold Lo Hi at h1
        omega
      go_wp2_with fail
      have d2 : wo.drew.cell? ⟨bl, ol + k * 4 + 2, none⟩ = some (.int .i64 (wg wl k).lo) := c2
      have d3 : wo.drew.cell? ⟨bl, ol + k * 4 + 2 + 1, none⟩ = some (.int .i64 (wg wl k).hi) := c3
      have hlt2 : bl < wo.heap.size := World.block_lt_of_cell? wo ⟨bl, _, none⟩ c2
      have hSd := hid (show (w' : World) → w' = wo.drew → (fun w' : World => w'.cell? ⟨L, 1, none⟩ = some (.slice (some ⟨bl, ol, none⟩) ws.length cl) ∧ w'.cell? ⟨bl, ol + k * 4 + 2, none⟩ = some (.int .i64 (wg wl k).lo) ∧ w'.cell? ⟨bl, ol + k * 4 + 2 + 1, none⟩ = some (.int .i64 (wg wl k).hi)) w' from fun w' e => by subst e; exact ⟨K.out.drew.c (by simp), d2, d3⟩)
      refine wp_region_noPanic ?_
      refine wp_region_G (L := 13) (S := fun w' : World => w'.cell? ⟨L, 1, none⟩ = some (.slice (some ⟨bl, ol, none⟩) ws.length cl) ∧ w'.cell? ⟨bl, ol + k * 4 + 2, none⟩ = some (.int .i64 (wg wl k).lo) ∧ w'.cell? ⟨bl, ol + k * 4 + 2 + 1, none⟩ = some (.int .i64 (wg wl k).hi)) (by kernel_rfl) ?_
      refine wpAnyG_take (i := 0) (oi := _) (v := ?_) rfl (by kernel_rfl) (by kernel_rfl) (by kernel_rfl) (by kernel_rfl) (fun _ _ _ h => h) (Or.inl ⟨by rfl, ?_⟩) (hSd.out _ rfl) ?_
      rotate_left
      · intro w hSw; (try dsimp only at hSw); obtain ⟨hSw, hSw2, hSw3⟩ := hSw; go_simp; try with_reducible rfl
      try simp only [Act.put, List.setIfInBounds_toArray, List.set_cons_zero, List.set_cons_succ]
      refine wpAnyG_take (i := 1) (oi := _) (v := ?_) rfl (by kernel_rfl) (by kernel_rfl) (by kernel_rfl) (by kernel_rfl) (fun _ _ _ h => h) (Or.inl ⟨by rfl, ?_⟩) (hSd.out _ rfl) ?_
      rotate_left
      · intro w hSw; (try dsimp only at hSw); obtain ⟨hSw, hSw2, hSw3⟩ := hSw; go_simp; try with_reducible rfl
      try simp only [Act.put, List.setIfInBounds_toArray, List.set_cons_zero, List.set_cons_succ]
      refine wpAnyG_take (i := 2) (oi := _) (v := ?_) rfl (by kernel_rfl) (by kernel_rfl) (by kernel_rfl) (by kernel_rfl) (fun _ _ _ h => h) (Or.inl ⟨by rfl, ?_⟩) (hSd.out _ rfl) ?_
      rotate_left
      · intro w hSw; (try dsimp only at hSw); obtain ⟨hSw, hSw2, hSw3⟩ := hSw; go_simp; try with_reducible rfl
      try simp only [Act.put, List.setIfInBounds_toArray, List.set_cons_zero, List.set_cons_succ]
      refine wpAnyG_take (i := 3) (oi := _) (v := ?_) rfl (by kernel_rfl) (by kernel_rfl) (by kernel_rfl) (by kernel_rfl) (fun _ _ _ h => h) (Or.inl ⟨by rfl, ?_⟩) (hSd.out _ rfl) ?_
      rotate_left
      · intro w hSw; (try dsimp only at hSw); obtain ⟨hSw, hSw2, hSw3⟩ := hSw; go_simp; try with_reducible rfl
      try simp only [Act.put, List.setIfInBounds_toArray, List.set_cons_zero, List.set_cons_succ]
      refine wpAnyG_take (i := 4) (oi := _) (v := ?_) rfl (by kernel_rfl) (by kernel_rfl) (by kernel_rfl) (by kernel_rfl) (fun _ _ _ h => h) (Or.inl ⟨by rfl, ?_⟩) (hSd.out _ rfl) ?_
      rotate_left
      · intro w hSw; (try dsimp only at hSw); obtain ⟨hSw, hSw2, hSw3⟩ := hSw; go_simp; try with_reducible rfl
      try simp only [Act.put, List.setIfInBounds_toArray, List.set_cons_zero, List.set_cons_succ]
      refine wpAnyG_take (i := 5) (oi := _) (v := ?_) rfl (by kernel_rfl) (by kernel_rfl) (by kernel_rfl) (by kernel_rfl) (fun _ _ _ h => h) (Or.inl ⟨by rfl, ?_⟩) (hSd.out _ rfl) ?_
      rotate_left
      · intro w hSw; (try dsimp only at hSw); obtain ⟨hSw, hSw2, hSw3⟩ := hSw; go_simp; try with_reducible rfl
      try simp only [Act.put, List.setIfInBounds_toArray, List.set_cons_zero, List.set_cons_succ]
      refine wpAnyG_take (i := 6) (oi := _) (v := ?_) rfl (by kernel_rfl) (by kernel_rfl) (by kernel_rfl) (by kernel_rfl) (fun _ _ _ h => h) (Or.inl ⟨by rfl, ?_⟩) (hSd.out _ rfl) ?_
      rotate_left
      · intro w hSw; (try dsimp only at hSw); obtain ⟨hSw, hSw2, hSw3⟩ := hSw; go_simp; try with_reducible rfl
      try simp only [Act.put, List.setIfInBounds_toArray, List.set_cons_zero, List.set_cons_succ]
      refine wpAnyG_take (i := 7) (oi := _) (v := ?_) rfl (by kernel_rfl) (by kernel_rfl) (by kernel_rfl) (by kernel_rfl) (fun _ _ _ h => h) (Or.inl ⟨by rfl, ?_⟩) (hSd.out _ rfl) ?_
      rotate_left
      · intro w hSw; (try dsimp only at hSw); obtain ⟨hSw, hSw2, hSw3⟩ := hSw; go_simp; try with_reducible rfl
      try simp only [Act.put, List.setIfInBounds_toArray, List.set_cons_zero, List.set_cons_succ]
      refine wpAnyG_take (i := 8) (oi := _) (v := ?_) rfl (by kernel_rfl) (by kernel_rfl) (by kernel_rfl) (by kernel_rfl) (fun _ _ _ h => h) (Or.inl ⟨by rfl, ?_⟩) (hSd.out _ rfl) ?_
      rotate_left
      · intro w hSw; (try dsimp only at hSw); obtain ⟨hSw, hSw2, hSw3⟩ := hSw; go_simp; try with_reducible rfl
      try simp only [Act.put, List.setIfInBounds_toArray, List.set_cons_zero, List.set_cons_succ]
      refine wpAnyG_take (i := 9) (oi := _) (v := ?_) rfl (by kernel_rfl) (by kernel_rfl) (by kernel_rfl) (by kernel_rfl) (fun _ _ _ h => h) (Or.inl ⟨by rfl, ?_⟩) (hSd.out _ rfl) ?_
      rotate_left
      · intro w hSw; (try dsimp only at hSw); obtain ⟨hSw, hSw2, hSw3⟩ := hSw; go_simp; try with_reducible rfl
      try simp only [Act.put, List.setIfInBounds_toArray, List.set_cons_zero, List.set_cons_succ]
      refine wpAnyG_ready (rs := [10]) (by kernel_rfl) (by simp) ?_
      refine AllReadyG.cons (o := _) rfl (fun K' hK => ?_) ?_
      rotate_left
      · exact AllReadyG.nil
      go_simp
      go_at_call 53; refine (less_any _ _ _ _ K.out.drew.beat (by omega) (by omega) (by omega)).mono ?_; rintro e w8 ⟨p, q, rfl, hp1, hp2, hp3, hbt, hgb⟩
      have Hfk := hid (fun o => frozen_gb (w := wo.drew) hgb hlt2 hbld (Hfk.out o))
      have K := hid (K.out.drew.go hgb hbt)
      clear hgb hbt
      have cc := (K.out.g (v := .slice (some ⟨bl, ol, none⟩) ws.length cl) (ws := wl) (by simp)).cells hkl
      obtain ⟨_, _, c2, c3⟩ := cc
      have f2 := Hfk.out (ol + k * 4 + 2)
      have f3 := Hfk.out (ol + k * 4 + 2 + 1)
      refine hK.out _ _ (fun _ => ⟨K.out.c (by simp), c2, c3⟩) (fun _ => ?_)
      clear hK K'
      try simp only [Act.put, List.setIfInBounds_toArray, List.set_cons_zero, List.set_cons_succ]
      refine wpAnyG_ready (rs := [11]) (by kernel_rfl) (by simp) ?_
      refine AllReadyG.cons (o := _) rfl (fun K' hK => ?_) ?_
      rotate_left
      · exact AllReadyG.nil
      go_simp
      refine hK.out _ _ (fun _ => ⟨K.out.c (by simp), c2, c3⟩) (fun _ => ?_)
      clear hK K'
      try simp only [Act.put, List.setIfInBounds_toArray, List.set_cons_zero, List.set_cons_succ]
      refine wpAnyG_ready (rs := [12]) (by kernel_rfl) (by simp) ?_
      refine AllReadyG.cons (o := _) rfl (fun K' hK => ?_) ?_
      rotate_left
      · exact AllReadyG.nil
      go_simp
      refine hK.out _ _ (fun _ => ⟨K.out.c (by simp), c2, c3⟩) (fun _ => ?_)
      clear hK K'
      try simp only [Act.put, List.setIfInBounds_toArray, List.set_cons_zero, List.set_cons_succ]
      refine wpAnyG_ready (rs := [13]) (by kernel_rfl) (by simp) ?_
      refine AllReadyG.cons (o := _) rfl (fun K' hK => ?_) ?_
      rotate_left
      · exact AllReadyG.nil
      go_simp
      refine hK.out _ _ (fun h => absurd rfl h) (fun _ => ?_)
      clear hK K'
      try simp only [Act.put, List.setIfInBounds_toArray, List.set_cons_zero, List.set_cons_succ]
      refine wpAnyG_done (by kernel_rfl) ?_ _
      refine NoPanic.normal ?_
      · skip
        have hX := (K.out.g (v := .slice (some ⟨bl, ol, none⟩) ws.length cl) (ws := wl) (by simp)).pace hkl p q
        have K := hid (((K.out.dropW.store1 (b := bl) (o := ol + k * 4 + 2) (.int .i64 p) hbld hl0 Hcs.out Hli.out Hlw.out).store1 (b := bl) (o := ol + k * 4 + 2 + 1) (.int .i64 q) hbld hl0 Hcs.out Hli.out Hlw.out).addW hX (fun _ b o u hb e => by cases e; exact Hcs.out _ _ _ hb rfl))
        clear hX c2 c3 d2 d3 f2 f3 hSd
        go_wp2
        go_roundw
        case rel => exact ⟨k + 1, _, by omega, by go_num, Hnw.out.set hlt (by have h1 := (Hnw.out.lo k hlt).1; unfold Lo at *; omega) hp2 (by have h1 := (Hnw.out.lo k hlt).2.2; unfold Hi at *; omega), fun o => (World.frozen?_setCell _ _ _ _).trans ((World.frozen?_setCell _ _ _ _).trans (Hfk.out o)), K.out⟩
        case measure => simp [intOf] <;> omega
    · obtain rfl : k = ws.length := by omega
      have hwl := Hnw.out.len
      have hcs' := hid (Hnw.out.starts hm h0 h8 hr1 hr2 hms Hls.out)
      have hnm' : ∀ i, i < wl.length → (wg wl i).name.size ≤ 1000000 := fun i hi => by rw [(Hnw.out.same i (by omega)).1]; exact made_size hm h8 i (by omega)
      have hwl100 : wl.length ≤ 100 := by omega
      have Hnm' := hid hnm'
      have Hwl := hid hwl
      have hns : st.length ≤ 1000000 := by omega
      clear hnm' hwl
      have b0 := K.out.c (b := B) (o := 0) (v := .int .i64 route) (by simp)
      have b1 := K.out.c (b := B) (o := 1) (v := .slice (some ⟨bw, ow, none⟩) ws.length cap) (by simp)
      go_wp2_with fail
      refine (roll_any _ _ _ K.out.beat (by omega)).mono ?_
      rintro e w9 ⟨wi, rfl, hw1, hw2, hbt, hgb⟩
      obtain ⟨m, rfl⟩ := Int.eq_ofNat_of_zero_le hw1
      have hmw : m < ws.length := by omega
      have hms1 : m < st.length := by have := Hls.out; omega
      have hmwl : m < wl.length := by have := Hwl.out; omega
      have K := hid (K.out.go hgb hbt)
      clear hbt hgb b0 b1 l1
      go_wp2_with fail
      have K := hid K.out.drew
      have hsb := hms.bound m hms1
      have i2 : (m : Int) < (st.length : Int) := by omega
      have wr : IntKind.i64.wrap (route + 1) = route + 1 := IntWalk.i64_in _ (by omega)
      go_region_held3 (fun w' => w'.cell? ⟨bs, os + m, none⟩ = some (.int .i64 (nm st m)) ∧ w'.cell? ⟨B, 0, none⟩ = some (.int .i64 route))
        (first | exact ⟨(K.out.i (v := .slice (some ⟨bs, os, none⟩) st.length cv) (xs := st) (by simp)).cell hms1, K.out.c (by simp)⟩) (first
        | (go_at_call 40; refine (roll_any _ _ _ K.out.beat (by omega)).mono ?_; rintro e w10 ⟨r, rfl, hr3, hr4, hbt, hgb⟩; have K := hid (K.out.go hgb hbt); clear hgb hbt; first | (have hx : rr = rr := rfl; clear hx; obtain ⟨x, rfl⟩ : ∃ z, z = r := ⟨r, rfl⟩) | (obtain ⟨rr, rfl⟩ : ∃ z, z = r := ⟨r, rfl⟩; have zw : IntKind.i64.wrap (nm st m + rr) = nm st m + rr := IntWalk.i64_in _ (by omega))))
      obtain ⟨t, ht⟩ : ∃ t, nm st m + rr = t := ⟨_, rfl⟩
      rw [ht]
      have ht1 : nm st m ≤ t := by omega
      have ht2 : t ≤ 10000 := by omega
      have ht3 : 0 ≤ t := by omega
      have hx0 : 0 ≤ x := by omega
      have hx1 : x ≤ 2000 := by omega
      clear zw ht wr
      have hall : ∀ i, i ≤ m → nm st i ≤ t := fun i hi => by have := starts_le hcs.out hms1 i hi; omega
      have A0 := hid (asked_fine (second := t) hcs.out hmw ht1 (by omega))
      have W0 := hid (where_fine A0.out)
      have A1 := hid (asked_fine (second := t) hcs'.out hmwl ht1 (by omega))
      have W1 := hid (where_fine A1.out)
      obtain ⟨f0, f1⟩ := Hnw.out.front_le (st := st) hmw (t := t) hall
      obtain ⟨p0, p1⟩ := pass_fine (route := route) (place := x) hcs.out hmw hx0 (by omega)
      obtain ⟨p2, p3⟩ := pass_fine (route := route) (place := x) hcs'.out hmwl hx0 (by omega)
      obtain ⟨f2, f3⟩ := Hnw.out.passed_le hm (st := st) hmw hx0
      have hrf := rules_fine (a := ra) (b := rb) (c := rc) (by omega) (by omega) (by omega) (by omega) (by omega)
      have B0 := hid (both_rules hcs.out hrf)
      have B1 := hid (both_rules hcs'.out hrf)
      have V0 := hid (lasts_fine B0.out)
      have V1 := hid (lasts_fine B1.out)
      obtain ⟨f4, f5⟩ := Hnw.out.long_le hm h0 (st := st) hr1
      have f6 := long_le hcs'.out
      have f7 := verdict_stays (a := ra) (b := rb) f4 f5 f6
      obtain ⟨ge, ga, gb, ga', gb', g0, g1, g2, g3, g4, g5, g6⟩ := narrow_gap (route := route) Hnw.out hcs.out hcs'.out hmw hall (by omega)
      have P0 := hid p0
      have P1 := hid p1
      have P2 := hid p2
      have P3 := hid p3
      have G0 := hid g0
      have G1 := hid g1
      have G3 := hid g3
      have G4 := hid g4
      have F7 := hid f7
      clear p0 p1 p2 p3 g0 g1 g3 g4 hall f6 f7
      generalize front (Ln ws) (nm st) (Lo ws) m t = a0 at *
      generalize front (Ln ws) (nm st) (Hi ws) m t = a1 at *
      generalize front (Ln wl) (nm st) (Lo wl) m t = a2 at *
      generalize front (Ln wl) (nm st) (Hi wl) m t = a3 at *
      generalize passed (Ln ws) (nm st) (Hi ws) m x = c0 at *
      generalize passed (Ln ws) (nm st) (Lo ws) m x = c1 at *
      generalize passed (Ln wl) (nm st) (Hi wl) m x = c2 at *
      generalize passed (Ln wl) (nm st) (Lo wl) m x = c3 at *
      generalize longOf route ws st (Hi ws) = d0 at *
      generalize longOf route ws st (Lo ws) = d1 at *
      generalize longOf route wl st (Hi wl) = d2 at *
      generalize longOf route wl st (Lo wl) = d3 at *
      obtain ⟨v0, hv0⟩ : ∃ v, verdictOf ra rb d0 d1 = v := ⟨_, rfl⟩
      obtain ⟨v1, hv1⟩ : ∃ v, verdictOf ra rb d2 d3 = v := ⟨_, rfl⟩
      rw [hv0] at V0
      rw [hv1] at V1
      rw [hv0, hv1] at F7
      clear hv0 hv1
      have b0 := K.out.c (b := B) (o := 0) (v := .int .i64 route) (by simp)
      have b1 := K.out.c (b := B) (o := 1) (v := .slice (some ⟨bw, ow, none⟩) ws.length cap) (by simp)
      have l0 := K.out.c (b := L) (o := 0) (v := .int .i64 route) (by simp)
      have l1 := K.out.c (b := L) (o := 1) (v := .slice (some ⟨bl, ol, none⟩) ws.length cl) (by simp)
      have r0 := K.out.c (b := Y) (o := 0) (v := .int .i64 ra) (by simp)
      have r1 := K.out.c (b := Y) (o := 1) (v := .int .i64 rb) (by simp)
      have r2 := K.out.c (b := Y) (o := 2) (v := .int .i64 rc) (by simp)
      go_wp2_with fail
      refine (where_any ws st route _ _ _ _ _ (K.out.g (by simp)).any (K.out.i (by simp)).any (by omega) (made_size hm h8) hns).mono ?_
      rintro e w11 ⟨rfl, hb⟩
      rw [A0.out, W0.out]
      dsimp only
      have K := hid (K.out.later hb)
      clear hb b0 b1 l0 l1 r0 r1 r2
      have K := hid (K.out.box2 (.int .i64 a0) (.int .i64 a1) 27)
      have b0 := K.out.c (b := B) (o := 0) (v := .int .i64 route) (by simp)
      have b1 := K.out.c (b := B) (o := 1) (v := .slice (some ⟨bw, ow, none⟩) ws.length cap) (by simp)
      have l0 := K.out.c (b := L) (o := 0) (v := .int .i64 route) (by simp)
      have l1 := K.out.c (b := L) (o := 1) (v := .slice (some ⟨bl, ol, none⟩) ws.length cl) (by simp)
      have r0 := K.out.c (b := Y) (o := 0) (v := .int .i64 ra) (by simp)
      have r1 := K.out.c (b := Y) (o := 1) (v := .int .i64 rb) (by simp)
      have r2 := K.out.c (b := Y) (o := 2) (v := .int .i64 rc) (by simp)
      go_wp2_with fail
      refine (where_any wl st route _ _ _ _ _ (K.out.g (by simp)).any (K.out.i (by simp)).any (by omega) Hnm'.out hns).mono ?_
      rintro e w12 ⟨rfl, hb⟩
      rw [A1.out, W1.out]
      dsimp only
      have K := hid (K.out.later hb)
      clear hb b0 b1 l0 l1 r0 r1 r2
      have K := hid (K.out.box2 (.int .i64 a2) (.int .i64 a3) 27)
      have b0 := K.out.c (b := B) (o := 0) (v := .int .i64 route) (by simp)
      have b1 := K.out.c (b := B) (o := 1) (v := .slice (some ⟨bw, ow, none⟩) ws.length cap) (by simp)
      have l0 := K.out.c (b := L) (o := 0) (v := .int .i64 route) (by simp)
      have l1 := K.out.c (b := L) (o := 1) (v := .slice (some ⟨bl, ol, none⟩) ws.length cl) (by simp)
      have r0 := K.out.c (b := Y) (o := 0) (v := .int .i64 ra) (by simp)
      have r1 := K.out.c (b := Y) (o := 1) (v := .int .i64 rb) (by simp)
      have r2 := K.out.c (b := Y) (o := 2) (v := .int .i64 rc) (by simp)
      go_wp2_with fail
      refine (ppasses_any ws st route _ _ _ _ _ (K.out.g (by simp)).any (K.out.i (by simp)).any (by omega) (made_size hm h8) hns).mono ?_
      rintro e w13 ⟨rfl, hb⟩
      rw [P0.out, P1.out]
      dsimp only
      have K := hid (K.out.later hb)
      clear hb b0 b1 l0 l1 r0 r1 r2
      have K := hid (K.out.box2 (.int .i64 c0) (.int .i64 c1) 27)
      have b0 := K.out.c (b := B) (o := 0) (v := .int .i64 route) (by simp)
      have b1 := K.out.c (b := B) (o := 1) (v := .slice (some ⟨bw, ow, none⟩) ws.length cap) (by simp)
      have l0 := K.out.c (b := L) (o := 0) (v := .int .i64 route) (by simp)
      have l1 := K.out.c (b := L) (o := 1) (v := .slice (some ⟨bl, ol, none⟩) ws.length cl) (by simp)
      have r0 := K.out.c (b := Y) (o := 0) (v := .int .i64 ra) (by simp)
      have r1 := K.out.c (b := Y) (o := 1) (v := .int .i64 rb) (by simp)
      have r2 := K.out.c (b := Y) (o := 2) (v := .int .i64 rc) (by simp)
      go_wp2_with fail
      refine (ppasses_any wl st route _ _ _ _ _ (K.out.g (by simp)).any (K.out.i (by simp)).any (by omega) Hnm'.out hns).mono ?_
      rintro e w14 ⟨rfl, hb⟩
      rw [P2.out, P3.out]
      dsimp only
      have K := hid (K.out.later hb)
      clear hb b0 b1 l0 l1 r0 r1 r2
      have K := hid (K.out.box2 (.int .i64 c2) (.int .i64 c3) 27)
      have b0 := K.out.c (b := B) (o := 0) (v := .int .i64 route) (by simp)
      have b1 := K.out.c (b := B) (o := 1) (v := .slice (some ⟨bw, ow, none⟩) ws.length cap) (by simp)
      have l0 := K.out.c (b := L) (o := 0) (v := .int .i64 route) (by simp)
      have l1 := K.out.c (b := L) (o := 1) (v := .slice (some ⟨bl, ol, none⟩) ws.length cl) (by simp)
      have r0 := K.out.c (b := Y) (o := 0) (v := .int .i64 ra) (by simp)
      have r1 := K.out.c (b := Y) (o := 1) (v := .int .i64 rb) (by simp)
      have r2 := K.out.c (b := Y) (o := 2) (v := .int .i64 rc) (by simp)
      go_wp2_with fail
      refine (pLasts_any ws st route ra rb rc _ _ _ (K.out.g (by simp)).any (K.out.i (by simp)).any (by omega) (made_size hm h8) hns).mono ?_
      rintro e w15 ⟨rfl, hb⟩
      rw [B0.out, V0.out]
      dsimp only
      have K := hid (K.out.later hb)
      clear hb b0 b1 l0 l1 r0 r1 r2
      have K := hid (K.out.box2 (.int .i64 d0) (.int .i64 d1) 27)
      have b0 := K.out.c (b := B) (o := 0) (v := .int .i64 route) (by simp)
      have b1 := K.out.c (b := B) (o := 1) (v := .slice (some ⟨bw, ow, none⟩) ws.length cap) (by simp)
      have l0 := K.out.c (b := L) (o := 0) (v := .int .i64 route) (by simp)
      have l1 := K.out.c (b := L) (o := 1) (v := .slice (some ⟨bl, ol, none⟩) ws.length cl) (by simp)
      have r0 := K.out.c (b := Y) (o := 0) (v := .int .i64 ra) (by simp)
      have r1 := K.out.c (b := Y) (o := 1) (v := .int .i64 rb) (by simp)
      have r2 := K.out.c (b := Y) (o := 2) (v := .int .i64 rc) (by simp)
      go_wp2_with fail
      refine (pLasts_any wl st route ra rb rc _ _ _ (K.out.g (by simp)).any (K.out.i (by simp)).any (by omega) Hnm'.out hns).mono ?_
      rintro e w16 ⟨rfl, hb⟩
      rw [B1.out, V1.out]
      dsimp only
      have K := hid (K.out.later hb)
      clear hb b0 b1 l0 l1 r0 r1 r2
      have K := hid (K.out.box2 (.int .i64 d2) (.int .i64 d3) 27)
      have b0 := K.out.c (b := B) (o := 0) (v := .int .i64 route) (by simp)
      have b1 := K.out.c (b := B) (o := 1) (v := .slice (some ⟨bw, ow, none⟩) ws.length cap) (by simp)
      have l0 := K.out.c (b := L) (o := 0) (v := .int .i64 route) (by simp)
      have l1 := K.out.c (b := L) (o := 1) (v := .slice (some ⟨bl, ol, none⟩) ws.length cl) (by simp)
      have r0 := K.out.c (b := Y) (o := 0) (v := .int .i64 ra) (by simp)
      have r1 := K.out.c (b := Y) (o := 1) (v := .int .i64 rb) (by simp)
      have r2 := K.out.c (b := Y) (o := 2) (v := .int .i64 rc) (by simp)
      go_wp2_with fail
      refine (Gap_any ws st route _ _ _ _ _ (K.out.g (by simp)).any (K.out.i (by simp)).any (by omega) (made_size hm h8) hns).mono ?_
      rintro e w17 ⟨rfl, hb⟩
      rw [G0.out, G3.out]
      dsimp only
      have K := hid (K.out.later hb)
      clear hb b0 b1 l0 l1 r0 r1 r2
      have K := hid (K.out.box2 (.int .i64 ga) (.int .i64 gb) 27)
      have b0 := K.out.c (b := B) (o := 0) (v := .int .i64 route) (by simp)
      have b1 := K.out.c (b := B) (o := 1) (v := .slice (some ⟨bw, ow, none⟩) ws.length cap) (by simp)
      have l0 := K.out.c (b := L) (o := 0) (v := .int .i64 route) (by simp)
      have l1 := K.out.c (b := L) (o := 1) (v := .slice (some ⟨bl, ol, none⟩) ws.length cl) (by simp)
      have r0 := K.out.c (b := Y) (o := 0) (v := .int .i64 ra) (by simp)
      have r1 := K.out.c (b := Y) (o := 1) (v := .int .i64 rb) (by simp)
      have r2 := K.out.c (b := Y) (o := 2) (v := .int .i64 rc) (by simp)
      go_wp2_with fail
      refine (Gap_any wl st route _ _ _ _ _ (K.out.g (by simp)).any (K.out.i (by simp)).any (by omega) Hnm'.out hns).mono ?_
      rintro e w18 ⟨rfl, hb⟩
      rw [G1.out, G4.out]
      dsimp only
      have K := hid (K.out.later hb)
      clear hb b0 b1 l0 l1 r0 r1 r2
      have K := hid (K.out.box2 (.int .i64 ga') (.int .i64 gb') 27)
      have k110 := K.out.c (b := w11.heap.size) (o := 0) (v := .int .i64 a0) (by simp)
      have k111 := K.out.c (b := w11.heap.size) (o := 1) (v := .int .i64 a1) (by simp)
      have k120 := K.out.c (b := w12.heap.size) (o := 0) (v := .int .i64 a2) (by simp)
      have k121 := K.out.c (b := w12.heap.size) (o := 1) (v := .int .i64 a3) (by simp)
      have k130 := K.out.c (b := w13.heap.size) (o := 0) (v := .int .i64 c0) (by simp)
      have k131 := K.out.c (b := w13.heap.size) (o := 1) (v := .int .i64 c1) (by simp)
      have k140 := K.out.c (b := w14.heap.size) (o := 0) (v := .int .i64 c2) (by simp)
      have k141 := K.out.c (b := w14.heap.size) (o := 1) (v := .int .i64 c3) (by simp)
      have k150 := K.out.c (b := w15.heap.size) (o := 0) (v := .int .i64 d0) (by simp)
      have k151 := K.out.c (b := w15.heap.size) (o := 1) (v := .int .i64 d1) (by simp)
      have k160 := K.out.c (b := w16.heap.size) (o := 0) (v := .int .i64 d2) (by simp)
      have k161 := K.out.c (b := w16.heap.size) (o := 1) (v := .int .i64 d3) (by simp)
      have k170 := K.out.c (b := w17.heap.size) (o := 0) (v := .int .i64 ga) (by simp)
      have k171 := K.out.c (b := w17.heap.size) (o := 1) (v := .int .i64 gb) (by simp)
      have k180 := K.out.c (b := w18.heap.size) (o := 0) (v := .int .i64 ga') (by simp)
      have k181 := K.out.c (b := w18.heap.size) (o := 1) (v := .int .i64 gb') (by simp)
      have hmi : (m = 0 ∧ ge = 7) ∨ (0 < (m : Int) ∧ ge = 0) := by omega
      clear g2
      have hbb : ∀ (b : Bool), (b == b) = true := by decide
      rcases hmi with ⟨hmz, rfl⟩ | ⟨hmz, rfl⟩
      · have hmz : ¬ 0 < (m : Int) := by omega
        by_cases h3 : v0 = 3
        · obtain ⟨l1, l2⟩ := eq_bool h3
          clear h3
          go_wp2_with (first | (go_at_call 54; refine (inside_any _ _ _ _ _ (by omega) (by omega)).mono ?_; rintro e wq ⟨rfl, hb⟩; have K := hid (K.out.later hb); clear hb; have k110 := K.out.c (b := w11.heap.size) (o := 0) (v := .int .i64 a0) (by simp); have k111 := K.out.c (b := w11.heap.size) (o := 1) (v := .int .i64 a1) (by simp); have k120 := K.out.c (b := w12.heap.size) (o := 0) (v := .int .i64 a2) (by simp); have k121 := K.out.c (b := w12.heap.size) (o := 1) (v := .int .i64 a3) (by simp); have k130 := K.out.c (b := w13.heap.size) (o := 0) (v := .int .i64 c0) (by simp); have k131 := K.out.c (b := w13.heap.size) (o := 1) (v := .int .i64 c1) (by simp); have k140 := K.out.c (b := w14.heap.size) (o := 0) (v := .int .i64 c2) (by simp); have k141 := K.out.c (b := w14.heap.size) (o := 1) (v := .int .i64 c3) (by simp); have k150 := K.out.c (b := w15.heap.size) (o := 0) (v := .int .i64 d0) (by simp); have k151 := K.out.c (b := w15.heap.size) (o := 1) (v := .int .i64 d1) (by simp); have k160 := K.out.c (b := w16.heap.size) (o := 0) (v := .int .i64 d2) (by simp); have k161 := K.out.c (b := w16.heap.size) (o := 1) (v := .int .i64 d3) (by simp); have k170 := K.out.c (b := w17.heap.size) (o := 0) (v := .int .i64 ga) (by simp); have k171 := K.out.c (b := w17.heap.size) (o := 1) (v := .int .i64 gb) (by simp); have k180 := K.out.c (b := w18.heap.size) (o := 0) (v := .int .i64 ga') (by simp); have k181 := K.out.c (b := w18.heap.size) (o := 1) (v := .int .i64 gb') (by simp)) | (go_at_call 18; refine (awake_any _).mono ?_; rintro e wz ⟨rfl, hbz⟩))
          go_ret
          exact ⟨rfl, (K.out.later hbz).below⟩
        · obtain ⟨l1, l2⟩ := ne_bool h3
          have hv := F7.out.resolve_left h3
          obtain ⟨l3, l4⟩ := eq_bool hv
          clear h3 hv
          go_wp2_with (first | (go_at_call 54; refine (inside_any _ _ _ _ _ (by omega) (by omega)).mono ?_; rintro e wq ⟨rfl, hb⟩; have K := hid (K.out.later hb); clear hb; have k110 := K.out.c (b := w11.heap.size) (o := 0) (v := .int .i64 a0) (by simp); have k111 := K.out.c (b := w11.heap.size) (o := 1) (v := .int .i64 a1) (by simp); have k120 := K.out.c (b := w12.heap.size) (o := 0) (v := .int .i64 a2) (by simp); have k121 := K.out.c (b := w12.heap.size) (o := 1) (v := .int .i64 a3) (by simp); have k130 := K.out.c (b := w13.heap.size) (o := 0) (v := .int .i64 c0) (by simp); have k131 := K.out.c (b := w13.heap.size) (o := 1) (v := .int .i64 c1) (by simp); have k140 := K.out.c (b := w14.heap.size) (o := 0) (v := .int .i64 c2) (by simp); have k141 := K.out.c (b := w14.heap.size) (o := 1) (v := .int .i64 c3) (by simp); have k150 := K.out.c (b := w15.heap.size) (o := 0) (v := .int .i64 d0) (by simp); have k151 := K.out.c (b := w15.heap.size) (o := 1) (v := .int .i64 d1) (by simp); have k160 := K.out.c (b := w16.heap.size) (o := 0) (v := .int .i64 d2) (by simp); have k161 := K.out.c (b := w16.heap.size) (o := 1) (v := .int .i64 d3) (by simp); have k170 := K.out.c (b := w17.heap.size) (o := 0) (v := .int .i64 ga) (by simp); have k171 := K.out.c (b := w17.heap.size) (o := 1) (v := .int .i64 gb) (by simp); have k180 := K.out.c (b := w18.heap.size) (o := 0) (v := .int .i64 ga') (by simp); have k181 := K.out.c (b := w18.heap.size) (o := 1) (v := .int .i64 gb') (by simp)) | (go_at_call 18; refine (awake_any _).mono ?_; rintro e wz ⟨rfl, hbz⟩))
          go_ret
          exact ⟨rfl, (K.out.later hbz).below⟩
      · by_cases h3 : v0 = 3
        · obtain ⟨l1, l2⟩ := eq_bool h3
          clear h3
          go_wp2_with (first | (go_at_call 54; refine (inside_any _ _ _ _ _ (by omega) (by omega)).mono ?_; rintro e wq ⟨rfl, hb⟩; have K := hid (K.out.later hb); clear hb; have k110 := K.out.c (b := w11.heap.size) (o := 0) (v := .int .i64 a0) (by simp); have k111 := K.out.c (b := w11.heap.size) (o := 1) (v := .int .i64 a1) (by simp); have k120 := K.out.c (b := w12.heap.size) (o := 0) (v := .int .i64 a2) (by simp); have k121 := K.out.c (b := w12.heap.size) (o := 1) (v := .int .i64 a3) (by simp); have k130 := K.out.c (b := w13.heap.size) (o := 0) (v := .int .i64 c0) (by simp); have k131 := K.out.c (b := w13.heap.size) (o := 1) (v := .int .i64 c1) (by simp); have k140 := K.out.c (b := w14.heap.size) (o := 0) (v := .int .i64 c2) (by simp); have k141 := K.out.c (b := w14.heap.size) (o := 1) (v := .int .i64 c3) (by simp); have k150 := K.out.c (b := w15.heap.size) (o := 0) (v := .int .i64 d0) (by simp); have k151 := K.out.c (b := w15.heap.size) (o := 1) (v := .int .i64 d1) (by simp); have k160 := K.out.c (b := w16.heap.size) (o := 0) (v := .int .i64 d2) (by simp); have k161 := K.out.c (b := w16.heap.size) (o := 1) (v := .int .i64 d3) (by simp); have k170 := K.out.c (b := w17.heap.size) (o := 0) (v := .int .i64 ga) (by simp); have k171 := K.out.c (b := w17.heap.size) (o := 1) (v := .int .i64 gb) (by simp); have k180 := K.out.c (b := w18.heap.size) (o := 0) (v := .int .i64 ga') (by simp); have k181 := K.out.c (b := w18.heap.size) (o := 1) (v := .int .i64 gb') (by simp)) | (go_at_call 18; refine (awake_any _).mono ?_; rintro e wz ⟨rfl, hbz⟩))
          go_ret
          exact ⟨rfl, (K.out.later hbz).below⟩
        · obtain ⟨l1, l2⟩ := ne_bool h3
          have hv := F7.out.resolve_left h3
          obtain ⟨l3, l4⟩ := eq_bool hv
          clear h3 hv
          go_wp2_with (first | (go_at_call 54; refine (inside_any _ _ _ _ _ (by omega) (by omega)).mono ?_; rintro e wq ⟨rfl, hb⟩; have K := hid (K.out.later hb); clear hb; have k110 := K.out.c (b := w11.heap.size) (o := 0) (v := .int .i64 a0) (by simp); have k111 := K.out.c (b := w11.heap.size) (o := 1) (v := .int .i64 a1) (by simp); have k120 := K.out.c (b := w12.heap.size) (o := 0) (v := .int .i64 a2) (by simp); have k121 := K.out.c (b := w12.heap.size) (o := 1) (v := .int .i64 a3) (by simp); have k130 := K.out.c (b := w13.heap.size) (o := 0) (v := .int .i64 c0) (by simp); have k131 := K.out.c (b := w13.heap.size) (o := 1) (v := .int .i64 c1) (by simp); have k140 := K.out.c (b := w14.heap.size) (o := 0) (v := .int .i64 c2) (by simp); have k141 := K.out.c (b := w14.heap.size) (o := 1) (v := .int .i64 c3) (by simp); have k150 := K.out.c (b := w15.heap.size) (o := 0) (v := .int .i64 d0) (by simp); have k151 := K.out.c (b := w15.heap.size) (o := 1) (v := .int .i64 d1) (by simp); have k160 := K.out.c (b := w16.heap.size) (o := 0) (v := .int .i64 d2) (by simp); have k161 := K.out.c (b := w16.heap.size) (o := 1) (v := .int .i64 d3) (by simp); have k170 := K.out.c (b := w17.heap.size) (o := 0) (v := .int .i64 ga) (by simp); have k171 := K.out.c (b := w17.heap.size) (o := 1) (v := .int .i64 gb) (by simp); have k180 := K.out.c (b := w18.heap.size) (o := 0) (v := .int .i64 ga') (by simp); have k181 := K.out.c (b := w18.heap.size) (o := 1) (v := .int .i64 gb') (by simp)) | (go_at_call 18; refine (awake_any _).mono ?_; rintro e wz ⟨rfl, hbz⟩))
          go_ret
          exact ⟨rfl, (K.out.later hbz).below⟩
end Go.Proofs.YtgfipifgijohhaaDoor
