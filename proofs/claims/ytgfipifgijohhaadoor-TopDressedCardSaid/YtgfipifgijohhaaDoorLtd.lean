/-
  WALKS: TopDressed.
-/
import Derived.Test.YtgfipifgijohhaaDoorLca
import Derived.Test.YtgfipifgijohhaaDoorTdk
import Derived.Test.YtgfipifgijohhaaDoorOrdG
namespace Go.Proofs.YtgfipifgijohhaaDoor
open Go.RowKit

theorem dress2 {r0 r1 : Int} {kn : Nat} (h : kn < 2) (a0 : 0 ≤ r0) (a1 : r0 < max 3 1) (b0 : 0 ≤ r1) (b1 : r1 < max 3 1) : 0 ≤ nm [r0, r1] kn ∧ nm [r0, r1] kn ≤ 2 := by
  rcases (by omega : kn = 0 ∨ kn = 1) with rfl | rfl
  · show 0 ≤ r0 ∧ r0 ≤ 2; omega
  · show 0 ≤ r1 ∧ r1 ≤ 2; omega
theorem two_boxes (w : World) (a0 a1 a2 a3 a4 b0 b1 b2 b3 b4 : Value) (t : TypeId) :
    Below w.heap.size w ((w.alloc (.cells #[a0, a1, a2, a3, a4] t)).alloc (.cells #[b0, b1, b2, b3, b4] t)).drew ∧
      (((w.alloc (.cells #[a0, a1, a2, a3, a4] t)).alloc (.cells #[b0, b1, b2, b3, b4] t)).drew.cell? ⟨w.heap.size, 0, none⟩ = some a0 ∧ ((w.alloc (.cells #[a0, a1, a2, a3, a4] t)).alloc (.cells #[b0, b1, b2, b3, b4] t)).drew.cell? ⟨w.heap.size, 2, none⟩ = some a2 ∧
       ((w.alloc (.cells #[a0, a1, a2, a3, a4] t)).alloc (.cells #[b0, b1, b2, b3, b4] t)).drew.cell? ⟨w.heap.size + 1, 0, none⟩ = some b0 ∧ ((w.alloc (.cells #[a0, a1, a2, a3, a4] t)).alloc (.cells #[b0, b1, b2, b3, b4] t)).drew.cell? ⟨w.heap.size + 1, 2, none⟩ = some b2) := by
  have hb := below_alloc (w.alloc (.cells #[a0, a1, a2, a3, a4] t)) (.cells #[b0, b1, b2, b3, b4] t)
  have h1 : w.heap.size < (w.alloc (.cells #[a0, a1, a2, a3, a4] t)).heap.size := by simp
  have h2 : w.heap.size + 1 = (w.alloc (.cells #[a0, a1, a2, a3, a4] t)).heap.size := by simp
  exact ⟨(below_trans (below_alloc w _) hb).drew, cell_back hb h1 (cell_at rfl rfl), cell_back hb h1 (cell_at rfl rfl), cell_at h2 rfl, cell_at h2 rfl⟩
theorem halt {p : Prop} (h : ∀ G : Prop, Hid (p → G) → G) : p := h p (hid id)
theorem LK.subI' {d : Nat} {cs : Cells} {li li2 : List (Value × List Int)} {lw : List (Value × List Wing)} {w0 w : World} (k : LK d cs li lw w0 w) (h : ∀ x, x ∈ li2 → x ∈ li) : LK d cs li2 lw w0 w :=
  ⟨k.below, k.d0, k.beat, k.cell, fun v xs hm => k.ints v xs (h _ hm), k.wgs⟩

set_option linter.unusedSimpArgs false in
set_option maxHeartbeats 16000000 in
set_option maxRecDepth 100000 in
theorem dressed_any (xs : List Int) (v : Value) (w : World) (hX : IntsAt none w v xs) (hn : xs.length ≤ 9223372036854775807) :
    Calls Tryd.prog 6 #[v] w fun e w' => e = .returned (.bool true) ∧ Below w.heap.size w w' := by
  have HX := hid hX
  obtain ⟨ax, cx, rfl, _⟩ := hX
  go_enter Tryd.func6, Tryd.ntmps6
  go_wp2_with fail
  refine (drumOf_any xs _ w HX.out hn).mono ?_
  rintro e w1 ⟨rfl, hb1, hl1⟩
  have K := hid (LK.start hb1 hl1 (Nat.le_refl _))
  obtain ⟨D, hD⟩ : ∃ D, w.heap.size = D := ⟨_, rfl⟩
  rw [hD] at K ⊢
  have HD := hid hD
  clear hb1 hl1 HX hD
  go_wp2_with fail
  refine (schoolOf_any _ 4 _ K.out.beat (by decide) (by decide)).mono ?_
  rintro e w3 ⟨route, vw, ws, rfl, hr1, hr2, h0, h6, hm, hown, hbt, hgb⟩
  obtain ⟨bw, ow, cap, rfl, _, _⟩ := (hown.at (d := none) (by simp)).slice h0
  have hbw := (World.ownsRow.lt hown bw rfl).2
  have K := hid (K.out.addWgs (K.out.go hgb hbt) hown)
  clear hgb hbt hown
  have h4 : ws.length ≤ 4 := by omega
  have h8 : ws.length ≤ 8 := by omega
  obtain ⟨RT, hRT⟩ : ∃ RT, min route 400 = RT := ⟨_, rfl⟩
  have hR1 : 1 ≤ RT := by omega
  have hR2 : RT ≤ 400 := by omega
  have HRT := hid hRT
  have hc := hid (made_check (route := RT) hm hR1 (by omega) h0 h8)
  clear hRT
  have K := hid (K.out.box2 (.int .i64 RT) (.slice (some ⟨bw, ow, none⟩) ws.length cap) 24)
  go_upto_region 4 with fail
  rw [HRT.out]
  obtain ⟨B, hB⟩ : ∃ B, w3.heap.size = B := ⟨_, rfl⟩
  rw [hB] at K hbw ⊢
  obtain ⟨wA, hwA, KA⟩ := K.out.name
  rw [hwA]
  have K := hid KA
  clear hwA KA hB
  have hBA := K.out.clt (b := B) (o := 0) (v := .int .i64 RT) (by simp)
  have hDA := K.out.lt
  have hpp : ∀ i, i < ws.length → 0 ≤ Lo ws i ∧ Lo ws i ≤ Hi ws i ∧ Hi ws i ≤ 1000 := fun i hi => by have := hm i hi; unfold Lo Hi; omega
  have Hpp := hid hpp
  have Hm := hid hm
  clear hpp hm
  have K := hid K.out.drew
  go_region_held3 (fun w' => w'.cell? ⟨B, 0, none⟩ = some (.int .i64 RT) ∧ w'.cell? ⟨B, 1, none⟩ = some (.slice (some ⟨bw, ow, none⟩) ws.length cap))
    (first | with_reducible exact ⟨K.out.c (by simp), K.out.c (by simp)⟩) (first
    | (go_at_call 21; refine (startsOf_any _ ws RT _ _ K.out.beat (K.out.g (by simp)) hc.out Hm.out).mono ?_; rintro e w4 ⟨vs, st, rfl, hls, hms, hso, hbt, hgb⟩; obtain ⟨bs, os, cv, rfl, _, _⟩ := (hso.at (d := none) (by simp)).slice (by omega); have HO := hid (OwnInts.base' (b' := wA.heap.size) hso (Nat.le_refl _)); have hbs := World.ownsRow.lt HO.out bs rfl; have Hls := hid hls; have Hms := hid hms; have K := hid (K.out.addInts (K.out.go hgb hbt) hso); clear hso hbt hgb hls hms)
    | (go_at_call 38; refine (pacesOf_any _ ws RT _ _ K.out.beat (K.out.g (by simp)) (by omega) Hpp.out).mono ?_; rintro e w5 ⟨vp, ps, rfl, hlp, hmp, hso, hbt, hgb⟩; obtain ⟨bp, op, cp, rfl, _, _⟩ := (hso.at (d := none) (by simp)).slice (by omega); have hbp := World.ownsRow.lt hso bp rfl; have HO := hid (own_gb HO.out hDA hgb); have Hlp := hid hlp; have Hmp := hid hmp; have K := hid (K.out.addInts (K.out.go hgb hbt) hso); clear hso hbt hgb hlp hmp))
  rw [Hlp.out, Hls.out] at K
  rw [Hls.out] at HO
  simp only [Hlp.out, Hls.out]
  go_wp2_with fail
  refine (any_any D [0, 300, 900] _ _ (K.out.alloc _).beat (ints_three D w5 0 300 900 K.out.beat.lt) (by simp) (by simp)).mono ?_
  rintro e w6 ⟨j, hj, rfl, hbt, hgb⟩
  have K := hid ((K.out.alloc _).go hgb hbt)
  have HO := hid (own_gb (OwnInts.later HO.out (below_alloc w5 _)) hDA hgb)
  obtain ⟨A, hzq, hA1, hA2⟩ := any_three_ex (lo := 0) (hi := 900) (by omega) (by omega) (by omega) hj
  rw [hzq]
  clear hzq hj hbt hgb
  have hfr := ints_thawed' HO.out
  have Hfr := hid hfr
  clear hfr HO
  have nD : bs ≠ D := by omega
  have nBP : bp ≠ bs := by omega
  have nBW : bw ≠ bs := by omega
  have n0 : w.heap.size ≤ bs := by have := HD.out; omega
  have Ncs : Hid (∀ b o v, (b, o, v) ∈ ([(B, 0, .int .i64 RT), (B, 1, .slice (some ⟨bw, ow, none⟩) ws.length cap)] : Cells) → b ≠ bs) := hid (fun b o v h => by
    simp only [List.mem_cons, Prod.mk.injEq, List.not_mem_nil, or_false] at h
    omega)
  have Nli : Hid (∀ (v : Value) (xs : List Int), (v, xs) ∈ ([(.slice (some ⟨bp, op, none⟩) ws.length cp, ps)] : List (Value × List Int)) → 0 < xs.length → v.ownBlock ≠ some bs) := hid (fun v xs h _ e => by
    have h := List.mem_singleton.1 h
    cases h; exact nBP (Option.some.inj (show some bp = some bs from e)))
  have Nlw : Hid (∀ (v : Value) (xs : List Wing), (v, xs) ∈ ([(.slice (some ⟨bw, ow, none⟩) ws.length cap, ws)] : List (Value × List Wing)) → 0 < xs.length → v.ownBlock ≠ some bs) := hid (fun v xs h _ e => by
    have h := List.mem_singleton.1 h
    cases h; exact nBW (Option.some.inj (show some bw = some bs from e)))
  have K : Hid (LK D [(B, 0, .int .i64 RT), (B, 1, .slice (some ⟨bw, ow, none⟩) ws.length cap)] [(.slice (some ⟨bs, os, none⟩) ws.length cv, st), (.slice (some ⟨bp, op, none⟩) ws.length cp, ps)] [(.slice (some ⟨bw, ow, none⟩) ws.length cap, ws)] w w6) := hid (K.out.subI' (fun x h => by simp only [List.mem_cons, List.not_mem_nil, or_false] at h ⊢; rcases h with h | h <;> simp [h]))
  go_wp2_with fail
  go_loopw [8] (fun i wr => ∃ (k : Nat) (sk : List Int), k ≤ ws.length ∧ i = .int .i64 k ∧ (sk.length = ws.length ∧ ∀ i, i < ws.length → nm sk i = nm st i + (if i < k then (i : Int) * A else 0)) ∧ (∀ o, wr.frozen? ⟨bs, o, none⟩ = false) ∧
      LK D [(B, 0, .int .i64 RT), (B, 1, .slice (some ⟨bw, ow, none⟩) ws.length cap)] [(.slice (some ⟨bs, os, none⟩) ws.length cv, sk), (.slice (some ⟨bp, op, none⟩) ws.length cp, ps)] [(.slice (some ⟨bw, ow, none⟩) ws.length cap, ws)] w wr)
    (fun i _ => ws.length - (intOf i).toNat)
  case atStart => exact ⟨0, st, by omega, rfl, ⟨Hls.out, fun i hi => by rw [if_neg (by omega)]; simp⟩, Hfr.out, K.out⟩
  case round =>
    obtain ⟨k, sk, hk, rfl, hsk, hfk, KK⟩ := hrel
    have K := hid KK
    have Hsk := hid hsk
    clear KK hsk
    by_cases hlt : k < ws.length
    · have hlk : k < sk.length := by rw [Hsk.out.1]; exact hlt
      have hcell := (K.out.i (v := .slice (some ⟨bs, os, none⟩) ws.length cv) (xs := sk) (by simp)).cell hlk
      have hnk : nm sk k = nm st k := by rw [Hsk.out.2 k hlt, if_neg (by omega)]; simp
      rw [hnk] at hcell
      have hsb := Hms.out.bound k (by rw [Hls.out]; exact hlt)
      rw [Hls.out] at hsb
      have hp : (k : Int) * A ≤ 4 * 900 := Int.mul_le_mul (by omega) hA2 hA1 (by omega)
      have hp0 : 0 ≤ (k : Int) * A := Int.mul_nonneg (by omega) hA1
      obtain ⟨q, hq⟩ : ∃ q, (k : Int) * A = q := ⟨_, rfl⟩
      have Hq := hid hq
      rw [hq] at hp hp0
      have z0 : IntKind.i64.wrap ((k : Int) * A) = q := by rw [hq]; exact IntWalk.i64_in _ (by omega)
      obtain ⟨s, hs⟩ : ∃ s, nm st k = s := ⟨_, rfl⟩
      rw [hs] at hcell hsb
      have Hs := hid hs
      have z1 : IntKind.i64.wrap (s + q) = s + q := IntWalk.i64_in _ (by omega)
      have z2 : IntKind.i64.wrap ((k : Int) + 1) = (k : Int) + 1 := IntWalk.i64_in _ (by omega)
      have i1 : (k : Int) < (ws.length : Int) := by omega
      have hX := (K.out.i (v := .slice (some ⟨bs, os, none⟩) ws.length cv) (xs := sk) (by simp)).set hlk (s + q)
      have hfk0 := hfk (os + k)
      have HK2 := hid ((K.out.dropI.store1 (b := bs) (o := os + k) (.int .i64 (s + q)) nD n0 Ncs.out Nli.out Nlw.out).addI hX (fun _ b o u hb e => by cases e; exact Ncs.out _ _ _ hb rfl))
      have Hfk := hid hfk
      clear hX hq hs hnk hfk
      go_wp2
      go_roundw
      case rel =>
        refine ⟨k + 1, _, by omega, by go_num, ⟨by rw [List.length_set]; exact Hsk.out.1, fun i hi => ?_⟩, fun o => (World.frozen?_setCell _ _ _ _).trans (Hfk.out o), HK2.out⟩
        rw [nm_set _ _ _ _ hlk]
        by_cases e : i = k
        · subst e
          rw [if_pos rfl, if_pos (by omega), Hs.out, Hq.out]
        · rw [if_neg e, Hsk.out.2 i hi]
          by_cases e2 : i < k
          · rw [if_pos e2, if_pos (by omega)]
          · rw [if_neg e2, if_neg (by omega)]
      case measure => simp [intOf] <;> omega
    · obtain rfl : k = ws.length := by omega
      have Hsh := hid (show Shifted A st sk from ⟨by rw [Hsk.out.1, Hls.out], fun i hi => by rw [Hls.out] at hi; rw [Hsk.out.2 i hi, if_pos hi]⟩)
      have Hlk := hid Hsk.out.1
      have hcs := hid (shifted_starts hc.out Hls.out h4 Hms.out hA1 hA2 Hsh.out)
      clear Hsk hfk
      have K := hid (K.out.subI' (li2 := [(.slice (some ⟨bs, os, none⟩) ws.length cv, sk), (.slice (some ⟨bp, op, none⟩) ws.length cp, ps)]) (fun x h => h))
      obtain ⟨wo, rfl⟩ : ∃ wo : World, wo = wr := ⟨_, rfl⟩
      have hDo := K.out.lt
      go_wp2_with fail
      have KZ := hid (((K.out.alloc (.cells (List.toArray [.int .i64 40, .int .i64 40, .int .i64 41, .int .i64 42]) 27)).alloc (.cells #[.int .i64 0] 3)).alloc (.cells #[.slice (some ⟨wo.heap.size + 1, 0, none⟩) 1 1] 25))
      have hp1 : SpansAt (some D) (((wo.alloc (.cells (List.toArray [.int .i64 40, .int .i64 40, .int .i64 41, .int .i64 42]) 27)).alloc (.cells #[.int .i64 0] 3)).alloc (.cells #[.slice (some ⟨wo.heap.size + 1, 0, none⟩) 1 1] 25)) (.slice (some ⟨wo.heap.size, 0, none⟩) 2 2) [(40, 40), (41, 42)] := by
        refine RecAt.below (RecAt.below (recD_lit D wo [.int .i64 40, .int .i64 40, .int .i64 41, .int .i64 42] _ 2 2 2 _ _ rfl hDo (Nat.le_refl _) (by decide) ?_) (below_alloc _ _)) (below_alloc _ _)
        intro i hi j hj
        rcases (by omega : i = 0 ∨ i = 1) with rfl | rfl <;> rcases (by omega : j = 0 ∨ j = 1) with rfl | rfl <;> rfl
      have hp2 : ListsAt (some D) (((wo.alloc (.cells (List.toArray [.int .i64 40, .int .i64 40, .int .i64 41, .int .i64 42]) 27)).alloc (.cells #[.int .i64 0] 3)).alloc (.cells #[.slice (some ⟨wo.heap.size + 1, 0, none⟩) 1 1] 25)) (.slice (some ⟨wo.heap.size + 1 + 1, 0, none⟩) 1 1) [[0]] := by
        refine ⟨fun _ => .slice (some ⟨wo.heap.size + 1, 0, none⟩) 1 1, ?_, ?_⟩
        · refine recD_lit D _ [.slice (some ⟨wo.heap.size + 1, 0, none⟩) 1 1] _ 1 1 1 _ _ (by simp) (by simp; omega) (Nat.le_refl _) (by decide) ?_
          intro i hi j hj
          obtain rfl : i = 0 := by omega
          obtain rfl : j = 0 := by omega
          rfl
        · intro i hi
          obtain rfl : i = 0 := by simp at hi; omega
          exact IntsAt.below (intsD_lit D _ [0] _ (by simp) (by simp; omega) (by decide)) (below_alloc _ _)
      have HP1 := hid hp1
      have HP2 := hid hp2
      have K := KZ
      clear KZ hp1 hp2
      refine (roll_any _ 3 _ K.out.beat (by decide)).mono ?_
      rintro e w7 ⟨r0, rfl, hr01, hr02, hbt, hgb⟩
      have K := hid (K.out.go hgb hbt)
      have HP1 := hid (RecAt.kept HP1.out hgb)
      have HP2 := hid (HP2.out.kept hgb)
      clear hbt hgb
      go_wp2_with fail
      refine (roll_any _ 3 _ K.out.beat (by decide)).mono ?_
      rintro e w8 ⟨r1, rfl, hr11, hr12, hbt, hgb⟩
      have K := hid (K.out.go hgb hbt)
      have HP1 := hid (RecAt.kept HP1.out hgb)
      have HP2 := hid (HP2.out.kept hgb)
      clear hbt hgb
      go_wp2_with fail
      have hD8 := K.out.lt
      obtain ⟨v0, hv0⟩ : ∃ v0, Value.slice (some ⟨wo.heap.size, 0, none⟩) 2 2 = v0 := ⟨_, rfl⟩
      obtain ⟨v1, hv1⟩ : ∃ v1, Value.slice (some ⟨wo.heap.size + 1 + 1, 0, none⟩) 1 1 = v1 := ⟨_, rfl⟩
      have hp3 := intsD_lit D w8 [r0, r1] w8.heap.size rfl hD8 (by simp)
      obtain ⟨wP, hwP⟩ : ∃ wP, w8.alloc (.cells #[.int .i64 r0, .int .i64 r1] 3) = wP := ⟨_, rfl⟩
      have hsP : wP.heap.size = w8.heap.size + 1 := by rw [← hwP]; simp
      have HP3 : Hid (IntsAt (some D) wP (.slice (some ⟨w8.heap.size, 0, none⟩) 2 2) [r0, r1]) := hid (by rw [← hwP]; exact hp3)
      have HP1 : Hid (SpansAt (some D) wP v0 [(40, 40), (41, 42)]) := hid (by rw [← hwP, ← hv0]; exact RecAt.below HP1.out (below_alloc _ _))
      have HP2 : Hid (ListsAt (some D) wP v1 [[0]]) := hid (by rw [← hwP, ← hv1]; exact HP2.out.below (below_alloc _ _))
      have K : Hid (LK D [(B, 0, .int .i64 RT), (B, 1, .slice (some ⟨bw, ow, none⟩) ws.length cap)] [(.slice (some ⟨bs, os, none⟩) ws.length cv, sk), (.slice (some ⟨bp, op, none⟩) ws.length cp, ps)] [(.slice (some ⟨bw, ow, none⟩) ws.length cap, ws)] w wP) := hid (by rw [← hwP]; exact K.out.alloc _)
      rw [hwP, hv0, hv1]
      obtain ⟨v2, hv2⟩ : ∃ v2, Value.slice (some ⟨w8.heap.size, 0, none⟩) 2 2 = v2 := ⟨_, rfl⟩
      rw [hv2] at HP3 ⊢
      obtain ⟨P, hP⟩ : ∃ P, w8.heap.size + 1 = P := ⟨_, rfl⟩
      rw [hP] at hsP ⊢
      clear hp3 hwP hv0 hv1 hv2 hP
      have HsP := hid hsP
      have hDP : D < P := by have := K.out.lt; omega
      have hBP : B < P := by have := K.out.clt (b := B) (o := 0) (v := .int .i64 RT) (by simp); omega
      have hwP0 : w.heap.size ≤ P := by have := K.out.below.size; omega
      have hbk1 : bs < P := by
        obtain ⟨b', e', h', _⟩ := (K.out.i (v := .slice (some ⟨bs, os, none⟩) ws.length cv) (xs := sk) (by simp)).block (by rw [Hlk.out]; exact h0)
        have := Option.some.inj (show some bs = some b' from e')
        omega
      have hbk2 : bp < P := by
        obtain ⟨b', e', h', _⟩ := (K.out.i (v := .slice (some ⟨bp, op, none⟩) ws.length cp) (xs := ps) (by simp)).block (by rw [Hlp.out]; exact h0)
        have := Option.some.inj (show some bp = some b' from e')
        omega
      have hbk3 : bw < P := by
        obtain ⟨b', e', h', _⟩ := (K.out.g (v := .slice (some ⟨bw, ow, none⟩) ws.length cap) (ws := ws) (by simp)).block h0
        have := Option.some.inj (show some bw = some b' from e')
        omega
      have HNc : Hid (∀ b o v, (b, o, v) ∈ ([(B, 0, .int .i64 RT), (B, 1, .slice (some ⟨bw, ow, none⟩) ws.length cap)] : Cells) → b < P + 1) := hid (fun b o v h => by
        simp only [List.mem_cons, Prod.mk.injEq, List.not_mem_nil, or_false] at h
        omega)
      have HNi : Hid (∀ (v : Value) (xs : List Int), (v, xs) ∈ ([(.slice (some ⟨bs, os, none⟩) ws.length cv, sk), (.slice (some ⟨bp, op, none⟩) ws.length cp, ps)] : List (Value × List Int)) → ∀ b, v.ownBlock = some b → b < P + 1) := hid (fun v xs h b e => by
        simp only [List.mem_cons, List.not_mem_nil, or_false] at h
        rcases h with h | h
        · cases h; have := Option.some.inj (show some bs = some b from e); omega
        · cases h; have := Option.some.inj (show some bp = some b from e); omega)
      have HNw : Hid (∀ (v : Value) (ws' : List Wing), (v, ws') ∈ ([(.slice (some ⟨bw, ow, none⟩) ws.length cap, ws)] : List (Value × List Wing)) → ∀ b, v.ownBlock = some b → b < P + 1) := hid (fun v xs h b e => by
        have h := List.mem_singleton.1 h
        cases h; have := Option.some.inj (show some bw = some b from e); omega)
      have HMc : Hid (∀ b o v, (b, o, v) ∈ ([(B, 0, .int .i64 RT), (B, 1, .slice (some ⟨bw, ow, none⟩) ws.length cap)] : Cells) → b < P) := hid (fun b o v h => by
        simp only [List.mem_cons, Prod.mk.injEq, List.not_mem_nil, or_false] at h
        omega)
      have HMi : Hid (∀ (v : Value) (xs : List Int), (v, xs) ∈ ([(.slice (some ⟨bs, os, none⟩) ws.length cv, sk), (.slice (some ⟨bp, op, none⟩) ws.length cp, ps)] : List (Value × List Int)) → ∀ b, v.ownBlock = some b → b < P) := hid (fun v xs h b e => by
        simp only [List.mem_cons, List.not_mem_nil, or_false] at h
        rcases h with h | h
        · cases h; have := Option.some.inj (show some bs = some b from e); omega
        · cases h; have := Option.some.inj (show some bp = some b from e); omega)
      have HMw : Hid (∀ (v : Value) (ws' : List Wing), (v, ws') ∈ ([(.slice (some ⟨bw, ow, none⟩) ws.length cap, ws)] : List (Value × List Wing)) → ∀ b, v.ownBlock = some b → b < P) := hid (fun v xs h b e => by
        have h := List.mem_singleton.1 h
        cases h; have := Option.some.inj (show some bw = some b from e); omega)
      have HTK : Hid (TK P D v0 v1 v2 (.slice none 0 0) wP (wP.alloc (.cells #[v0, v1, v2, .slice none 0 0] 64))) :=
        hid ⟨(Un.start (by omega)).later (below_alloc _ _), hDP, ⟨cell_at (by omega) rfl, cell_at (by omega) rfl, cell_at (by omega) rfl, cell_at (by omega) rfl⟩, frozen_at (by omega)⟩
      have K := hid (K.out.alloc (.cells #[v0, v1, v2, .slice none 0 0] 64))
      clear hsP
      go_loopw [10] (fun i wr => ∃ (k : Nat) (vq : Value) (qs : List Part), k ≤ ws.length ∧ i = .int .i64 k ∧ qs.length = k ∧
          (∀ j, j < k → (pt qs j).place = 0 ∧ (pt qs j).start = nm sk j / 60 ∧ (pt qs j).stop = passed (Ln ws) (nm sk) (Lo ws) j (RT + Ln ws j) / 60 + 1) ∧
          OwnPt (P + 1) wr vq qs ∧ TK P D v0 v1 v2 vq wP wr ∧ LK D [(B, 0, .int .i64 RT), (B, 1, .slice (some ⟨bw, ow, none⟩) ws.length cap)] [(.slice (some ⟨bs, os, none⟩) ws.length cv, sk), (.slice (some ⟨bp, op, none⟩) ws.length cp, ps)] [(.slice (some ⟨bw, ow, none⟩) ws.length cap, ws)] w wr)
        (fun i _ => ws.length - (intOf i).toNat)
      case atStart => exact ⟨0, _, [], by omega, rfl, rfl, fun j hj => absurd hj (by omega), own_nilP _ _, HTK.out, K.out⟩
      case round =>
        obtain ⟨k, vq, qs, hk, rfl, hql, hqm, hoq, hTK, KK⟩ := hrel
        have K := hid KK
        have T := hid hTK
        have O := hid hoq
        have Hql := hid hql
        have Hqm := hid hqm
        clear KK hTK hoq hql hqm HTK
        obtain ⟨wo2, rfl⟩ : ∃ wo2 : World, wo2 = wr := ⟨_, rfl⟩
        have b0 := K.out.c (b := B) (o := 0) (v := .int .i64 RT) (by simp)
        have b1 := K.out.c (b := B) (o := 1) (v := .slice (some ⟨bw, ow, none⟩) ws.length cap) (by simp)
        by_cases hlt : k < ws.length
        · skip
          have hlk : k < sk.length := by rw [Hlk.out]; exact hlt
          obtain ⟨_, hwl, _, _⟩ := (K.out.g (v := .slice (some ⟨bw, ow, none⟩) ws.length cap) (ws := ws) (by simp)).cells hlt
          have hmk := Hm.out k hlt
          obtain ⟨LN, hLN⟩ : ∃ LN, (wg ws k).len = LN := ⟨_, rfl⟩
          have hLN1 : 1 ≤ LN ∧ LN ≤ 80 := by rw [← hLN]; omega
          rw [hLN] at hwl
          have HPs := hid (fun vw' vs' W' g1 g2 => ppasses_any ws sk RT (k : Int) (RT + LN) vw' vs' W' g1 g2 (by omega) (made_size Hm.out h8) (by rw [Hlk.out]; omega))
          have hpe : passErr RT ws sk (k : Int) (RT + LN) = 0 := by
            unfold passErr
            rw [if_pos hcs.out, if_neg (by rw [inB_true.2 ⟨by omega, by omega⟩]; simp), if_neg (by rw [inB_true.2 ⟨by omega, by omega⟩]; simp)]
          have hps : passSpan RT ws sk (k : Int) (RT + LN) = (passed (Ln ws) (nm sk) (Hi ws) k (RT + LN), passed (Ln ws) (nm sk) (Lo ws) k (RT + LN)) := by unfold passSpan; rw [if_pos hpe, Int.toNat_natCast]
          rw [hpe, hps] at HPs
          have hsk0 : ∀ i, i < ws.length → 0 ≤ nm sk i ∧ nm sk i ≤ 20000 := fun i hi => by
            have h := (starts_zero hcs.out).2.2 i (by rw [Hlk.out]; exact hi)
            unfold startErr at h
            cases hq : inB (nm sk i) 0 20000 with
            | true => exact inB_true.1 hq
            | false => rw [hq] at h; simp at h
          have hhi : passed (Ln ws) (nm sk) (Lo ws) k (RT + LN) ≤ 10000000 ∧ 0 ≤ passed (Ln ws) (nm sk) (Lo ws) k (RT + LN) := by
            have q1 := passed_low (L := Ln ws) (S := nm sk) (P := Lo ws) (k := k) (M := 20000) (A := 80) (by omega) (fun i hi => by have := Hm.out i (by omega); unfold Lo; omega) (fun i hi => by have := Hm.out i (by omega); unfold Ln; omega) (fun i hi => (hsk0 i (by omega)).2) (x := RT + LN) (by omega)
            have q2 := passed_ge_start (L := Ln ws) (S := nm sk) (P := Lo ws) (k := k) (fun i hi => by have := Hm.out i (by omega); unfold Lo; omega) (fun i hi => by have := Hm.out i (by omega); unfold Ln; omega) (x := RT + LN) (by omega) k (Nat.le_refl k)
            have q3 := (hsk0 k hlt).1
            omega
          have hLn : Ln ws k = LN := hLN
          obtain ⟨xl, hxl⟩ : ∃ xl, passed (Ln ws) (nm sk) (Hi ws) k (RT + LN) = xl := ⟨_, rfl⟩
          obtain ⟨xh, hxh⟩ : ∃ xh, passed (Ln ws) (nm sk) (Lo ws) k (RT + LN) = xh := ⟨_, rfl⟩
          have Hxh := hid (show passed (Ln ws) (nm sk) (Lo ws) k (RT + Ln ws k) = xh from by rw [hLn]; exact hxh)
          rw [hxl, hxh] at HPs
          rw [hxh] at hhi
          have hsk1 := hsk0 k hlt
          have Hsk0 := hid hsk0
          dsimp only at HPs
          clear hpe hps hLn hxl hxh hmk hLN hsk0
          have i1 : (k : Int) < (ws.length : Int) := by omega
          have z1 : IntKind.i64.wrap (RT + LN) = RT + LN := IntWalk.i64_in _ (by omega)
          have z2 : IntKind.i64.wrap ((k : Int) + 1) = (k : Int) + 1 := IntWalk.i64_in _ (by omega)
          go_upto_region 14 with fail
          go_cut [11, 12] from 73 to 87 (fun s11 s12 wx => ∃ X : Nat, s11 = .pointer (some ⟨X, 0, none⟩) ∧ s12 = .int .i64 0 ∧ OwnPt (P + 1) wx vq qs ∧ TK P D v0 v1 v2 vq wP wx ∧ LK D [(X, 0, .int .i64 xl), (X, 1, .int .i64 xh), (B, 0, .int .i64 RT), (B, 1, .slice (some ⟨bw, ow, none⟩) ws.length cap)] [(.slice (some ⟨bs, os, none⟩) ws.length cv, sk), (.slice (some ⟨bp, op, none⟩) ws.length cp, ps)] [(.slice (some ⟨bw, ow, none⟩) ws.length cap, ws)] w wx)
          case first =>
            have hwlb : bw < wo2.heap.size := World.block_lt_of_cell? wo2 ⟨bw, ow + k * 4 + 1, none⟩ hwl
            have HWL := hid (show ∀ W', Below wo2.heap.size wo2 W' → W'.cell? ⟨bw, ow + k * 4 + 1, none⟩ = some (.int .i64 LN) from fun W' hb => cell_back hb hwlb hwl)
            have BD := hid (show Below wo2.heap.size wo2 wo2.drew from (Below.refl _ _).drew)
            have BA := hid (below_alloc wo2 (.cells #[.int .i64 0, .int .i64 0] 27)).drew
            have KA := hid (K.out.box2 (.int .i64 0) (.int .i64 0) 27).drew
            have K0 := hid K.out.drew
            have hneA : ∀ b' o' v', (b', o', v') ∈ ([(B, 0, .int .i64 RT), (B, 1, .slice (some ⟨bw, ow, none⟩) ws.length cap)] : Cells) → b' ≠ wo2.heap.size := fun b' o' v' h => Nat.ne_of_lt (K.out.clt h)
            have HneA := hid hneA
            have nX1 : wo2.heap.size ≠ P := by have := T.out.lt; omega
            clear hneA
            go_region_held3 (fun w' => w'.cell? ⟨B, 0, none⟩ = some (.int .i64 RT) ∧ w'.cell? ⟨B, 1, none⟩ = some (.slice (some ⟨bw, ow, none⟩) ws.length cap) ∧ w'.cell? ⟨bw, ow + k * 4 + 1, none⟩ = some (.int .i64 LN))
              (first | with_reducible exact ⟨K0.out.c (by simp), K0.out.c (by simp), HWL.out _ BD.out⟩ | with_reducible exact ⟨KA.out.c (by simp), KA.out.c (by simp), HWL.out _ BA.out⟩ | with_reducible exact ⟨KF.out.c (by simp), KF.out.c (by simp), HWL.out _ BF.out⟩ | with_reducible exact ⟨K1.out.c (by simp), K1.out.c (by simp), HWL.out _ B1.out⟩ | exact ⟨(K1.out.alloc _).c (by simp), (K1.out.alloc _).c (by simp), HWL.out _ (B1.out.trans ((below_alloc _ _).mono B1.out.size))⟩) (first
              | (go_at_call 41; (with_reducible refine (HPs.out _ _ _ (K0.out.g (v := .slice (some ⟨bw, ow, none⟩) ws.length cap) (ws := ws) (by simp)).any (K0.out.i (v := .slice (some ⟨bs, os, none⟩) ws.length cv) (xs := sk) (by simp)).any).mono ?_); rintro e w12 ⟨rfl, hb⟩; have K1 := hid (K0.out.later hb); have B1 := hid (show Below wo2.heap.size wo2 w12 from BD.out.trans hb); have KF := hid (K1.out.box2 (.int .i64 xl) (.int .i64 xh) 27); have BF := hid (B1.out.trans ((below_alloc w12 (.cells #[.int .i64 xl, .int .i64 xh] 27)).mono B1.out.size)); have OF := hid (O.out.later BF.out); have TF := hid (T.out.later BF.out); clear hb)
              | (go_at_call 41; (with_reducible refine (HPs.out _ _ _ (KA.out.g (v := .slice (some ⟨bw, ow, none⟩) ws.length cap) (ws := ws) (by simp)).any (KA.out.i (v := .slice (some ⟨bs, os, none⟩) ws.length cv) (xs := sk) (by simp)).any).mono ?_); rintro e w12 ⟨rfl, hb⟩; have K1 := hid (KA.out.later hb); have B1 := hid (BA.out.trans (hb.mono BA.out.size)); have c0 := K1.out.c (b := wo2.heap.size) (o := 0) (v := .int .i64 0) (by simp); have c1 := K1.out.c (b := wo2.heap.size) (o := 1) (v := .int .i64 0) (by simp); have f0 := K1.out.f (b := wo2.heap.size) (o := 0) (v := .int .i64 0) (by simp); have f1 := K1.out.f (b := wo2.heap.size) (o := 1) (v := .int .i64 0) (by simp); have KF := hid (K1.out.put2 HneA.out (x' := .int .i64 xl) (y' := .int .i64 xh)); have BF := hid ((B1.out.setCell (p := ⟨wo2.heap.size, 0, none⟩) (Nat.le_refl _) (.int .i64 xl)).setCell (p := ⟨wo2.heap.size, 1, none⟩) (Nat.le_refl _) (.int .i64 xh)); have OF := hid (O.out.later BF.out); have TF := hid (T.out.later BF.out); clear hb))
            all_goals (
              go_wp2_with fail
              go_meet
              exact ⟨_, rfl, rfl, OF.out, TF.out, KF.out⟩)
          case rest =>
            obtain ⟨X, rfl, rfl, hoq, hTK, KK⟩ := hcut
            have K := hid KK
            have T := hid hTK
            have O := hid hoq
            clear KK hTK hoq HPs hwl b0 b1
            obtain ⟨wo3, rfl⟩ : ∃ wo3 : World, wo3 = wc := ⟨_, rfl⟩
            have A := hid (show QA D P v0 v1 v2 vq wP w [(X, 0, .int .i64 xl), (X, 1, .int .i64 xh), (B, 0, .int .i64 RT), (B, 1, .slice (some ⟨bw, ow, none⟩) ws.length cap)] [(.slice (some ⟨bs, os, none⟩) ws.length cv, sk), (.slice (some ⟨bp, op, none⟩) ws.length cp, ps)] [(.slice (some ⟨bw, ow, none⟩) ws.length cap, ws)] qs wo3 from ⟨K.out, O.out, T.out⟩)
            clear K O T
            have hsc := (A.out.lk.i (v := .slice (some ⟨bs, os, none⟩) ws.length cv) (xs := sk) (by simp)).cell hlk
            obtain ⟨s, hs⟩ : ∃ s, nm sk k = s := ⟨_, rfl⟩
            have Hs := hid hs
            rw [hs] at hsk1
            have q1 : IntKind.i64.wrap (s.tdiv 60) = s / 60 := by rw [Int.tdiv_eq_ediv_of_nonneg (by omega)]; exact IntWalk.i64_in _ (by omega)
            have q2 : IntKind.i64.wrap (xh.tdiv 60) = xh / 60 := by rw [Int.tdiv_eq_ediv_of_nonneg (by omega)]; exact IntWalk.i64_in _ (by omega)
            have q3 : IntKind.i64.wrap (xh / 60 + 1) = xh / 60 + 1 := IntWalk.i64_in _ (by omega)
            have HSc := hid (show ∀ W', QA D P v0 v1 v2 vq wP w [(X, 0, .int .i64 xl), (X, 1, .int .i64 xh), (B, 0, .int .i64 RT), (B, 1, .slice (some ⟨bw, ow, none⟩) ws.length cap)] [(.slice (some ⟨bs, os, none⟩) ws.length cv, sk), (.slice (some ⟨bp, op, none⟩) ws.length cp, ps)] [(.slice (some ⟨bw, ow, none⟩) ws.length cap, ws)] qs W' → W'.cell? ⟨bs, os + k, none⟩ = some (.int .i64 s) from fun W' h => by
              have := (h.lk.i (v := .slice (some ⟨bs, os, none⟩) ws.length cv) (xs := sk) (by simp)).cell hlk
              rw [hs] at this
              exact this)
            clear hs hsc
            go_upto_region 17 with fail
            go_cut [13] from 90 to 103 (fun s13 wx => ∃ (Z : Nat) (pe ki : Int), s13 = .pointer (some ⟨Z, 0, none⟩) ∧ 0 ≤ pe ∧ pe ≤ 1 ∧ 0 ≤ ki ∧ ki ≤ 1 ∧ QB Z (five (.int .i64 pe) (.int .i64 0) (.int .i64 ki) (.int .i64 (s / 60)) (.int .i64 (xh / 60 + 1))) D P v0 v1 v2 vq wP w [(X, 0, .int .i64 xl), (X, 1, .int .i64 xh), (B, 0, .int .i64 RT), (B, 1, .slice (some ⟨bw, ow, none⟩) ws.length cap)] [(.slice (some ⟨bs, os, none⟩) ws.length cv, sk), (.slice (some ⟨bp, op, none⟩) ws.length cp, ps)] [(.slice (some ⟨bw, ow, none⟩) ws.length cap, ws)] qs wx)
            case first =>
              have A0 := hid (A.out.later (Below.refl _ _).drew)
              have AB := hid (A.out.box5 (.int .i64 0) (.int .i64 0) (.int .i64 0) (.int .i64 0) (.int .i64 0) 68).drew
              go_region_held3 (fun w' => w'.cell? ⟨X, 1, none⟩ = some (.int .i64 xh) ∧ w'.cell? ⟨bs, os + k, none⟩ = some (.int .i64 s))
                (first | with_reducible exact ⟨A0.out.lk.c (by simp), HSc.out _ A0.out⟩ | with_reducible exact ⟨AB.out.qa.lk.c (by simp), HSc.out _ AB.out.qa⟩ | with_reducible exact ⟨A1.out.lk.c (by simp), HSc.out _ A1.out⟩ | with_reducible exact ⟨A1z.out.qa.lk.c (by simp), HSc.out _ A1z.out.qa⟩ | with_reducible exact ⟨B1.out.qa.lk.c (by simp), HSc.out _ B1.out.qa⟩ | with_reducible exact ⟨A2.out.lk.c (by simp), HSc.out _ A2.out⟩ | with_reducible exact ⟨A2z.out.qa.lk.c (by simp), HSc.out _ A2z.out.qa⟩ | with_reducible exact ⟨B2.out.qa.lk.c (by simp), HSc.out _ B2.out.qa⟩ | with_reducible exact ⟨KF.out.qa.lk.c (by simp), HSc.out _ KF.out.qa⟩) (first
                | (go_at_call 40; (with_reducible refine (roll_any _ 2 _ A1.out.lk.beat ?_).mono ?_); decide; rintro e w13 ⟨ki, rfl, hki1, hki2, hbt, hgb⟩; have A2 := hid (A1.out.go hgb hbt); have A2z := hid (A2.out.box5 (.int .i64 0) (.int .i64 0) (.int .i64 0) (.int .i64 0) (.int .i64 0) 68); have KF := hid (A2.out.box5 (.int .i64 pe) (.int .i64 0) (.int .i64 ki) (.int .i64 (s / 60)) (.int .i64 (xh / 60 + 1)) 68); clear hbt hgb)
                | (go_at_call 40; (with_reducible refine (roll_any _ 2 _ A1z.out.qa.lk.beat ?_).mono ?_); decide; rintro e w13 ⟨ki, rfl, hki1, hki2, hbt, hgb⟩; have B2 := hid (A1z.out.go hgb hbt); have KF := hid (B2.out.put5 (.int .i64 pe) (.int .i64 0) (.int .i64 ki) (.int .i64 (s / 60)) (.int .i64 (xh / 60 + 1))); have z0 := (B2.out.cell 0 (by decide)).1; have z1 := (B2.out.cell 1 (by decide)).1; have z2' := (B2.out.cell 2 (by decide)).1; have z3 := (B2.out.cell 3 (by decide)).1; have z4 := (B2.out.cell 4 (by decide)).1; have g0 := (B2.out.cell 0 (by decide)).2; have g1 := (B2.out.cell 1 (by decide)).2; have g2 := (B2.out.cell 2 (by decide)).2; have g3 := (B2.out.cell 3 (by decide)).2; have g4 := (B2.out.cell 4 (by decide)).2; clear hbt hgb)
                | (go_at_call 40; (with_reducible refine (roll_any _ 2 _ B1.out.qa.lk.beat ?_).mono ?_); decide; rintro e w13 ⟨ki, rfl, hki1, hki2, hbt, hgb⟩; have B2 := hid (B1.out.go hgb hbt); have KF := hid (B2.out.put5 (.int .i64 pe) (.int .i64 0) (.int .i64 ki) (.int .i64 (s / 60)) (.int .i64 (xh / 60 + 1))); have z0 := (B2.out.cell 0 (by decide)).1; have z1 := (B2.out.cell 1 (by decide)).1; have z2' := (B2.out.cell 2 (by decide)).1; have z3 := (B2.out.cell 3 (by decide)).1; have z4 := (B2.out.cell 4 (by decide)).1; have g0 := (B2.out.cell 0 (by decide)).2; have g1 := (B2.out.cell 1 (by decide)).2; have g2 := (B2.out.cell 2 (by decide)).2; have g3 := (B2.out.cell 3 (by decide)).2; have g4 := (B2.out.cell 4 (by decide)).2; clear hbt hgb)
                | (go_at_call 40; (with_reducible refine (roll_any _ 2 _ A0.out.lk.beat ?_).mono ?_); decide; rintro e w12 ⟨pe, rfl, hpe1, hpe2, hbt, hgb⟩; have A1 := hid (A0.out.go hgb hbt); have A1z := hid (A1.out.box5 (.int .i64 0) (.int .i64 0) (.int .i64 0) (.int .i64 0) (.int .i64 0) 68); clear hbt hgb)
                | (go_at_call 40; (with_reducible refine (roll_any _ 2 _ AB.out.qa.lk.beat ?_).mono ?_); decide; rintro e w12 ⟨pe, rfl, hpe1, hpe2, hbt, hgb⟩; have B1 := hid (AB.out.go hgb hbt); clear hbt hgb))
              all_goals (
                go_wp2_with fail
                go_meet
                exact ⟨_, pe, ki, rfl, by omega, by omega, by omega, by omega, KF.out⟩)
            case rest =>
              obtain ⟨Z, pe, ki, rfl, hpe1, hpe2, hki1, hki2, hQ⟩ := hcut
              have Q := hid hQ
              clear hQ A HSc q1 q2 q3
              obtain ⟨wo4, rfl⟩ : ∃ wo4 : World, wo4 = wc := ⟨_, rfl⟩
              obtain ⟨sq, hsq⟩ : ∃ sq, s / 60 = sq := ⟨_, rfl⟩
              obtain ⟨tq, htq⟩ : ∃ tq, xh / 60 + 1 = tq := ⟨_, rfl⟩
              rw [hsq, htq] at Q
              have Hsq := hid hsq
              have Htq := hid htq
              clear hsq htq
              have hqf := Q.out.qa.own.form
              obtain ⟨aq, cq, rfl⟩ := hqf
              rw [Hql.out] at Q
              have z4 : wo4.cell? ⟨Z, 4, none⟩ = some (.int .i64 tq) := (Q.out.cell 4 (by decide)).1
              by_cases hgt : (1440 : Int) < tq
              · go_wp2_with (go_at_call 42; refine (dawake_any _).mono ?_; rintro e w16 ⟨rfl, hb16⟩)
                go_ret
                exact ⟨rfl, HD.out ▸ (Q.out.qa.lk.later hb16).below⟩
              · have z0 : wo4.cell? ⟨Z, 0, none⟩ = some (.int .i64 pe) := (Q.out.cell 0 (by decide)).1
                have z1' : wo4.cell? ⟨Z, 1, none⟩ = some (.int .i64 0) := (Q.out.cell 1 (by decide)).1
                have z2' : wo4.cell? ⟨Z, 2, none⟩ = some (.int .i64 ki) := (Q.out.cell 2 (by decide)).1
                have z3 : wo4.cell? ⟨Z, 3, none⟩ = some (.int .i64 sq) := (Q.out.cell 3 (by decide)).1
                have p3 := Q.out.qa.tk.cell.2.2.2
                have hPw := Q.out.qa.tk.lt
                have HO := hid (OwnPt.later Q.out.qa.own (below_alloc wo4 (.cells #[.int .i64 pe, .int .i64 0, .int .i64 ki, .int .i64 sq, .int .i64 tq] 68)))
                have HT := hid (TK.later Q.out.qa.tk (below_alloc wo4 (.cells #[.int .i64 pe, .int .i64 0, .int .i64 ki, .int .i64 sq, .int .i64 tq] 68)))
                have HK := hid ((Q.out.qa.lk.sub (cs2 := [(B, 0, .int .i64 RT), (B, 1, .slice (some ⟨bw, ow, none⟩) ws.length cap)]) (fun x hx => List.mem_cons_of_mem _ (List.mem_cons_of_mem _ hx))).alloc (.cells #[.int .i64 pe, .int .i64 0, .int .i64 ki, .int .i64 sq, .int .i64 tq] 68))
                have hcc : ∀ j, j < 5 → (wo4.alloc (.cells #[.int .i64 pe, .int .i64 0, .int .i64 ki, .int .i64 sq, .int .i64 tq] 68)).cell? ⟨wo4.heap.size, j, none⟩ = some (partCell ⟨pe, 0, ki, sq, tq⟩ j) := fun j hj => by
                  rcases (by omega : j = 0 ∨ j = 1 ∨ j = 2 ∨ j = 3 ∨ j = 4) with rfl | rfl | rfl | rfl | rfl <;> exact cell_at rfl rfl
                have hPn : P + 1 ≤ (wo4.alloc (.cells #[.int .i64 pe, .int .i64 0, .int .i64 ki, .int .i64 sq, .int .i64 tq] 68)).heap.size := by simp; omega
                have hql2 : qs.length ≤ 1000 := by have := Hql.out; omega
                have Hcc := hid hcc
                have hDP1 : D < P + 1 := by omega
                have hwP1 : w.heap.size ≤ P + 1 := by omega
                clear Q hcc
                go_upto_region 20 with fail
                go_wp2_with (at_builtin; refine halt ?_; intro G HG)
                refine HG.out ?_
                clear HG
                refine app_part (by rfl) _ _ (by rfl) (P + 1) qs ⟨pe, 0, ki, sq, tq⟩ (.slice aq k cq) wo4.heap.size 1 HO.out Hcc.out (by rfl) (by rfl) hql2 hPn ?_
                intro v' w5 hown' hbel
                have T5 := hid (TK.base HT.out hbel)
                have K5 := hid (LK.baseN HK.out hbel hDP1 hwP1 HNc.out HNi.out HNw.out)
                have O5 := hid hown'
                have hvf := hown'.form
                simp only [List.length_append, List.length_cons, List.length_nil, Nat.zero_add] at hvf
                obtain ⟨av, cv', rfl⟩ := hvf
                have c3 := T5.out.cell.2.2.2
                have g3 := T5.out.thaw
                clear hbel hown'
                go_wp2_with fail
                have T6 := hid (T5.out.put (.slice av (qs.length + 1) cv'))
                have O6 := hid (OwnPt.put (Z := P) (o := 3) (u := .slice av (qs.length + 1) cv') O5.out (Nat.lt_succ_self P))
                have K6 := hid (K5.out.putP (.slice av (qs.length + 1) cv') 3 hDP hwP0 HMc.out HMi.out HMw.out)
                clear T5 K5 O5 HO HT HK
                go_roundw
                case rel =>
                  refine ⟨k + 1, _, qs ++ [(⟨pe, 0, ki, sq, tq⟩ : Part)], by omega, by go_num, by simp [Hql.out], fun j hj => ?_, O6.out, T6.out, K6.out⟩
                  by_cases e : j < k
                  · rw [pt_snoc_old (by rw [Hql.out]; exact e)]
                    exact Hqm.out j e
                  · obtain rfl : j = qs.length := by have := Hql.out; omega
                    rw [pt_snoc_new]
                    have e2 : qs.length = k := Hql.out
                    rw [e2]
                    exact ⟨rfl, by rw [Hs.out]; exact Hsq.out.symm, by rw [Hxh.out]; exact Htq.out.symm⟩
                case measure => simp [intOf] <;> omega
        · obtain rfl : k = ws.length := by omega
          skip
          clear hlt
          have hqf := O.out.form
          obtain ⟨aq, cq, rfl⟩ := hqf
          rw [Hql.out] at O T
          have hsz := HsP.out
          have hpa : PlotAt none wo2 v0 v1 v2 (.slice aq ws.length cq) ⟨[(40, 40), (41, 42)], [[0]], [r0, r1], qs⟩ := ⟨T.out.un.recs HP1.out (Nat.le_of_eq hsz), T.out.un.lists HP2.out (Nat.le_of_eq hsz), T.out.un.ints HP3.out (Nat.le_of_eq hsz), O.out.recs⟩
          have hck := ccheck_any _ v0 v1 v2 (.slice aq ws.length cq) wo2 hpa
          have HPA := hid hpa
          obtain ⟨pe, hpe⟩ : ∃ pe, plotErr ⟨[(40, 40), (41, 42)], [[0]], [r0, r1], qs⟩ = pe := ⟨_, rfl⟩
          rw [hpe] at hck
          have Hpe := hid hpe
          have HCK := hid hck
          have p0 := T.out.cell.1
          have p1 := T.out.cell.2.1
          have p2 := T.out.cell.2.2.1
          have p3 := T.out.cell.2.2.2
          clear hsz hpa hck hpe
          by_cases hp0 : pe = 0
          rotate_left
          · obtain ⟨e1, e2⟩ := ne_bool hp0
            go_wp2_with (first
              | (go_at_call 43; refine HCK.out.mono ?_; rintro e w14 ⟨rfl, hb14⟩; have K := hid (K.out.later hb14); clear hb14)
              | (go_at_call 42; refine (dawake_any _).mono ?_; rintro e w16 ⟨rfl, hb16⟩))
            go_ret
            exact ⟨rfl, HD.out ▸ (K.out.later hb16).below⟩
          · subst hp0
            go_wp2_with (go_at_call 43; refine HCK.out.mono ?_; rintro e w14 ⟨rfl, hb14⟩; have K := hid (K.out.later hb14); have T := hid (T.out.later hb14); have O := hid (O.out.later hb14); have HPA := hid (HPA.out.below hb14); clear hb14)
            obtain ⟨w15, rfl⟩ : ∃ w15 : World, w15 = w14 := ⟨_, rfl⟩
            have V := hid (plotErr_zero.1 Hpe.out)
            have hs0 : ∀ i, i < ws.length → 0 ≤ nm sk i ∧ nm sk i ≤ 20000 := fun i hi => by
              have h := (starts_zero hcs.out).2.2 i (by rw [Hlk.out]; exact hi)
              unfold startErr at h
              cases hq : inB (nm sk i) 0 20000 with
              | true => exact inB_true.1 hq
              | false => rw [hq] at h; simp at h
            have Hs0 := hid hs0
            have hsane : ∀ m, m < ws.length → Sane ws sk ps m := fun m hm => ⟨hm, by rw [Hlk.out]; exact hm, by rw [Hlp.out]; exact hm, by omega, fun i hi => by have := Hm.out i (by omega); unfold Ln; omega, fun i hi => by have := hs0 i (by omega); omega, fun i hi => by have h1 := Hmp.out i (by rw [Hlp.out]; omega); have h2 := Hm.out i (by omega); unfold Lo Hi at h1; omega⟩
            have HSane := hid hsane
            have hend : ∀ m, m < ws.length → passed (Ln ws) (nm sk) (nm ps) m (RT + Ln ws m) ≤ passed (Ln ws) (nm sk) (Lo ws) m (RT + Ln ws m) ∧ 0 ≤ passed (Ln ws) (nm sk) (nm ps) m (RT + Ln ws m) ∧ passed (Ln ws) (nm sk) (nm ps) m (RT + Ln ws m) ≤ 10000000 := fun m hm => by
              have hLm : 1 ≤ Ln ws m ∧ Ln ws m ≤ 80 := by have := Hm.out m hm; unfold Ln; omega
              have hp : 0 ≤ RT + Ln ws m := by omega
              have g1 : ∀ i, i ≤ m → 0 < Lo ws i := fun i hi => by have := Hm.out i (by omega); unfold Lo; omega
              have g2 : ∀ i, i ≤ m → Lo ws i ≤ nm ps i := fun i hi => (Hmp.out i (by rw [Hlp.out]; omega)).1
              have g3 : ∀ i, i < m → 0 ≤ Ln ws i := fun i hi => by have := Hm.out i (by omega); unfold Ln; omega
              have q0 := passed_mono_P (L := Ln ws) (S := nm sk) (P := Lo ws) (P' := nm ps) (k := m) g1 g2 g3 hp
              have q1 := passed_low (L := Ln ws) (S := nm sk) (P := Lo ws) (k := m) (M := 20000) (A := 80) (by omega) g1 (fun i hi => by have := Hm.out i (by omega); unfold Ln; omega) (fun i hi => (hs0 i (by omega)).2) (x := RT + Ln ws m) (by omega)
              have q2 := passed_ge_start (L := Ln ws) (S := nm sk) (P := nm ps) (k := m) (fun i hi => by have := g1 i hi; have := g2 i hi; omega) g3 hp m (Nat.le_refl m)
              have q3 := (hs0 m hm).1
              omega
            have Hend := hid hend
            clear hs0 hsane hend
            go_loopw [14] (fun i wr => ∃ m : Nat, m ≤ ws.length ∧ i = .int .i64 m ∧ Below w15.heap.size w15 wr) (fun i _ => ws.length - (intOf i).toNat)
            case atStart => exact ⟨0, by omega, rfl, Below.refl _ _⟩
            case round =>
              obtain ⟨m, hmle, rfl, hbm⟩ := hrel
              have K6 := hid (K.out.later hbm)
              have T6 := hid (T.out.later hbm)
              have HPA6 := hid (HPA.out.below hbm)
              have Hbm := hid hbm
              clear hbm
              obtain ⟨w17, rfl⟩ : ∃ w17 : World, w17 = wr := ⟨_, rfl⟩
              have p3 := T6.out.cell.2.2.2
              by_cases hml : m < ws.length
              rotate_left
              · obtain rfl : m = ws.length := by omega
                go_wp2_with (go_at_call 42; refine (dawake_any _).mono ?_; rintro e w16 ⟨rfl, hb16⟩)
                go_ret
                exact ⟨rfl, HD.out ▸ (K6.out.later hb16).below⟩
              · obtain ⟨_, hwl, _, _⟩ := (K6.out.g (v := .slice (some ⟨bw, ow, none⟩) ws.length cap) (ws := ws) (by simp)).cells hml
                have hmk := Hm.out m hml
                obtain ⟨LN, hLN⟩ : ∃ LN, (wg ws m).len = LN := ⟨_, rfl⟩
                have hLN1 : 1 ≤ LN ∧ LN ≤ 80 := by rw [← hLN]; omega
                rw [hLN] at hwl
                have hpl := hid (fun vw' vs' vp' W' g1 g2 g3 => passed_any ws sk ps (m : Int) (RT + LN) RT vw' vs' vp' none W' g1 g2 g3 (by omega) (by rw [Int.toNat_natCast]; exact HSane.out m hml) (by omega) (by omega))
                rw [Int.toNat_natCast] at hpl
                have hLn : Ln ws m = LN := hLN
                have hen := Hend.out m hml
                obtain ⟨en, hen0⟩ : ∃ en, passed (Ln ws) (nm sk) (nm ps) m (RT + Ln ws m) = en := ⟨_, rfl⟩
                rw [hen0] at hen
                have hen1 : passed (Ln ws) (nm sk) (nm ps) m (RT + LN) = en := by rw [← hLn]; exact hen0
                rw [hen1] at hpl
                have Hen := hid hen
                have i1 : (m : Int) < (ws.length : Int) := by omega
                have z1 : IntKind.i64.wrap (RT + LN) = RT + LN := IntWalk.i64_in _ (by omega)
                have z2 : IntKind.i64.wrap ((m : Int) + 1) = (m : Int) + 1 := IntWalk.i64_in _ (by omega)
                clear hmk hLN hLn hen hen0 hen1
                go_upto_region 26 with fail
                have K7 := hid K6.out.drew
                have hwlb : bw < w17.heap.size := World.block_lt_of_cell? w17 ⟨bw, ow + m * 4 + 1, none⟩ hwl
                have HWL := hid (show ∀ W', Below w17.heap.size w17 W' → W'.cell? ⟨bw, ow + m * 4 + 1, none⟩ = some (.int .i64 LN) from fun W' hb => cell_back hb hwlb hwl)
                have B7 := hid (show Below w17.heap.size w17 w17.drew from (Below.refl _ _).drew)
                go_region_held3 (fun w' => w'.cell? ⟨B, 0, none⟩ = some (.int .i64 RT) ∧ w'.cell? ⟨B, 1, none⟩ = some (.slice (some ⟨bw, ow, none⟩) ws.length cap) ∧ w'.cell? ⟨bw, ow + m * 4 + 1, none⟩ = some (.int .i64 LN))
                  (first | with_reducible exact ⟨K7.out.c (by simp), K7.out.c (by simp), HWL.out _ B7.out⟩ | exact ⟨K8.out.c (by simp), K8.out.c (by simp), HWL.out _ B8.out⟩) (first | (go_at_call 44; refine (hpl.out _ _ _ _ (K7.out.g (by simp)).any (K7.out.i (v := .slice (some ⟨bs, os, none⟩) ws.length cv) (xs := sk) (by simp)).any (K7.out.i (v := .slice (some ⟨bp, op, none⟩) ws.length cp) (xs := ps) (by simp)).any).mono ?_; rintro e w18 ⟨rfl, hb18⟩; have K8 := hid (K7.out.later hb18); have B8 := hid (B7.out.trans hb18); clear hb18))
                have T8 := hid (T6.out.later B8.out)
                have HPA8 := hid (HPA6.out.below B8.out)
                clear hpl hwl p3
                go_wp2_with fail
                go_loopw [16] (fun i wr => ∃ n : Nat, n ≤ ws.length ∧ i = .int .i64 n ∧ Below w18.heap.size w18 wr) (fun i _ => ws.length - (intOf i).toNat)
                case atStart => exact ⟨0, by omega, rfl, Below.refl _ _⟩
                case round =>
                  obtain ⟨n, hnle, rfl, hbn⟩ := hrel
                  have K9 := hid (K8.out.later hbn)
                  have T9 := hid (T8.out.later hbn)
                  have HPA9 := hid (HPA8.out.below hbn)
                  have Hbn := hid hbn
                  clear hbn
                  obtain ⟨w20, rfl⟩ : ∃ w20 : World, w20 = wr := ⟨_, rfl⟩
                  have p3 := T9.out.cell.2.2.2
                  have hPl := T9.out.lt
                  by_cases hnl : n < ws.length
                  rotate_left
                  · obtain rfl : n = ws.length := by omega
                    go_wp2_with fail
                    go_roundw
                    case rel => exact ⟨m + 1, by omega, by go_num, below_trans (below_trans Hbm.out B8.out) Hbn.out⟩
                    case measure => simp [intOf] <;> omega
                  · have hqm : m < qs.length := by rw [Hql.out]; exact hml
                    have hqn : n < qs.length := by rw [Hql.out]; exact hnl
                    have hpp : PartsAt none w20 (.slice aq ws.length cq) qs := HPA9.out.parts
                    have hpm := hpp.cells hqm
                    have hpn := hpp.cells hqn
                    obtain ⟨bq, oq, hae, hbq, m0, m1, m2, m3, m4⟩ := hpm
                    subst hae
                    obtain ⟨b', o', hae, _, n0, n1, n2, n3, n4⟩ := hpn
                    cases hae
                    have j1 : (n : Int) < (ws.length : Int) := by omega
                    have z3 : IntKind.i64.wrap ((n : Int) + 1) = (n : Int) + 1 := IntWalk.i64_in _ (by omega)
                    have HQ := hid (show ∀ W', Below w20.heap.size w20 W' → W'.cell? ⟨P, 3, none⟩ = some (.slice (some ⟨bq, oq, none⟩) ws.length cq) ∧
                        (W'.cell? ⟨bq, oq + m * 5, none⟩ = some (.int .i64 (pt qs m).person) ∧ W'.cell? ⟨bq, oq + m * 5 + 1, none⟩ = some (.int .i64 (pt qs m).place) ∧ W'.cell? ⟨bq, oq + m * 5 + 2, none⟩ = some (.int .i64 (pt qs m).kind) ∧ W'.cell? ⟨bq, oq + m * 5 + 3, none⟩ = some (.int .i64 (pt qs m).start) ∧ W'.cell? ⟨bq, oq + m * 5 + 4, none⟩ = some (.int .i64 (pt qs m).stop)) ∧
                        (W'.cell? ⟨bq, oq + n * 5, none⟩ = some (.int .i64 (pt qs n).person) ∧ W'.cell? ⟨bq, oq + n * 5 + 1, none⟩ = some (.int .i64 (pt qs n).place) ∧ W'.cell? ⟨bq, oq + n * 5 + 2, none⟩ = some (.int .i64 (pt qs n).kind) ∧ W'.cell? ⟨bq, oq + n * 5 + 3, none⟩ = some (.int .i64 (pt qs n).start) ∧ W'.cell? ⟨bq, oq + n * 5 + 4, none⟩ = some (.int .i64 (pt qs n).stop))
                      from fun W' hb => ⟨cell_back hb hPl p3, ⟨cell_back hb hbq m0, cell_back hb hbq m1, cell_back hb hbq m2, cell_back hb hbq m3, cell_back hb hbq m4⟩, ⟨cell_back hb hbq n0, cell_back hb hbq n1, cell_back hb hbq n2, cell_back hb hbq n3, cell_back hb hbq n4⟩⟩)
                    clear hpp
                    go_upto_region 30 with fail
                    go_cut [17, 18] from 139 to 196 (fun s17 s18 wx => ∃ X Y : Nat, s17 = .pointer (some ⟨X, 0, none⟩) ∧ s18 = .pointer (some ⟨Y, 0, none⟩) ∧ Below w20.heap.size w20 wx ∧
                      (wx.cell? ⟨X, 0, none⟩ = some (.int .i64 (pt qs m).person) ∧ wx.cell? ⟨X, 2, none⟩ = some (.int .i64 (pt qs m).kind) ∧ wx.cell? ⟨Y, 0, none⟩ = some (.int .i64 (pt qs n).person) ∧ wx.cell? ⟨Y, 2, none⟩ = some (.int .i64 (pt qs n).kind)))
                    case first =>
                      go_region_held3 (fun W' => W'.cell? ⟨P, 3, none⟩ = some (.slice (some ⟨bq, oq, none⟩) ws.length cq) ∧
                            (W'.cell? ⟨bq, oq + m * 5, none⟩ = some (.int .i64 (pt qs m).person) ∧ W'.cell? ⟨bq, oq + m * 5 + 1, none⟩ = some (.int .i64 (pt qs m).place) ∧ W'.cell? ⟨bq, oq + m * 5 + 2, none⟩ = some (.int .i64 (pt qs m).kind) ∧ W'.cell? ⟨bq, oq + m * 5 + 3, none⟩ = some (.int .i64 (pt qs m).start) ∧ W'.cell? ⟨bq, oq + m * 5 + 4, none⟩ = some (.int .i64 (pt qs m).stop)) ∧
                            (W'.cell? ⟨bq, oq + n * 5, none⟩ = some (.int .i64 (pt qs n).person) ∧ W'.cell? ⟨bq, oq + n * 5 + 1, none⟩ = some (.int .i64 (pt qs n).place) ∧ W'.cell? ⟨bq, oq + n * 5 + 2, none⟩ = some (.int .i64 (pt qs n).kind) ∧ W'.cell? ⟨bq, oq + n * 5 + 3, none⟩ = some (.int .i64 (pt qs n).start) ∧ W'.cell? ⟨bq, oq + n * 5 + 4, none⟩ = some (.int .i64 (pt qs n).stop)))
                        ((refine HQ.out _ ?_; (repeat (first | exact Below.refl _ _ | with_reducible refine Below.drew ?_ | with_reducible refine Below.alloc ?_ (by simp only [World.heap_size_alloc, World.heap_size_drew, World.heap_size_setCell]; omega) _ | with_reducible refine Below.setCell ?_ (by simp) _ | with_reducible refine Below.alloc ?_ (by simp) _)))) (fail)
                      all_goals (
                        go_wp2_with fail
                        go_meet
                        first
                        | exact ⟨_, _, rfl, rfl, two_boxes w20 _ _ _ _ _ _ _ _ _ _ _⟩
                        | (have h := two_boxes w20 (.int .i64 (pt qs n).person) (.int .i64 (pt qs n).place) (.int .i64 (pt qs n).kind) (.int .i64 (pt qs n).start) (.int .i64 (pt qs n).stop) (.int .i64 (pt qs m).person) (.int .i64 (pt qs m).place) (.int .i64 (pt qs m).kind) (.int .i64 (pt qs m).start) (.int .i64 (pt qs m).stop) 68
                           exact ⟨_, _, rfl, rfl, h.1, h.2.2.2.1, h.2.2.2.2, h.2.1, h.2.2.1⟩))
                    case rest =>
                      obtain ⟨X, Y, rfl, rfl, hbx, x0, x2, y0, y2⟩ := hcut
                      obtain ⟨w21, rfl⟩ : ∃ w21 : World, w21 = wc := ⟨_, rfl⟩
                      have K10 := hid (K9.out.later hbx)
                      have T10 := hid (T9.out.later hbx)
                      have HPA10 := hid (HPA9.out.below hbx)
                      have HB10 := hid (below_trans Hbn.out hbx)
                      have hlm : m < sk.length := by rw [Hlk.out]; exact hml
                      have hln : n < sk.length := by rw [Hlk.out]; exact hnl
                      have cm := (K10.out.i (v := .slice (some ⟨bs, os, none⟩) ws.length cv) (xs := sk) (by simp)).cell hlm
                      have cn := (K10.out.i (v := .slice (some ⟨bs, os, none⟩) ws.length cv) (xs := sk) (by simp)).cell hln
                      obtain ⟨sm, hsm⟩ : ∃ sm, nm sk m = sm := ⟨_, rfl⟩
                      obtain ⟨sn, hsn⟩ : ∃ sn, nm sk n = sn := ⟨_, rfl⟩
                      rw [hsm] at cm
                      rw [hsn] at cn
                      have Hsm := hid hsm
                      have Hsn := hid hsn
                      have hsn0 := Hs0.out n hnl
                      rw [hsn] at hsn0
                      clear K9 T9 HPA9 HQ hbx m0 m1 m2 m3 m4 n0 n1 n2 n3 n4 hsm hsn p3 hPl
                      by_cases hmn : m = n
                      · subst hmn
                        go_upto_region 31 with fail
                        go_quiet (fail)
                        go_wp2_with fail
                        go_roundw
                        case rel => exact ⟨m + 1, by omega, by go_num, below_drewN HB10.out _⟩
                        case measure => simp [intOf] <;> omega
                      · have hmn1 : ¬ ((m : Int) = (n : Int)) := by omega
                        obtain ⟨e1, e2⟩ := ne_bool hmn1
                        by_cases hpr : (pt qs m).person = (pt qs n).person
                        rotate_left
                        · obtain ⟨e3, e4⟩ := ne_bool hpr
                          go_upto_region 31 with fail
                          go_quiet (fail)
                          go_wp2_with fail
                          go_roundw
                          case rel => exact ⟨n + 1, by omega, by go_num, below_drewN HB10.out _⟩
                          case measure => simp [intOf] <;> omega
                        · rw [hpr] at x0
                          have Hpr := hid hpr
                          clear hpr
                          by_cases hst : sn < sm
                          · go_upto_region 31 with fail
                            go_quiet (fail)
                            go_wp2_with fail
                            go_roundw
                            case rel => exact ⟨n + 1, by omega, by go_num, below_drewN HB10.out _⟩
                            case measure => simp [intOf] <;> omega
                          · have hs1 : sm ≤ sn := by omega
                            have hal := aloneE_zero (V.out.parts n hqn)
                            have hkb : 0 ≤ (pt qs n).kind ∧ (pt qs n).kind < 2 := ⟨hal.2.2.1.1, hal.2.2.1.2⟩
                            obtain ⟨kn, hkn⟩ : ∃ kn : Nat, (pt qs n).kind = (kn : Int) := ⟨_, (Int.toNat_of_nonneg hkb.1).symm⟩
                            have hkn2 : kn < 2 := by omega
                            have hdp := dressed_plain V.out rfl hqm hqn hmn (Hqm.out m hml).2.1 (Hqm.out m hml).2.2 (Hqm.out n hnl).2.1 (by rw [Hsm.out, Hsn.out]; exact hs1) Hen.out.1 Hpr.out
                            dsimp only at hdp
                            rw [hkn, Int.toNat_natCast, Hsn.out] at hdp
                            have hdr := HPA10.out.dress
                            obtain ⟨ad, cd, hv2, hdd⟩ := hdr
                            obtain ⟨bd, od, rfl, _, _, _, _, hdc⟩ := hdd (by simp)
                            have hdk := hdc kn hkn2
                            have p2 := T10.out.cell.2.2.1
                            have hv2' : v2 = .slice (some ⟨bd, od, none⟩) 2 cd := hv2
                            rw [hv2'] at p2
                            obtain ⟨dv, hdv⟩ : ∃ dv, nm [r0, r1] kn = dv := ⟨_, rfl⟩
                            rw [hdv] at hdk hdp
                            have hdv0 : 0 ≤ dv ∧ dv ≤ 2 := hdv ▸ dress2 hkn2 hr01 hr02 hr11 hr12
                            rw [hkn] at y2
                            have henb := Hen.out.2
                            have z4 : IntKind.i64.wrap (sn - en) = sn - en := IntWalk.i64_in _ (by omega)
                            have z5 : IntKind.i64.wrap (60 * dv) = 60 * dv := IntWalk.i64_in _ (by omega)
                            have j2 : (kn : Int) < 2 := by omega
                            clear hal hkb hdd hdc hdv hv2 hv2' hcs Hpr
                            by_cases hkd : (pt qs m).kind = (kn : Int)
                            · rw [if_pos hkd] at hdp
                              rw [hkd] at x2
                              clear hkd hkn
                              go_upto_region 31 with fail
                              go_quiet (fail)
                              go_wp2_with fail
                              go_roundw
                              case rel => exact ⟨n + 1, by omega, by go_num, below_drewN HB10.out _⟩
                              case measure => simp [intOf] <;> omega
                            · rw [if_neg hkd] at hdp
                              obtain ⟨e3, e4⟩ := ne_bool hkd
                              clear hkn
                              go_upto_region 31 with fail
                              go_quiet (fail)
                              go_wp2_with fail
                              go_roundw
                              case rel => exact ⟨n + 1, by omega, by go_num, below_drewN HB10.out _⟩
                              case measure => simp [intOf] <;> omega
end Go.Proofs.YtgfipifgijohhaaDoor
