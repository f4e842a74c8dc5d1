/-
  WALKS: StartsOf, PacesOf.
-/
import Derived.Test.YtgfipifgijohhaaDoorKst
namespace Go.Proofs.YtgfipifgijohhaaDoor
open Go.RowKit

theorem OwnInts.base' {b b' : Nat} {w : World} {v : Value} {xs : List Int} (h : OwnInts b w v xs) (hb : b' ≤ b) : OwnInts b' w v xs := by
  obtain ⟨h1, h2⟩ := h
  refine ⟨h1, ?_⟩
  rcases h2 with h2 | ⟨g, cap, cur, e, hg, hh⟩
  · exact .inl h2
  · exact .inr ⟨g, cap, cur, e, by omega, hh⟩

set_option maxHeartbeats 4000000 in
set_option maxRecDepth 100000 in
theorem startsOf_any (d : Nat) (ws : List Wing) (route : Int) (vw : Value) (w : World) (h : Beat d w) (hW : WgAt (some d) w vw ws) (hc : check route ws = 0) (hm : MadeW ws) :
    Calls Tryd.prog 21 #[.pointer (some ⟨d, 0, none⟩), .agg #[.int .i64 route, vw]] w
     fun e w' => ∃ v st, e = .returned v ∧ st.length = ws.length ∧ MadeS ws st ∧ OwnInts w.heap.size w' v st ∧ Beat d w' ∧ w.grownBy w' (some d) := by
  have K0 := hid (DK.start (t := 24) (cs := [.int .i64 route, vw]) h)
  have h8 := (check_zero hc).2.2.2.1
  have hs := hid (Small.of_check hc)
  have hd := h.lt
  have hW2 := hid hW
  obtain ⟨aw, cap, rfl, _⟩ := hW
  clear h hc
  go_enter Tryd.func21, Tryd.ntmps21
  go_wp2
  go_loopw [5, 6] (fun vo i wr => ∃ (st : List Int) (v : Value), st.length ≤ ws.length ∧ vo = v ∧ i = .int .i64 st.length ∧ MadeS ws st ∧ OwnInts (w.heap.size + 1) wr v st ∧ DK d w.heap.size [.int .i64 route, .slice aw ws.length cap] w wr)
    (fun _ i _ => ws.length - (intOf i).toNat)
  case atStart => exact ⟨[], _, by simp, rfl, rfl, MadeS.nil ws, World.ownsRow_nil _ _ _ _, K0.out⟩
  case round =>
    obtain ⟨st, v, hk, rfl, rfl, hms, hown, KK⟩ := hrel
    obtain ⟨a1, c1, rfl⟩ := hown.form
    have q0 := KK.c0
    have q1 := KK.c1
    have K := hid KK
    have O := hid hown
    have hsz := KK.hlt
    have Hms := hid hms
    by_cases hlt : st.length < ws.length
    · have hb := hid hms.bound
      have hl := hms.least hm h8 hk
      clear KK hms hown
      go_wp2_with (first
        | (go_at_call 72; refine (rleastOf_any ws st _ route _ _ _ (K.out.wings hW2.out).any (O.out.at (by simp)) (by omega) hs.out (by rw [Int.toNat_natCast]; exact hk) (by rw [Int.toNat_natCast]; exact Nat.le_refl _) (by rw [Int.toNat_natCast]; intro i hi; have := hb.out i hi; omega)).mono ?_; rw [Int.toNat_natCast]; rintro e w2 ⟨rfl, hb2⟩; have O := hid (O.out.later hb2); have K := hid (K.out.below hb2))
        | (go_at_call 40; refine (roll_any d _ _ K.out.beat (by omega)).mono ?_; rintro e w1 ⟨r, rfl, hr1, hr2, hbt, hgb⟩; have O := hid (own_gb O.out (by omega) hgb); have K := hid (K.out.go hgb hbt); clear hgb hbt)
        | (go_at_call 36; refine (any_any d _ _ _ (K.out.alloc _).beat (ints_three d _ _ _ _ K.out.beat.lt) (by simp) (by simp)).mono ?_; rintro e w4 ⟨j, hj, rfl, bt4, gb4⟩; have O := hid (own_gb (World.ownsRow.alloc O.out _) (by omega) gb4); have K := hid ((K.out.alloc _).go gb4 bt4); clear gb4 bt4; have hyy := (any_three_ex (lo := 0) (hi := 39) (by omega) (by omega) (by omega) hj); obtain ⟨z, hzq, hz⟩ := hyy; rw [hzq]; clear hzq hj; have zw : IntKind.i64.wrap (leastOf ws st st.length + z) = leastOf ws st st.length + z := IntWalk.i64_in _ (by omega))
        | (at_builtin; refine app_int rfl _ _ rfl (w.heap.size + 1) st (leastOf ws st st.length + z) _ O.out rfl rfl (by omega) (by have := K.out.hlt; omega) ?_; intro v5 w5 hown5 _ hg5 _; have K := hid (K.out.own O.out (by omega) hg5); have O := hid hown5))
      go_roundw
      case rel => exact ⟨st ++ [leastOf ws st st.length + z], _, by simp; omega, rfl, by simp, Hms.out.snoc hm h8 hlt (by omega) (by omega), O.out, K.out⟩
      case measure => simp [intOf] <;> omega
    · go_wp2
      go_ret
      exact ⟨_, st, rfl, by omega, Hms.out, OwnInts.base' O.out (by omega), K.out.beat, K.out.gb⟩

/-- true paces that are made of numbers -/
def MadeP (ws : List Wing) (ps : List Int) : Prop := ∀ i, i < ps.length → Lo ws i ≤ nm ps i ∧ nm ps i ≤ Hi ws i
theorem MadeP.snoc {ws : List Wing} {ps : List Int} (h : MadeP ws ps) {z : Int} (h1 : Lo ws ps.length ≤ z) (h2 : z ≤ Hi ws ps.length) : MadeP ws (ps ++ [z]) := by
  intro i hi
  rw [nm_snoc]
  by_cases e : i < ps.length
  · rw [if_pos e]; exact h i e
  · obtain rfl : i = ps.length := by simp at hi; omega
    rw [if_neg e, if_pos rfl]
    exact ⟨h1, h2⟩

set_option maxHeartbeats 4000000 in
set_option maxRecDepth 100000 in
theorem pacesOf_any (d : Nat) (ws : List Wing) (route : Int) (vw : Value) (w : World) (h : Beat d w) (hW : WgAt (some d) w vw ws) (hn : ws.length ≤ 100) (hm : ∀ i, i < ws.length → 0 ≤ Lo ws i ∧ Lo ws i ≤ Hi ws i ∧ Hi ws i ≤ 1000) :
    Calls Tryd.prog 38 #[.pointer (some ⟨d, 0, none⟩), .agg #[.int .i64 route, vw]] w
     fun e w' => ∃ v ps, e = .returned v ∧ ps.length = ws.length ∧ MadeP ws ps ∧ OwnInts w.heap.size w' v ps ∧ Beat d w' ∧ w.grownBy w' (some d) := by
  have K0 := hid (DK.start (t := 24) (cs := [.int .i64 route, vw]) h)
  have hd := h.lt
  obtain ⟨aw, cap, rfl, hh⟩ := hW
  clear h
  go_enter Tryd.func38, Tryd.ntmps38
  go_wp2
  go_loopw [5, 6] (fun vo i wr => ∃ (st : List Int) (v : Value), st.length ≤ ws.length ∧ vo = v ∧ i = .int .i64 st.length ∧ MadeP ws st ∧ OwnInts (w.heap.size + 1) wr v st ∧ DK d w.heap.size [.int .i64 route, .slice aw ws.length cap] w wr)
    (fun _ i _ => ws.length - (intOf i).toNat)
  case atStart => exact ⟨[], _, by simp, rfl, rfl, fun i hi => by simp at hi, World.ownsRow_nil _ _ _ _, K0.out⟩
  case round =>
    obtain ⟨st, v, hk, rfl, rfl, hms, hown, KK⟩ := hrel
    obtain ⟨a1, c1, rfl⟩ := hown.form
    have q0 := KK.c0
    have q1 := KK.c1
    have K := hid KK
    have O := hid hown
    have hsz := KK.hlt
    have Hms := hid hms
    by_cases hlt : st.length < ws.length
    · obtain ⟨b, off, rfl, _, _, hne, hb, hL⟩ := hh (by omega)
      have hc := hL st.length hlt
      have hcm : ∀ o v, w.cell? ⟨b, o, none⟩ = some v → wr.cell? ⟨b, o, none⟩ = some v := fun o v hv => cell_gb KK.gb (fun e => hne (congrArg some e)) hv
      have r2 := hcm _ _ hc.2.2.1
      have r3 := hcm _ _ hc.2.2.2
      have hb1 : 0 ≤ (wg ws st.length).lo ∧ (wg ws st.length).lo ≤ (wg ws st.length).hi ∧ (wg ws st.length).hi ≤ 1000 := hm st.length hlt
      clear KK hms hown hh hL hc hcm
      go_wp2_with (first
        | (go_at_call 85; refine (of_any d _ _ _ K.out.beat (by omega) (by omega) (by omega)).mono ?_; rintro e w1 ⟨z, rfl, hz1, hz2, hbt, hgb⟩; have O := hid (own_gb O.out (by omega) hgb); have K := hid (K.out.go hgb hbt); clear hgb hbt)
        | (at_builtin; refine app_int rfl _ _ rfl (w.heap.size + 1) st z _ O.out rfl rfl (by omega) (by have := K.out.hlt; omega) ?_; intro v5 w5 hown5 _ hg5 _; have K := hid (K.out.own O.out (by omega) hg5); have O := hid hown5))
      go_roundw
      case rel => exact ⟨st ++ [z], _, by simp; omega, rfl, by simp, Hms.out.snoc hz1 hz2, O.out, K.out⟩
      case measure => simp [intOf] <;> omega
    · go_wp2
      go_ret
      exact ⟨_, st, rfl, by omega, Hms.out, OwnInts.base' O.out (by omega), K.out.beat, K.out.gb⟩
end Go.Proofs.YtgfipifgijohhaaDoor
