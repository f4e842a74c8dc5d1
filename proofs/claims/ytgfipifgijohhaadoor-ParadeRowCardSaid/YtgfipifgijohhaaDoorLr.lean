/-
  WALKS: ParadeRow.
-/
import Derived.Test.YtgfipifgijohhaaDoorRwp
namespace Go.Proofs.YtgfipifgijohhaaDoor
open Go.RowKit

set_option maxHeartbeats 4000000 in
set_option maxRecDepth 100000 in
theorem row_any (xs : List Int) (v : Value) (w : World) (hX : IntsAt none w v xs) (hn : xs.length ≤ 9223372036854775807) :
    Calls Tryd.prog 9 #[v] w fun e w' => e = .returned (.bool true) ∧ Below w.heap.size w w' := by
  have HX := hid hX
  obtain ⟨ax, cx, rfl, _⟩ := hX
  go_enter Tryd.func9, Tryd.ntmps9
  go_wp2_with fail
  refine (drumOf_any xs _ w HX.out hn).mono ?_
  rintro e w1 ⟨rfl, hb1, hl1⟩
  have K := hid (LK.start hb1 hl1 (Nat.le_refl _))
  clear hb1 hl1 HX
  go_wp2_with fail
  refine (schoolOf_any _ 6 _ K.out.beat (by decide) (by decide)).mono ?_
  rintro e w2 ⟨route, vw, ws, rfl, hr1, hr2, h0, h6, hm, hown, hbt, hgb⟩
  obtain ⟨bw, ow, cap, rfl, _, _⟩ := (hown.at (d := none) (by simp)).slice h0
  have K := hid (K.out.addWgs (K.out.go hgb hbt) hown)
  clear hgb hbt hown
  have h8 : ws.length ≤ 8 := by omega
  have hc := hid (made_check hm hr1 hr2 h0 h8)
  have K := hid (K.out.box2 (.int .i64 route) (.slice (some ⟨bw, ow, none⟩) ws.length cap) 24)
  have b0 := K.out.c (o := 0) (v := .int .i64 route) (List.Mem.head _)
  have b1 := K.out.c (o := 1) (v := .slice (some ⟨bw, ow, none⟩) ws.length cap) (List.Mem.tail _ (List.Mem.head _))
  by_cases h2 : ws.length < 2
  · go_wp2_with (go_at_call 18; refine (awake_any _).mono ?_; rintro e w10 ⟨rfl, hb10⟩)
    go_ret
    exact ⟨rfl, (K.out.later hb10).below⟩
  · go_wp2_with fail
    refine (startsOf_any _ ws route _ _ K.out.beat (K.out.g (by simp)) hc.out hm).mono ?_
    rintro e w4 ⟨vs, st, rfl, hls, hms, hso, hbt, hgb⟩
    have K := hid (K.out.addInts (K.out.go hgb hbt) hso)
    clear hbt hgb hso
    have hcs := hid (made_starts hc.out hls h8 hms)
    have Hls := hid hls
    obtain ⟨bs, os, cv, rfl, _, _⟩ := (K.out.i (v := vs) (xs := st) (by simp)).slice (by omega)
    clear hls
    have b0 := K.out.c (o := 0) (v := .int .i64 route) (List.Mem.head _)
    have b1 := K.out.c (o := 1) (v := .slice (some ⟨bw, ow, none⟩) ws.length cap) (List.Mem.tail _ (List.Mem.head _))
    go_wp2_with fail
    refine (mid_any _ _ _ _ K.out.beat (by omega) (by omega) (by omega) (by omega)).mono ?_
    rintro e w5 ⟨wi, rfl, hw1, hw2, hbt, hgb⟩
    obtain ⟨m, rfl⟩ : ∃ m : Nat, wi = (m : Int) + 1 := ⟨(wi - 1).toNat, by omega⟩
    have hmw : m + 1 < ws.length := by omega
    have hms1 : m + 1 < st.length := by have := Hls.out; omega
    have K := hid (K.out.go hgb hbt)
    clear hbt hgb
    go_wp2_with fail
    have K := hid K.out.drew
    have hsb := hms.bound (m + 1) hms1
    have i1 : (0 : Int) ≤ (m : Int) + 1 := by omega
    have i2 : (m : Int) + 1 < (st.length : Int) := by omega
    have hlen8 : st.length ≤ 8 := by have := Hls.out; omega
    go_region_held3 (fun w' => w'.cell? ⟨bs, os + (m + 1), none⟩ = some (.int .i64 (nm st (m + 1))))
      (first | exact (K.out.i (v := .slice (some ⟨bs, os, none⟩) st.length cv) (xs := st) (by simp)).cell hms1) (first
      | (go_at_call 40; refine (roll_any _ _ _ K.out.beat (by omega)).mono ?_; rintro e w6 ⟨r, rfl, hr3, hr4, hbt, hgb⟩; have K := hid (K.out.go hgb hbt); clear hgb hbt; have zw : IntKind.i64.wrap (nm st (m + 1) + r) = nm st (m + 1) + r := IntWalk.i64_in _ (by omega)))
    obtain ⟨t, ht⟩ : ∃ t, nm st (m + 1) + r = t := ⟨_, rfl⟩
    rw [ht]
    have ht1 : nm st (m + 1) ≤ t := by omega
    have ht2 : t ≤ 100000 := by omega
    have ht3 : -1000 ≤ t := by omega
    clear zw ht
    have hcast : ((m + 1 : Nat) : Int) = (m : Int) + 1 := by omega
    have A1 : Hid (askedErr route ws st ((m : Int) + 1) t = 0) := hid (by rw [← hcast]; exact asked_fine hcs.out hmw ht1 ht2)
    have W1 : Hid (whereSpan route ws st ((m : Int) + 1) t = (front (Ln ws) (nm st) (Lo ws) (m + 1) t, front (Ln ws) (nm st) (Hi ws) (m + 1) t)) := hid (by rw [← hcast]; exact where_fine (by rw [hcast]; exact A1.out))
    have A0 := hid (asked_fine (second := t) hcs.out (show m < ws.length by omega) (by have := starts_up hcs.out m hms1; omega) ht2)
    have W0 := hid (where_fine A0.out)
    have G1 : Hid (gapErr route ws st ((m : Int) + 1) t = 0 ∧ gapSpan route ws st ((m : Int) + 1) t = (max 0 (gapAt ws st 0 m t), max 0 (gapAt ws st 1 m t))) := hid (by have := gap_fine (route := route) (ws := ws) (st := st) (m := m) (second := t) (by rw [hcast]; exact A1.out); rw [hcast] at this; exact this)
    have R := hid (row_plain hcs.out hmw ht1)
    clear hcast
    have hns : st.length ≤ 1000000 := by omega
    have b0 := K.out.c (b := w2.heap.size) (o := 0) (v := .int .i64 route) (by simp)
    have b1 := K.out.c (b := w2.heap.size) (o := 1) (v := .slice (some ⟨bw, ow, none⟩) ws.length cap) (by simp)
    go_wp2_with fail
    refine (where_any ws st route _ _ _ _ _ (K.out.g (by simp)).any (K.out.i (by simp)).any (by omega) (made_size hm h8) hns).mono ?_
    rintro e w7 ⟨rfl, hb7⟩
    rw [A1.out, W1.out]
    dsimp only
    have K := hid (K.out.later hb7)
    clear hb7
    obtain ⟨X0, hX0⟩ : ∃ x, front (Ln ws) (nm st) (Lo ws) (m + 1) t = x := ⟨_, rfl⟩
    obtain ⟨X1, hX1⟩ : ∃ x, front (Ln ws) (nm st) (Hi ws) (m + 1) t = x := ⟨_, rfl⟩
    obtain ⟨Y0, hY0⟩ : ∃ x, front (Ln ws) (nm st) (Lo ws) m t = x := ⟨_, rfl⟩
    obtain ⟨Y1, hY1⟩ : ∃ x, front (Ln ws) (nm st) (Hi ws) m t = x := ⟨_, rfl⟩
    obtain ⟨Z0, hZ0⟩ : ∃ x, max 0 (gapAt ws st 0 m t) = x := ⟨_, rfl⟩
    obtain ⟨Z1, hZ1⟩ : ∃ x, max 0 (gapAt ws st 1 m t) = x := ⟨_, rfl⟩
    have hz0 : 0 ≤ Z0 := by omega
    have e0 := end_bound (starts_tr hcs.out (show m < ws.length by omega) (e := 0) (.inl rfl)) (t := t) (by omega) (by omega)
    have e1 := end_bound (starts_tr hcs.out (show m < ws.length by omega) (e := 1) (.inr rfl)) (t := t) (by omega) (by omega)
    rw [endOf_0, hY0] at e0
    rw [endOf_1, hY1] at e1
    have R := R.out
    rw [hX0, hX1, hY0, hY1, hZ1] at R
    rw [hY0, hY1] at W0
    rw [hZ0, hZ1] at G1
    rw [hX0, hX1]
    clear hX0 hX1 hY0 hY1 hZ0 hZ1
    have K := hid (K.out.box2 (.int .i64 X0) (.int .i64 X1) 27)
    have b0 := K.out.c (b := w2.heap.size) (o := 0) (v := .int .i64 route) (by simp)
    have b1 := K.out.c (b := w2.heap.size) (o := 1) (v := .slice (some ⟨bw, ow, none⟩) ws.length cap) (by simp)
    go_wp2_with fail
    refine (where_any ws st route _ _ _ _ _ (K.out.g (by simp)).any (K.out.i (by simp)).any (by omega) (made_size hm h8) hns).mono ?_
    rintro e w8 ⟨rfl, hb8⟩
    rw [A0.out, W0.out]
    dsimp only
    have K := hid (K.out.later hb8)
    clear hb8
    have K := hid (K.out.box2 (.int .i64 Y0) (.int .i64 Y1) 27)
    have b0 := K.out.c (b := w2.heap.size) (o := 0) (v := .int .i64 route) (by simp)
    have b1 := K.out.c (b := w2.heap.size) (o := 1) (v := .slice (some ⟨bw, ow, none⟩) ws.length cap) (by simp)
    go_wp2_with fail
    refine (Gap_any ws st route _ _ _ _ _ (K.out.g (by simp)).any (K.out.i (by simp)).any (by omega) (made_size hm h8) hns).mono ?_
    rintro e w9 ⟨rfl, hb9⟩
    rw [G1.out.1, G1.out.2]
    dsimp only
    have K := hid (K.out.later hb9)
    clear hb9
    have K := hid (K.out.box2 (.int .i64 Z0) (.int .i64 Z1) 27)
    have b0 := K.out.c (b := w2.heap.size) (o := 0) (v := .int .i64 route) (by simp)
    have b1 := K.out.c (b := w2.heap.size) (o := 1) (v := .slice (some ⟨bw, ow, none⟩) ws.length cap) (by simp)
    have z0 := K.out.c (o := 0) (v := .int .i64 Z0) (List.Mem.head _)
    have z1 := K.out.c (o := 1) (v := .int .i64 Z1) (List.Mem.tail _ (List.Mem.head _))
    have y0 := K.out.c (b := w8.heap.size) (o := 0) (v := .int .i64 Y0) (by simp)
    have y1 := K.out.c (b := w8.heap.size) (o := 1) (v := .int .i64 Y1) (by simp)
    have x0 := K.out.c (b := w7.heap.size) (o := 0) (v := .int .i64 X0) (by simp)
    have x1 := K.out.c (b := w7.heap.size) (o := 1) (v := .int .i64 X1) (by simp)
    have lc := ((K.out.g (v := .slice (some ⟨bw, ow, none⟩) ws.length cap) (ws := ws) (by simp)).cells (i := m) (by omega)).2.1
    have hlen : 1 ≤ (wg ws m).len ∧ (wg ws m).len ≤ 80 := by have := hm m (by omega); omega
    have R : X0 ≤ Y0 - (wg ws m).len ∧ X1 ≤ Y1 - (wg ws m).len ∧ 0 ≤ X0 ∧ Z1 ≤ Y1 - (wg ws m).len := R
    obtain ⟨q1, q2, q3, q4⟩ := R
    go_wp2_with (go_at_call 18; refine (awake_any _).mono ?_; rintro e w10 ⟨rfl, hb10⟩)
    go_ret
    exact ⟨rfl, (K.out.later hb10).below⟩
end Go.Proofs.YtgfipifgijohhaaDoor
