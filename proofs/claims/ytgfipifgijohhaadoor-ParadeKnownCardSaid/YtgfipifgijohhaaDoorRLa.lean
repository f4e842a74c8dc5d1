/-
  WALKS: the reference's CheckRules, verdict, lasts, spans, Lasts.
-/
import Derived.Test.YtgfipifgijohhaaDoorLtp
namespace Go.Proofs.YtgfipifgijohhaaDoor
open Go.RowKit

/-- what stays while a function without a drum runs -/
structure HK (cs : Cells) (w0 w : World) : Prop where
  below : Below w0.heap.size w0 w
  cell : ∀ b o v, (b, o, v) ∈ cs → w0.heap.size ≤ b ∧ w.cell? ⟨b, o, none⟩ = some v ∧ w.frozen? ⟨b, o, none⟩ = false

variable {cs : Cells} {w0 w w' : World}

theorem HK.start (w : World) : HK [] w w := ⟨Below.refl _ _, fun _ _ _ h => by cases h⟩
theorem HK.c (k : HK cs w0 w) {b o : Nat} {v : Value} (h : (b, o, v) ∈ cs) : w.cell? ⟨b, o, none⟩ = some v := (k.cell b o v h).2.1
theorem HK.f (k : HK cs w0 w) {b o : Nat} {v : Value} (h : (b, o, v) ∈ cs) : w.frozen? ⟨b, o, none⟩ = false := (k.cell b o v h).2.2
theorem HK.clt (k : HK cs w0 w) {b o : Nat} {v : Value} (h : (b, o, v) ∈ cs) : b < w.heap.size := World.block_lt_of_cell? w ⟨b, o, none⟩ (k.c h)
theorem HK.later (k : HK cs w0 w) (hb : Below w.heap.size w w') : HK cs w0 w' :=
  ⟨k.below.trans (hb.mono k.below.size), fun b o v h => ⟨(k.cell b o v h).1, cell_back hb (k.clt h) (k.c h), (hb.frozen (p := ⟨b, o, none⟩) (k.clt h)).trans (k.f h)⟩⟩
theorem HK.alloc (k : HK cs w0 w) (X : Obj) : HK cs w0 (w.alloc X) := k.later (below_alloc w X)
theorem HK.drew (k : HK cs w0 w) : HK cs w0 w.drew := k.later (Below.refl _ w).drew
theorem HK.drewN (k : HK cs w0 w) (n : Nat) : HK cs w0 (w.drewN n) := k.later (below_drewN (Below.refl _ w) n)
theorem HK.add (k : HK cs w0 w) {b o : Nat} {v : Value} (hb : w0.heap.size ≤ b) (hc : w.cell? ⟨b, o, none⟩ = some v) (hf : w.frozen? ⟨b, o, none⟩ = false) : HK ((b, o, v) :: cs) w0 w :=
  ⟨k.below, fun b' o' v' h => by
    rcases List.mem_cons.1 h with h | h
    · cases h; exact ⟨hb, hc, hf⟩
    · exact k.cell b' o' v' h⟩
theorem HK.box2 (k : HK cs w0 w) (x y : Value) (t : TypeId) : HK ((w.heap.size, 0, x) :: (w.heap.size, 1, y) :: cs) w0 (w.alloc (.cells #[x, y] t)) :=
  ((k.alloc _).add k.below.size (cell_at rfl rfl) (frozen_at rfl)).add k.below.size (cell_at rfl rfl) (frozen_at rfl)
theorem HK.box3 (k : HK cs w0 w) (x y z : Value) (t : TypeId) : HK ((w.heap.size, 0, x) :: (w.heap.size, 1, y) :: (w.heap.size, 2, z) :: cs) w0 (w.alloc (.cells #[x, y, z] t)) :=
  (((k.alloc _).add k.below.size (cell_at rfl rfl) (frozen_at rfl)).add k.below.size (cell_at rfl rfl) (frozen_at rfl)).add k.below.size (cell_at rfl rfl) (frozen_at rfl)
theorem HK.name (k : HK cs w0 w) : ∃ w', w = w' ∧ HK cs w0 w' := ⟨w, rfl, k⟩

set_option maxHeartbeats 1000000 in
set_option maxRecDepth 100000 in
theorem rrules_any (a b c : Int) (w : World) :
    Calls Tryd.prog 80 #[.agg #[.int .i64 a, .int .i64 b, .int .i64 c]] w
     fun e w' => e = .returned (.int .i64 (rulesErr a b c)) ∧ Below w.heap.size w w' := by
  have kb : Hid (Below w.heap.size w (w.alloc (.cells #[.int .i64 a, .int .i64 b, .int .i64 c] 50))) := hid (below_alloc _ _)
  cases h1 : inB a 0 100000 with
  | false =>
    go_enter Tryd.func80, Tryd.ntmps80
    go_wp2_with (go_at_call 78; refine (within_any _ _ _ _).mono ?_; rintro e w' ⟨rfl, rfl⟩)
    go_ret
    exact ⟨ret_int (by unfold rulesErr; rw [if_pos h1]), kb.out⟩
  | true =>
    cases h2 : inB b 0 100000 with
    | false =>
      go_enter Tryd.func80, Tryd.ntmps80
      go_wp2_with (go_at_call 78; refine (within_any _ _ _ _).mono ?_; rintro e w' ⟨rfl, rfl⟩)
      go_ret
      exact ⟨ret_int (by unfold rulesErr; rw [if_neg (by simp [h1]), if_pos h2]), kb.out⟩
    | true =>
      cases h3 : inB c 0 20000 with
      | false =>
        go_enter Tryd.func80, Tryd.ntmps80
        go_wp2_with (go_at_call 78; refine (within_any _ _ _ _).mono ?_; rintro e w' ⟨rfl, rfl⟩)
        go_ret
        exact ⟨ret_int (by unfold rulesErr; rw [if_neg (by simp [h1]), if_neg (by simp [h2]), if_pos h3]), kb.out⟩
      | true =>
        by_cases h4 : b < a
        · go_enter Tryd.func80, Tryd.ntmps80
          go_wp2_with (go_at_call 78; refine (within_any _ _ _ _).mono ?_; rintro e w' ⟨rfl, rfl⟩)
          go_ret
          exact ⟨ret_int (by unfold rulesErr; rw [if_neg (by simp [h1]), if_neg (by simp [h2]), if_neg (by simp [h3]), if_pos h4]), kb.out⟩
        · go_enter Tryd.func80, Tryd.ntmps80
          go_wp2_with (go_at_call 78; refine (within_any _ _ _ _).mono ?_; rintro e w' ⟨rfl, rfl⟩)
          go_ret
          exact ⟨ret_int (by unfold rulesErr; rw [if_neg (by simp [h1]), if_neg (by simp [h2]), if_neg (by simp [h3]), if_neg (by omega)]), kb.out⟩

set_option maxHeartbeats 1000000 in
set_option maxRecDepth 100000 in
theorem rverdict_any (a b c lo hi : Int) (w : World) :
    Calls Tryd.prog 82 #[.agg #[.int .i64 a, .int .i64 b, .int .i64 c], .agg #[.int .i64 lo, .int .i64 hi]] w
     fun e w' => e = .returned (.int .i64 (verdictOf a b lo hi)) ∧ Below w.heap.size w w' := by
  have K := hid ((HK.start w).box3 (.int .i64 a) (.int .i64 b) (.int .i64 c) 50)
  have K := hid (K.out.box2 (.int .i64 lo) (.int .i64 hi) 27)
  by_cases h1 : a ≤ lo
  · by_cases h2 : hi ≤ b
    · go_enter Tryd.func82, Tryd.ntmps82
      go_wp2
      go_ret
      exact ⟨ret_int (by unfold verdictOf; rw [if_pos ⟨h1, h2⟩]), K.out.below⟩
    · by_cases h3 : hi < a
      · go_enter Tryd.func82, Tryd.ntmps82
        go_wp2
        go_ret
        exact ⟨ret_int (by unfold verdictOf; rw [if_neg (by omega), if_pos (by omega)]), K.out.below⟩
      · by_cases h4 : b < lo
        · go_enter Tryd.func82, Tryd.ntmps82
          go_wp2
          go_ret
          exact ⟨ret_int (by unfold verdictOf; rw [if_neg (by omega), if_pos (by omega)]), K.out.below⟩
        · go_enter Tryd.func82, Tryd.ntmps82
          go_wp2
          go_ret
          exact ⟨ret_int (by unfold verdictOf; rw [if_neg (by omega), if_neg (by omega)]), K.out.below⟩
  · by_cases h3 : hi < a
    · go_enter Tryd.func82, Tryd.ntmps82
      go_wp2
      go_ret
      exact ⟨ret_int (by unfold verdictOf; rw [if_neg (by omega), if_pos (by omega)]), K.out.below⟩
    · by_cases h4 : b < lo
      · go_enter Tryd.func82, Tryd.ntmps82
        go_wp2
        go_ret
        exact ⟨ret_int (by unfold verdictOf; rw [if_neg (by omega), if_pos (by omega)]), K.out.below⟩
      · go_enter Tryd.func82, Tryd.ntmps82
        go_wp2
        go_ret
        exact ⟨ret_int (by unfold verdictOf; rw [if_neg (by omega), if_neg (by omega)]), K.out.below⟩

set_option maxHeartbeats 2000000 in
set_option maxRecDepth 100000 in
theorem rlasts1_any (ws : List Wing) (st ps : List Int) (route : Int) (vw vs vp : Value) (w : World) (hW : WgAt none w vw ws) (hS : IntsAt none w vs st) (hP : IntsAt none w vp ps)
    (hs : Sane ws st ps (ws.length - 1)) (hr : 0 ≤ route) (hr2 : route ≤ 100000) :
    Calls Tryd.prog 121 #[.agg #[.int .i64 route, vw], vs, vp] w
     fun e w' => e = .returned (.int .i64 (longOf route ws st (nm ps))) ∧ Below w.heap.size w w' := by
  have hW2 := hid hW
  have hS2 := hid hS
  have hP2 := hid hP
  have hkw := hs.kw
  have hks := hs.ks
  have hn := hs.n
  obtain ⟨bw, ow, cap, rfl, _, _⟩ := hW.slice (by omega)
  obtain ⟨bs, os, caps, rfl, _, _⟩ := hS.slice (by omega)
  have Lc := hid (hW.cells hkw).2.1
  have Sc := hS.cell (i := 0) (by omega)
  rw [Nat.add_zero] at Sc
  have Sc := hid Sc
  have hbw : bw < w.heap.size := World.block_lt_of_cell? w ⟨bw, _, none⟩ Lc.out
  have hbs : bs < w.heap.size := World.block_lt_of_cell? w ⟨bs, _, none⟩ Sc.out
  have hL : ∀ i, i ≤ ws.length - 1 → 0 ≤ Ln ws i ∧ Ln ws i ≤ 100000 := fun i hi => hs.len i (by omega)
  have hlast := hL (ws.length - 1) (by omega)
  have hPs : ∀ i, i ≤ ws.length - 1 → 0 < nm ps i := fun i hi => by have := hs.pace i hi; omega
  have b1 := passed_high (L := Ln ws) (S := nm st) hPs (fun i hi => hL i (by omega)) (fun i hi => (hs.start i hi).2) (x := route + Ln ws (ws.length - 1)) (by omega)
  have b4 := passed_ge_start (L := Ln ws) (S := nm st) hPs (fun i hi => (hL i (by omega)).1) (x := route + Ln ws (ws.length - 1)) (by omega) (ws.length - 1) (Nat.le_refl _)
  have b3 := hs.start (ws.length - 1) (by omega)
  have hst := hs.start 0 (by omega)
  have hpos : 0 < st.length := by omega
  have hpos2 : ¬ st.length = 0 := by omega
  have hpos3 : (0 : Int) < (st.length : Int) := by omega
  obtain ⟨n, hne⟩ : ∃ n, ws.length - 1 = n := ⟨_, rfl⟩
  rw [hne] at b1 b4 b3 hlast
  have hlast : 0 ≤ (wg ws n).len ∧ (wg ws n).len ≤ 100000 := hlast
  have e1 : (ws.length : Int) - 1 = (n : Int) := by omega
  have i3 : (n : Int) < (ws.length : Int) := by omega
  have Lc : Hid (w.cell? ⟨bw, ow + n * 4 + 1, none⟩ = some (.int .i64 (wg ws n).len)) := hid (by rw [← hne]; exact Lc.out)
  have z5 : IntKind.i64.wrap (route + (wg ws n).len) = route + (wg ws n).len := IntWalk.i64_in _ (by omega)
  obtain ⟨P, hPe⟩ : ∃ P, passed (Ln ws) (nm st) (nm ps) n (route + (wg ws n).len) = P := ⟨_, rfl⟩
  have b1 : P ≤ 1000000 + (route + (wg ws n).len) + 100000 * (n : Int) := by rw [← hPe]; exact b1
  have b4 : nm st n ≤ P := by rw [← hPe]; exact b4
  have hlong : longOf route ws st (nm ps) = P - nm st 0 := by rw [← hPe]; unfold longOf; rw [hne]; rfl
  have z1 : IntKind.i64.wrap (P - nm st 0) = P - nm st 0 := IntWalk.i64_in _ (by omega)
  rw [hlong]
  have hcl : ∀ vw' W', WgAt none W' vw' ws → IntsAt none W' (.slice (some ⟨bs, os, none⟩) st.length caps) st → IntsAt none W' vp ps → Calls Tryd.prog 44 #[.agg #[.int .i64 route, vw'], .slice (some ⟨bs, os, none⟩) st.length caps, vp, .int .i64 (n : Int), .int .i64 (route + (wg ws n).len)] W'
     fun e' w' => e' = .returned (.int .i64 P) ∧ Below W'.heap.size W' w' := fun vw' W' h1 h2 h3 => by
    have h := passed_any ws st ps (n : Int) (route + (wg ws n).len) route vw' _ vp none W' h1 h2 h3 (by omega) (by rw [Int.toNat_natCast, ← hne]; exact hs) (by omega) (by omega)
    rw [Int.toNat_natCast, hPe] at h
    exact h
  have Hcl := hid hcl
  have K := hid ((HK.start w).box2 (.int .i64 route) (.slice (some ⟨bw, ow, none⟩) ws.length cap) 24).drew
  clear hcl hPe hne hlong hW hS hP hs hL hPs
  go_enter Tryd.func121, Tryd.ntmps121
  go_wp2
  go_region_held3 (fun w' => w'.cell? ⟨w.heap.size, 0, none⟩ = some (.int .i64 route) ∧ w'.cell? ⟨w.heap.size, 1, none⟩ = some (.slice (some ⟨bw, ow, none⟩) ws.length cap) ∧ w'.cell? ⟨bw, ow + n * 4 + 1, none⟩ = some (.int .i64 (wg ws n).len) ∧ w'.cell? ⟨bs, os, none⟩ = some (.int .i64 (nm st 0)))
    (first | exact ⟨K.out.c (by simp), K.out.c (by simp), cell_back K.out.below hbw Lc.out, cell_back K.out.below hbs Sc.out⟩) (first
    | (go_at_call 44; refine (Hcl.out _ _ (hW2.out.below K.out.below) (hS2.out.below K.out.below) (hP2.out.below K.out.below)).mono ?_; rintro e w1 ⟨rfl, hb1⟩; have K := hid (K.out.later hb1)))
  go_wp2
  go_ret
  exact ⟨rfl, K.out.below⟩
end Go.Proofs.YtgfipifgijohhaaDoor
