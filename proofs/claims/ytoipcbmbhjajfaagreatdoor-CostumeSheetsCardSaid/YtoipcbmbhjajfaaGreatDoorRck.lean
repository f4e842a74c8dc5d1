/-
  WALKS: the reference's look at a plot: Check and what it calls.
-/
import Derived.Test.YtoipcbmbhjajfaaGreatDoorCwc
namespace Go.Proofs.YtoipcbmbhjajfaaGreatDoor
open Go.RowKit

set_option maxHeartbeats 400000 in
theorem rwithin_any (n lo hi : Int) (w : World) :
    Calls Tryz.prog 74 #[.int .i64 n, .int .i64 lo, .int .i64 hi] w fun e w' => e = .returned (.bool (inB n lo hi)) ∧ w = w' := by
  go_enter Tryz.func74, Tryz.ntmps74
  go_wp2
  · go_ret
    exact ⟨ret_bool (by unfold inB; simp [*]), rfl⟩
  · go_ret
    exact ⟨ret_bool (by unfold inB; simp; omega), rfl⟩

set_option maxHeartbeats 1000000 in
theorem rsize_any (a b : Int) (w : World) :
    Calls Tryz.prog 73 #[.agg #[.int .i64 a, .int .i64 b]] w fun e w' => e = .returned (.int .i64 (figE (a, b))) ∧ Below w.heap.size w w' := by
  have hb := hid (below_alloc w (.cells #[.int .i64 a, .int .i64 b] 58))
  cases h1 : inB a 1 300 with
  | false =>
    go_enter Tryz.func73, Tryz.ntmps73
    go_wp2_with (go_at_call 74; refine (rwithin_any _ _ _ _).mono ?_; rintro e w' ⟨rfl, rfl⟩)
    go_ret
    exact ⟨ret_int (by unfold figE; rw [if_pos h1]), hb.out⟩
  | true =>
    cases h2 : inB b 1 300 with
    | false =>
      go_enter Tryz.func73, Tryz.ntmps73
      go_wp2_with (go_at_call 74; refine (rwithin_any _ _ _ _).mono ?_; rintro e w' ⟨rfl, rfl⟩)
      go_ret
      exact ⟨ret_int (by unfold figE; rw [if_neg (by simp [h1]), if_pos h2]), hb.out⟩
    | true =>
      by_cases h3 : b < a
      · go_enter Tryz.func73, Tryz.ntmps73
        go_wp2_with (go_at_call 74; refine (rwithin_any _ _ _ _).mono ?_; rintro e w' ⟨rfl, rfl⟩)
        go_ret
        exact ⟨ret_int (by unfold figE; rw [if_neg (by simp [h1]), if_neg (by simp [h2]), if_pos h3]), hb.out⟩
      · go_enter Tryz.func73, Tryz.ntmps73
        go_wp2_with (go_at_call 74; refine (rwithin_any _ _ _ _).mono ?_; rintro e w' ⟨rfl, rfl⟩)
        go_ret
        exact ⟨ret_int (by unfold figE; rw [if_neg (by simp [h1]), if_neg (by simp [h2]), if_neg (show ¬ b < a from by omega)]), hb.out⟩

set_option maxHeartbeats 1000000 in
theorem rcount_any (n m : Nat) (w : World) :
    Calls Tryz.prog 72 #[.int .i64 n, .int .i64 m] w fun e w' => e = .returned (.int .i64 (countE n m)) ∧ w = w' := by
  by_cases h1 : n = 0
  · obtain ⟨d1, d2⟩ := eq_bool (a := (n : Int)) (b := 0) (by omega)
    go_enter Tryz.func72, Tryz.ntmps72
    go_wp2
    go_ret
    exact ⟨ret_int (by unfold countE; rw [if_pos h1]), rfl⟩
  · obtain ⟨d1, d2⟩ := ne_bool (a := (n : Int)) (b := 0) (by omega)
    by_cases h2 : m < n
    · have h2' : (m : Int) < (n : Int) := by omega
      go_enter Tryz.func72, Tryz.ntmps72
      go_wp2
      go_ret
      exact ⟨ret_int (by unfold countE; rw [if_neg h1, if_pos h2]), rfl⟩
    · have h2' : ¬ (m : Int) < (n : Int) := by omega
      go_enter Tryz.func72, Tryz.ntmps72
      go_wp2
      go_ret
      exact ⟨ret_int (by unfold countE; rw [if_neg h1, if_neg h2]), rfl⟩

set_option linter.unusedSimpArgs false in
set_option maxHeartbeats 4000000 in
set_option maxRecDepth 100000 in
theorem rpart_any (p : Plot) (x : Part) (vp vw vd vq : Value) (w : World) (h : PlotAt none w vp vw vd vq p) (hl1 : p.persons.length ≤ 100) (hl2 : p.walk.length ≤ 100) (hl3 : p.dress.length ≤ 100) :
    Calls Tryz.prog 51 #[plotV vp vw vd vq, partV x] w fun e w' => e = .returned (.int .i64 (aloneE p x)) ∧ Below w.heap.size w w' := by
  obtain ⟨ap, cp, rfl⟩ := h.persons.form
  obtain ⟨aw, cw, rfl⟩ := h.walk.form
  obtain ⟨ad, cd, rfl, _⟩ := h.dress
  clear h
  have zl1 : IntKind.i64.wrap ((p.persons.length : Int) - 1) = (p.persons.length : Int) - 1 := IntWalk.i64_in _ (by omega)
  have zl2 : IntKind.i64.wrap ((p.walk.length : Int) - 1) = (p.walk.length : Int) - 1 := IntWalk.i64_in _ (by omega)
  have zl3 : IntKind.i64.wrap ((p.dress.length : Int) - 1) = (p.dress.length : Int) - 1 := IntWalk.i64_in _ (by omega)
  have K := hid (((HK.start w).box4m (n := w.heap.size) rfl (.slice ap p.persons.length cp) (.slice aw p.walk.length cw) (.slice ad p.dress.length cd) vq 27).box5 (n := w.heap.size + 1) (by simp) (.int .i64 x.person) (.int .i64 x.place) (.int .i64 x.kind) (.int .i64 x.start) (.int .i64 x.stop) 60)
  cases q0 : inB x.person 0 ((p.persons.length : Int) - 1) with
  | false =>
    have ha : aloneE p x = 7 := by unfold aloneE; rw [if_pos q0]
    rw [ha]
    clear ha
    go_enter Tryz.func51, Tryz.ntmps51
    go_wp2_with (go_at_call 74; refine (rwithin_any _ _ _ _).mono ?_; rintro e w' ⟨rfl, rfl⟩)
    go_ret
    exact ⟨rfl, K.out.below⟩
  | true =>
    cases q1 : inB x.place 0 ((p.walk.length : Int) - 1) with
    | false =>
      have ha : aloneE p x = 7 := by unfold aloneE; rw [if_neg (by simp [q0]), if_pos q1]
      rw [ha]
      clear ha
      go_enter Tryz.func51, Tryz.ntmps51
      go_wp2_with (go_at_call 74; refine (rwithin_any _ _ _ _).mono ?_; rintro e w' ⟨rfl, rfl⟩)
      go_ret
      exact ⟨rfl, K.out.below⟩
    | true =>
      cases q2 : inB x.kind 0 ((p.dress.length : Int) - 1) with
      | false =>
        have ha : aloneE p x = 7 := by unfold aloneE; rw [if_neg (by simp [q0]), if_neg (by simp [q1]), if_pos q2]
        rw [ha]
        clear ha
        go_enter Tryz.func51, Tryz.ntmps51
        go_wp2_with (go_at_call 74; refine (rwithin_any _ _ _ _).mono ?_; rintro e w' ⟨rfl, rfl⟩)
        go_ret
        exact ⟨rfl, K.out.below⟩
      | true =>
        cases q3 : inB x.start 0 1440 with
        | false =>
          have ha : aloneE p x = 2 := by unfold aloneE; rw [if_neg (by simp [q0]), if_neg (by simp [q1]), if_neg (by simp [q2]), if_pos q3]
          rw [ha]
          clear ha
          go_enter Tryz.func51, Tryz.ntmps51
          go_wp2_with (go_at_call 74; refine (rwithin_any _ _ _ _).mono ?_; rintro e w' ⟨rfl, rfl⟩)
          go_ret
          exact ⟨rfl, K.out.below⟩
        | true =>
          cases q4 : inB x.stop 0 1440 with
          | false =>
            have ha : aloneE p x = 2 := by unfold aloneE; rw [if_neg (by simp [q0]), if_neg (by simp [q1]), if_neg (by simp [q2]), if_neg (by simp [q3]), if_pos q4]
            rw [ha]
            clear ha
            go_enter Tryz.func51, Tryz.ntmps51
            go_wp2_with (go_at_call 74; refine (rwithin_any _ _ _ _).mono ?_; rintro e w' ⟨rfl, rfl⟩)
            go_ret
            exact ⟨rfl, K.out.below⟩
          | true =>
            by_cases q5 : x.stop ≤ x.start
            · have ha : aloneE p x = 9 := by unfold aloneE; rw [if_neg (by simp [q0]), if_neg (by simp [q1]), if_neg (by simp [q2]), if_neg (by simp [q3]), if_neg (by simp [q4]), if_pos q5]
              rw [ha]
              clear ha
              go_enter Tryz.func51, Tryz.ntmps51
              go_wp2_with (go_at_call 74; refine (rwithin_any _ _ _ _).mono ?_; rintro e w' ⟨rfl, rfl⟩)
              go_ret
              exact ⟨rfl, K.out.below⟩
            · have ha : aloneE p x = 0 := by unfold aloneE; rw [if_neg (by simp [q0]), if_neg (by simp [q1]), if_neg (by simp [q2]), if_neg (by simp [q3]), if_neg (by simp [q4]), if_neg q5]
              rw [ha]
              clear ha
              go_enter Tryz.func51, Tryz.ntmps51
              go_wp2_with (go_at_call 74; refine (rwithin_any _ _ _ _).mono ?_; rintro e w' ⟨rfl, rfl⟩)
              go_ret
              exact ⟨rfl, K.out.below⟩

set_option maxHeartbeats 1000000 in
set_option maxRecDepth 100000 in
theorem rordered_any (y x : Part) (w : World) :
    Calls Tryz.prog 75 #[partV y, partV x] w fun e w' => e = .returned (.tuple #[partV (inTime y x).1, partV (inTime y x).2]) ∧ Below w.heap.size w w' := by
  by_cases h : x.start < y.start
  · have e : inTime y x = (x, y) := by unfold inTime; rw [if_pos h]
    rw [e]
    go_enter Tryz.func75, Tryz.ntmps75
    go_wp2_with fail
    go_region
    all_goals (
      go_wp2
      refine bodyPost_ret (v := .tuple #[partV x, partV y]) (by simp [results, Tryz.results75, go_sem]) rfl ⟨rfl, ?_⟩
      exact ((((below_alloc w _).alloc (by simp) _).alloc (by simp; omega) _).alloc (by simp; omega) _).drew)
  · have e : inTime y x = (y, x) := by unfold inTime; rw [if_neg h]
    rw [e]
    go_enter Tryz.func75, Tryz.ntmps75
    go_wp2_with fail
    go_region
    all_goals (
      go_wp2
      refine bodyPost_ret (v := .tuple #[partV y, partV x]) (by simp [results, Tryz.results75, go_sem]) rfl ⟨rfl, ?_⟩
      exact ((((below_alloc w _).alloc (by simp) _).alloc (by simp; omega) _).alloc (by simp; omega) _).drew)


def checkTwoE (p : Plot) (y x : Part) : Int := if betweenP y x < 0 then 10 else if betweenP y x < wayP p y x (decide (y.kind ≠ x.kind)) then 12 else 0

set_option maxHeartbeats 4000000 in
set_option maxRecDepth 100000 in
theorem rtwo_any (p : Plot) (y x : Part) (vp vw vd vq : Value) (w : World) (h : PlotAt none w vp vw vd vq p) (hs : Square p) (hy : Placed p y) (hx : Placed p x) (hty : Timed y) (htx : Timed x) :
    Calls Tryz.prog 52 #[plotV vp vw vd vq, partV y, partV x] w fun e w' => e = .returned (.int .i64 (checkTwoE p y x)) ∧ Below w.heap.size w w' := by
  have hT := placed_inTime hy hx
  have hTm := timed_inTime hty htx
  have HT := hid (fun W => rordered_any y x W)
  have hkk : (decide (y.kind ≠ x.kind)) = decide ((inTime y x).1.kind ≠ (inTime y x).2.kind) := by
    unfold inTime
    split
    · by_cases e : y.kind = x.kind
      · simp [e]
      · simp [e, Ne.symm e]
    · rfl
  have e0 : checkTwoE p y x = if (inTime y x).2.start - (inTime y x).1.stop < 0 then 10 else if (inTime y x).2.start - (inTime y x).1.stop < nm (lst p.walk (inTime y x).1.place.toNat) (inTime y x).2.place.toNat + (if decide ((inTime y x).1.kind ≠ (inTime y x).2.kind) = true then nm p.dress (inTime y x).2.kind.toNat else 0) then 12 else 0 := by
    unfold checkTwoE betweenP wayP
    rw [hkk]
  rw [e0]
  clear hkk e0
  obtain ⟨⟨a1, a2, a3, a4, a5⟩, ⟨b1, b2, b3, b4, b5⟩, hAB⟩ : ∃ A B, inTime y x = (A, B) := ⟨_, _, rfl⟩
  rw [hAB] at HT hT hTm ⊢
  dsimp only at hT HT hTm ⊢
  obtain ⟨⟨⟨q1, q2⟩, q3, q4⟩, ⟨r1, r2⟩, r3, r4⟩ := hT
  obtain ⟨⟨t1, t2, t3, t4⟩, t5, t6, t7, t8⟩ := hTm
  dsimp only at q1 q2 q3 q4 r1 r2 r3 r4 t1 t2 t3 t4 t5 t6 t7 t8
  obtain ⟨m, rfl⟩ : ∃ m : Nat, a2 = m := ⟨a2.toNat, by omega⟩
  obtain ⟨n, rfl⟩ : ∃ n : Nat, b2 = n := ⟨b2.toNat, by omega⟩
  obtain ⟨q, rfl⟩ : ∃ q : Nat, b3 = q := ⟨b3.toNat, by omega⟩
  simp only [Int.toNat_natCast]
  have hm : m < p.walk.length := by omega
  have hn : n < p.walk.length := by omega
  have hq : q < p.dress.length := by omega
  obtain ⟨aw, cw, rfl⟩ := h.walk.form
  obtain ⟨bw, ow, u, rfl, hbw, cu, hu⟩ := h.walk.row hm
  obtain ⟨hrl, hrb⟩ := hs.row m hm
  obtain ⟨br, or', cr, rfl, _, _⟩ := hu.slice (by omega)
  have cn := hu.cell (i := n) (by omega)
  obtain ⟨bd, od, cd, rfl, _, _⟩ := h.dress.slice (by omega)
  have cq := h.dress.cell hq
  have hbr := World.block_lt_of_cell? w ⟨br, or' + n, none⟩ cn
  have hbd := World.block_lt_of_cell? w ⟨bd, od + q, none⟩ cq
  have hN := hrb n hn
  have hQ := hs.dress q hq
  obtain ⟨N, hNe⟩ : ∃ N, nm (lst p.walk m) n = N := ⟨_, rfl⟩
  obtain ⟨D, hDe⟩ : ∃ D, nm p.dress q = D := ⟨_, rfl⟩
  rw [hNe] at cn hN ⊢
  rw [hDe] at cq hQ ⊢
  obtain ⟨rz, hrz⟩ : ∃ rz : Int, (if b4 - a5 < 0 then 10 else if b4 - a5 < N + (if decide (a3 ≠ (q : Int)) = true then D else 0) then 12 else 0) = rz := ⟨_, rfl⟩
  rw [hrz]
  have HR := hid hrz
  clear hrz
  rw [hrl] at cu
  have z1 : IntKind.i64.wrap (N + D) = N + D := IntWalk.i64_in _ (by omega)
  have CU := hid (show ∀ W', Below w.heap.size w W' → W'.cell? ⟨bw, ow + m, none⟩ = some (.slice (some ⟨br, or', none⟩) p.walk.length cr) ∧ W'.cell? ⟨br, or' + n, none⟩ = some (.int .i64 N) ∧ W'.cell? ⟨bd, od + q, none⟩ = some (.int .i64 D) from fun W' hb => ⟨cell_back hb hbw cu, cell_back hb hbr cn, cell_back hb hbd cq⟩)
  have i1 : (m : Int) < (p.walk.length : Int) := by omega
  have i2 : (n : Int) < (p.walk.length : Int) := by omega
  have i3 : (q : Int) < (p.dress.length : Int) := by omega
  clear hAB h hs hy hx hty htx hu hrl hrb cu cn cq hNe hDe q1 q2 q3 q4 r1 r2 r3 r4
  have K := hid ((((HK.start w).box4m (n := w.heap.size) rfl vp (.slice (some ⟨bw, ow, none⟩) p.walk.length cw) (.slice (some ⟨bd, od, none⟩) p.dress.length cd) vq 27).box5 (n := w.heap.size + 1) (by simp) (.int .i64 y.person) (.int .i64 y.place) (.int .i64 y.kind) (.int .i64 y.start) (.int .i64 y.stop) 60).box5 (n := w.heap.size + 1 + 1) (by simp) (.int .i64 x.person) (.int .i64 x.place) (.int .i64 x.kind) (.int .i64 x.start) (.int .i64 x.stop) 60)
  go_enter Tryz.func52, Tryz.ntmps52
  go_upto_region 2 with (go_at_call 75; refine (HT.out _).mono ?_; rintro e w1 ⟨rfl, hb1⟩; have K := hid (K.out.later hb1); clear hb1; have c0 := K.out.c (b := w.heap.size + 1) (o := 0) (v := .int .i64 y.person) (by simp); have cf0 := K.out.f (b := w.heap.size + 1) (o := 0) (v := .int .i64 y.person) (by simp); have c1 := K.out.c (b := w.heap.size + 1) (o := 1) (v := .int .i64 y.place) (by simp); have cf1 := K.out.f (b := w.heap.size + 1) (o := 1) (v := .int .i64 y.place) (by simp); have c2 := K.out.c (b := w.heap.size + 1) (o := 2) (v := .int .i64 y.kind) (by simp); have cf2 := K.out.f (b := w.heap.size + 1) (o := 2) (v := .int .i64 y.kind) (by simp); have c3 := K.out.c (b := w.heap.size + 1) (o := 3) (v := .int .i64 y.start) (by simp); have cf3 := K.out.f (b := w.heap.size + 1) (o := 3) (v := .int .i64 y.start) (by simp); have c4 := K.out.c (b := w.heap.size + 1) (o := 4) (v := .int .i64 y.stop) (by simp); have cf4 := K.out.f (b := w.heap.size + 1) (o := 4) (v := .int .i64 y.stop) (by simp); have c5 := K.out.c (b := w.heap.size + 1 + 1) (o := 0) (v := .int .i64 x.person) (by simp); have cf5 := K.out.f (b := w.heap.size + 1 + 1) (o := 0) (v := .int .i64 x.person) (by simp); have c6 := K.out.c (b := w.heap.size + 1 + 1) (o := 1) (v := .int .i64 x.place) (by simp); have cf6 := K.out.f (b := w.heap.size + 1 + 1) (o := 1) (v := .int .i64 x.place) (by simp); have c7 := K.out.c (b := w.heap.size + 1 + 1) (o := 2) (v := .int .i64 x.kind) (by simp); have cf7 := K.out.f (b := w.heap.size + 1 + 1) (o := 2) (v := .int .i64 x.kind) (by simp); have c8 := K.out.c (b := w.heap.size + 1 + 1) (o := 3) (v := .int .i64 x.start) (by simp); have cf8 := K.out.f (b := w.heap.size + 1 + 1) (o := 3) (v := .int .i64 x.start) (by simp); have c9 := K.out.c (b := w.heap.size + 1 + 1) (o := 4) (v := .int .i64 x.stop) (by simp); have cf9 := K.out.f (b := w.heap.size + 1 + 1) (o := 4) (v := .int .i64 x.stop) (by simp); have p0 := K.out.c (b := w.heap.size) (o := 1) (v := .slice (some ⟨bw, ow, none⟩) p.walk.length cw) (by simp); have p1 := K.out.c (b := w.heap.size) (o := 2) (v := .slice (some ⟨bd, od, none⟩) p.dress.length cd) (by simp))
  have K1 := hid (K.out.subs (cs2 := [(w.heap.size + 1, 0, .int .i64 y.person), (w.heap.size + 1, 1, .int .i64 y.place), (w.heap.size + 1, 2, .int .i64 y.kind), (w.heap.size + 1, 3, .int .i64 y.start), (w.heap.size + 1, 4, .int .i64 y.stop), (w.heap.size + 1 + 1, 0, .int .i64 x.person), (w.heap.size + 1 + 1, 1, .int .i64 x.place), (w.heap.size + 1 + 1, 2, .int .i64 x.kind), (w.heap.size + 1 + 1, 3, .int .i64 x.start), (w.heap.size + 1 + 1, 4, .int .i64 x.stop), (w.heap.size, 1, .slice (some ⟨bw, ow, none⟩) p.walk.length cw), (w.heap.size, 2, .slice (some ⟨bd, od, none⟩) p.dress.length cd)]) (by intro z hz; simp only [List.mem_cons, List.not_mem_nil, or_false] at hz ⊢; rcases hz with h | h | h | h | h | h | h | h | h | h | h | h <;> simp [h]))
  have K2 := hid (K1.out.put5 (by intro b o v hm; simp only [List.mem_cons, Prod.mk.injEq, List.not_mem_nil, or_false] at hm; omega) (.int .i64 a1) (.int .i64 m) (.int .i64 a3) (.int .i64 a4) (.int .i64 a5))
  have K3 := hid (K2.out.subs (cs2 := [(w.heap.size + 1 + 1, 0, .int .i64 x.person), (w.heap.size + 1 + 1, 1, .int .i64 x.place), (w.heap.size + 1 + 1, 2, .int .i64 x.kind), (w.heap.size + 1 + 1, 3, .int .i64 x.start), (w.heap.size + 1 + 1, 4, .int .i64 x.stop), (w.heap.size + 1, 0, .int .i64 a1), (w.heap.size + 1, 1, .int .i64 m), (w.heap.size + 1, 2, .int .i64 a3), (w.heap.size + 1, 3, .int .i64 a4), (w.heap.size + 1, 4, .int .i64 a5), (w.heap.size, 1, .slice (some ⟨bw, ow, none⟩) p.walk.length cw), (w.heap.size, 2, .slice (some ⟨bd, od, none⟩) p.dress.length cd)]) (by intro z hz; simp only [List.mem_cons, List.not_mem_nil, or_false] at hz ⊢; rcases hz with h | h | h | h | h | h | h | h | h | h | h | h <;> simp [h]))
  have K4 := hid (K3.out.put5 (by intro b o v hm; simp only [List.mem_cons, Prod.mk.injEq, List.not_mem_nil, or_false] at hm; omega) (.int .i64 b1) (.int .i64 n) (.int .i64 q) (.int .i64 b4) (.int .i64 b5))
  obtain ⟨wz, hwz, KZ⟩ := K4.out.name
  rw [hwz]
  have K := hid KZ
  clear hwz KZ K1 K2 K3 K4 c0 cf0 c1 cf1 c2 cf2 c3 cf3 c4 cf4 c5 cf5 c6 cf6 c7 cf7 c8 cf8 c9 cf9 p0 p1
  have p0 := K.out.c (b := w.heap.size + 1 + 1) (o := 0) (v := .int .i64 b1) (by simp)
  have p1 := K.out.c (b := w.heap.size + 1 + 1) (o := 1) (v := .int .i64 n) (by simp)
  have p2 := K.out.c (b := w.heap.size + 1 + 1) (o := 2) (v := .int .i64 q) (by simp)
  have p3 := K.out.c (b := w.heap.size + 1 + 1) (o := 3) (v := .int .i64 b4) (by simp)
  have p4 := K.out.c (b := w.heap.size + 1 + 1) (o := 4) (v := .int .i64 b5) (by simp)
  have p5 := K.out.c (b := w.heap.size + 1) (o := 0) (v := .int .i64 a1) (by simp)
  have p6 := K.out.c (b := w.heap.size + 1) (o := 1) (v := .int .i64 m) (by simp)
  have p7 := K.out.c (b := w.heap.size + 1) (o := 2) (v := .int .i64 a3) (by simp)
  have p8 := K.out.c (b := w.heap.size + 1) (o := 3) (v := .int .i64 a4) (by simp)
  have p9 := K.out.c (b := w.heap.size + 1) (o := 4) (v := .int .i64 a5) (by simp)
  have p10 := K.out.c (b := w.heap.size) (o := 1) (v := .slice (some ⟨bw, ow, none⟩) p.walk.length cw) (by simp)
  have p11 := K.out.c (b := w.heap.size) (o := 2) (v := .slice (some ⟨bd, od, none⟩) p.dress.length cd) (by simp)
  have C := CU.out _ K.out.below
  have g0 := C.1
  have g1 := C.2.1
  have g2 := C.2.2
  clear C
  by_cases h1 : b4 < a5
  · have HE := hid (show rz = 10 from by rw [← HR.out, if_pos (show b4 - a5 < 0 from by omega)])
    clear HR
    go_wp2_with fail
    go_ret
    exact ⟨ret_int HE.out.symm, K.out.below⟩
  · have HR := hid (show rz = _ from by rw [← HR.out, if_neg (show ¬ b4 - a5 < 0 from by omega)])
    have z2 : IntKind.i64.wrap (b4 - a5) = b4 - a5 := IntWalk.i64_in _ (by omega)
    go_upto_region 4 with fail
    go_region_held3 (fun w' => w'.cell? ⟨w.heap.size, 1, none⟩ = some (.slice (some ⟨bw, ow, none⟩) p.walk.length cw) ∧ w'.cell? ⟨w.heap.size + 1, 1, none⟩ = some (.int .i64 m) ∧ w'.cell? ⟨w.heap.size + 1 + 1, 1, none⟩ = some (.int .i64 n) ∧ w'.cell? ⟨bw, ow + m, none⟩ = some (.slice (some ⟨br, or', none⟩) p.walk.length cr) ∧ w'.cell? ⟨br, or' + n, none⟩ = some (.int .i64 N))
      (first | exact ⟨p10, p6, p1, g0, g1⟩) (fail)
    have K := hid K.out.drew
    clear p0 p1 p2 p3 p4 p5 p6 p7 p8 p9 p10 p11 g0 g1 g2
    have p0 := K.out.c (b := w.heap.size + 1 + 1) (o := 0) (v := .int .i64 b1) (by simp)
    have p1 := K.out.c (b := w.heap.size + 1 + 1) (o := 1) (v := .int .i64 n) (by simp)
    have p2 := K.out.c (b := w.heap.size + 1 + 1) (o := 2) (v := .int .i64 q) (by simp)
    have p3 := K.out.c (b := w.heap.size + 1 + 1) (o := 3) (v := .int .i64 b4) (by simp)
    have p4 := K.out.c (b := w.heap.size + 1 + 1) (o := 4) (v := .int .i64 b5) (by simp)
    have p5 := K.out.c (b := w.heap.size + 1) (o := 0) (v := .int .i64 a1) (by simp)
    have p6 := K.out.c (b := w.heap.size + 1) (o := 1) (v := .int .i64 m) (by simp)
    have p7 := K.out.c (b := w.heap.size + 1) (o := 2) (v := .int .i64 a3) (by simp)
    have p8 := K.out.c (b := w.heap.size + 1) (o := 3) (v := .int .i64 a4) (by simp)
    have p9 := K.out.c (b := w.heap.size + 1) (o := 4) (v := .int .i64 a5) (by simp)
    have p10 := K.out.c (b := w.heap.size) (o := 1) (v := .slice (some ⟨bw, ow, none⟩) p.walk.length cw) (by simp)
    have p11 := K.out.c (b := w.heap.size) (o := 2) (v := .slice (some ⟨bd, od, none⟩) p.dress.length cd) (by simp)
    have C := CU.out _ K.out.below
    have g0 := C.1
    have g1 := C.2.1
    have g2 := C.2.2
    clear C
    by_cases hk : a3 = (q : Int)
    · obtain ⟨e1, e2⟩ := eq_bool hk
      have HR := hid (show rz = _ from by rw [HR.out, if_neg (show ¬ decide (a3 ≠ (q : Int)) = true from by simp [hk]), Int.add_zero])
      clear hk
      by_cases h2 : b4 - a5 < N
      · have HE := hid (show rz = 12 from by rw [HR.out, if_pos h2])
        clear HR
        go_wp2_with fail
        go_ret
        exact ⟨ret_int HE.out.symm, K.out.below⟩
      · have HE := hid (show rz = 0 from by rw [HR.out, if_neg h2])
        clear HR
        go_wp2_with fail
        go_ret
        exact ⟨ret_int HE.out.symm, K.out.below⟩
    · obtain ⟨e1, e2⟩ := ne_bool hk
      have HR := hid (show rz = _ from by rw [HR.out, if_pos (show decide (a3 ≠ (q : Int)) = true from by simp [hk])])
      clear hk
      by_cases h2 : b4 - a5 < N + D
      · have HE := hid (show rz = 12 from by rw [HR.out, if_pos h2])
        clear HR
        go_wp2_with fail
        go_ret
        exact ⟨ret_int HE.out.symm, K.out.below⟩
      · have HE := hid (show rz = 0 from by rw [HR.out, if_neg h2])
        clear HR
        go_wp2_with fail
        go_ret
        exact ⟨ret_int HE.out.symm, K.out.below⟩

/-- the error of persons, places and kinds -/
def placesE (p : Plot) : Int :=
  if countE p.persons.length 12 = 0 then
    if firstBad (fun i => figE (sp p.persons i)) p.persons.length = 0 then
      if countE p.walk.length 8 = 0 then
        if firstBad (rowE p.walk) p.walk.length = 0 then
          if countE p.dress.length 8 = 0 then dressE p.dress else countE p.dress.length 8
        else firstBad (rowE p.walk) p.walk.length
      else countE p.walk.length 8
    else firstBad (fun i => figE (sp p.persons i)) p.persons.length
  else countE p.persons.length 12
theorem plotErr_places (p : Plot) : plotErr p = if placesE p = 0 then (if 30 < p.parts.length then 5 else firstBad (partE p) p.parts.length) else placesE p := by
  unfold plotErr placesE
  by_cases h1 : countE p.persons.length 12 = 0
  · rw [if_pos h1, if_pos h1]
    by_cases h2 : firstBad (fun i => figE (sp p.persons i)) p.persons.length = 0
    · rw [if_pos h2, if_pos h2]
      by_cases h3 : countE p.walk.length 8 = 0
      · rw [if_pos h3, if_pos h3]
        by_cases h4 : firstBad (rowE p.walk) p.walk.length = 0
        · rw [if_pos h4, if_pos h4]
          by_cases h5 : countE p.dress.length 8 = 0
          · rw [if_pos h5, if_pos h5]
          · rw [if_neg h5, if_neg h5, if_neg h5]
        · rw [if_neg h4, if_neg h4, if_neg h4]
      · rw [if_neg h3, if_neg h3, if_neg h3]
    · rw [if_neg h2, if_neg h2, if_neg h2]
  · rw [if_neg h1, if_neg h1, if_neg h1]
section
variable {p : Plot}
theorem qE1 (h : countE p.persons.length 12 ≠ 0) : placesE p = countE p.persons.length 12 := by unfold placesE; rw [if_neg h]
theorem qE2 (h1 : countE p.persons.length 12 = 0) (h : firstBad (fun i => figE (sp p.persons i)) p.persons.length ≠ 0) : placesE p = firstBad (fun i => figE (sp p.persons i)) p.persons.length := by unfold placesE; rw [if_pos h1, if_neg h]
theorem qE3 (h1 : countE p.persons.length 12 = 0) (h2 : firstBad (fun i => figE (sp p.persons i)) p.persons.length = 0) (h : countE p.walk.length 8 ≠ 0) : placesE p = countE p.walk.length 8 := by unfold placesE; rw [if_pos h1, if_pos h2, if_neg h]
theorem qE4 (h1 : countE p.persons.length 12 = 0) (h2 : firstBad (fun i => figE (sp p.persons i)) p.persons.length = 0) (h3 : countE p.walk.length 8 = 0) (h : firstBad (rowE p.walk) p.walk.length ≠ 0) : placesE p = firstBad (rowE p.walk) p.walk.length := by unfold placesE; rw [if_pos h1, if_pos h2, if_pos h3, if_neg h]
theorem qE5 (h1 : countE p.persons.length 12 = 0) (h2 : firstBad (fun i => figE (sp p.persons i)) p.persons.length = 0) (h3 : countE p.walk.length 8 = 0) (h4 : firstBad (rowE p.walk) p.walk.length = 0) (h : countE p.dress.length 8 ≠ 0) : placesE p = countE p.dress.length 8 := by unfold placesE; rw [if_pos h1, if_pos h2, if_pos h3, if_pos h4, if_neg h]
theorem qE6 (h1 : countE p.persons.length 12 = 0) (h2 : firstBad (fun i => figE (sp p.persons i)) p.persons.length = 0) (h3 : countE p.walk.length 8 = 0) (h4 : firstBad (rowE p.walk) p.walk.length = 0) (h5 : countE p.dress.length 8 = 0) : placesE p = dressE p.dress := by unfold placesE; rw [if_pos h1, if_pos h2, if_pos h3, if_pos h4, if_pos h5]
end

set_option linter.unusedSimpArgs false in
set_option maxHeartbeats 8000000 in
set_option maxRecDepth 100000 in
theorem rplaces_any (p : Plot) (vp vw vd vq : Value) (w : World) (h : PlotAt none w vp vw vd vq p) :
    Calls Tryz.prog 50 #[plotV vp vw vd vq] w fun e w' => e = .returned (.int .i64 (placesE p)) ∧ Below w.heap.size w w' := by
  have H := hid h
  obtain ⟨ap, cp, rfl⟩ := h.persons.form
  obtain ⟨aw, cw, rfl⟩ := h.walk.form
  obtain ⟨ad, cd, rfl, _⟩ := h.dress
  obtain ⟨aq, cq, rfl, _⟩ := h.parts
  clear h
  have K := hid ((HK.start w).box4m (n := w.heap.size) rfl (.slice ap p.persons.length cp) (.slice aw p.walk.length cw) (.slice ad p.dress.length cd) (.slice aq p.parts.length cq) 27)
  by_cases hc1 : countE p.persons.length 12 = 0
  rotate_left
  · obtain ⟨e1, e2⟩ := ne_bool hc1
    have HE := hid (qE1 hc1)
    clear hc1
    go_enter Tryz.func50, Tryz.ntmps50
    go_wp2_with (go_at_call 72; refine (rcount_any p.persons.length 12 _).mono ?_; rintro e w' ⟨rfl, rfl⟩)
    go_ret
    exact ⟨ret_int HE.out.symm, K.out.below⟩
  have HC1 := hid hc1
  have Hl1 := hid (countE_zero.1 hc1)
  clear hc1
  go_enter Tryz.func50, Tryz.ntmps50
  go_wp2_with (go_at_call 72; refine (rcount_any p.persons.length 12 _).mono ?_; rw [HC1.out]; rintro e w' ⟨rfl, rfl⟩)
  go_loopw [4] (fun a wr => ∃ k : Nat, k ≤ p.persons.length ∧ a = .int .i64 k ∧ (∀ j, j < k → figE (sp p.persons j) = 0) ∧ HK [(w.heap.size, 0, .slice ap p.persons.length cp), (w.heap.size, 1, .slice aw p.walk.length cw), (w.heap.size, 2, .slice ad p.dress.length cd), (w.heap.size, 3, .slice aq p.parts.length cq)] w wr) (fun a _ => p.persons.length - (intOf a).toNat)
  case atStart => exact ⟨0, by omega, rfl, fun j hj => absurd hj (by omega), K.out⟩
  case round =>
    obtain ⟨k, hk, rfl, hf, KK⟩ := hrel
    have K := hid KK
    have HF := hid hf
    clear KK hf
    obtain ⟨wo, rfl⟩ : ∃ wo : World, wo = wr := ⟨_, rfl⟩
    have hl12 := Hl1.out.2
    have p0 := K.out.c (b := w.heap.size) (o := 0) (v := .slice ap p.persons.length cp) (by simp)
    have p1 := K.out.c (b := w.heap.size) (o := 1) (v := .slice aw p.walk.length cw) (by simp)
    have p2 := K.out.c (b := w.heap.size) (o := 2) (v := .slice ad p.dress.length cd) (by simp)
    have p3 := K.out.c (b := w.heap.size) (o := 3) (v := .slice aq p.parts.length cq) (by simp)
    by_cases hlt : k < p.persons.length
    · have hcc := SpansAt.cells (RecAt.below H.out.persons K.out.below) hlt
      obtain ⟨bs, os, e, hbs, d0, d1⟩ := hcc
      cases e
      have i1 : (k : Int) < (p.persons.length : Int) := by omega
      have z1 : IntKind.i64.wrap ((k : Int) + 1) = (k : Int) + 1 := IntWalk.i64_in _ (by omega)
      have HX := hid (fun (v : Int) (hv : figE (sp p.persons k) = v) (h0 : v ≠ 0) => (firstBad_at (f := fun i => figE (sp p.persons i)) hlt HF.out (by show figE (sp p.persons k) ≠ 0; rw [hv]; exact h0)).trans hv)
      have HN := hid (fun (hv : figE (sp p.persons k) = 0) (j : Nat) (hj : j < k + 1) => show figE (sp p.persons j) = 0 from by
        by_cases e : j = k
        · rw [e]; exact hv
        · exact HF.out j (by omega))
      obtain ⟨⟨s1, s2⟩, hsp⟩ : ∃ s, sp p.persons k = s := ⟨_, rfl⟩
      rw [hsp] at d0 d1 HX HN
      dsimp only at d0 d1
      clear hsp HF
      obtain ⟨fe, hfe⟩ : ∃ fe, figE (s1, s2) = fe := ⟨_, rfl⟩
      have HS := hid (fun W' => rsize_any s1 s2 W')
      rw [hfe] at HX HN HS
      clear hfe
      by_cases hz : fe = 0
      · have HF := hid (HN.out hz)
        subst hz
        clear HX HN
        go_wp2_with (go_at_call 73; refine (HS.out _).mono ?_; rintro e w2 ⟨rfl, hb2⟩; have K := hid (K.out.later hb2); clear hb2)
        go_roundw
        case rel => exact ⟨k + 1, by omega, by go_num, HF.out, K.out⟩
        case measure => simp [intOf] <;> omega
      · obtain ⟨e1, e2⟩ := ne_bool hz
        have HE := hid (have h := HX.out fe rfl hz; (qE2 HC1.out (by rw [h]; exact hz)).trans h)
        clear hz HX HN
        go_wp2_with (go_at_call 73; refine (HS.out _).mono ?_; rintro e w2 ⟨rfl, hb2⟩; have K := hid (K.out.later hb2); clear hb2)
        go_ret
        exact ⟨ret_int HE.out.symm, K.out.below⟩
    · obtain rfl : k = p.persons.length := by omega
      have HC2 := hid (firstBad_zero.2 HF.out)
      clear HF
      by_cases hc3 : countE p.walk.length 8 = 0
      rotate_left
      · obtain ⟨e1, e2⟩ := ne_bool hc3
        have HE := hid (qE3 HC1.out HC2.out hc3)
        clear hc3
        go_wp2_with (go_at_call 72; refine (rcount_any p.walk.length 8 _).mono ?_; rintro e w' ⟨rfl, rfl⟩)
        go_ret
        exact ⟨ret_int HE.out.symm, K.out.below⟩
      have HC3 := hid hc3
      have Hl3 := hid (countE_zero.1 hc3)
      clear hc3
      go_wp2_with (go_at_call 72; refine (rcount_any p.walk.length 8 _).mono ?_; rw [HC3.out]; rintro e w' ⟨rfl, rfl⟩)
      go_loopw [7] (fun a wr => ∃ k : Nat, k ≤ p.walk.length ∧ a = .int .i64 k ∧ (∀ j, j < k → rowE p.walk j = 0) ∧ HK [(w.heap.size, 0, .slice ap p.persons.length cp), (w.heap.size, 1, .slice aw p.walk.length cw), (w.heap.size, 2, .slice ad p.dress.length cd), (w.heap.size, 3, .slice aq p.parts.length cq)] w wr) (fun a _ => p.walk.length - (intOf a).toNat)
      case atStart => exact ⟨0, by omega, rfl, fun j hj => absurd hj (by omega), K.out⟩
      case round =>
        obtain ⟨m, hm, rfl, hf, KK⟩ := hrel
        have K := hid KK
        have HF := hid hf
        clear KK hf p0 p1 p2 p3
        obtain ⟨wv, rfl⟩ : ∃ wv : World, wv = wr := ⟨_, rfl⟩
        have hl8 := Hl3.out.2
        by_cases hlt : m < p.walk.length
        · have hcc := ListsAt.row H.out.walk hlt
          obtain ⟨bw, ow, u, e, hbw, cu0, hu⟩ := hcc
          cases e
          have HU := hid hu
          obtain ⟨ru, cu', rfl, _⟩ := hu
          have Hcu := hid (show ∀ W', Below w.heap.size w W' → W'.cell? ⟨bw, ow + m, none⟩ = some (.slice ru (lst p.walk m).length cu') from fun W' hb => cell_back hb hbw cu0)
          have cu := Hcu.out _ K.out.below
          clear cu0
          have i1 : (m : Int) < (p.walk.length : Int) := by omega
          have z1 : IntKind.i64.wrap ((m : Int) + 1) = (m : Int) + 1 := IntWalk.i64_in _ (by omega)
          have HX := hid (fun (v : Int) (hv : rowE p.walk m = v) (h0 : v ≠ 0) => (firstBad_at (f := rowE p.walk) hlt HF.out (by rw [hv]; exact h0)).trans hv)
          have HN := hid (fun (hv : rowE p.walk m = 0) (j : Nat) (hj : j < m + 1) => show rowE p.walk j = 0 from by
            by_cases e : j = m
            · rw [e]; exact hv
            · exact HF.out j (by omega))
          obtain ⟨row, hrow⟩ : ∃ row, lst p.walk m = row := ⟨_, rfl⟩
          have HRe := hid (show row.length = p.walk.length → rowE p.walk m = firstBad (cellE row m) p.walk.length from fun h => by rw [← hrow] at h ⊢; exact rowE_cells h)
          have HR1 := hid (show row.length ≠ p.walk.length → rowE p.walk m = 1 from fun h => by rw [← hrow] at h; unfold rowE; rw [if_neg h])
          rw [hrow] at HU cu Hcu
          clear hrow HF
          have p0 := K.out.c (b := w.heap.size) (o := 0) (v := .slice ap p.persons.length cp) (by simp)
          have p1 := K.out.c (b := w.heap.size) (o := 1) (v := .slice (some ⟨bw, ow, none⟩) p.walk.length cw) (by simp)
          have p2 := K.out.c (b := w.heap.size) (o := 2) (v := .slice ad p.dress.length cd) (by simp)
          have p3 := K.out.c (b := w.heap.size) (o := 3) (v := .slice aq p.parts.length cq) (by simp)
          by_cases hrl : row.length = p.walk.length
          rotate_left
          · obtain ⟨e1, e2⟩ := ne_bool (a := (row.length : Int)) (b := (p.walk.length : Int)) (by omega)
            have HE := hid (have h := HX.out 1 (HR1.out hrl) (by decide); (qE4 HC1.out HC2.out HC3.out (by rw [h]; decide)).trans h)
            clear hrl
            go_upto_region 16 with fail
            go_quiet (fail)
            go_wp2_with fail
            go_ret
            exact ⟨ret_int HE.out.symm, (K.out.drewN _).below⟩
          have Hrl := hid hrl
          have HRe := hid (HRe.out hrl)
          rw [hrl] at cu Hcu
          clear hrl HR1
          obtain ⟨e1, e2⟩ := eq_bool (a := (p.walk.length : Int)) (b := (p.walk.length : Int)) rfl
          go_upto_region 16 with fail
          go_quiet (fail)
          go_wp2_with fail
          clear e1 e2
          go_loopw [8] (fun a wr => ∃ q : Nat, q ≤ p.walk.length ∧ a = .int .i64 q ∧ (∀ j, j < q → cellE row m j = 0) ∧ HK [(w.heap.size, 0, .slice ap p.persons.length cp), (w.heap.size, 1, .slice (some ⟨bw, ow, none⟩) p.walk.length cw), (w.heap.size, 2, .slice ad p.dress.length cd), (w.heap.size, 3, .slice aq p.parts.length cq)] w wr) (fun a _ => p.walk.length - (intOf a).toNat)
          case atStart => exact ⟨0, by omega, rfl, fun j hj => absurd hj (by omega), K.out.drewN _⟩
          case round =>
            obtain ⟨q, hq, rfl, hf, KK⟩ := hrel
            have K := hid KK
            have HG := hid hf
            clear KK hf cu p0 p1 p2 p3
            obtain ⟨wx, rfl⟩ : ∃ wx : World, wx = wr := ⟨_, rfl⟩
            have cu := Hcu.out _ K.out.below
            have p0 := K.out.c (b := w.heap.size) (o := 0) (v := .slice ap p.persons.length cp) (by simp)
            have p1 := K.out.c (b := w.heap.size) (o := 1) (v := .slice (some ⟨bw, ow, none⟩) p.walk.length cw) (by simp)
            have p2 := K.out.c (b := w.heap.size) (o := 2) (v := .slice ad p.dress.length cd) (by simp)
            have p3 := K.out.c (b := w.heap.size) (o := 3) (v := .slice aq p.parts.length cq) (by simp)
            by_cases hltq : q < p.walk.length
            · have hq2 : q < row.length := by rw [Hrl.out]; exact hltq
              have hu2 := HU.out.below K.out.below
              obtain ⟨br, or', cr, e, _, _⟩ := hu2.slice (by omega)
              cases e
              have cn := hu2.cell hq2
              have i3 : (q : Int) < (p.walk.length : Int) := by omega
              have z2 : IntKind.i64.wrap ((q : Int) + 1) = (q : Int) + 1 := IntWalk.i64_in _ (by omega)
              have HXc := hid (fun (v : Int) (hv : cellE row m q = v) (h0 : v ≠ 0) => HX.out v (HRe.out.trans ((firstBad_at (f := cellE row m) hltq HG.out (by rw [hv]; exact h0)).trans hv)) h0)
              have HNc := hid (fun (hv : cellE row m q = 0) (j : Nat) (hj : j < q + 1) => show cellE row m j = 0 from by
                by_cases e : j = q
                · rw [e]; exact hv
                · exact HG.out j (by omega))
              have hce : cellE row m q = if inB (nm row q) 0 1440 = false then 2 else if m = q ∧ nm row q ≠ 0 then 1 else 0 := rfl
              obtain ⟨z, hz⟩ : ∃ z, nm row q = z := ⟨_, rfl⟩
              rw [hz] at cn hce
              rw [hce] at HXc HNc
              clear hz hce HG hu2
              cases hin : inB z 0 1440 with
              | false =>
                rw [hin] at HXc
                have HE := hid (have h := HXc.out 2 (if_pos rfl) (by decide); (qE4 HC1.out HC2.out HC3.out (by rw [h]; decide)).trans h)
                clear HXc HNc HX HN
                go_wp2_with (go_at_call 74; refine (rwithin_any _ _ _ _).mono ?_; rintro e w' ⟨rfl, rfl⟩; rw [hin])
                go_ret
                exact ⟨ret_int HE.out.symm, K.out.below⟩
              | true =>
                rw [hin] at HXc HNc
                by_cases hmq : m = q
                · obtain ⟨e1, e2⟩ := eq_bool (a := (m : Int)) (b := (q : Int)) (by omega)
                  by_cases hz0 : z = 0
                  · obtain ⟨e3, e4⟩ := eq_bool hz0
                    have HG := hid (HNc.out (by rw [if_neg (by simp), if_neg (by simp [hz0])]))
                    clear hz0 hmq HXc HNc
                    go_wp2_with (go_at_call 74; refine (rwithin_any _ _ _ _).mono ?_; rintro e w' ⟨rfl, rfl⟩; rw [hin])
                    go_roundw
                    case rel => exact ⟨q + 1, by omega, by go_num, HG.out, K.out⟩
                    case measure => simp [intOf] <;> omega
                  · obtain ⟨e3, e4⟩ := ne_bool hz0
                    have HE := hid (have h := HXc.out 1 (by rw [if_neg (by simp), if_pos ⟨hmq, hz0⟩]) (by decide); (qE4 HC1.out HC2.out HC3.out (by rw [h]; decide)).trans h)
                    clear hz0 hmq HXc HNc HX HN
                    go_wp2_with (go_at_call 74; refine (rwithin_any _ _ _ _).mono ?_; rintro e w' ⟨rfl, rfl⟩; rw [hin])
                    go_ret
                    exact ⟨ret_int HE.out.symm, K.out.below⟩
                · obtain ⟨e1, e2⟩ := ne_bool (a := (m : Int)) (b := (q : Int)) (by omega)
                  have HG := hid (HNc.out (by rw [if_neg (by simp), if_neg (fun h => hmq h.1)]))
                  clear hmq HXc HNc
                  go_wp2_with (go_at_call 74; refine (rwithin_any _ _ _ _).mono ?_; rintro e w' ⟨rfl, rfl⟩; rw [hin])
                  go_roundw
                  case rel => exact ⟨q + 1, by omega, by go_num, HG.out, K.out⟩
                  case measure => simp [intOf] <;> omega
            · obtain rfl : q = p.walk.length := by omega
              have HF := hid (HN.out (HRe.out.trans (firstBad_zero.2 HG.out)))
              clear HX HN HG HRe
              go_wp2_with fail
              go_roundw
              case rel => exact ⟨m + 1, by omega, by go_num, HF.out, K.out⟩
              case measure => simp [intOf] <;> omega
        · obtain rfl : m = p.walk.length := by omega
          have HC4 := hid (firstBad_zero.2 HF.out)
          clear HF
          have p0 := K.out.c (b := w.heap.size) (o := 0) (v := .slice ap p.persons.length cp) (by simp)
          have p1 := K.out.c (b := w.heap.size) (o := 1) (v := .slice aw p.walk.length cw) (by simp)
          have p2 := K.out.c (b := w.heap.size) (o := 2) (v := .slice ad p.dress.length cd) (by simp)
          have p3 := K.out.c (b := w.heap.size) (o := 3) (v := .slice aq p.parts.length cq) (by simp)
          by_cases hc5 : countE p.dress.length 8 = 0
          rotate_left
          · obtain ⟨e1, e2⟩ := ne_bool hc5
            have HE := hid (qE5 HC1.out HC2.out HC3.out HC4.out hc5)
            clear hc5
            go_wp2_with (go_at_call 72; refine (rcount_any p.dress.length 8 _).mono ?_; rintro e w' ⟨rfl, rfl⟩)
            go_ret
            exact ⟨ret_int HE.out.symm, K.out.below⟩
          have HC5 := hid hc5
          have Hl5 := hid (countE_zero.1 hc5)
          clear hc5
          have HP := hid (qE6 HC1.out HC2.out HC3.out HC4.out HC5.out)
          go_wp2_with (go_at_call 72; refine (rcount_any p.dress.length 8 _).mono ?_; rw [HC5.out]; rintro e w' ⟨rfl, rfl⟩)
          go_loopw [10] (fun a wr => ∃ k : Nat, k ≤ p.dress.length ∧ a = .int .i64 k ∧ (∀ j, j < k → dE p.dress j = 0) ∧ HK [(w.heap.size, 0, .slice ap p.persons.length cp), (w.heap.size, 1, .slice aw p.walk.length cw), (w.heap.size, 2, .slice ad p.dress.length cd), (w.heap.size, 3, .slice aq p.parts.length cq)] w wr) (fun a _ => p.dress.length - (intOf a).toNat)
          case atStart => exact ⟨0, by omega, rfl, fun j hj => absurd hj (by omega), K.out⟩
          case round =>
            obtain ⟨k, hk, rfl, hf, KK⟩ := hrel
            have K := hid KK
            have HF := hid hf
            clear KK hf p0 p1 p2 p3
            obtain ⟨wx, rfl⟩ : ∃ wx : World, wx = wr := ⟨_, rfl⟩
            have hl8 := Hl5.out.2
            have p0 := K.out.c (b := w.heap.size) (o := 0) (v := .slice ap p.persons.length cp) (by simp)
            have p1 := K.out.c (b := w.heap.size) (o := 1) (v := .slice aw p.walk.length cw) (by simp)
            have p2 := K.out.c (b := w.heap.size) (o := 2) (v := .slice ad p.dress.length cd) (by simp)
            have p3 := K.out.c (b := w.heap.size) (o := 3) (v := .slice aq p.parts.length cq) (by simp)
            by_cases hlt : k < p.dress.length
            · have hu2 := H.out.dress.below K.out.below
              obtain ⟨br, or', cr, e, _, _⟩ := hu2.slice (by omega)
              cases e
              have cn := hu2.cell hlt
              have i3 : (k : Int) < (p.dress.length : Int) := by omega
              have z2 : IntKind.i64.wrap ((k : Int) + 1) = (k : Int) + 1 := IntWalk.i64_in _ (by omega)
              have HX := hid (fun (v : Int) (hv : dE p.dress k = v) (h0 : v ≠ 0) => HP.out.trans ((dressE_eq _).trans ((firstBad_at (f := dE p.dress) hlt HF.out (by rw [hv]; exact h0)).trans hv)))
              have HN := hid (fun (hv : dE p.dress k = 0) (j : Nat) (hj : j < k + 1) => show dE p.dress j = 0 from by
                by_cases e : j = k
                · rw [e]; exact hv
                · exact HF.out j (by omega))
              have hde : dE p.dress k = if inB (nm p.dress k) 0 1440 = false then 2 else 0 := rfl
              obtain ⟨z, hz⟩ : ∃ z, nm p.dress k = z := ⟨_, rfl⟩
              rw [hz] at cn hde
              rw [hde] at HX HN
              clear hz hde HF hu2
              cases hin : inB z 0 1440 with
              | false =>
                rw [hin] at HX
                have HE := hid (HX.out 2 (if_pos rfl) (by decide))
                clear HX HN
                go_wp2_with (go_at_call 74; refine (rwithin_any _ _ _ _).mono ?_; rintro e w' ⟨rfl, rfl⟩; rw [hin])
                go_ret
                exact ⟨ret_int HE.out.symm, K.out.below⟩
              | true =>
                rw [hin] at HN
                have HF := hid (HN.out (if_neg (by simp)))
                clear HX HN
                go_wp2_with (go_at_call 74; refine (rwithin_any _ _ _ _).mono ?_; rintro e w' ⟨rfl, rfl⟩; rw [hin])
                go_roundw
                case rel => exact ⟨k + 1, by omega, by go_num, HF.out, K.out⟩
                case measure => simp [intOf] <;> omega
            · obtain rfl : k = p.dress.length := by omega
              have HE := hid (HP.out.trans ((dressE_eq _).trans (firstBad_zero.2 HF.out)))
              clear HF
              go_wp2_with fail
              go_ret
              exact ⟨ret_int HE.out.symm, K.out.below⟩

theorem places_square {p : Plot} (h : placesE p = 0) : (p.persons.length ≤ 12 ∧ p.walk.length ≤ 8 ∧ p.dress.length ≤ 8) ∧ Square p := by
  unfold placesE at h
  by_cases h1 : countE p.persons.length 12 = 0
  · rw [if_pos h1] at h
    by_cases h2 : firstBad (fun i => figE (sp p.persons i)) p.persons.length = 0
    · rw [if_pos h2] at h
      by_cases h3 : countE p.walk.length 8 = 0
      · rw [if_pos h3] at h
        by_cases h4 : firstBad (rowE p.walk) p.walk.length = 0
        · rw [if_pos h4] at h
          by_cases h5 : countE p.dress.length 8 = 0
          · rw [if_pos h5] at h
            exact ⟨⟨(countE_zero.1 h1).2, (countE_zero.1 h3).2, (countE_zero.1 h5).2⟩, fun i hi => rowE_zero (firstBad_zero.1 h4 i hi), dE_zero h⟩
          · rw [if_neg h5] at h; exact absurd h h5
        · rw [if_neg h4] at h; exact absurd h h4
      · rw [if_neg h3] at h; exact absurd h h3
    · rw [if_neg h2] at h; exact absurd h h2
  · rw [if_neg h1] at h; exact absurd h h1

set_option linter.unusedSimpArgs false in
set_option maxHeartbeats 8000000 in
set_option maxRecDepth 100000 in
theorem rcheck_plot (p : Plot) (vp vw vd vq : Value) (w : World) (h : PlotAt none w vp vw vd vq p) :
    Calls Tryz.prog 24 #[plotV vp vw vd vq] w fun e w' => e = .returned (.int .i64 (plotErr p)) ∧ Below w.heap.size w w' := by
  have H := hid h
  have HPl := hid (fun W' hb => rplaces_any p vp vw vd vq W' (H.out.below hb))
  obtain ⟨ap, cp, rfl⟩ := h.persons.form
  obtain ⟨aw, cw, rfl⟩ := h.walk.form
  obtain ⟨ad, cd, rfl, _⟩ := h.dress
  obtain ⟨aq, cq, rfl, _⟩ := h.parts
  clear h
  have K := hid ((HK.start w).box4m (n := w.heap.size) rfl (.slice ap p.persons.length cp) (.slice aw p.walk.length cw) (.slice ad p.dress.length cd) (.slice aq p.parts.length cq) 27)
  have HE0 := hid (plotErr_places p)
  by_cases hp : placesE p = 0
  rotate_left
  · obtain ⟨e1, e2⟩ := ne_bool hp
    have HE := hid (HE0.out.trans (if_neg hp))
    clear hp
    go_enter Tryz.func24, Tryz.ntmps24
    go_wp2_with (go_at_call 50; refine (HPl.out _ K.out.below).mono ?_; rintro e w2 ⟨rfl, hb2⟩; have K := hid (K.out.later hb2); clear hb2)
    go_ret
    exact ⟨ret_int HE.out.symm, K.out.below⟩
  obtain ⟨⟨hl1, hl2, hl3⟩, hsq⟩ := places_square hp
  have Hsq := hid hsq
  have HE1 := hid (HE0.out.trans (if_pos hp))
  rw [hp] at HPl
  clear hp hsq HE0
  by_cases h30 : 30 < p.parts.length
  · have h30' : (30 : Int) < (p.parts.length : Int) := by omega
    have HE := hid (HE1.out.trans (if_pos h30))
    clear h30
    go_enter Tryz.func24, Tryz.ntmps24
    go_wp2_with (go_at_call 50; refine (HPl.out _ K.out.below).mono ?_; rintro e w2 ⟨rfl, hb2⟩; have K := hid (K.out.later hb2); clear hb2; have p0 := K.out.c (b := w.heap.size) (o := 0) (v := .slice ap p.persons.length cp) (by simp); have p1 := K.out.c (b := w.heap.size) (o := 1) (v := .slice aw p.walk.length cw) (by simp); have p2 := K.out.c (b := w.heap.size) (o := 2) (v := .slice ad p.dress.length cd) (by simp); have p3 := K.out.c (b := w.heap.size) (o := 3) (v := .slice aq p.parts.length cq) (by simp))
    go_ret
    exact ⟨ret_int HE.out.symm, K.out.below⟩
  have h30' : ¬ (30 : Int) < (p.parts.length : Int) := by omega
  have HE := hid (HE1.out.trans (if_neg h30))
  have hp30 : p.parts.length ≤ 30 := by omega
  clear HE1 h30
  go_enter Tryz.func24, Tryz.ntmps24
  go_wp2_with (go_at_call 50; refine (HPl.out _ K.out.below).mono ?_; rintro e w2 ⟨rfl, hb2⟩; have K := hid (K.out.later hb2); clear hb2; have p0 := K.out.c (b := w.heap.size) (o := 0) (v := .slice ap p.persons.length cp) (by simp); have p1 := K.out.c (b := w.heap.size) (o := 1) (v := .slice aw p.walk.length cw) (by simp); have p2 := K.out.c (b := w.heap.size) (o := 2) (v := .slice ad p.dress.length cd) (by simp); have p3 := K.out.c (b := w.heap.size) (o := 3) (v := .slice aq p.parts.length cq) (by simp))
  clear h30' p0 p1 p2 p3
  go_loopw [4] (fun a wr => ∃ k : Nat, k ≤ p.parts.length ∧ a = .int .i64 k ∧ (∀ j, j < k → partE p j = 0) ∧ HK [(w.heap.size, 0, .slice ap p.persons.length cp), (w.heap.size, 1, .slice aw p.walk.length cw), (w.heap.size, 2, .slice ad p.dress.length cd), (w.heap.size, 3, .slice aq p.parts.length cq)] w wr) (fun a _ => p.parts.length - (intOf a).toNat)
  case atStart => exact ⟨0, by omega, rfl, fun j hj => absurd hj (by omega), K.out⟩
  case round =>
    obtain ⟨i, hi, rfl, hf, KK⟩ := hrel
    have K := hid KK
    have HF := hid hf
    clear KK hf
    obtain ⟨wo, rfl⟩ : ∃ wo : World, wo = wr := ⟨_, rfl⟩
    by_cases hlt : i < p.parts.length
    rotate_left
    · obtain rfl : i = p.parts.length := by omega
      have HR := hid (HE.out.trans (firstBad_zero.2 HF.out))
      clear HF
      have p0 := K.out.c (b := w.heap.size) (o := 0) (v := .slice ap p.persons.length cp) (by simp)
      have p1 := K.out.c (b := w.heap.size) (o := 1) (v := .slice aw p.walk.length cw) (by simp)
      have p2 := K.out.c (b := w.heap.size) (o := 2) (v := .slice ad p.dress.length cd) (by simp)
      have p3 := K.out.c (b := w.heap.size) (o := 3) (v := .slice aq p.parts.length cq) (by simp)
      go_wp2_with fail
      go_ret
      exact ⟨ret_int HR.out.symm, K.out.below⟩
    have hcc := PartsAt.cells H.out.parts hlt
    obtain ⟨bq, oq, e, hbq, _, _, _, _, _⟩ := hcc
    cases e
    have HQ := hid (show ∀ (j : Nat) (W' : World), j < p.parts.length → Below w.heap.size w W' → (W'.cell? ⟨bq, oq + j * 5, none⟩ = some (.int .i64 (pt p.parts j).person) ∧ W'.cell? ⟨bq, oq + j * 5 + 1, none⟩ = some (.int .i64 (pt p.parts j).place) ∧ W'.cell? ⟨bq, oq + j * 5 + 2, none⟩ = some (.int .i64 (pt p.parts j).kind) ∧ W'.cell? ⟨bq, oq + j * 5 + 3, none⟩ = some (.int .i64 (pt p.parts j).start) ∧ W'.cell? ⟨bq, oq + j * 5 + 4, none⟩ = some (.int .i64 (pt p.parts j).stop)) from fun j W' hj hb => by
      have hcc := PartsAt.cells (H.out.parts.below hb) hj
      obtain ⟨b', o', e, _, d⟩ := hcc
      cases e
      exact d)
    have hal := fun j hj => (partE_zero.1 (HF.out j hj)).1
    have HX := hid (fun (v : Int) (hv : partE p i = v) (h0 : v ≠ 0) => HE.out.trans ((firstBad_at (f := partE p) hlt HF.out (by rw [hv]; exact h0)).trans hv))
    have HN := hid (fun (hv : partE p i = 0) (j : Nat) (hj : j < i + 1) => show partE p j = 0 from by
      by_cases e : j = i
      · rw [e]; exact hv
      · exact HF.out j (by omega))
    have Hal := hid hal
    have hpe : partE p i = if aloneE p (pt p.parts i) = 0 then firstBad (fun k => twoE p (pt p.parts k) (pt p.parts i)) i else aloneE p (pt p.parts i) := rfl
    have i1 : (i : Int) < (p.parts.length : Int) := by omega
    have z1 : IntKind.i64.wrap ((i : Int) + 1) = (i : Int) + 1 := IntWalk.i64_in _ (by omega)
    obtain ⟨x, hx⟩ : ∃ x, pt p.parts i = x := ⟨_, rfl⟩
    rw [hx] at hpe
    have HQi := hid (fun (W' : World) (hb : Below w.heap.size w W') => HQ.out i W' hlt hb)
    rw [hx] at HQi
    obtain ⟨pe, hpe2⟩ : ∃ pe, partE p i = pe := ⟨_, rfl⟩
    rw [hpe2] at hpe HX HN
    have Hpe := hid hpe
    have HRp := hid (fun (W' : World) (hb : Below w.heap.size w W') => rpart_any p x _ _ _ _ W' (H.out.below hb) (by omega) (by omega) (by omega))
    clear hpe hpe2 hal HF hx
    have p0 := K.out.c (b := w.heap.size) (o := 0) (v := .slice ap p.persons.length cp) (by simp)
    have p1 := K.out.c (b := w.heap.size) (o := 1) (v := .slice aw p.walk.length cw) (by simp)
    have p2 := K.out.c (b := w.heap.size) (o := 2) (v := .slice ad p.dress.length cd) (by simp)
    have p3 := K.out.c (b := w.heap.size) (o := 3) (v := .slice (some ⟨bq, oq, none⟩) p.parts.length cq) (by simp)
    have d := HQi.out _ K.out.below
    obtain ⟨d0, d1, d2, d3, d4⟩ := d
    go_upto_region 9 with fail
    have K := hid K.out.drew
    go_region_held3 (fun w' => w'.cell? ⟨w.heap.size, 0, none⟩ = some (.slice ap p.persons.length cp) ∧ w'.cell? ⟨w.heap.size, 1, none⟩ = some (.slice aw p.walk.length cw) ∧ w'.cell? ⟨w.heap.size, 2, none⟩ = some (.slice ad p.dress.length cd) ∧ w'.cell? ⟨w.heap.size, 3, none⟩ = some (.slice (some ⟨bq, oq, none⟩) p.parts.length cq) ∧ w'.cell? ⟨bq, oq + i * 5, none⟩ = some (.int .i64 x.person) ∧ w'.cell? ⟨bq, oq + i * 5 + 1, none⟩ = some (.int .i64 x.place) ∧ w'.cell? ⟨bq, oq + i * 5 + 2, none⟩ = some (.int .i64 x.kind) ∧ w'.cell? ⟨bq, oq + i * 5 + 3, none⟩ = some (.int .i64 x.start) ∧ w'.cell? ⟨bq, oq + i * 5 + 4, none⟩ = some (.int .i64 x.stop))
      (first | exact ⟨K.out.c (by simp), K.out.c (by simp), K.out.c (by simp), K.out.c (by simp), HQi.out _ K.out.below⟩) (first
      | (go_at_call 51; refine (HRp.out _ K.out.below).mono ?_; rintro e w4 ⟨rfl, hb2⟩; have K := hid (K.out.later hb2); clear hb2))
    clear p0 p1 p2 p3 d0 d1 d2 d3 d4 HRp
    by_cases ha : aloneE p x = 0
    rotate_left
    · obtain ⟨e1, e2⟩ := ne_bool ha
      have HR := hid (HX.out (aloneE p x) (Hpe.out.trans (if_neg ha)) ha)
      clear ha HX HN
      go_wp2_with fail
      go_ret
      exact ⟨ret_int HR.out.symm, K.out.below⟩
    have hxt := alone_timed ha
    have hxp := alone_placed ha
    have Hpe := hid (Hpe.out.trans (if_pos ha))
    rw [ha]
    clear ha
    go_wp2_with fail
    go_loopw [6] (fun a wr => ∃ k : Nat, k ≤ i ∧ a = .int .i64 k ∧ (∀ j, j < k → twoE p (pt p.parts j) x = 0) ∧ HK [(w.heap.size, 0, .slice ap p.persons.length cp), (w.heap.size, 1, .slice aw p.walk.length cw), (w.heap.size, 2, .slice ad p.dress.length cd), (w.heap.size, 3, .slice (some ⟨bq, oq, none⟩) p.parts.length cq)] w wr) (fun a _ => i - (intOf a).toNat)
    case atStart => exact ⟨0, by omega, rfl, fun j hj => absurd hj (by omega), K.out⟩
    case round =>
      obtain ⟨k, hk, rfl, hf, KK⟩ := hrel
      have K := hid KK
      have HG := hid hf
      clear KK hf
      obtain ⟨wv, rfl⟩ : ∃ wv : World, wv = wr := ⟨_, rfl⟩
      have p0 := K.out.c (b := w.heap.size) (o := 0) (v := .slice ap p.persons.length cp) (by simp)
      have p1 := K.out.c (b := w.heap.size) (o := 1) (v := .slice aw p.walk.length cw) (by simp)
      have p2 := K.out.c (b := w.heap.size) (o := 2) (v := .slice ad p.dress.length cd) (by simp)
      have p3 := K.out.c (b := w.heap.size) (o := 3) (v := .slice (some ⟨bq, oq, none⟩) p.parts.length cq) (by simp)
      by_cases hltk : k < i
      rotate_left
      · obtain rfl : k = i := by omega
        have HF := hid (HN.out (Hpe.out.trans (firstBad_zero.2 HG.out)))
        clear HX HN HG
        go_wp2_with fail
        go_roundw
        case rel => exact ⟨k + 1, by omega, by go_num, HF.out, K.out⟩
        case measure => simp [intOf] <;> omega
      have hya := Hal.out k hltk
      have hyt := alone_timed hya
      have hyp := alone_placed hya
      have hkl : k < p.parts.length := by omega
      have HQk := hid (fun (W' : World) (hb : Below w.heap.size w W') => HQ.out k W' hkl hb)
      have HXk := hid (fun (v : Int) (hv : twoE p (pt p.parts k) x = v) (h0 : v ≠ 0) => HX.out v (Hpe.out.trans ((firstBad_at (f := fun k => twoE p (pt p.parts k) x) hltk HG.out (by show twoE p (pt p.parts k) x ≠ 0; rw [hv]; exact h0)).trans hv)) h0)
      have HNk := hid (fun (hv : twoE p (pt p.parts k) x = 0) (j : Nat) (hj : j < k + 1) => show twoE p (pt p.parts j) x = 0 from by
        by_cases e : j = k
        · rw [e]; exact hv
        · exact HG.out j (by omega))
      obtain ⟨y, hy⟩ : ∃ y, pt p.parts k = y := ⟨_, rfl⟩
      rw [hy] at HQk HXk HNk hyt hyp
      clear hya HG hy
      have i2 : (k : Int) < (i : Int) := by omega
      have i3 : (k : Int) < (p.parts.length : Int) := by omega
      have z2 : IntKind.i64.wrap ((k : Int) + 1) = (k : Int) + 1 := IntWalk.i64_in _ (by omega)
      have dk := HQk.out _ K.out.below
      obtain ⟨c0, c1, c2, c3, c4⟩ := dk
      have dx := HQi.out _ K.out.below
      obtain ⟨d0, d1, d2, d3, d4⟩ := dx
      by_cases hpp : y.person = x.person
      rotate_left
      · obtain ⟨e1, e2⟩ := ne_bool hpp
        have HG := hid (HNk.out (by unfold twoE; rw [if_neg hpp]))
        clear hpp HNk HXk
        go_upto_region 15 with fail
        go_quiet (fail)
        go_wp2_with fail
        go_roundw
        case rel => exact ⟨k + 1, by omega, by go_num, HG.out, K.out.drewN _⟩
        case measure => simp [intOf] <;> omega
      obtain ⟨e1, e2⟩ := eq_bool hpp
      have HT2 := hid (show twoE p y x = checkTwoE p y x from twoE_of hpp)
      obtain ⟨te, hte⟩ : ∃ te, checkTwoE p y x = te := ⟨_, rfl⟩
      have HC := hid (fun (W' : World) (hb : Below w.heap.size w W') => rtwo_any p y x _ _ _ _ W' (H.out.below hb) Hsq.out hyp hxp hyt hxt)
      rw [hte] at HT2 HC
      clear hpp hte
      go_upto_region 15 with fail
      go_quiet (fail)
      have K := hid (K.out.drewN nq)
      clear p0 p1 p2 p3 c0 c1 c2 c3 c4 d0 d1 d2 d3 d4
      have p0 := K.out.c (b := w.heap.size) (o := 0) (v := .slice ap p.persons.length cp) (by simp)
      have p1 := K.out.c (b := w.heap.size) (o := 1) (v := .slice aw p.walk.length cw) (by simp)
      have p2 := K.out.c (b := w.heap.size) (o := 2) (v := .slice ad p.dress.length cd) (by simp)
      have p3 := K.out.c (b := w.heap.size) (o := 3) (v := .slice (some ⟨bq, oq, none⟩) p.parts.length cq) (by simp)
      have dk := HQk.out _ K.out.below
      obtain ⟨c0, c1, c2, c3, c4⟩ := dk
      have dx := HQi.out _ K.out.below
      obtain ⟨d0, d1, d2, d3, d4⟩ := dx
      go_upto_region 16 with fail
      have K := hid K.out.drew
      go_region_held3 (fun w' => w'.cell? ⟨w.heap.size, 0, none⟩ = some (.slice ap p.persons.length cp) ∧ w'.cell? ⟨w.heap.size, 1, none⟩ = some (.slice aw p.walk.length cw) ∧ w'.cell? ⟨w.heap.size, 2, none⟩ = some (.slice ad p.dress.length cd) ∧ w'.cell? ⟨w.heap.size, 3, none⟩ = some (.slice (some ⟨bq, oq, none⟩) p.parts.length cq) ∧ (w'.cell? ⟨bq, oq + i * 5, none⟩ = some (.int .i64 x.person) ∧ w'.cell? ⟨bq, oq + i * 5 + 1, none⟩ = some (.int .i64 x.place) ∧ w'.cell? ⟨bq, oq + i * 5 + 2, none⟩ = some (.int .i64 x.kind) ∧ w'.cell? ⟨bq, oq + i * 5 + 3, none⟩ = some (.int .i64 x.start) ∧ w'.cell? ⟨bq, oq + i * 5 + 4, none⟩ = some (.int .i64 x.stop)) ∧ (w'.cell? ⟨bq, oq + k * 5, none⟩ = some (.int .i64 y.person) ∧ w'.cell? ⟨bq, oq + k * 5 + 1, none⟩ = some (.int .i64 y.place) ∧ w'.cell? ⟨bq, oq + k * 5 + 2, none⟩ = some (.int .i64 y.kind) ∧ w'.cell? ⟨bq, oq + k * 5 + 3, none⟩ = some (.int .i64 y.start) ∧ w'.cell? ⟨bq, oq + k * 5 + 4, none⟩ = some (.int .i64 y.stop)))
        (first | exact ⟨K.out.c (by simp), K.out.c (by simp), K.out.c (by simp), K.out.c (by simp), HQi.out _ K.out.below, HQk.out _ K.out.below⟩) (first
        | (go_at_call 52; refine (HC.out _ K.out.below).mono ?_; rintro e w5 ⟨rfl, hb2⟩; have K := hid (K.out.later hb2); clear hb2))
      by_cases htz : te = 0
      · have HG := hid (HNk.out (HT2.out.trans htz))
        subst htz
        clear HXk HNk
        go_wp2_with fail
        go_roundw
        case rel => exact ⟨k + 1, by omega, by go_num, HG.out, K.out⟩
        case measure => simp [intOf] <;> omega
      · obtain ⟨e3, e4⟩ := ne_bool htz
        have HR := hid (HXk.out te HT2.out htz)
        clear htz HXk HNk
        go_wp2_with fail
        go_ret
        exact ⟨ret_int HR.out.symm, K.out.below⟩
end Go.Proofs.YtoipcbmbhjajfaaGreatDoor
