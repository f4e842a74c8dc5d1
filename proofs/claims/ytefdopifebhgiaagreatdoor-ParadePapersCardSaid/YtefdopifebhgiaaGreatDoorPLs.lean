/-
  WALKS: the program's between (at each of the two functions that it is handed), Passes.
  WALKS: the program's Passes.
  WALKS: the program's lasts$1, lasts, checkRules, both, Lasts.
  WALKS: the program's checkRules, both, Lasts.
  WALKS: the program's Lasts.
-/
import Derived.Test.YtefdopifebhgiaaGreatDoorPWh
namespace Go.Proofs.YtefdopifebhgiaaGreatDoor
open Go.RowKit

set_option maxHeartbeats 2000000 in
set_option maxRecDepth 100000 in
theorem betweenL_any (aw ags : Option Addr) (nw cw ns cs pb qb : Nat) (route : Int) (r : Int → Int) (w : World)
    (h : ∀ e : Int, (e = 0 ∨ e = 1) → ∀ W', Hid (Below w.heap.size w W') → Calls Tryz.prog 63 #[.agg #[.slice aw nw cw, .slice ags ns cs, .int .i64 e], .pointer (some ⟨pb, 0, none⟩), .pointer (some ⟨qb, 0, none⟩)] W' fun e' w' => e' = .returned (.int .i64 (r e)) ∧ Below W'.heap.size W' w') :
    Calls Tryz.prog 62 #[.agg #[.int .i64 route, .slice aw nw cw], .slice ags ns cs, .func (.func 63) #[] #[.pointer (some ⟨pb, 0, none⟩), .pointer (some ⟨qb, 0, none⟩)]] w
     fun e w' => e = .returned (.agg #[.int .i64 (r 1), .int .i64 (r 0)]) ∧ Below w.heap.size w w' := by
  have H0 := hid h
  clear h
  have hb0 := hid (Below.refl (w.heap.size + 2) ((w.alloc (.cells #[.int .i64 route, .slice aw nw cw] 24)).alloc (.cells #[.int .i64 0, .int .i64 0] 43)))
  obtain ⟨w1, hw1⟩ : ∃ w1, ((w.alloc (.cells #[.int .i64 route, .slice aw nw cw] 24)).alloc (.cells #[.int .i64 0, .int .i64 0] 43)) = w1 := ⟨_, rfl⟩
  have kb : Hid (Below w.heap.size w w1.drew) := hid (by rw [← hw1]; exact (twoBelow hb0.out).drew)
  have s0 : w1.drew.cell? ⟨w.heap.size, 0, none⟩ = some (.int .i64 route) := by rw [← hw1]; exact cell_up (cell_at rfl rfl)
  have s1 : w1.drew.cell? ⟨w.heap.size, 1, none⟩ = some (.slice aw nw cw) := by rw [← hw1]; exact cell_up (cell_at rfl rfl)
  have rc0 : w1.drew.cell? ⟨w.heap.size + 1, 0, none⟩ = some (.int .i64 0) := by rw [← hw1]; exact cell_at (by simp) rfl
  have rc1 : w1.drew.cell? ⟨w.heap.size + 1, 1, none⟩ = some (.int .i64 0) := by rw [← hw1]; exact cell_at (by simp) rfl
  have rf : w1.drew.frozen? ⟨w.heap.size + 1, 0, none⟩ = false := by rw [← hw1]; exact frozen_at (by simp)
  have rf1 : w1.drew.frozen? ⟨w.heap.size + 1, 1, none⟩ = false := by rw [← hw1]; exact frozen_at (by simp)
  have Hw1 := hid hw1
  clear hw1 hb0
  go_enter Tryz.func62, Tryz.ntmps62
  go_wp2
  rw [Hw1.out]
  go_region_held3 (fun w' => w'.cell? ⟨w.heap.size, 0, none⟩ = some (.int .i64 route) ∧ w'.cell? ⟨w.heap.size, 1, none⟩ = some (.slice aw nw cw))
    (first | exact ⟨s0, s1⟩ | go_keep) (first
    | (go_at_call 42; refine (truthOf_any _ _ _ _ _ _ _ _ _).mono ?_; rintro e w2 ⟨rfl, hb2⟩; have kb := hb_go (by first | assumption | exact kb) hb2; have s0 := cell_now (b := w.heap.size) (o := 0) (v := .int .i64 route) hb2 (by first | assumption | exact s0); have s1 := cell_now (b := w.heap.size) (o := 1) (v := .slice aw nw cw) hb2 (by first | assumption | exact s1); have rf := frozen_now (b := w.heap.size + 1) (o := 0) (v := .int .i64 0) hb2 (by first | assumption | exact rc0) (by first | assumption | exact rf); have rf1 := frozen_now (b := w.heap.size + 1) (o := 1) (v := .int .i64 0) hb2 (by first | assumption | exact rc1) (by first | assumption | exact rf1); have rc0 := cell_now (b := w.heap.size + 1) (o := 0) (v := .int .i64 0) hb2 (by first | assumption | exact rc0); have rc1 := cell_now (b := w.heap.size + 1) (o := 1) (v := .int .i64 0) hb2 (by first | assumption | exact rc1))
    | (go_at_call 63; refine (H0.out _ (by simp) _ (by assumption)).mono ?_; rintro e w2 ⟨rfl, hb2⟩; have kb := hb_go (by first | assumption | exact kb) hb2; have s0 := cell_now (b := w.heap.size) (o := 0) (v := .int .i64 route) hb2 (by first | assumption | exact s0); have s1 := cell_now (b := w.heap.size) (o := 1) (v := .slice aw nw cw) hb2 (by first | assumption | exact s1); have rf := frozen_now (b := w.heap.size + 1) (o := 0) (v := .int .i64 0) hb2 (by first | assumption | exact rc0) (by first | assumption | exact rf); have rf1 := frozen_now (b := w.heap.size + 1) (o := 1) (v := .int .i64 0) hb2 (by first | assumption | exact rc1) (by first | assumption | exact rf1); have rc0 := cell_now (b := w.heap.size + 1) (o := 0) (v := .int .i64 0) hb2 (by first | assumption | exact rc0); have rc1 := cell_now (b := w.heap.size + 1) (o := 1) (v := .int .i64 0) hb2 (by first | assumption | exact rc1)))
  all_goals (
    go_wp2
    refine bodyPost_ret (v := .agg #[.int .i64 (r 1), .int .i64 (r 0)]) (by simp [results, Tryz.results62, go_sem, rc0, rc1]) rfl ⟨rfl, ?_⟩
    exact (kb.out.setCell (p := ⟨w.heap.size + 1, 0, none⟩) (by simp) _).setCell (p := ⟨w.heap.size + 1, 1, none⟩) (by simp) _)

end Go.Proofs.YtefdopifebhgiaaGreatDoor

namespace Go.Proofs.YtefdopifebhgiaaGreatDoor
open Go.RowKit

/-- the error of a school, starts, a wing and a place -/
def passErr (route : Int) (ws : List Wing) (st : List Int) (wing place : Int) : Int :=
  if checkStarts route ws st = 0 then (if inB wing 0 ((ws.length : Int) - 1) = false then 7 else if inB place 0 100000 = false then 2 else 0) else checkStarts route ws st
def passSpan (route : Int) (ws : List Wing) (st : List Int) (wing place : Int) : Int × Int :=
  if passErr route ws st wing place = 0 then (passed (Ln ws) (nm st) (Hi ws) wing.toNat place, passed (Ln ws) (nm st) (Lo ws) wing.toNat place) else (0, 0)

theorem passErr_st {route : Int} {ws : List Wing} {st : List Int} {wing place : Int} (h : checkStarts route ws st ≠ 0) : passErr route ws st wing place = checkStarts route ws st := by unfold passErr; rw [if_neg h]
theorem passErr_7 {route : Int} {ws : List Wing} {st : List Int} {wing place : Int} (h : checkStarts route ws st = 0) (h1 : inB wing 0 ((ws.length : Int) - 1) = false) : passErr route ws st wing place = 7 := by unfold passErr; rw [if_pos h, if_pos h1]
theorem passErr_2 {route : Int} {ws : List Wing} {st : List Int} {wing place : Int} (h : checkStarts route ws st = 0) (h1 : inB wing 0 ((ws.length : Int) - 1) = true) (h2 : inB place 0 100000 = false) : passErr route ws st wing place = 2 := by unfold passErr; rw [if_pos h, if_neg (by simp [h1]), if_pos h2]
theorem passErr_0 {route : Int} {ws : List Wing} {st : List Int} {wing place : Int} (h : checkStarts route ws st = 0) (h1 : inB wing 0 ((ws.length : Int) - 1) = true) (h2 : inB place 0 100000 = true) : passErr route ws st wing place = 0 := by unfold passErr; rw [if_pos h, if_neg (by simp [h1]), if_neg (by simp [h2])]
theorem passSpan_ne {route : Int} {ws : List Wing} {st : List Int} {wing place : Int} (h : passErr route ws st wing place ≠ 0) : passSpan route ws st wing place = (0, 0) := by unfold passSpan; rw [if_neg h]
theorem passSpan_0 {route : Int} {ws : List Wing} {st : List Int} {wing place : Int} (h : passErr route ws st wing place = 0) : passSpan route ws st wing place = (passed (Ln ws) (nm st) (Hi ws) wing.toNat place, passed (Ln ws) (nm st) (Lo ws) wing.toNat place) := by unfold passSpan; rw [if_pos h]

theorem fourBelow {w w' : World} {X Y Z U : Obj} (h : Below (w.heap.size + 4) ((((w.alloc X).alloc Y).alloc Z).alloc U) w') : Below w.heap.size w w' :=
  ((((Below.refl _ w).alloc (Nat.le_refl _) X).alloc (by simp) Y).alloc (by simp; omega) Z).alloc (by simp; omega) U |>.trans (h.mono (by omega))

end Go.Proofs.YtefdopifebhgiaaGreatDoor

namespace Go.Proofs.YtefdopifebhgiaaGreatDoor
open Go.RowKit

theorem passed_high {L S P : Nat → Int} {k : Nat} (hP : ∀ i, i ≤ k → 0 < P i) (hL : ∀ i, i < k → 0 ≤ L i ∧ L i ≤ 100000) (hS : ∀ i, i ≤ k → S i ≤ 1000000) {x : Int} (hx : 0 ≤ x) :
    passed L S P k x ≤ 1000000 + x + 100000 * (k : Int) := by
  induction k generalizing x with
  | zero =>
    have h1 := cdiv_le_self (hP 0 (by omega)) hx
    have h2 := hS 0 (by omega)
    simp only [passed]; omega
  | succ k ih =>
    have h1 := cdiv_le_self (hP (k + 1) (by omega)) hx
    have h2 := hS (k + 1) (by omega)
    have h3 := hL k (by omega)
    have h4 := ih (fun i hi => hP i (by omega)) (fun i hi => hL i (by omega)) (fun i hi => hS i (by omega)) (x := x + L k) (by omega)
    simp only [passed]; omega

/-- how long the parade lasts, for paces -/
def longOf (route : Int) (ws : List Wing) (st : List Int) (P : Nat → Int) : Int :=
  passed (Ln ws) (nm st) P (ws.length - 1) (route + Ln ws (ws.length - 1)) - nm st 0

set_option maxHeartbeats 1000000 in
set_option maxRecDepth 100000 in
theorem last1_any (ws : List Wing) (st : List Int) (route e : Int) (vw vs : Value) (pb qb : Nat) (w : World) (hW : WgAt none w vw ws) (hS : IntsAt none w vs st)
    (ht : Tr ws st (ws.length - 1) e) (hr : 0 ≤ route) (hr2 : route ≤ 100000) (hp : w.cell? ⟨pb, 0, none⟩ = some (.int .i64 route)) (hp1 : w.cell? ⟨pb, 1, none⟩ = some vw) (hq : w.cell? ⟨qb, 0, none⟩ = some vs) :
    Calls Tryz.prog 63 #[.agg #[vw, vs, .int .i64 e], .pointer (some ⟨pb, 0, none⟩), .pointer (some ⟨qb, 0, none⟩)] w
     fun e' w' => e' = .returned (.int .i64 (longOf route ws st (endOf ws e))) ∧ Below w.heap.size w w' := by
  have hW2 := hid hW
  have hS2 := hid hS
  obtain ⟨aw, cap, rfl, _⟩ := hW
  obtain ⟨ags, caps, rfl, hh2⟩ := hS
  have hkw := ht.kw
  have hks := ht.ks
  have hn := ht.small.n
  obtain ⟨bs, offs, rfl, _, _, _, hbs, hSc⟩ := hh2 (by omega)
  have sc := hSc 0 (by omega)
  rw [Nat.add_zero] at sc
  have hst := ht.start 0 (by omega)
  have hP : ∀ i, i ≤ ws.length - 1 → 0 < endOf ws e i := fun i hi => by
    have h1 := ht.small.lo i (by omega)
    have h2 := ht.small.hi i (by omega)
    rcases ht.e with rfl | rfl
    · rw [endOf_0]; omega
    · rw [endOf_1]; omega
  have hL : ∀ i, i ≤ ws.length - 1 → 0 ≤ Ln ws i ∧ Ln ws i ≤ 100000 := fun i hi => ht.small.len i (by omega)
  have hlast := hL (ws.length - 1) (by omega)
  have b1 := passed_high (L := Ln ws) (S := nm st) hP (fun i hi => hL i (by omega)) (fun i hi => (ht.start i hi).2) (x := route + Ln ws (ws.length - 1)) (by omega)
  have b2 := passed_ge_start (L := Ln ws) (S := nm st) hP (fun i hi => (hL i (by omega)).1) (x := route + Ln ws (ws.length - 1)) (by omega)
  have b4 := b2 (ws.length - 1) (Nat.le_refl _)
  have b3 := ht.start (ws.length - 1) (by omega)
  have hpos : 0 < st.length := by omega
  have hpos2 : ¬ st.length = 0 := by omega
  have hpos3 : (0 : Int) < (st.length : Int) := by omega
  have e1 : ((ws.length - 1 : Nat) : Int) = (ws.length : Int) - 1 := by omega
  have hb0 := hid ((Below.refl (w.heap.size + 1) (w.alloc (.cells #[.slice aw ws.length cap, .slice (some ⟨bs, offs, none⟩) st.length caps, .int .i64 e] 90))).drew)
  have hp1' : pb < w.heap.size := World.block_lt_of_cell? w ⟨pb, 0, none⟩ hp
  have hq1 : qb < w.heap.size := World.block_lt_of_cell? w ⟨qb, 0, none⟩ hq
  have z0 : IntKind.i64.wrap ((ws.length : Int) - 1) = (ws.length : Int) - 1 := IntWalk.i64_in _ (by omega)
  have z1 : IntKind.i64.wrap (passed (Ln ws) (nm st) (endOf ws e) (ws.length - 1) (route + Ln ws (ws.length - 1)) - nm st 0) = longOf route ws st (endOf ws e) := by
    unfold longOf; exact IntWalk.i64_in _ (by omega)
  have hcl : ∀ vw' W', WgAt none W' vw' ws → IntsAt none W' (.slice (some ⟨bs, offs, none⟩) st.length caps) st → Calls Tryz.prog 57 #[.agg #[vw', .slice (some ⟨bs, offs, none⟩) st.length caps, .int .i64 e], .int .i64 ((ws.length : Int) - 1), .int .i64 route] W' 
     fun e' w' => e' = .returned (.int .i64 (passed (Ln ws) (nm st) (endOf ws e) (ws.length - 1) (route + Ln ws (ws.length - 1)))) ∧ Below W'.heap.size W' w' := fun vw' W' h1 h2 => by
    have h := clear_any ws st ((ws.length - 1 : Nat) : Int) route e vw' _ W' h1 h2 (by omega) (by rw [Int.toNat_natCast]; exact ht) hr (by omega)
    rw [Int.toNat_natCast, e1] at h
    exact h
  have Hcl := hid hcl
  clear hSc hh2 hcl hL hP
  go_enter Tryz.func63, Tryz.ntmps63
  go_wp2
  go_region_held3 (fun w' => w'.cell? ⟨w.heap.size, 0, none⟩ = some (.slice aw ws.length cap) ∧ w'.cell? ⟨w.heap.size, 1, none⟩ = some (.slice (some ⟨bs, offs, none⟩) st.length caps) ∧ w'.cell? ⟨w.heap.size, 2, none⟩ = some (.int .i64 e) ∧ w'.cell? ⟨pb, 0, none⟩ = some (.int .i64 route) ∧ w'.cell? ⟨pb, 1, none⟩ = some (.slice aw ws.length cap) ∧ w'.cell? ⟨qb, 0, none⟩ = some (.slice (some ⟨bs, offs, none⟩) st.length caps) ∧ w'.cell? ⟨bs, offs, none⟩ = some (.int .i64 (nm st 0)))
    (first | exact ⟨q0, q1, q2, q5, q6, q7, q8⟩ | exact ⟨(boxed3 hb0.out).1, (boxed3 hb0.out).2.1, (boxed3 hb0.out).2.2.1, cell_back (boxed3 hb0.out).2.2.2.1 hp1' hp, cell_back (boxed3 hb0.out).2.2.2.1 hp1' hp1, cell_back (boxed3 hb0.out).2.2.2.1 hq1 hq, cell_back (boxed3 hb0.out).2.2.2.1 hbs sc⟩) (first
    | (go_at_call 57; refine (Hcl.out _ _ (hW2.out.below (boxed3 hb0.out).2.2.2.1) (hS2.out.below (boxed3 hb0.out).2.2.2.1)).mono ?_; rintro e' w2 ⟨rfl, hb2⟩; have hk2 := hid (below_go hb0.out hb2 (by simp)); obtain ⟨q0, q1, q2, q3', q4⟩ := boxed3 hk2.out; have q5 := cell_back q3' hp1' hp; have q6 := cell_back q3' hp1' hp1; have q7 := cell_back q3' hq1 hq; have q8 := cell_back q3' hbs sc))
  go_wp2
  go_ret
  exact ⟨rfl, q3'⟩

theorem threeBelow {w w' : World} {X Y Z : Obj} (h : Below (w.heap.size + 3) (((w.alloc X).alloc Y).alloc Z) w') : Below w.heap.size w w' :=
  (((Below.refl _ w).alloc (Nat.le_refl _) X).alloc (by simp) Y).alloc (by simp; omega) Z |>.trans (h.mono (by omega))

set_option maxHeartbeats 2000000 in
set_option maxRecDepth 100000 in
theorem plasts_any (ws : List Wing) (st : List Int) (route : Int) (vw vs : Value) (w : World) (hW : WgAt none w vw ws) (hS : IntsAt none w vs st) (hc : checkStarts route ws st = 0) :
    Calls Tryz.prog 45 #[.agg #[.int .i64 route, vw], vs] w
     fun e w' => e = .returned (.agg #[.int .i64 (longOf route ws st (Hi ws)), .int .i64 (longOf route ws st (Lo ws))]) ∧ Below w.heap.size w w' := by
  have hW2 := hid hW
  have hS2 := hid hS
  have Hc := hid hc
  have hr : 1 ≤ route ∧ route ≤ 100000 ∧ 0 < ws.length := by
    have h := check_zero (starts_zero hc).1
    exact ⟨h.1, h.2.1, h.2.2.1⟩
  obtain ⟨aw, cap, rfl, _⟩ := hW
  obtain ⟨ags, caps, rfl, _⟩ := hS
  have hmf : ∀ (fn : Fn) (first cap : Array Value) (w : World), (Instr.makeFunc fn first cap).run Tryz.prog w = .ok (.func fn first cap) w := fun _ _ _ _ => rfl
  clear hc
  have hbt : ∀ W2, Below w.heap.size w W2 → w.heap.size + 2 ≤ W2.heap.size → W2.cell? ⟨w.heap.size, 0, none⟩ = some (.int .i64 route) → W2.cell? ⟨w.heap.size, 1, none⟩ = some (.slice aw ws.length cap) → W2.cell? ⟨w.heap.size + 1, 0, none⟩ = some (.slice ags st.length caps) →
      Calls Tryz.prog 62 #[.agg #[.int .i64 route, .slice aw ws.length cap], .slice ags st.length caps, .func (.func 63) #[] #[.pointer (some ⟨w.heap.size, 0, none⟩), .pointer (some ⟨w.heap.size + 1, 0, none⟩)]] W2
       fun e w' => e = .returned (.agg #[.int .i64 (longOf route ws st (Hi ws)), .int .i64 (longOf route ws st (Lo ws))]) ∧ Below W2.heap.size W2 w' := by
    intro W2 hb hlt s0 s1 s2
    refine betweenL_any _ _ _ _ _ _ _ _ route (fun e => longOf route ws st (endOf ws e)) _ (fun e he W' hb' => last1_any ws st route e _ _ _ _ _ (hW2.out.below (below_trans hb hb'.out)) (hS2.out.below (below_trans hb hb'.out))
      (starts_tr Hc.out (by omega) he) (by omega) (by omega) (cell_back hb'.out (by omega) s0) (cell_back hb'.out (by omega) s1) (cell_back hb'.out (by omega) s2))
  have Hbt := hid hbt
  clear hbt
  have hb0 := hid (Below.refl (w.heap.size + 3) (((w.alloc (.cells #[.int .i64 route, .slice aw ws.length cap] 24)).alloc (.cells #[.slice ags st.length caps] 25)).alloc (.cells #[.int .i64 0, .int .i64 0] 43)))
  obtain ⟨w1, hw1⟩ : ∃ w1, (((w.alloc (.cells #[.int .i64 route, .slice aw ws.length cap] 24)).alloc (.cells #[.slice ags st.length caps] 25)).alloc (.cells #[.int .i64 0, .int .i64 0] 43)) = w1 := ⟨_, rfl⟩
  have kb : Hid (Below w.heap.size w w1) := hid (by rw [← hw1]; exact (threeBelow hb0.out))
  have hlt : w.heap.size + 3 ≤ w1.heap.size := by rw [← hw1]; simp
  have s0 : w1.cell? ⟨w.heap.size, 0, none⟩ = some (.int .i64 route) := by rw [← hw1]; exact cell_up (cell_up (cell_at rfl rfl))
  have s1 : w1.cell? ⟨w.heap.size, 1, none⟩ = some (.slice aw ws.length cap) := by rw [← hw1]; exact cell_up (cell_up (cell_at rfl rfl))
  have s2 : w1.cell? ⟨w.heap.size + 1, 0, none⟩ = some (.slice ags st.length caps) := by rw [← hw1]; exact cell_up (cell_at (by simp) rfl)
  have rc0 : w1.cell? ⟨w.heap.size + 1 + 1, 0, none⟩ = some (.int .i64 0) := by rw [← hw1]; exact cell_at (by simp) rfl
  have rc1 : w1.cell? ⟨w.heap.size + 1 + 1, 1, none⟩ = some (.int .i64 0) := by rw [← hw1]; exact cell_at (by simp) rfl
  have rf : w1.frozen? ⟨w.heap.size + 1 + 1, 0, none⟩ = false := by rw [← hw1]; exact frozen_at (by simp)
  have rf1 : w1.frozen? ⟨w.heap.size + 1 + 1, 1, none⟩ = false := by rw [← hw1]; exact frozen_at (by simp)
  have Hw1 := hid hw1
  clear hw1 hb0
  go_enter Tryz.func45, Tryz.ntmps45
  go_wp2_with (go_at_call 62; rw [Hw1.out]; refine (Hbt.out _ kb.out (by omega) s0 s1 s2).mono ?_; rintro e w2 ⟨rfl, hb2⟩; have rc0 := cell_now hb2 rc0; have rc1 := cell_now hb2 rc1; have rf : w2.frozen? ⟨w.heap.size + 1 + 1, 0, none⟩ = false := (hb2.frozen (p := ⟨w.heap.size + 1 + 1, 0, none⟩) (by simp only; omega)).trans rf; have rf1 : w2.frozen? ⟨w.heap.size + 1 + 1, 1, none⟩ = false := (hb2.frozen (p := ⟨w.heap.size + 1 + 1, 1, none⟩) (by simp only; omega)).trans rf1)
  refine bodyPost_ret (v := .agg #[.int .i64 (longOf route ws st (Hi ws)), .int .i64 (longOf route ws st (Lo ws))]) (by simp [results, Tryz.results45, go_sem, rc0, rc1]) rfl ⟨rfl, ?_⟩
  exact ((kb.out.trans (hb2.mono kb.out.size)).setCell (p := ⟨w.heap.size + 1 + 1, 0, none⟩) (by simp; omega) _).setCell (p := ⟨w.heap.size + 1 + 1, 1, none⟩) (by simp; omega) _
end Go.Proofs.YtefdopifebhgiaaGreatDoor

namespace Go.Proofs.YtefdopifebhgiaaGreatDoor
open Go.RowKit

/-- the error of rules -/
def rulesErr (a b c : Int) : Int :=
  if inB a 0 100000 = false then 2 else if inB b 0 100000 = false then 2 else if inB c 0 20000 = false then 2 else if b < a then 9 else 0

set_option maxHeartbeats 1000000 in
set_option maxRecDepth 100000 in
theorem prules_any (a b c : Int) (w : World) :
    Calls Tryz.prog 61 #[.agg #[.int .i64 a, .int .i64 b, .int .i64 c]] w
     fun e w' => e = .returned (.int .i64 (rulesErr a b c)) ∧ Below w.heap.size w w' := by
  have kb : Hid (Below w.heap.size w (w.alloc (.cells #[.int .i64 a, .int .i64 b, .int .i64 c] 54))) := hid ((Below.refl _ w).alloc (Nat.le_refl _) _)
  cases h1 : inB a 0 100000 with
  | false =>
    go_enter Tryz.func61, Tryz.ntmps61
    go_wp2_with (go_at_call 46; refine (in_any _ _ _ _).mono ?_; rintro e w' ⟨rfl, rfl⟩)
    go_ret
    exact ⟨ret_int (by unfold rulesErr; rw [if_pos h1]), kb.out⟩
  | true =>
    cases h2 : inB b 0 100000 with
    | false =>
      go_enter Tryz.func61, Tryz.ntmps61
      go_wp2_with (go_at_call 46; refine (in_any _ _ _ _).mono ?_; rintro e w' ⟨rfl, rfl⟩)
      go_ret
      exact ⟨ret_int (by unfold rulesErr; rw [if_neg (by simp [h1]), if_pos h2]), kb.out⟩
    | true =>
      cases h3 : inB c 0 20000 with
      | false =>
        go_enter Tryz.func61, Tryz.ntmps61
        go_wp2_with (go_at_call 46; refine (in_any _ _ _ _).mono ?_; rintro e w' ⟨rfl, rfl⟩)
        go_ret
        exact ⟨ret_int (by unfold rulesErr; rw [if_neg (by simp [h1]), if_neg (by simp [h2]), if_pos h3]), kb.out⟩
      | true =>
        by_cases h4 : b < a
        · go_enter Tryz.func61, Tryz.ntmps61
          go_wp2_with (go_at_call 46; refine (in_any _ _ _ _).mono ?_; rintro e w' ⟨rfl, rfl⟩)
          go_ret
          exact ⟨ret_int (by unfold rulesErr; rw [if_neg (by simp [h1]), if_neg (by simp [h2]), if_neg (by simp [h3]), if_pos h4]), kb.out⟩
        · go_enter Tryz.func61, Tryz.ntmps61
          go_wp2_with (go_at_call 46; refine (in_any _ _ _ _).mono ?_; rintro e w' ⟨rfl, rfl⟩)
          go_ret
          exact ⟨ret_int (by unfold rulesErr; rw [if_neg (by simp [h1]), if_neg (by simp [h2]), if_neg (by simp [h3]), if_neg (by omega)]), kb.out⟩

/-- the error of a school, starts and rules -/
def bothErr (route : Int) (ws : List Wing) (st : List Int) (a b c : Int) : Int :=
  if checkStarts route ws st = 0 then rulesErr a b c else checkStarts route ws st

set_option maxHeartbeats 1000000 in
set_option maxRecDepth 100000 in
theorem pboth_any (ws : List Wing) (st : List Int) (route a b c : Int) (vw vs : Value) (w : World) (hW : WgAt none w vw ws) (hS : IntsAt none w vs st) (hn : ws.length ≤ 100) (hnm : ∀ i, i < ws.length → (wg ws i).name.size ≤ 1000000) (hns : st.length ≤ 1000000) :
    Calls Tryz.prog 44 #[.agg #[.int .i64 route, vw], vs, .agg #[.int .i64 a, .int .i64 b, .int .i64 c]] w
     fun e w' => e = .returned (.int .i64 (bothErr route ws st a b c)) ∧ Below w.heap.size w w' := by
  have hW2 := hid hW
  have hS2 := hid hS
  obtain ⟨aw, cap, rfl, _⟩ := hW
  obtain ⟨ags, caps, rfl, _⟩ := hS
  have hb0 := hid (Below.refl (w.heap.size + 2) ((w.alloc (.cells #[.int .i64 route, .slice aw ws.length cap] 24)).alloc (.cells #[.int .i64 a, .int .i64 b, .int .i64 c] 54)))
  by_cases hc : checkStarts route ws st = 0
  · obtain ⟨c1, c2⟩ := eq_bool hc
    have Hc := hid hc
    clear hc
    go_enter Tryz.func44, Tryz.ntmps44
    go_wp2_with (first
      | (go_at_call 58; refine (pstarts_any ws st route _ _ _ (hW2.out.below (twoBelow hb0.out)) (hS2.out.below (twoBelow hb0.out)) hn hnm hns).mono ?_; rintro e w1 ⟨rfl, hb1⟩; have hk1 := hid (below_go hb0.out hb1 (by simp)); have hk3 := hid (twoBelow hk1.out); have s0 : w1.cell? ⟨w.heap.size + 1, 0, none⟩ = some (.int .i64 a) := cell_back hk1.out (by omega) (cell_at (by simp) rfl); have s1 : w1.cell? ⟨w.heap.size + 1, 1, none⟩ = some (.int .i64 b) := cell_back hk1.out (by omega) (cell_at (by simp) rfl); have s2 : w1.cell? ⟨w.heap.size + 1, 2, none⟩ = some (.int .i64 c) := cell_back hk1.out (by omega) (cell_at (by simp) rfl))
      | (go_at_call 61; refine (prules_any _ _ _ _).mono ?_; rintro e w2 ⟨rfl, hb2⟩))
    go_ret
    exact ⟨ret_int (by unfold bothErr; rw [if_pos Hc.out]), hk3.out.trans (hb2.mono hk3.out.size)⟩
  · obtain ⟨c1, c2⟩ := ne_bool hc
    have Hc := hid hc
    clear hc
    go_enter Tryz.func44, Tryz.ntmps44
    go_wp2_with (go_at_call 58; refine (pstarts_any ws st route _ _ _ (hW2.out.below (twoBelow hb0.out)) (hS2.out.below (twoBelow hb0.out)) hn hnm hns).mono ?_; rintro e w1 ⟨rfl, hb1⟩; have hk1 := hid (below_go hb0.out hb1 (by simp)))
    go_ret
    exact ⟨ret_int (by unfold bothErr; rw [if_neg Hc.out]), twoBelow hk1.out⟩
end Go.Proofs.YtefdopifebhgiaaGreatDoor

namespace Go.Proofs.YtefdopifebhgiaaGreatDoor
open Go.RowKit

/-- the verdict on a span of seconds -/
def verdictOf (a b lo hi : Int) : Int := if a ≤ lo ∧ hi ≤ b then 1 else if hi < a ∨ b < lo then 2 else 3
/-- what Lasts returns: the verdict, both ends -/
def lastsRes (route : Int) (ws : List Wing) (st : List Int) (a b c : Int) : Int × Int × Int :=
  if bothErr route ws st a b c = 0 then (verdictOf a b (longOf route ws st (Hi ws)) (longOf route ws st (Lo ws)), longOf route ws st (Hi ws), longOf route ws st (Lo ws)) else (0, 0, 0)

theorem both_zero {route : Int} {ws : List Wing} {st : List Int} {a b c : Int} (h : bothErr route ws st a b c = 0) : checkStarts route ws st = 0 ∧ rulesErr a b c = 0 := by
  unfold bothErr at h
  by_cases hc : checkStarts route ws st = 0
  · rw [if_pos hc] at h; exact ⟨hc, h⟩
  · rw [if_neg hc] at h; exact absurd h hc

theorem long_le {route : Int} {ws : List Wing} {st : List Int} (h : checkStarts route ws st = 0) : longOf route ws st (Hi ws) ≤ longOf route ws st (Lo ws) := by
  have h1 := check_zero (starts_zero h).1
  unfold longOf
  have h2 : passed (Ln ws) (nm st) (Hi ws) (ws.length - 1) (route + Ln ws (ws.length - 1)) ≤ passed (Ln ws) (nm st) (Lo ws) (ws.length - 1) (route + Ln ws (ws.length - 1)) :=
    passed_mono_P (fun i hi => by have := h1.2.2.2.2 i (by omega); show 0 < (wg ws i).lo; omega) (fun i hi => by have := h1.2.2.2.2 i (by omega); show (wg ws i).lo ≤ (wg ws i).hi; omega) (fun i hi => by have := h1.2.2.2.2 i (by omega); show 0 ≤ (wg ws i).len; omega)
      (by have := h1.2.2.2.2 (ws.length - 1) (by omega); show 0 ≤ route + (wg ws (ws.length - 1)).len; omega)
  omega

set_option maxHeartbeats 4000000 in
set_option maxRecDepth 100000 in
theorem pLasts_any (ws : List Wing) (st : List Int) (route a b c : Int) (vw vs : Value) (w : World) (hW : WgAt none w vw ws) (hS : IntsAt none w vs st) (hn : ws.length ≤ 100) (hnm : ∀ i, i < ws.length → (wg ws i).name.size ≤ 1000000) (hns : st.length ≤ 1000000) :
    Calls Tryz.prog 18 #[.agg #[.int .i64 route, vw], vs, .agg #[.int .i64 a, .int .i64 b, .int .i64 c]] w
     fun e w' => e = .returned (.tuple #[.int .i64 (lastsRes route ws st a b c).1, .agg #[.int .i64 (lastsRes route ws st a b c).2.1, .int .i64 (lastsRes route ws st a b c).2.2], .int .i64 (bothErr route ws st a b c)]) ∧ Below w.heap.size w w' := by
  have hW2 := hid hW
  have hS2 := hid hS
  obtain ⟨aw, cap, rfl, _⟩ := hW
  obtain ⟨ags, caps, rfl, _⟩ := hS
  have hb0 := hid (Below.refl (w.heap.size + 3) (((w.alloc (.cells #[.int .i64 route, .slice aw ws.length cap] 24)).alloc (.cells #[.int .i64 a, .int .i64 b, .int .i64 c] 54)).alloc (.cells #[.int .i64 0, .int .i64 0] 43)))
  obtain ⟨w1, hw1⟩ : ∃ w1, (((w.alloc (.cells #[.int .i64 route, .slice aw ws.length cap] 24)).alloc (.cells #[.int .i64 a, .int .i64 b, .int .i64 c] 54)).alloc (.cells #[.int .i64 0, .int .i64 0] 43)) = w1 := ⟨_, rfl⟩
  have kb : Hid (Below w.heap.size w w1) := hid (by rw [← hw1]; exact (threeBelow hb0.out))
  have hlt : w.heap.size + 3 ≤ w1.heap.size := by rw [← hw1]; simp
  have s0 : w1.cell? ⟨w.heap.size, 0, none⟩ = some (.int .i64 route) := by rw [← hw1]; exact cell_up (cell_up (cell_at rfl rfl))
  have s1 : w1.cell? ⟨w.heap.size, 1, none⟩ = some (.slice aw ws.length cap) := by rw [← hw1]; exact cell_up (cell_up (cell_at rfl rfl))
  have r0 : w1.cell? ⟨w.heap.size + 1, 0, none⟩ = some (.int .i64 a) := by rw [← hw1]; exact cell_up (cell_at (by simp) rfl)
  have r1 : w1.cell? ⟨w.heap.size + 1, 1, none⟩ = some (.int .i64 b) := by rw [← hw1]; exact cell_up (cell_at (by simp) rfl)
  have r2 : w1.cell? ⟨w.heap.size + 1, 2, none⟩ = some (.int .i64 c) := by rw [← hw1]; exact cell_up (cell_at (by simp) rfl)
  have rc0 : w1.cell? ⟨w.heap.size + 1 + 1, 0, none⟩ = some (.int .i64 0) := by rw [← hw1]; exact cell_at (by simp) rfl
  have rc1 : w1.cell? ⟨w.heap.size + 1 + 1, 1, none⟩ = some (.int .i64 0) := by rw [← hw1]; exact cell_at (by simp) rfl
  have rf : w1.frozen? ⟨w.heap.size + 1 + 1, 0, none⟩ = false := by rw [← hw1]; exact frozen_at (by simp)
  have rf1 : w1.frozen? ⟨w.heap.size + 1 + 1, 1, none⟩ = false := by rw [← hw1]; exact frozen_at (by simp)
  have Hw1 := hid hw1
  clear hw1 hb0
  by_cases hc : bothErr route ws st a b c = 0
  · obtain ⟨c1, c2⟩ := eq_bool hc
    have Hc := hid hc
    have hst := hid (both_zero hc).1
    have hle := long_le hst.out
    have hval : (lastsRes route ws st a b c) = (verdictOf a b (longOf route ws st (Hi ws)) (longOf route ws st (Lo ws)), longOf route ws st (Hi ws), longOf route ws st (Lo ws)) := by unfold lastsRes; rw [if_pos hc]
    have HL := hid (fun W h1 h2 => plasts_any ws st route (.slice aw ws.length cap) (.slice ags st.length caps) W h1 h2 hst.out)
    rw [hval]
    clear hc hval
    generalize longOf route ws st (Hi ws) = lo at *
    generalize longOf route ws st (Lo ws) = hi at *
    cases q1 : inB lo a b <;> cases q2 : inB hi a b <;> by_cases d1 : b < lo <;> by_cases d2 : hi < a
    all_goals (
      have q1' := q1
      have q2' := q2
      unfold inB at q1' q2'
      simp only [decide_eq_true_eq, decide_eq_false_iff_not] at q1' q2')
    all_goals first | (exfalso; omega) | skip
    all_goals (
      go_enter Tryz.func18, Tryz.ntmps18
      go_wp2_with (first
        | (go_at_call 44; rw [Hw1.out]; refine (pboth_any ws st route _ _ _ _ _ _ (hW2.out.below kb.out) (hS2.out.below kb.out) hn hnm hns).mono ?_; rintro e w2 ⟨rfl, hb2⟩; have hlt := Nat.le_trans hlt hb2.size; have s0 := cell_now hb2 s0; have s1 := cell_now hb2 s1; have r0 := cell_now hb2 r0; have r1 := cell_now hb2 r1; have r2 := cell_now hb2 r2; have rf : w2.frozen? ⟨w.heap.size + 1 + 1, 0, none⟩ = false := frozen_now hb2 rc0 rf; have rf1 : w2.frozen? ⟨w.heap.size + 1 + 1, 1, none⟩ = false := frozen_now hb2 rc1 rf1; have rc0 := cell_now hb2 rc0; have rc1 := cell_now hb2 rc1; have kb := hb_go kb hb2)
        | (go_at_call 45; refine (HL.out _ (hW2.out.below kb.out) (hS2.out.below kb.out)).mono ?_; rintro e w2 ⟨rfl, hb2⟩; have hlt := Nat.le_trans hlt hb2.size; have s0 := cell_now hb2 s0; have s1 := cell_now hb2 s1; have r0 := cell_now hb2 r0; have r1 := cell_now hb2 r1; have r2 := cell_now hb2 r2; have rf : w2.frozen? ⟨w.heap.size + 1 + 1, 0, none⟩ = false := frozen_now hb2 rc0 rf; have rf1 : w2.frozen? ⟨w.heap.size + 1 + 1, 1, none⟩ = false := frozen_now hb2 rc1 rf1; have rc0 := cell_now hb2 rc0; have rc1 := cell_now hb2 rc1; have kb := hb_go kb hb2; have t0 : (w2.alloc (.cells #[.int .i64 lo, .int .i64 hi] 43)).cell? ⟨w.heap.size + 1, 0, none⟩ = some (.int .i64 a) := cell_up r0; have t1 : (w2.alloc (.cells #[.int .i64 lo, .int .i64 hi] 43)).cell? ⟨w.heap.size + 1, 1, none⟩ = some (.int .i64 b) := cell_up r1; have t2 : (w2.alloc (.cells #[.int .i64 lo, .int .i64 hi] 43)).cell? ⟨w.heap.size + 1, 2, none⟩ = some (.int .i64 c) := cell_up r2)
        | (go_at_call 46; refine (in_any _ _ _ _).mono ?_; rintro e w' ⟨rfl, rfl⟩)))
    all_goals (
      obtain ⟨w3, hw3⟩ : ∃ w3, (w2.alloc (.cells #[.int .i64 lo, .int .i64 hi] 43)) = w3 := ⟨_, rfl⟩
      have kd : Hid (Below w.heap.size w w3.drew) := hid (by rw [← hw3]; exact (kb.out.alloc kb.out.size _).drew)
      have v0 : w3.drew.cell? ⟨w2.heap.size, 0, none⟩ = some (.int .i64 lo) := by rw [← hw3]; exact cell_at rfl rfl
      have v1 : w3.drew.cell? ⟨w2.heap.size, 1, none⟩ = some (.int .i64 hi) := by rw [← hw3]; exact cell_at rfl rfl
      have x0 : w3.drew.cell? ⟨w.heap.size + 1 + 1, 0, none⟩ = some (.int .i64 0) := by rw [← hw3]; exact cell_up rc0
      have x1 : w3.drew.cell? ⟨w.heap.size + 1 + 1, 1, none⟩ = some (.int .i64 0) := by rw [← hw3]; exact cell_up rc1
      have y0 : w3.drew.frozen? ⟨w.heap.size + 1 + 1, 0, none⟩ = false := by rw [← hw3]; exact frozen_up (World.block_lt_of_cell? w2 ⟨_, _, none⟩ rc0) rf
      have y1 : w3.drew.frozen? ⟨w.heap.size + 1 + 1, 1, none⟩ = false := by rw [← hw3]; exact frozen_up (World.block_lt_of_cell? w2 ⟨_, _, none⟩ rc1) rf1
      have v0' : w3.cell? ⟨w2.heap.size, 0, none⟩ = some (.int .i64 lo) := v0
      have v1' : w3.cell? ⟨w2.heap.size, 1, none⟩ = some (.int .i64 hi) := v1
      have x0' : w3.cell? ⟨w.heap.size + 1 + 1, 0, none⟩ = some (.int .i64 0) := x0
      have x1' : w3.cell? ⟨w.heap.size + 1 + 1, 1, none⟩ = some (.int .i64 0) := x1
      have y0' : w3.frozen? ⟨w.heap.size + 1 + 1, 0, none⟩ = false := y0
      have y1' : w3.frozen? ⟨w.heap.size + 1 + 1, 1, none⟩ = false := y1
      rw [hw3]
      clear hw3 t0 t1 t2 s0 s1 r0 r1 r2 rc0 rc1 rf rf1 hb2
      go_region
      all_goals (
        go_wp2
        first
          | (have hver : verdictOf a b lo hi = 1 := by unfold verdictOf; rw [if_pos (by omega)]
             refine bodyPost_ret (v := .tuple #[.int .i64 1, .agg #[.int .i64 lo, .int .i64 hi], .int .i64 0]) (by simp [results, Tryz.results18, go_sem, x0', x1']) rfl ⟨by rw [hver, Hc.out], ?_⟩)
          | (have hver : verdictOf a b lo hi = 2 := by unfold verdictOf; rw [if_neg (by omega), if_pos (by omega)]
             refine bodyPost_ret (v := .tuple #[.int .i64 2, .agg #[.int .i64 lo, .int .i64 hi], .int .i64 0]) (by simp [results, Tryz.results18, go_sem, x0', x1']) rfl ⟨by rw [hver, Hc.out], ?_⟩)
          | (have hver : verdictOf a b lo hi = 3 := by unfold verdictOf; rw [if_neg (by omega), if_neg (by omega)]
             refine bodyPost_ret (v := .tuple #[.int .i64 3, .agg #[.int .i64 lo, .int .i64 hi], .int .i64 0]) (by simp [results, Tryz.results18, go_sem, x0', x1']) rfl ⟨by rw [hver, Hc.out], ?_⟩)
        exact ((kd.out.setCell (p := ⟨w.heap.size + 1 + 1, 0, none⟩) (by simp; omega) _).setCell (p := ⟨w.heap.size + 1 + 1, 1, none⟩) (by simp; omega) _)))
  · obtain ⟨c1, c2⟩ := ne_bool hc
    have Hc := hid hc
    have hval : (lastsRes route ws st a b c) = (0, 0, 0) := by unfold lastsRes; rw [if_neg hc]
    rw [hval]
    clear hc hval
    go_enter Tryz.func18, Tryz.ntmps18
    go_wp2_with (go_at_call 44; rw [Hw1.out]; refine (pboth_any ws st route _ _ _ _ _ _ (hW2.out.below kb.out) (hS2.out.below kb.out) hn hnm hns).mono ?_; rintro e w2 ⟨rfl, hb2⟩; have rc0 := cell_now hb2 rc0; have rc1 := cell_now hb2 rc1; have rf : w2.frozen? ⟨w.heap.size + 1 + 1, 0, none⟩ = false := (hb2.frozen (p := ⟨w.heap.size + 1 + 1, 0, none⟩) (by simp only; omega)).trans rf; have rf1 : w2.frozen? ⟨w.heap.size + 1 + 1, 1, none⟩ = false := (hb2.frozen (p := ⟨w.heap.size + 1 + 1, 1, none⟩) (by simp only; omega)).trans rf1)
    refine bodyPost_ret (v := .tuple #[.int .i64 0, .agg #[.int .i64 0, .int .i64 0], .int .i64 (bothErr route ws st a b c)]) (by simp [results, Tryz.results18, go_sem, rc0, rc1]) rfl ⟨rfl, ?_⟩
    exact ((kb.out.trans (hb2.mono kb.out.size)).setCell (p := ⟨w.heap.size + 1 + 1, 0, none⟩) (by simp; omega) _).setCell (p := ⟨w.heap.size + 1 + 1, 1, none⟩) (by simp; omega) _
end Go.Proofs.YtefdopifebhgiaaGreatDoor
