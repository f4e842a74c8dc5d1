/-
  WALKS: the program's lasts$1, lasts, checkRules, both, Lasts.
-/
import Derived.Test.YtgfipifgijohhaaDoorPPa
namespace Go.Proofs.YtgfipifgijohhaaDoor
open Go.RowKit

theorem passed_high {L S P : Nat → Int} {k : Nat} (hP : ∀ i, i ≤ k → 0 < P i) (hL : ∀ i, i < k → 0 ≤ L i ∧ L i ≤ 100000) (hS : ∀ i, i ≤ k → S i ≤ 1000000) {x : Int} (hx : 0 ≤ x) :
    passed L S P k x ≤ 1000000 + x + 100000 * (k : Int) := by
  induction k generalizing x with
  | zero =>
    have h1 := cdiv_le_self (hP 0 (by omega)) hx
    have h2 := hS 0 (by omega)
    simp only [passed]; omega
  | succ k ih =>
    have h1 := cdiv_le_self (hP (k + 1) (by omega)) hx
    have h2 := hS (k + 1) (by omega)
    have h3 := hL k (by omega)
    have h4 := ih (fun i hi => hP i (by omega)) (fun i hi => hL i (by omega)) (fun i hi => hS i (by omega)) (x := x + L k) (by omega)
    simp only [passed]; omega

/-- how long the parade lasts, for paces -/
def longOf (route : Int) (ws : List Wing) (st : List Int) (P : Nat → Int) : Int :=
  passed (Ln ws) (nm st) P (ws.length - 1) (route + Ln ws (ws.length - 1)) - nm st 0

set_option maxHeartbeats 1000000 in
set_option maxRecDepth 100000 in
theorem last1_any (ws : List Wing) (st : List Int) (route e : Int) (vw vs : Value) (pb qb : Nat) (w : World) (hW : WgAt none w vw ws) (hS : IntsAt none w vs st)
    (ht : Tr ws st (ws.length - 1) e) (hr : 0 ≤ route) (hr2 : route ≤ 100000) (hp : w.cell? ⟨pb, 0, none⟩ = some (.int .i64 route)) (hp1 : w.cell? ⟨pb, 1, none⟩ = some vw) (hq : w.cell? ⟨qb, 0, none⟩ = some vs) :
    Calls Tryd.prog 122 #[.agg #[vw, vs, .int .i64 e], .pointer (some ⟨pb, 0, none⟩), .pointer (some ⟨qb, 0, none⟩)] w
     fun e' w' => e' = .returned (.int .i64 (longOf route ws st (endOf ws e))) ∧ Below w.heap.size w w' := by
  have hW2 := hid hW
  have hS2 := hid hS
  obtain ⟨aw, cap, rfl, _⟩ := hW
  obtain ⟨ags, caps, rfl, hh2⟩ := hS
  have hkw := ht.kw
  have hks := ht.ks
  have hn := ht.small.n
  obtain ⟨bs, offs, rfl, _, _, _, hbs, hSc⟩ := hh2 (by omega)
  have sc := hSc 0 (by omega)
  rw [Nat.add_zero] at sc
  have hst := ht.start 0 (by omega)
  have hP : ∀ i, i ≤ ws.length - 1 → 0 < endOf ws e i := fun i hi => by
    have h1 := ht.small.lo i (by omega)
    have h2 := ht.small.hi i (by omega)
    rcases ht.e with rfl | rfl
    · rw [endOf_0]; omega
    · rw [endOf_1]; omega
  have hL : ∀ i, i ≤ ws.length - 1 → 0 ≤ Ln ws i ∧ Ln ws i ≤ 100000 := fun i hi => ht.small.len i (by omega)
  have hlast := hL (ws.length - 1) (by omega)
  have b1 := passed_high (L := Ln ws) (S := nm st) hP (fun i hi => hL i (by omega)) (fun i hi => (ht.start i hi).2) (x := route + Ln ws (ws.length - 1)) (by omega)
  have b2 := passed_ge_start (L := Ln ws) (S := nm st) hP (fun i hi => (hL i (by omega)).1) (x := route + Ln ws (ws.length - 1)) (by omega)
  have b4 := b2 (ws.length - 1) (Nat.le_refl _)
  have b3 := ht.start (ws.length - 1) (by omega)
  have hpos : 0 < st.length := by omega
  have hpos2 : ¬ st.length = 0 := by omega
  have hpos3 : (0 : Int) < (st.length : Int) := by omega
  have e1 : ((ws.length - 1 : Nat) : Int) = (ws.length : Int) - 1 := by omega
  have hb0 := hid ((Below.refl (w.heap.size + 1) (w.alloc (.cells #[.slice aw ws.length cap, .slice (some ⟨bs, offs, none⟩) st.length caps, .int .i64 e] 109))).drew)
  have hp1' : pb < w.heap.size := World.block_lt_of_cell? w ⟨pb, 0, none⟩ hp
  have hq1 : qb < w.heap.size := World.block_lt_of_cell? w ⟨qb, 0, none⟩ hq
  have z0 : IntKind.i64.wrap ((ws.length : Int) - 1) = (ws.length : Int) - 1 := IntWalk.i64_in _ (by omega)
  have z1 : IntKind.i64.wrap (passed (Ln ws) (nm st) (endOf ws e) (ws.length - 1) (route + Ln ws (ws.length - 1)) - nm st 0) = longOf route ws st (endOf ws e) := by
    unfold longOf; exact IntWalk.i64_in _ (by omega)
  have hcl : ∀ vw' W', WgAt none W' vw' ws → IntsAt none W' (.slice (some ⟨bs, offs, none⟩) st.length caps) st → Calls Tryd.prog 112 #[.agg #[vw', .slice (some ⟨bs, offs, none⟩) st.length caps, .int .i64 e], .int .i64 ((ws.length : Int) - 1), .int .i64 route] W' 
     fun e' w' => e' = .returned (.int .i64 (passed (Ln ws) (nm st) (endOf ws e) (ws.length - 1) (route + Ln ws (ws.length - 1)))) ∧ Below W'.heap.size W' w' := fun vw' W' h1 h2 => by
    have h := clear_any ws st ((ws.length - 1 : Nat) : Int) route e vw' _ W' h1 h2 (by omega) (by rw [Int.toNat_natCast]; exact ht) hr (by omega)
    rw [Int.toNat_natCast, e1] at h
    exact h
  have Hcl := hid hcl
  clear hSc hh2 hcl hL hP
  go_enter Tryd.func122, Tryd.ntmps122
  go_wp2
  go_region_held3 (fun w' => w'.cell? ⟨w.heap.size, 0, none⟩ = some (.slice aw ws.length cap) ∧ w'.cell? ⟨w.heap.size, 1, none⟩ = some (.slice (some ⟨bs, offs, none⟩) st.length caps) ∧ w'.cell? ⟨w.heap.size, 2, none⟩ = some (.int .i64 e) ∧ w'.cell? ⟨pb, 0, none⟩ = some (.int .i64 route) ∧ w'.cell? ⟨pb, 1, none⟩ = some (.slice aw ws.length cap) ∧ w'.cell? ⟨qb, 0, none⟩ = some (.slice (some ⟨bs, offs, none⟩) st.length caps) ∧ w'.cell? ⟨bs, offs, none⟩ = some (.int .i64 (nm st 0)))
    (first | exact ⟨q0, q1, q2, q5, q6, q7, q8⟩ | exact ⟨(boxed3 hb0.out).1, (boxed3 hb0.out).2.1, (boxed3 hb0.out).2.2.1, cell_back (boxed3 hb0.out).2.2.2.1 hp1' hp, cell_back (boxed3 hb0.out).2.2.2.1 hp1' hp1, cell_back (boxed3 hb0.out).2.2.2.1 hq1 hq, cell_back (boxed3 hb0.out).2.2.2.1 hbs sc⟩) (first
    | (go_at_call 112; refine (Hcl.out _ _ (hW2.out.below (boxed3 hb0.out).2.2.2.1) (hS2.out.below (boxed3 hb0.out).2.2.2.1)).mono ?_; rintro e' w2 ⟨rfl, hb2⟩; have hk2 := hid (below_go hb0.out hb2 (by simp)); obtain ⟨q0, q1, q2, q3', q4⟩ := boxed3 hk2.out; have q5 := cell_back q3' hp1' hp; have q6 := cell_back q3' hp1' hp1; have q7 := cell_back q3' hq1 hq; have q8 := cell_back q3' hbs sc))
  go_wp2
  go_ret
  exact ⟨rfl, q3'⟩

theorem threeBelow {w w' : World} {X Y Z : Obj} (h : Below (w.heap.size + 3) (((w.alloc X).alloc Y).alloc Z) w') : Below w.heap.size w w' :=
  (((Below.refl _ w).alloc (Nat.le_refl _) X).alloc (by simp) Y).alloc (by simp; omega) Z |>.trans (h.mono (by omega))

set_option maxHeartbeats 2000000 in
set_option maxRecDepth 100000 in
theorem plasts_any (ws : List Wing) (st : List Int) (route : Int) (vw vs : Value) (w : World) (hW : WgAt none w vw ws) (hS : IntsAt none w vs st) (hc : checkStarts route ws st = 0) :
    Calls Tryd.prog 84 #[.agg #[.int .i64 route, vw], vs] w
     fun e w' => e = .returned (.agg #[.int .i64 (longOf route ws st (Hi ws)), .int .i64 (longOf route ws st (Lo ws))]) ∧ Below w.heap.size w w' := by
  have hW2 := hid hW
  have hS2 := hid hS
  have Hc := hid hc
  have hr : 1 ≤ route ∧ route ≤ 100000 ∧ 0 < ws.length := by
    have h := check_zero (starts_zero hc).1
    exact ⟨h.1, h.2.1, h.2.2.1⟩
  obtain ⟨aw, cap, rfl, _⟩ := hW
  obtain ⟨ags, caps, rfl, _⟩ := hS
  have hmf : ∀ (fn : Fn) (first cap : Array Value) (w : World), (Instr.makeFunc fn first cap).run Tryd.prog w = .ok (.func fn first cap) w := fun _ _ _ _ => rfl
  clear hc
  have hbt : ∀ W2, Below w.heap.size w W2 → w.heap.size + 2 ≤ W2.heap.size → W2.cell? ⟨w.heap.size, 0, none⟩ = some (.int .i64 route) → W2.cell? ⟨w.heap.size, 1, none⟩ = some (.slice aw ws.length cap) → W2.cell? ⟨w.heap.size + 1, 0, none⟩ = some (.slice ags st.length caps) →
      Calls Tryd.prog 86 #[.agg #[.int .i64 route, .slice aw ws.length cap], .slice ags st.length caps, .func (.func 122) #[] #[.pointer (some ⟨w.heap.size, 0, none⟩), .pointer (some ⟨w.heap.size + 1, 0, none⟩)]] W2
       fun e w' => e = .returned (.agg #[.int .i64 (longOf route ws st (Hi ws)), .int .i64 (longOf route ws st (Lo ws))]) ∧ Below W2.heap.size W2 w' := by
    intro W2 hb hlt s0 s1 s2
    refine betweenL_any _ _ _ _ _ _ _ _ route (fun e => longOf route ws st (endOf ws e)) _ (fun e he W' hb' => last1_any ws st route e _ _ _ _ _ (hW2.out.below (below_trans hb hb'.out)) (hS2.out.below (below_trans hb hb'.out))
      (starts_tr Hc.out (by omega) he) (by omega) (by omega) (cell_back hb'.out (by omega) s0) (cell_back hb'.out (by omega) s1) (cell_back hb'.out (by omega) s2))
  have Hbt := hid hbt
  clear hbt
  have hb0 := hid (Below.refl (w.heap.size + 3) (((w.alloc (.cells #[.int .i64 route, .slice aw ws.length cap] 24)).alloc (.cells #[.slice ags st.length caps] 25)).alloc (.cells #[.int .i64 0, .int .i64 0] 27)))
  obtain ⟨w1, hw1⟩ : ∃ w1, (((w.alloc (.cells #[.int .i64 route, .slice aw ws.length cap] 24)).alloc (.cells #[.slice ags st.length caps] 25)).alloc (.cells #[.int .i64 0, .int .i64 0] 27)) = w1 := ⟨_, rfl⟩
  have kb : Hid (Below w.heap.size w w1) := hid (by rw [← hw1]; exact (threeBelow hb0.out))
  have hlt : w.heap.size + 3 ≤ w1.heap.size := by rw [← hw1]; simp
  have s0 : w1.cell? ⟨w.heap.size, 0, none⟩ = some (.int .i64 route) := by rw [← hw1]; exact cell_up (cell_up (cell_at rfl rfl))
  have s1 : w1.cell? ⟨w.heap.size, 1, none⟩ = some (.slice aw ws.length cap) := by rw [← hw1]; exact cell_up (cell_up (cell_at rfl rfl))
  have s2 : w1.cell? ⟨w.heap.size + 1, 0, none⟩ = some (.slice ags st.length caps) := by rw [← hw1]; exact cell_up (cell_at (by simp) rfl)
  have rc0 : w1.cell? ⟨w.heap.size + 1 + 1, 0, none⟩ = some (.int .i64 0) := by rw [← hw1]; exact cell_at (by simp) rfl
  have rc1 : w1.cell? ⟨w.heap.size + 1 + 1, 1, none⟩ = some (.int .i64 0) := by rw [← hw1]; exact cell_at (by simp) rfl
  have rf : w1.frozen? ⟨w.heap.size + 1 + 1, 0, none⟩ = false := by rw [← hw1]; exact frozen_at (by simp)
  have rf1 : w1.frozen? ⟨w.heap.size + 1 + 1, 1, none⟩ = false := by rw [← hw1]; exact frozen_at (by simp)
  have Hw1 := hid hw1
  clear hw1 hb0
  go_enter Tryd.func84, Tryd.ntmps84
  go_wp2_with (go_at_call 86; rw [Hw1.out]; refine (Hbt.out _ kb.out (by omega) s0 s1 s2).mono ?_; rintro e w2 ⟨rfl, hb2⟩; have rc0 := cell_now hb2 rc0; have rc1 := cell_now hb2 rc1; have rf : w2.frozen? ⟨w.heap.size + 1 + 1, 0, none⟩ = false := (hb2.frozen (p := ⟨w.heap.size + 1 + 1, 0, none⟩) (by simp only; omega)).trans rf; have rf1 : w2.frozen? ⟨w.heap.size + 1 + 1, 1, none⟩ = false := (hb2.frozen (p := ⟨w.heap.size + 1 + 1, 1, none⟩) (by simp only; omega)).trans rf1)
  refine bodyPost_ret (v := .agg #[.int .i64 (longOf route ws st (Hi ws)), .int .i64 (longOf route ws st (Lo ws))]) (by simp [results, Tryd.results84, go_sem, rc0, rc1]) rfl ⟨rfl, ?_⟩
  exact ((kb.out.trans (hb2.mono kb.out.size)).setCell (p := ⟨w.heap.size + 1 + 1, 0, none⟩) (by simp; omega) _).setCell (p := ⟨w.heap.size + 1 + 1, 1, none⟩) (by simp; omega) _
end Go.Proofs.YtgfipifgijohhaaDoor
