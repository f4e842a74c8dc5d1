/-
  ParadeGaps: whatever comes in, the call returns true and leaves what came in as it was: which gaps a wing may have, which open, and the widest one are as the reference says.
  CONDITIONS: none on the input; the two listed tables of unicode/utf8 read as the program's text lays them (the card ties that); the walk never looks at them.
-/
import Derived.Test.YtgfipifgijohhaaDoorLga
import Derived.Test.YtgfipifgijohhaaDoorRaw
namespace Go.Proofs.YtgfipifgijohhaaDoor
open Go.ChangeShapes Go.WideShapes Go.ChangeAt Go.WideMaps Go.WideElems Go.RowKit

set_option maxRecDepth 100000 in
theorem paradeGaps_lifted (os : Os) (started : os.Started) (H : Type) (enc : TypeId × Value → H) :
    ReturnsInHanded {} Tryd.checked os 13 .any (fun w args => (Rows.paradeGapsSpec.pre enc Tryd.prog Tryd.f13 [] false w args ∧ laidMetH Tryd.prog laid w) ∧ sizedMet enc Tryd.prog Tryd.f13 (OpenSpec.ofChange Rows.paradeGapsSpec) false w args)
      (Rows.paradeGapsSpec.post enc Tryd.prog Tryd.f13 false true false false) := by
  refine returnsInHanded_of_change_and (C := Tryd.checked) (X := fun w _ => laidMetH Tryd.prog laid w) (fun _ _ _ hh h => h.of_heap hh) own started (by kernel_rfl) Tryd.func13
    (ChangeSpec.witness_shaped (enc := enc) (C := Tryd.checked) (os := os) (X := fun w _ => laidMetH Tryd.prog laid w) false (World.laidAll Tryd.prog os laid) #[.agg #[.int .i64 0, .slice none 0 0], .slice none 0 0, .int .i64 0, .int .i64 0, .agg #[.int .i64 0, .int .i64 0, .int .i64 0], .slice none 0 0] 8 rfl (laid_shaped os _) (by kernel_rfl) (by kernel_rfl) (by kernel_rfl) (laid_met os _)) ?_
  intro W base args ds gs before hval0 hW _ _ hL _
  have hval : ∀ (j : Nat) t v, Tryd.f13.params[j]? = some t → args[j]? = some v → Value.okWide Tryd.prog W .any base t v := hval0
  have hW' := hW
  obtain ⟨p, q, hA0, hV, rfl, hfz, hnd⟩ := hW
  have hA : DataW.TrodAll enc Tryd.prog W 0 (fun _ => true) true Tryd.f13.params.toList args.toList ds p := hA0
  rw [Tryd.params13] at hA hval
  obtain ⟨rfl, rfl⟩ := trodVars_none hV
  have hpb : ∀ x ∈ p, x.block < W.heap.size := fun x hx => by simpa using hW'.lt x (by simpa using hx)
  obtain ⟨v0, r0, d0, s0, p0, q0, hr0, rfl, rfl, h0, hA0x⟩ := trodAll_cons hA
  obtain ⟨v1, r1, d1, s1, p1, q1, rfl, rfl, rfl, h1, hA1x⟩ := trodAll_cons hA0x
  obtain ⟨v2, r2, d2, s2, p2, q2, rfl, rfl, rfl, h2, hA2x⟩ := trodAll_cons hA1x
  obtain ⟨v3, r3, d3, s3, p3, q3, rfl, rfl, rfl, h3, hA3x⟩ := trodAll_cons hA2x
  obtain ⟨v4, r4, d4, s4, p4, q4, rfl, rfl, rfl, h4, hA4x⟩ := trodAll_cons hA3x
  obtain ⟨v5, r5, d5, s5, p5, q5, rfl, rfl, rfl, h5, hA5x⟩ := trodAll_cons hA4x
  obtain ⟨rfl, rfl, rfl⟩ := trodAll_nil hA5x
  obtain rfl : args = #[v0, v1, v2, v3, v4, v5] := by cases args; simp_all
  obtain ⟨route0, vw0, ws0, rfl, hW0, hs0⟩ := open_school h0 (hval 0 24 v0 rfl rfl)
  obtain ⟨xs1, hX1, hn1, hs1⟩ := open_nums2 h1 (hval 1 25 v1 rfl rfl)
  obtain ⟨z2, rfl, hz2⟩ := open_num h2 (hval 2 3 v2 rfl rfl)
  obtain ⟨z3, rfl, hz3⟩ := open_num h3 (hval 3 3 v3 rfl rfl)
  obtain ⟨ra4, rb4, rc4, rfl⟩ := open_rules h4 (hval 4 50 v4 rfl rfl)
  obtain ⟨xs5, hX5, hn5, hs5⟩ := open_nums2 h5 (hval 5 25 v5 rfl rfl)
  refine (gaps_any ws0 xs1 xs5 route0 z2 z3 ra4 rb4 rc4 vw0 v1 v5 W hW0 hX1 hX5 hn5).mono fun e W' ⟨he, hb⟩ => ?_
  subst he
  have e1 : Rows.paradeGapsSpec.fn H ([d0, d1, d2, d3, d4, d5] ++ []) = { results := [.lit (.bool true)], args := [d0, d1, d2, d3, d4, d5] } := rfl
  refine ⟨_, rfl, _, _, _, [], p0 ++ (p1 ++ (p2 ++ (p3 ++ (p4 ++ (p5 ++ ([])))))), [], hW', ?_, ?_, ?_, ?_, fun h => by cases h⟩
  · rw [e1]; exact trodAll_mk1 (shut_bool Tryd.underlying4 true)
  · rw [e1]; exact trodAll_cons_mk (Below.trod laidOut (by kernel_rfl) (of_decide_eq_true (by kernel_rfl)) h0 hb (fun x hx => hpb x (by simp [hx]))) (trodAll_cons_mk (Below.trod laidOut (by kernel_rfl) (of_decide_eq_true (by kernel_rfl)) h1 hb (fun x hx => hpb x (by simp [hx]))) (trodAll_cons_mk (Below.trod laidOut (by kernel_rfl) (of_decide_eq_true (by kernel_rfl)) h2 hb (fun x hx => hpb x (by simp [hx]))) (trodAll_cons_mk (Below.trod laidOut (by kernel_rfl) (of_decide_eq_true (by kernel_rfl)) h3 hb (fun x hx => hpb x (by simp [hx]))) (trodAll_cons_mk (Below.trod laidOut (by kernel_rfl) (of_decide_eq_true (by kernel_rfl)) h4 hb (fun x hx => hpb x (by simp [hx]))) (trodAll_cons_mk (Below.trod laidOut (by kernel_rfl) (of_decide_eq_true (by kernel_rfl)) h5 hb (fun x hx => hpb x (by simp [hx]))) (trodAll_mk0))))))
  · rw [e1]; rfl
  · exact hb.frame _

theorem paradeGaps_holds : Rows.ParadeGapsSaid :=
  OpenClaim.holds_of_wide 13 Tryd.f13 rfl rfl rfl rfl rfl rfl rfl ⟨rfl, rfl, rfl, rfl, rfl⟩ rfl rfl rfl rfl rfl (by kernel_rfl) Tryd.func13 (by kernel_rfl)
    (of_decide_eq_true (by kernel_rfl)) (by unfold Func.isWrapper; first | (rw [if_pos (by decide +kernel)]; kernel_rfl) | (rw [if_neg (by decide +kernel)]; exact ⟨rfl, rfl⟩))
    (fun os started H enc _ => paradeGaps_lifted os started H enc)
end Go.Proofs.YtgfipifgijohhaaDoor
