/-
  CostumeChecks: whatever comes in, the call returns true and leaves what came in as it was: which plots are valid, a person's day, which part is on in a minute, and how many costumes of a kind are on at once, or which errors there are.
  CONDITIONS: none on the input.
-/
import Derived.Test.YtdcinngdilfpnaaLwc
import Derived.Test.YtdcinngdilfpnaaRpl
namespace Go.Proofs.Ytdcinngdilfpnaa
open Go.ChangeShapes Go.WideShapes Go.ChangeAt Go.WideMaps Go.WideElems Go.RowKit

set_option maxRecDepth 100000 in
theorem costumeChecks_lifted (os : Os) (started : os.Started) (H : Type) (enc : TypeId × Value → H) :
    ReturnsInHanded {} Try.checked os 4 .any (Rows.costumeChecksSpec.pre6 enc Try.prog Try.f4 Rows.costumeChecksRow.domain false) (Rows.costumeChecksSpec.post enc Try.prog Try.f4 false true false false) := by
  refine returnsInHanded_of_change (C := Try.checked) own started (by kernel_rfl) Try.func4
    (ChangeSpec.witness6 (enc := enc) (C := Try.checked) false ⟨#[], #[.agg #[.slice none 0 0, .slice none 0 0, .slice none 0 0, .slice none 0 0], .int .i64 0, .int .i64 0, .int .i64 0, .agg #[.int .i64 0, .int .i64 0, .int .i64 0, .int .i64 0, .int .i64 0], .slice none 0 0], []⟩ 8 (by kernel_rfl) (by kernel_rfl) (by kernel_rfl) (by kernel_rfl)) ?_
  intro W base args ds gs before hval0 hW _ _
  have hval : ∀ (j : Nat) t v, Try.f4.params[j]? = some t → args[j]? = some v → Value.okWide Try.prog W .any base t v := hval0
  have hW' := hW
  obtain ⟨p, q, hA0, hV, rfl, hfz, hnd⟩ := hW
  have hA : DataW.TrodAll enc Try.prog W 0 (fun _ => true) true Try.f4.params.toList args.toList ds p := hA0
  rw [Try.params4] at hA hval
  obtain ⟨rfl, rfl⟩ := trodVars_none hV
  have hpb : ∀ x ∈ p, x.block < W.heap.size := fun x hx => by simpa using hW'.lt x (by simpa using hx)
  obtain ⟨v0, r0, d0, s0, p0, q0, hr0, rfl, rfl, h0, hA0x⟩ := trodAll_cons hA
  obtain ⟨v1, r1, d1, s1, p1, q1, rfl, rfl, rfl, h1, hA1x⟩ := trodAll_cons hA0x
  obtain ⟨v2, r2, d2, s2, p2, q2, rfl, rfl, rfl, h2, hA2x⟩ := trodAll_cons hA1x
  obtain ⟨v3, r3, d3, s3, p3, q3, rfl, rfl, rfl, h3, hA3x⟩ := trodAll_cons hA2x
  obtain ⟨v4, r4, d4, s4, p4, q4, rfl, rfl, rfl, h4, hA4x⟩ := trodAll_cons hA3x
  obtain ⟨v5, r5, d5, s5, p5, q5, rfl, rfl, rfl, h5, hA5x⟩ := trodAll_cons hA4x
  obtain ⟨rfl, rfl, rfl⟩ := trodAll_nil hA5x
  obtain rfl : args = #[v0, v1, v2, v3, v4, v5] := by cases args; simp_all
  obtain ⟨vp0, vw0, vd0, vq0, P0, rfl, hP0⟩ := open_plot h0 (hval 0 29 v0 rfl rfl)
  obtain ⟨z1, rfl, hz1⟩ := open_num h1 (hval 1 3 v1 rfl rfl)
  obtain ⟨z2, rfl, hz2⟩ := open_num h2 (hval 2 3 v2 rfl rfl)
  obtain ⟨z3, rfl, hz3⟩ := open_num h3 (hval 3 3 v3 rfl rfl)
  obtain ⟨x4, rfl⟩ := open_part h4 (hval 4 38 v4 rfl rfl)
  obtain ⟨xs5, hX5, hn5⟩ := open_nums' h5 (hval 5 22 v5 rfl rfl)
  refine (cchecks_any P0 vp0 vw0 vd0 vq0 z1 z2 z3 x4 xs5 v5 W hP0 hX5 hn5).mono fun e W' ⟨he, hb⟩ => ?_
  subst he
  have e1 : Rows.costumeChecksSpec.fn H ([d0, d1, d2, d3, d4, d5] ++ []) = { results := [.lit (.bool true)], args := [d0, d1, d2, d3, d4, d5] } := rfl
  refine ⟨_, rfl, _, _, _, [], p0 ++ (p1 ++ (p2 ++ (p3 ++ (p4 ++ (p5 ++ ([])))))), [], hW', ?_, ?_, ?_, ?_, fun h => by cases h⟩
  · rw [e1]; exact trodAll_mk1 (shut_bool Try.underlying4 true)
  · rw [e1]; exact trodAll_cons_mk (Below.trod laidOutA (by kernel_rfl) (of_decide_eq_true (by kernel_rfl)) h0 hb (fun x hx => hpb x (by simp [hx]))) (trodAll_cons_mk (Below.trod laidOutA (by kernel_rfl) (of_decide_eq_true (by kernel_rfl)) h1 hb (fun x hx => hpb x (by simp [hx]))) (trodAll_cons_mk (Below.trod laidOutA (by kernel_rfl) (of_decide_eq_true (by kernel_rfl)) h2 hb (fun x hx => hpb x (by simp [hx]))) (trodAll_cons_mk (Below.trod laidOutA (by kernel_rfl) (of_decide_eq_true (by kernel_rfl)) h3 hb (fun x hx => hpb x (by simp [hx]))) (trodAll_cons_mk (Below.trod laidOutA (by kernel_rfl) (of_decide_eq_true (by kernel_rfl)) h4 hb (fun x hx => hpb x (by simp [hx]))) (trodAll_cons_mk (Below.trod laidOutA (by kernel_rfl) (of_decide_eq_true (by kernel_rfl)) h5 hb (fun x hx => hpb x (by simp [hx]))) (trodAll_mk0))))))
  · rw [e1]; rfl
  · exact hb.frame _

theorem costumeChecks_said : Rows.CostumeChecksSaid :=
  OpenClaim.holds_of_wide 4 Try.f4 rfl rfl rfl rfl rfl rfl rfl ⟨rfl, rfl, rfl, rfl, rfl⟩ rfl rfl rfl rfl rfl (by kernel_rfl) Try.func4 (by kernel_rfl)
    (of_decide_eq_true (by kernel_rfl)) (by unfold Func.isWrapper; first | (rw [if_pos (by decide +kernel)]; kernel_rfl) | (rw [if_neg (by decide +kernel)]; exact ⟨rfl, rfl⟩))
    (fun os started H enc _ => costumeChecks_lifted os started H enc)
end Go.Proofs.Ytdcinngdilfpnaa
