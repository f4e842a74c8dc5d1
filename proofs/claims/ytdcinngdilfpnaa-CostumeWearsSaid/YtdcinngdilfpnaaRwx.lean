/-
  CostumeWears: whatever comes in, the call returns true and leaves what came in as it was: items that fit, wears that may be, and their cost, the same as the reference's; nothing is changed.
  CONDITIONS: none on the input.
-/
import Derived.Test.YtdcinngdilfpnaaLwi
import Derived.Test.YtdcinngdilfpnaaRpl
namespace Go.Proofs.Ytdcinngdilfpnaa
open Go.ChangeShapes Go.WideShapes Go.ChangeAt Go.WideMaps Go.WideElems Go.RowKit

set_option maxRecDepth 100000 in
theorem open_itemsV {H : Type} {enc : TypeId × Value → H} {W : World} {base b0 : Nat} {sp : Nat → Bool} {held : Bool} {v : Value} {d : DataW H} {p : List MemPlace} (h : DataW.Trod enc Try.prog W base sp held 31 v d p) (hv : Value.okWide Try.prog W .any b0 31 v) : ∃ xs, ItemsAt none W v xs ∧ Sound0 v := by
  obtain ⟨a0, len, cap, rfl⟩ := okWide_slice Try.underlying31 hv
  obtain ⟨fuel, hf⟩ := h
  exact open_items hf
set_option maxRecDepth 100000 in
theorem open_intsV {H : Type} {enc : TypeId × Value → H} {W : World} {base b0 : Nat} {sp : Nat → Bool} {held : Bool} {v : Value} {d : DataW H} {p : List MemPlace} (h : DataW.Trod enc Try.prog W base sp held 22 v d p) (hv : Value.okWide Try.prog W .any b0 22 v) : ∃ xs, IntsAt none W v xs ∧ Sound0 v := by
  obtain ⟨a0, len, cap, rfl⟩ := okWide_slice Try.underlying22 hv
  obtain ⟨fuel, hf⟩ := h
  exact open_intsS hf
set_option maxRecDepth 100000 in
theorem costumeWears_lifted (os : Os) (started : os.Started) (H : Type) (enc : TypeId × Value → H) :
    ReturnsInHanded {} Try.checked os 10 .any (Rows.costumeWearsSpec.pre6 enc Try.prog Try.f10 Rows.costumeWearsRow.domain false) (Rows.costumeWearsSpec.post enc Try.prog Try.f10 false true false false) := by
  refine returnsInHanded_of_change (C := Try.checked) own started (by kernel_rfl) Try.func10
    (ChangeSpec.witness6 (enc := enc) (C := Try.checked) false ⟨#[], #[.agg #[.slice none 0 0, .slice none 0 0, .slice none 0 0, .slice none 0 0], .slice none 0 0, .slice none 0 0, .int .i64 0, .int .i64 0, .agg #[.int .i64 0, .int .i64 0, .int .i64 0, .int .i64 0, .int .i64 0], .int .i64 0, .int .i64 0, .slice none 0 0], []⟩ 8 (by kernel_rfl) (by kernel_rfl) (by kernel_rfl) (by kernel_rfl)) ?_
  intro W base args ds gs before hval0 hW _ _
  have hval : ∀ (j : Nat) t v, Try.f10.params[j]? = some t → args[j]? = some v → Value.okWide Try.prog W .any base t v := hval0
  have hW' := hW
  obtain ⟨p, q, hA0, hV, rfl, hfz, hnd⟩ := hW
  have hA : DataW.TrodAll enc Try.prog W 0 (fun _ => true) true Try.f10.params.toList args.toList ds p := hA0
  rw [Try.params10] at hA hval
  obtain ⟨rfl, rfl⟩ := trodVars_none hV
  have hpb : ∀ x ∈ p, x.block < W.heap.size := fun x hx => by simpa using hW'.lt x (by simpa using hx)
  obtain ⟨v0, r0, d0, s0, p0, q0, hr0, rfl, rfl, h0, hA0x⟩ := trodAll_cons hA
  obtain ⟨v1, r1, d1, s1, p1, q1, rfl, rfl, rfl, h1, hA1x⟩ := trodAll_cons hA0x
  obtain ⟨v2, r2, d2, s2, p2, q2, rfl, rfl, rfl, h2, hA2x⟩ := trodAll_cons hA1x
  obtain ⟨v3, r3, d3, s3, p3, q3, rfl, rfl, rfl, h3, hA3x⟩ := trodAll_cons hA2x
  obtain ⟨v4, r4, d4, s4, p4, q4, rfl, rfl, rfl, h4, hA4x⟩ := trodAll_cons hA3x
  obtain ⟨v5, r5, d5, s5, p5, q5, rfl, rfl, rfl, h5, hA5x⟩ := trodAll_cons hA4x
  obtain ⟨v6, r6, d6, s6, p6, q6, rfl, rfl, rfl, h6, hA6x⟩ := trodAll_cons hA5x
  obtain ⟨v7, r7, d7, s7, p7, q7, rfl, rfl, rfl, h7, hA7x⟩ := trodAll_cons hA6x
  obtain ⟨v8, r8, d8, s8, p8, q8, rfl, rfl, rfl, h8, hA8x⟩ := trodAll_cons hA7x
  obtain ⟨rfl, rfl, rfl⟩ := trodAll_nil hA8x
  obtain rfl : args = #[v0, v1, v2, v3, v4, v5, v6, v7, v8] := by cases args; simp_all
  obtain ⟨vp0, vw0, vd0, vq0, P0, rfl, hP0⟩ := open_plot h0 (hval 0 29 v0 rfl rfl)
  obtain ⟨is1, hI1, hs1⟩ := open_itemsV h1 (hval 1 31 v1 rfl rfl)
  obtain ⟨xs2, hX2, hs2⟩ := open_intsV h2 (hval 2 22 v2 rfl rfl)
  obtain ⟨z3, rfl, hz3⟩ := open_num h3 (hval 3 3 v3 rfl rfl)
  obtain ⟨z4, rfl, hz4⟩ := open_num h4 (hval 4 3 v4 rfl rfl)
  obtain ⟨y5, rfl⟩ := open_item h5 (hval 5 42 v5 rfl rfl)
  obtain ⟨z6, rfl, hz6⟩ := open_num h6 (hval 6 3 v6 rfl rfl)
  obtain ⟨z7, rfl, hz7⟩ := open_num h7 (hval 7 3 v7 rfl rfl)
  obtain ⟨xs8, hX8, hn8⟩ := open_nums' h8 (hval 8 22 v8 rfl rfl)
  refine (cwears_any P0 vp0 vw0 vd0 vq0 is1 v1 xs2 v2 z3 z4 y5 z6 z7 xs8 v8 W hP0 hI1 hs1 hX2 hs2 hz6 hX8 hn8).mono fun e W' ⟨he, hb⟩ => ?_
  subst he
  have e1 : Rows.costumeWearsSpec.fn H ([d0, d1, d2, d3, d4, d5, d6, d7, d8] ++ []) = { results := [.lit (.bool true)], args := [d0, d1, d2, d3, d4, d5, d6, d7, d8] } := rfl
  refine ⟨_, rfl, _, _, _, [], p0 ++ (p1 ++ (p2 ++ (p3 ++ (p4 ++ (p5 ++ (p6 ++ (p7 ++ (p8 ++ ([]))))))))), [], hW', ?_, ?_, ?_, ?_, fun h => by cases h⟩
  · rw [e1]; exact trodAll_mk1 (shut_bool Try.underlying4 true)
  · rw [e1]; exact trodAll_cons_mk (Below.trod laidOutA (by kernel_rfl) (of_decide_eq_true (by kernel_rfl)) h0 hb (fun x hx => hpb x (by simp [hx]))) (trodAll_cons_mk (Below.trod laidOutA (by kernel_rfl) (of_decide_eq_true (by kernel_rfl)) h1 hb (fun x hx => hpb x (by simp [hx]))) (trodAll_cons_mk (Below.trod laidOutA (by kernel_rfl) (of_decide_eq_true (by kernel_rfl)) h2 hb (fun x hx => hpb x (by simp [hx]))) (trodAll_cons_mk (Below.trod laidOutA (by kernel_rfl) (of_decide_eq_true (by kernel_rfl)) h3 hb (fun x hx => hpb x (by simp [hx]))) (trodAll_cons_mk (Below.trod laidOutA (by kernel_rfl) (of_decide_eq_true (by kernel_rfl)) h4 hb (fun x hx => hpb x (by simp [hx]))) (trodAll_cons_mk (Below.trod laidOutA (by kernel_rfl) (of_decide_eq_true (by kernel_rfl)) h5 hb (fun x hx => hpb x (by simp [hx]))) (trodAll_cons_mk (Below.trod laidOutA (by kernel_rfl) (of_decide_eq_true (by kernel_rfl)) h6 hb (fun x hx => hpb x (by simp [hx]))) (trodAll_cons_mk (Below.trod laidOutA (by kernel_rfl) (of_decide_eq_true (by kernel_rfl)) h7 hb (fun x hx => hpb x (by simp [hx]))) (trodAll_cons_mk (Below.trod laidOutA (by kernel_rfl) (of_decide_eq_true (by kernel_rfl)) h8 hb (fun x hx => hpb x (by simp [hx]))) (trodAll_mk0)))))))))
  · rw [e1]; rfl
  · exact hb.frame _

theorem costumeWears_said : Rows.CostumeWearsSaid :=
  OpenClaim.holds_of_wide 10 Try.f10 rfl rfl rfl rfl rfl rfl rfl ⟨rfl, rfl, rfl, rfl, rfl⟩ rfl rfl rfl rfl rfl (by kernel_rfl) Try.func10 (by kernel_rfl)
    (of_decide_eq_true (by kernel_rfl)) (by unfold Func.isWrapper; first | (rw [if_pos (by decide +kernel)]; kernel_rfl) | (rw [if_neg (by decide +kernel)]; exact ⟨rfl, rfl⟩))
    (fun os started H enc _ => costumeWears_lifted os started H enc)
end Go.Proofs.Ytdcinngdilfpnaa
