/-
  CostumeCheapest: whatever comes in, the call returns true and leaves what came in as it was: the cheapest wear, and the fewest parts for which there is none, or which errors there are; nothing is changed.
  CONDITIONS: none on the input.
-/
import Derived.Test.YtdcinngdilfpnaaLwh
import Derived.Test.YtdcinngdilfpnaaRpl
namespace Go.Proofs.Ytdcinngdilfpnaa
open Go.ChangeShapes Go.WideShapes Go.ChangeAt Go.WideMaps Go.WideElems Go.RowKit

set_option maxRecDepth 100000 in
theorem open_itemsV {H : Type} {enc : TypeId × Value → H} {W : World} {base b0 : Nat} {sp : Nat → Bool} {held : Bool} {v : Value} {d : DataW H} {p : List MemPlace} (h : DataW.Trod enc Try.prog W base sp held 31 v d p) (hv : Value.okWide Try.prog W .any b0 31 v) : ∃ xs, ItemsAt none W v xs ∧ Sound0 v := by
  obtain ⟨a0, len, cap, rfl⟩ := okWide_slice Try.underlying31 hv
  obtain ⟨fuel, hf⟩ := h
  exact open_items hf
set_option maxRecDepth 100000 in
theorem costumeCheapest_lifted (os : Os) (started : os.Started) (H : Type) (enc : TypeId × Value → H) :
    ReturnsInHanded {} Try.checked os 11 .any (Rows.costumeCheapestSpec.pre6 enc Try.prog Try.f11 Rows.costumeCheapestRow.domain false) (Rows.costumeCheapestSpec.post enc Try.prog Try.f11 false true false false) := by
  refine returnsInHanded_of_change (C := Try.checked) own started (by kernel_rfl) Try.func11
    (ChangeSpec.witness6 (enc := enc) (C := Try.checked) false ⟨#[], #[.agg #[.slice none 0 0, .slice none 0 0, .slice none 0 0, .slice none 0 0], .slice none 0 0, .slice none 0 0], []⟩ 8 (by kernel_rfl) (by kernel_rfl) (by kernel_rfl) (by kernel_rfl)) ?_
  intro W base args ds gs before hval0 hW _ _
  have hval : ∀ (j : Nat) t v, Try.f11.params[j]? = some t → args[j]? = some v → Value.okWide Try.prog W .any base t v := hval0
  have hW' := hW
  obtain ⟨p, q, hA0, hV, rfl, hfz, hnd⟩ := hW
  have hA : DataW.TrodAll enc Try.prog W 0 (fun _ => true) true Try.f11.params.toList args.toList ds p := hA0
  rw [Try.params11] at hA hval
  obtain ⟨rfl, rfl⟩ := trodVars_none hV
  have hpb : ∀ x ∈ p, x.block < W.heap.size := fun x hx => by simpa using hW'.lt x (by simpa using hx)
  obtain ⟨v0, r0, d0, s0, p0, q0, hr0, rfl, rfl, h0, hA0x⟩ := trodAll_cons hA
  obtain ⟨v1, r1, d1, s1, p1, q1, rfl, rfl, rfl, h1, hA1x⟩ := trodAll_cons hA0x
  obtain ⟨v2, r2, d2, s2, p2, q2, rfl, rfl, rfl, h2, hA2x⟩ := trodAll_cons hA1x
  obtain ⟨rfl, rfl, rfl⟩ := trodAll_nil hA2x
  obtain rfl : args = #[v0, v1, v2] := by cases args; simp_all
  obtain ⟨vp0, vw0, vd0, vq0, P0, rfl, hP0⟩ := open_plot h0 (hval 0 29 v0 rfl rfl)
  obtain ⟨is1, hI1, hs1⟩ := open_itemsV h1 (hval 1 31 v1 rfl rfl)
  obtain ⟨xs2, hX2, hn2⟩ := open_nums' h2 (hval 2 22 v2 rfl rfl)
  refine (ccheaps_any P0 vp0 vw0 vd0 vq0 is1 v1 xs2 v2 W hP0 hI1 hs1 hX2 hn2).mono fun e W' ⟨he, hb⟩ => ?_
  subst he
  have e1 : Rows.costumeCheapestSpec.fn H ([d0, d1, d2] ++ []) = { results := [.lit (.bool true)], args := [d0, d1, d2] } := rfl
  refine ⟨_, rfl, _, _, _, [], p0 ++ (p1 ++ (p2 ++ ([]))), [], hW', ?_, ?_, ?_, ?_, fun h => by cases h⟩
  · rw [e1]; exact trodAll_mk1 (shut_bool Try.underlying4 true)
  · rw [e1]; exact trodAll_cons_mk (Below.trod laidOutA (by kernel_rfl) (of_decide_eq_true (by kernel_rfl)) h0 hb (fun x hx => hpb x (by simp [hx]))) (trodAll_cons_mk (Below.trod laidOutA (by kernel_rfl) (of_decide_eq_true (by kernel_rfl)) h1 hb (fun x hx => hpb x (by simp [hx]))) (trodAll_cons_mk (Below.trod laidOutA (by kernel_rfl) (of_decide_eq_true (by kernel_rfl)) h2 hb (fun x hx => hpb x (by simp [hx]))) (trodAll_mk0)))
  · rw [e1]; rfl
  · exact hb.frame _

theorem costumeCheapest_said : Rows.CostumeCheapestSaid :=
  OpenClaim.holds_of_wide 11 Try.f11 rfl rfl rfl rfl rfl rfl rfl ⟨rfl, rfl, rfl, rfl, rfl⟩ rfl rfl rfl rfl rfl (by kernel_rfl) Try.func11 (by kernel_rfl)
    (of_decide_eq_true (by kernel_rfl)) (by unfold Func.isWrapper; first | (rw [if_pos (by decide +kernel)]; kernel_rfl) | (rw [if_neg (by decide +kernel)]; exact ⟨rfl, rfl⟩))
    (fun os started H enc _ => costumeCheapest_lifted os started H enc)
end Go.Proofs.Ytdcinngdilfpnaa
