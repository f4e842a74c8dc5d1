/-
  ParadePlans: whatever comes in, the call returns true and leaves what came in as it was: which starts the plan has, the one with the narrowest gaps, or which error there is; nothing is changed.
  CONDITIONS: none on the input; the two listed tables of unicode/utf8 read as the program's text lays them (the card ties that); the walk never looks at them.
-/
import Derived.Test.YtgfipifgijohhaaDoorIm
import Derived.Test.YtgfipifgijohhaaDoorCards
namespace Go.Proofs.YtgfipifgijohhaaDoor

theorem paradePlans_card : Rows.ParadePlansCardSaid :=
  Claim7.holds_tied_plain_at .later [] [.data, .pinned] true (true, "786df9c5ae251d7caac2cf0ef8da082327ebf4dd291efc1104af37015aae21f4") false
    paradePlans_holds (fun _ h => by cases h) (by kernel_rfl) (fun _ h => by cases h) paradePlans_row_tie rfl ⟨rfl, rfl⟩ (by kernel_rfl) rfl
    (fun f fn hf hfn => by
      obtain rfl : f = 14 := Option.some.inj ((show Tryd.prog.funcNamed Rows.paradePlansRow.func = some 14 by kernel_rfl).symm.trans hf) |>.symm
      obtain rfl : fn = Tryd.f14 := (Option.some.inj (Tryd.func14.symm.trans hfn)).symm
      exact ⟨by kernel_rfl, fun j t ht => by
        rw [Tryd.params14] at ht
        have hm : t ∈ [24, 50, 25] := by simpa using Array.mem_of_getElem? ht
        have hall : ([24, 50, 25].all fun u => !Tryd.prog.wantsStandIn u) = true := by kernel_rfl
        exact (show Tryd.prog.wantsStandIn t = false by simpa using List.all_eq_true.1 hall t hm)⟩)
    (by kernel_rfl)
end Go.Proofs.YtgfipifgijohhaaDoor
