/-
  ParadePlaces: whatever comes in, the call returns true and leaves what came in as it was: where a wing may be in a second and when it may pass a place are as the reference says, or the errors are.
  CONDITIONS: none on the input; the two listed tables of unicode/utf8 read as the program's text lays them (the card ties that); the walk never looks at them.
-/
import Derived.Test.YtgfipifgijohhaaDoorPm
import Derived.Test.YtgfipifgijohhaaDoorCards
namespace Go.Proofs.YtgfipifgijohhaaDoor

theorem paradePlaces_card : Rows.ParadePlacesCardSaid :=
  Claim7.holds_tied_plain_at .later [] [.data, .pinned] true (true, "786df9c5ae251d7caac2cf0ef8da082327ebf4dd291efc1104af37015aae21f4") false
    paradePlaces_holds (fun _ h => by cases h) (by kernel_rfl) (fun _ h => by cases h) paradePlaces_row_tie rfl ⟨rfl, rfl⟩ (by kernel_rfl) rfl
    (fun f fn hf hfn => by
      obtain rfl : f = 7 := Option.some.inj ((show Tryd.prog.funcNamed Rows.paradePlacesRow.func = some 7 by kernel_rfl).symm.trans hf) |>.symm
      obtain rfl : fn = Tryd.f7 := (Option.some.inj (Tryd.func7.symm.trans hfn)).symm
      exact ⟨by kernel_rfl, fun j t ht => by
        rw [Tryd.params7] at ht
        have hm : t ∈ [24, 25, 3, 3, 3, 25] := by simpa using Array.mem_of_getElem? ht
        have hall : ([24, 25, 3, 3, 3, 25].all fun u => !Tryd.prog.wantsStandIn u) = true := by kernel_rfl
        exact (show Tryd.prog.wantsStandIn t = false by simpa using List.all_eq_true.1 hall t hm)⟩)
    (by kernel_rfl)
end Go.Proofs.YtgfipifgijohhaaDoor
