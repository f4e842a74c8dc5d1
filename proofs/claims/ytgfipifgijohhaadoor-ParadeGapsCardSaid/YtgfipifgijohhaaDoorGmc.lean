/-
  ParadeGaps: whatever comes in, the call returns true and leaves what came in as it was: which gaps a wing may have, which open, and the widest one are as the reference says.
  CONDITIONS: none on the input; the two listed tables of unicode/utf8 read as the program's text lays them (the card ties that); the walk never looks at them.
-/
import Derived.Test.YtgfipifgijohhaaDoorGm
import Derived.Test.YtgfipifgijohhaaDoorCards
namespace Go.Proofs.YtgfipifgijohhaaDoor

theorem paradeGaps_card : Rows.ParadeGapsCardSaid :=
  Claim7.holds_tied_plain_at .later [] [.data, .pinned] true (true, "786df9c5ae251d7caac2cf0ef8da082327ebf4dd291efc1104af37015aae21f4") false
    paradeGaps_holds (fun _ h => by cases h) (by kernel_rfl) (fun _ h => by cases h) paradeGaps_row_tie rfl ⟨rfl, rfl⟩ (by kernel_rfl) rfl
    (fun f fn hf hfn => by
      obtain rfl : f = 13 := Option.some.inj ((show Tryd.prog.funcNamed Rows.paradeGapsRow.func = some 13 by kernel_rfl).symm.trans hf) |>.symm
      obtain rfl : fn = Tryd.f13 := (Option.some.inj (Tryd.func13.symm.trans hfn)).symm
      exact ⟨by kernel_rfl, fun j t ht => by
        rw [Tryd.params13] at ht
        have hm : t ∈ [24, 25, 3, 3, 50, 25] := by simpa using Array.mem_of_getElem? ht
        have hall : ([24, 25, 3, 3, 50, 25].all fun u => !Tryd.prog.wantsStandIn u) = true := by kernel_rfl
        exact (show Tryd.prog.wantsStandIn t = false by simpa using List.all_eq_true.1 hall t hm)⟩)
    (by kernel_rfl)
end Go.Proofs.YtgfipifgijohhaaDoor
