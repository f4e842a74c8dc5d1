/-
  TopDressed: whatever comes in, the call returns true and leaves what came in as it was: if a plot is valid whose parts are a person's wings, nobody is in two wings in one second, and each has the time to change, whatever the paces truly are.
  CONDITIONS: none on the input; the two listed tables of unicode/utf8 read as the program's text lays them (the card ties that); the walk never looks at them.
-/
import Derived.Test.YtgfipifgijohhaaDoorUm
import Derived.Test.YtgfipifgijohhaaDoorCards
namespace Go.Proofs.YtgfipifgijohhaaDoor

theorem topDressed_card : Rows.TopDressedCardSaid :=
  Claim7.holds_tied_plain_at .later [] [.data, .pinned] true (true, "786df9c5ae251d7caac2cf0ef8da082327ebf4dd291efc1104af37015aae21f4") false
    topDressed_holds (fun _ h => by cases h) (by kernel_rfl) (fun _ h => by cases h) topDressed_row_tie rfl ⟨rfl, rfl⟩ (by kernel_rfl) rfl
    (fun f fn hf hfn => by
      obtain rfl : f = 6 := Option.some.inj ((show Tryd.prog.funcNamed Rows.topDressedRow.func = some 6 by kernel_rfl).symm.trans hf) |>.symm
      obtain rfl : fn = Tryd.f6 := (Option.some.inj (Tryd.func6.symm.trans hfn)).symm
      exact ⟨by kernel_rfl, fun j t ht => by
        rw [Tryd.params6] at ht
        have hm : t ∈ [25] := by simpa using Array.mem_of_getElem? ht
        have hall : ([25].all fun u => !Tryd.prog.wantsStandIn u) = true := by kernel_rfl
        exact (show Tryd.prog.wantsStandIn t = false by simpa using List.all_eq_true.1 hall t hm)⟩)
    (by kernel_rfl)
end Go.Proofs.YtgfipifgijohhaaDoor
