/-
  ParadeKnown: the call returns true: the chapter's examples have the results given there.
  CONDITIONS: none on the input (there is none); the listed tables of the library, of which internal/strconv.uint64pow10 is read, read as the program's text lays them (the card ties that).
-/
import Derived.Test.YtgfipifgijohhaaDoorJm
import Derived.Test.YtgfipifgijohhaaDoorCards
namespace Go.Proofs.YtgfipifgijohhaaDoor

theorem paradeKnown_card : Rows.ParadeKnownCardSaid :=
  Claim7.holds_tied_plain_at .later [] [.data, .data, .data, .data, .pinned] true (true, "786df9c5ae251d7caac2cf0ef8da082327ebf4dd291efc1104af37015aae21f4") false
    paradeKnown_holds (fun _ h => by cases h) (by kernel_rfl) (fun _ h => by cases h) paradeKnown_row_tie rfl ⟨rfl, rfl⟩ (by kernel_rfl) rfl
    (fun f fn hf hfn => by
      obtain rfl : f = 16 := Option.some.inj ((show Tryd.prog.funcNamed Rows.paradeKnownRow.func = some 16 by kernel_rfl).symm.trans hf) |>.symm
      obtain rfl : fn = Tryd.f16 := (Option.some.inj (Tryd.func16.symm.trans hfn)).symm
      exact ⟨by kernel_rfl, fun j t ht => by
        rw [Tryd.params16] at ht
        simp at ht⟩)
    (by kernel_rfl)
end Go.Proofs.YtgfipifgijohhaaDoor
