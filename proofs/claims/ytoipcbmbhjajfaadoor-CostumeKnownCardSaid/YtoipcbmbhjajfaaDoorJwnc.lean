/-
  CostumeKnown: the call returns true: the chapter's examples have the results given there.
  CONDITIONS: none on the input (there is none); the listed tables of the library, of which internal/strconv.uint64pow10 is read, read as the program's text lays them (the card ties that).
-/
import Derived.Test.YtoipcbmbhjajfaaDoorJwn
import Derived.Test.YtoipcbmbhjajfaaDoorCards
namespace Go.Proofs.YtoipcbmbhjajfaaDoor

theorem costumeKnown_card : Rows.CostumeKnownCardSaid :=
  Claim7.holds_tied_plain_at .later [] [.data, .data, .data] true (true, "2f3a3661b176b1eb39c322a383d97b8dce30ea84edeae6d78e907a9c8f6a6106") false
    costumeKnown_holds (fun _ h => by cases h) (by kernel_rfl) (fun _ h => by cases h) costumeKnown_row_tie rfl ⟨rfl, rfl⟩ (by kernel_rfl) rfl
    (fun f fn hf hfn => by
      obtain rfl : f = 3 := Option.some.inj ((show Tryd.prog.funcNamed Rows.costumeKnownRow.func = some 3 by kernel_rfl).symm.trans hf) |>.symm
      obtain rfl : fn = Tryd.f3 := (Option.some.inj (Tryd.func3.symm.trans hfn)).symm
      exact ⟨by kernel_rfl, fun j t ht => by
        rw [Tryd.params3] at ht
        simp at ht⟩)
    (by kernel_rfl)
end Go.Proofs.YtoipcbmbhjajfaaDoor
