/-
  DERIVED. GIVEN WITH THE SEED: THE CARDS: each row of YtoipcbmbhjajfaaDoorRows.lean that lists a variable, with what it lists TIED to the program's text (the seventh form; the later family's looks); each row that meets fmt, with fmt's text TOLD by the authors' own Lean function (tested against real Go, not proved from fmt's source: count such statements apart). THE CARD IS WHAT COUNTS. Prove the row's statement (the work); the ties are given (YtoipcbmbhjajfaaDoorTie.lean); close each card by the builder's one call (the guide's Derived/Test/ToyasCard.lean, 'card_holds'). Laid BY PROGRAM, IN A SANDBOX (cutbox-door.mjs). By AI agents, Wed Nov 11 2026. No macro, syntax, notation, axiom, sorry.
-/
import Derived.Test.YtoipcbmbhjajfaaDoorRows
import GoSem.ClaimSeven
namespace Go.Proofs.YtoipcbmbhjajfaaDoor
namespace Rows

/-- THE TIED CARD OF 'baterialaw03.CostumeKnown'. -/
def costumeKnownCard : Claim7 := { stood := { row := costumeKnownRow, standIns := [], harness := (true, "2f3a3661b176b1eb39c322a383d97b8dce30ea84edeae6d78e907a9c8f6a6106"), looks := false }, kinds := [], alts := [], laidByText := true, laidKinds := [.data, .data, .data], laidTests := true, laidLooks := .later }
def CostumeKnownCardSaid : Prop := Claim7.holds Tryd.pinned (.plain (OpenSpec.ofChange costumeKnownSpec)) costumeKnownCard

/-- THE SECOND FORM's CARD OF 'baterialaw03.CostumeKnown'. -/
def costumeKnownUptoCard : Claim7 := { stood := { row := costumeKnownUptoRow, standIns := [], harness := (true, "2f3a3661b176b1eb39c322a383d97b8dce30ea84edeae6d78e907a9c8f6a6106"), looks := false }, kinds := [], alts := [], laidByText := true, laidKinds := [.data, .data, .data], laidTests := true, laidLooks := .later }
def CostumeKnownUptoCardSaid : Prop := Claim7.holds Tryd.pinned (.plain (OpenSpec.upto costumeKnownSpec)) costumeKnownUptoCard
end Rows
end Go.Proofs.YtoipcbmbhjajfaaDoor
