/-
  DERIVED. GIVEN WITH THE SEED: THE CARDS: each row of YtoipcbmbhjajfaaGreatDoorRows.lean that lists a variable, with what it lists TIED to the program's text (the seventh form; the later family's looks); each row that meets fmt, with fmt's text TOLD by the authors' own Lean function (tested against real Go, not proved from fmt's source: count such statements apart). THE CARD IS WHAT COUNTS. Prove the row's statement (the work); the ties are given (YtoipcbmbhjajfaaGreatDoorTie.lean); close each card by the builder's one call (the guide's Derived/Test/ToyasCard.lean, 'card_holds'). Laid BY PROGRAM, IN A SANDBOX (cutbox-door.mjs). By AI agents, Wed Nov 11 2026. No macro, syntax, notation, axiom, sorry.
-/
import Derived.Test.YtoipcbmbhjajfaaGreatDoorRows
import GoSem.ClaimSeven
namespace Go.Proofs.YtoipcbmbhjajfaaGreatDoor
namespace Rows

/-- THE TIED CARD OF 'baterialaw03.CostumeSheets'. -/
def costumeSheetsCard : Claim7 := { stood := { row := costumeSheetsRow, standIns := [], harness := (true, "03d9789c4abb4334fcddfb04cd76037b27f32bf3384eea36c651638a182e12a1"), looks := true }, kinds := [], alts := [], laidByText := true, laidKinds := [.data, .data, .data, .data, .sentinel, .sentinel, .pinned], laidTests := true, laidLooks := .later }
def CostumeSheetsCardSaid : Prop := Claim7.holds Tryz.pinned (.plain (OpenSpec.ofChange costumeSheetsSpec)) costumeSheetsCard

/-- THE TIED CARD OF 'baterialaw03.CostumeRead'. -/
def costumeReadCard : Claim7 := { stood := { row := costumeReadRow, standIns := [], harness := (true, "03d9789c4abb4334fcddfb04cd76037b27f32bf3384eea36c651638a182e12a1"), looks := true }, kinds := [], alts := [], laidByText := true, laidKinds := [.data, .data, .data, .data, .sentinel, .sentinel, .pinned], laidTests := true, laidLooks := .later }
def CostumeReadCardSaid : Prop := Claim7.holds Tryz.pinned (.plain (OpenSpec.ofChange costumeReadSpec)) costumeReadCard

/-- THE SECOND FORM's CARD OF 'baterialaw03.CostumeSheets'. -/
def costumeSheetsUptoCard : Claim7 := { stood := { row := costumeSheetsUptoRow, standIns := [], harness := (true, "03d9789c4abb4334fcddfb04cd76037b27f32bf3384eea36c651638a182e12a1"), looks := true }, kinds := [], alts := [], laidByText := true, laidKinds := [.data, .data, .data, .data, .sentinel, .sentinel, .pinned], laidTests := true, laidLooks := .later }
def CostumeSheetsUptoCardSaid : Prop := Claim7.holds Tryz.pinned (.plain (OpenSpec.upto costumeSheetsSpec)) costumeSheetsUptoCard

/-- THE SECOND FORM's CARD OF 'baterialaw03.CostumeRead'. -/
def costumeReadUptoCard : Claim7 := { stood := { row := costumeReadUptoRow, standIns := [], harness := (true, "03d9789c4abb4334fcddfb04cd76037b27f32bf3384eea36c651638a182e12a1"), looks := true }, kinds := [], alts := [], laidByText := true, laidKinds := [.data, .data, .data, .data, .sentinel, .sentinel, .pinned], laidTests := true, laidLooks := .later }
def CostumeReadUptoCardSaid : Prop := Claim7.holds Tryz.pinned (.plain (OpenSpec.upto costumeReadSpec)) costumeReadUptoCard
end Rows
end Go.Proofs.YtoipcbmbhjajfaaGreatDoor
