/-
  DERIVED. GIVEN WITH THE SEED: THE CARDS: each row of YtefdopifebhgiaaGreatDoorRows.lean that lists a variable, with what it lists TIED to the program's text (the seventh form; the later family's looks); each row that meets fmt, with fmt's text TOLD by the authors' own Lean function (tested against real Go, not proved from fmt's source: count such statements apart). THE CARD IS WHAT COUNTS. Prove the row's statement (the work); the ties are given (YtefdopifebhgiaaGreatDoorTie.lean); close each card by the builder's one call (the guide's Derived/Test/ToyasCard.lean, 'card_holds'). Laid BY PROGRAM, IN A SANDBOX (cutbox-door.mjs). By AI agents, Wed Nov 11 2026. No macro, syntax, notation, axiom, sorry.
-/
import Derived.Test.YtefdopifebhgiaaGreatDoorRows
import GoSem.ClaimSeven
namespace Go.Proofs.YtefdopifebhgiaaGreatDoor
namespace Rows

/-- THE TIED CARD OF 'baterialaw01.ParadePapers'. -/
def paradePapersCard : Claim7 := { stood := { row := paradePapersRow, standIns := [], harness := (true, "4bddab9245b73bed5c0f4609374c7af7ac1e0d1f4b8c5bb988a5bf65246eec21"), looks := true }, kinds := [], alts := [], laidByText := true, laidKinds := [.data, .data, .data, .data, .sentinel, .sentinel, .pinned], laidTests := true, laidLooks := .later }
def ParadePapersCardSaid : Prop := Claim7.holds Tryz.pinned (.plain (OpenSpec.ofChange paradePapersSpec)) paradePapersCard

/-- THE TIED CARD OF 'baterialaw01.ParadeRead'. -/
def paradeReadCard : Claim7 := { stood := { row := paradeReadRow, standIns := [], harness := (true, "4bddab9245b73bed5c0f4609374c7af7ac1e0d1f4b8c5bb988a5bf65246eec21"), looks := true }, kinds := [], alts := [], laidByText := true, laidKinds := [.data, .data, .data, .data, .sentinel, .sentinel, .pinned], laidTests := true, laidLooks := .later }
def ParadeReadCardSaid : Prop := Claim7.holds Tryz.pinned (.plain (OpenSpec.ofChange paradeReadSpec)) paradeReadCard

/-- THE SECOND FORM's CARD OF 'baterialaw01.ParadePapers'. -/
def paradePapersUptoCard : Claim7 := { stood := { row := paradePapersUptoRow, standIns := [], harness := (true, "4bddab9245b73bed5c0f4609374c7af7ac1e0d1f4b8c5bb988a5bf65246eec21"), looks := true }, kinds := [], alts := [], laidByText := true, laidKinds := [.data, .data, .data, .data, .sentinel, .sentinel, .pinned], laidTests := true, laidLooks := .later }
def ParadePapersUptoCardSaid : Prop := Claim7.holds Tryz.pinned (.plain (OpenSpec.upto paradePapersSpec)) paradePapersUptoCard

/-- THE SECOND FORM's CARD OF 'baterialaw01.ParadeRead'. -/
def paradeReadUptoCard : Claim7 := { stood := { row := paradeReadUptoRow, standIns := [], harness := (true, "4bddab9245b73bed5c0f4609374c7af7ac1e0d1f4b8c5bb988a5bf65246eec21"), looks := true }, kinds := [], alts := [], laidByText := true, laidKinds := [.data, .data, .data, .data, .sentinel, .sentinel, .pinned], laidTests := true, laidLooks := .later }
def ParadeReadUptoCardSaid : Prop := Claim7.holds Tryz.pinned (.plain (OpenSpec.upto paradeReadSpec)) paradeReadUptoCard
end Rows
end Go.Proofs.YtefdopifebhgiaaGreatDoor
