/-
  DERIVED. GIVEN WITH THE SEED: THE CARDS: each row of YtgfipifgijohhaaDoorRows.lean that lists a variable, with what it lists TIED to the program's text (the seventh form; the later family's looks); each row that meets fmt, with fmt's text TOLD by the authors' own Lean function (tested against real Go, not proved from fmt's source: count such statements apart). THE CARD IS WHAT COUNTS. Prove the row's statement (the work); the ties are given (YtgfipifgijohhaaDoorTie.lean); close each card by the builder's one call (the guide's Derived/Test/ToyasCard.lean, 'card_holds'). Laid BY PROGRAM, IN A SANDBOX (cutbox-door.mjs). By AI agents, Wed Nov 11 2026. No macro, syntax, notation, axiom, sorry.
-/
import Derived.Test.YtgfipifgijohhaaDoorRows
import GoSem.ClaimSeven
namespace Go.Proofs.YtgfipifgijohhaaDoor
namespace Rows

/-- THE TIED CARD OF 'baterialaw01.ParadeChecks'. -/
def paradeChecksCard : Claim7 := { stood := { row := paradeChecksRow, standIns := [], harness := (true, "786df9c5ae251d7caac2cf0ef8da082327ebf4dd291efc1104af37015aae21f4"), looks := false }, kinds := [], alts := [], laidByText := true, laidKinds := [.data, .pinned], laidTests := true, laidLooks := .later }
def ParadeChecksCardSaid : Prop := Claim7.holds Tryd.pinned (.plain (OpenSpec.ofChange paradeChecksSpec)) paradeChecksCard

/-- THE TIED CARD OF 'baterialaw01.ParadeLasts'. -/
def paradeLastsCard : Claim7 := { stood := { row := paradeLastsRow, standIns := [], harness := (true, "786df9c5ae251d7caac2cf0ef8da082327ebf4dd291efc1104af37015aae21f4"), looks := false }, kinds := [], alts := [], laidByText := true, laidKinds := [.data, .pinned], laidTests := true, laidLooks := .later }
def ParadeLastsCardSaid : Prop := Claim7.holds Tryd.pinned (.plain (OpenSpec.ofChange paradeLastsSpec)) paradeLastsCard

/-- THE TIED CARD OF 'baterialaw01.ParadeTime'. -/
def paradeTimeCard : Claim7 := { stood := { row := paradeTimeRow, standIns := [], harness := (true, "786df9c5ae251d7caac2cf0ef8da082327ebf4dd291efc1104af37015aae21f4"), looks := false }, kinds := [], alts := [], laidByText := true, laidKinds := [.data, .pinned], laidTests := true, laidLooks := .later }
def ParadeTimeCardSaid : Prop := Claim7.holds Tryd.pinned (.plain (OpenSpec.ofChange paradeTimeSpec)) paradeTimeCard

/-- THE TIED CARD OF 'bateriatop.TopDressed'. -/
def topDressedCard : Claim7 := { stood := { row := topDressedRow, standIns := [], harness := (true, "786df9c5ae251d7caac2cf0ef8da082327ebf4dd291efc1104af37015aae21f4"), looks := false }, kinds := [], alts := [], laidByText := true, laidKinds := [.data, .pinned], laidTests := true, laidLooks := .later }
def TopDressedCardSaid : Prop := Claim7.holds Tryd.pinned (.plain (OpenSpec.ofChange topDressedSpec)) topDressedCard

/-- THE TIED CARD OF 'baterialaw01.ParadePlaces'. -/
def paradePlacesCard : Claim7 := { stood := { row := paradePlacesRow, standIns := [], harness := (true, "786df9c5ae251d7caac2cf0ef8da082327ebf4dd291efc1104af37015aae21f4"), looks := false }, kinds := [], alts := [], laidByText := true, laidKinds := [.data, .pinned], laidTests := true, laidLooks := .later }
def ParadePlacesCardSaid : Prop := Claim7.holds Tryd.pinned (.plain (OpenSpec.ofChange paradePlacesSpec)) paradePlacesCard

/-- THE TIED CARD OF 'baterialaw01.ParadeOn'. -/
def paradeOnCard : Claim7 := { stood := { row := paradeOnRow, standIns := [], harness := (true, "786df9c5ae251d7caac2cf0ef8da082327ebf4dd291efc1104af37015aae21f4"), looks := false }, kinds := [], alts := [], laidByText := true, laidKinds := [.data, .pinned], laidTests := true, laidLooks := .later }
def ParadeOnCardSaid : Prop := Claim7.holds Tryd.pinned (.plain (OpenSpec.ofChange paradeOnSpec)) paradeOnCard

/-- THE TIED CARD OF 'baterialaw01.ParadeRow'. -/
def paradeRowCard : Claim7 := { stood := { row := paradeRowRow, standIns := [], harness := (true, "786df9c5ae251d7caac2cf0ef8da082327ebf4dd291efc1104af37015aae21f4"), looks := false }, kinds := [], alts := [], laidByText := true, laidKinds := [.data, .pinned], laidTests := true, laidLooks := .later }
def ParadeRowCardSaid : Prop := Claim7.holds Tryd.pinned (.plain (OpenSpec.ofChange paradeRowSpec)) paradeRowCard

/-- THE TIED CARD OF 'baterialaw01.ParadeTrue'. -/
def paradeTrueCard : Claim7 := { stood := { row := paradeTrueRow, standIns := [], harness := (true, "786df9c5ae251d7caac2cf0ef8da082327ebf4dd291efc1104af37015aae21f4"), looks := false }, kinds := [], alts := [], laidByText := true, laidKinds := [.data, .pinned], laidTests := true, laidLooks := .later }
def ParadeTrueCardSaid : Prop := Claim7.holds Tryd.pinned (.plain (OpenSpec.ofChange paradeTrueSpec)) paradeTrueCard

/-- THE TIED CARD OF 'baterialaw01.ParadeNarrow'. -/
def paradeNarrowCard : Claim7 := { stood := { row := paradeNarrowRow, standIns := [], harness := (true, "786df9c5ae251d7caac2cf0ef8da082327ebf4dd291efc1104af37015aae21f4"), looks := false }, kinds := [], alts := [], laidByText := true, laidKinds := [.data, .pinned], laidTests := true, laidLooks := .later }
def ParadeNarrowCardSaid : Prop := Claim7.holds Tryd.pinned (.plain (OpenSpec.ofChange paradeNarrowSpec)) paradeNarrowCard

/-- THE TIED CARD OF 'baterialaw01.ParadeOpen'. -/
def paradeOpenCard : Claim7 := { stood := { row := paradeOpenRow, standIns := [], harness := (true, "786df9c5ae251d7caac2cf0ef8da082327ebf4dd291efc1104af37015aae21f4"), looks := false }, kinds := [], alts := [], laidByText := true, laidKinds := [.data, .pinned], laidTests := true, laidLooks := .later }
def ParadeOpenCardSaid : Prop := Claim7.holds Tryd.pinned (.plain (OpenSpec.ofChange paradeOpenSpec)) paradeOpenCard

/-- THE TIED CARD OF 'baterialaw01.ParadeGaps'. -/
def paradeGapsCard : Claim7 := { stood := { row := paradeGapsRow, standIns := [], harness := (true, "786df9c5ae251d7caac2cf0ef8da082327ebf4dd291efc1104af37015aae21f4"), looks := false }, kinds := [], alts := [], laidByText := true, laidKinds := [.data, .pinned], laidTests := true, laidLooks := .later }
def ParadeGapsCardSaid : Prop := Claim7.holds Tryd.pinned (.plain (OpenSpec.ofChange paradeGapsSpec)) paradeGapsCard

/-- THE TIED CARD OF 'baterialaw01.ParadePlans'. -/
def paradePlansCard : Claim7 := { stood := { row := paradePlansRow, standIns := [], harness := (true, "786df9c5ae251d7caac2cf0ef8da082327ebf4dd291efc1104af37015aae21f4"), looks := false }, kinds := [], alts := [], laidByText := true, laidKinds := [.data, .pinned], laidTests := true, laidLooks := .later }
def ParadePlansCardSaid : Prop := Claim7.holds Tryd.pinned (.plain (OpenSpec.ofChange paradePlansSpec)) paradePlansCard

/-- THE TIED CARD OF 'baterialaw01.ParadeBest'. -/
def paradeBestCard : Claim7 := { stood := { row := paradeBestRow, standIns := [], harness := (true, "786df9c5ae251d7caac2cf0ef8da082327ebf4dd291efc1104af37015aae21f4"), looks := false }, kinds := [], alts := [], laidByText := true, laidKinds := [.data, .pinned], laidTests := true, laidLooks := .later }
def ParadeBestCardSaid : Prop := Claim7.holds Tryd.pinned (.plain (OpenSpec.ofChange paradeBestSpec)) paradeBestCard

/-- THE TIED CARD OF 'baterialaw01.ParadeKnown'. -/
def paradeKnownCard : Claim7 := { stood := { row := paradeKnownRow, standIns := [], harness := (true, "786df9c5ae251d7caac2cf0ef8da082327ebf4dd291efc1104af37015aae21f4"), looks := false }, kinds := [], alts := [], laidByText := true, laidKinds := [.data, .data, .data, .data, .pinned], laidTests := true, laidLooks := .later }
def ParadeKnownCardSaid : Prop := Claim7.holds Tryd.pinned (.plain (OpenSpec.ofChange paradeKnownSpec)) paradeKnownCard

/-- THE SECOND FORM's CARD OF 'baterialaw01.ParadeChecks'. -/
def paradeChecksUptoCard : Claim7 := { stood := { row := paradeChecksUptoRow, standIns := [], harness := (true, "786df9c5ae251d7caac2cf0ef8da082327ebf4dd291efc1104af37015aae21f4"), looks := false }, kinds := [], alts := [], laidByText := true, laidKinds := [.data, .pinned], laidTests := true, laidLooks := .later }
def ParadeChecksUptoCardSaid : Prop := Claim7.holds Tryd.pinned (.plain (OpenSpec.upto paradeChecksSpec)) paradeChecksUptoCard

/-- THE SECOND FORM's CARD OF 'baterialaw01.ParadeLasts'. -/
def paradeLastsUptoCard : Claim7 := { stood := { row := paradeLastsUptoRow, standIns := [], harness := (true, "786df9c5ae251d7caac2cf0ef8da082327ebf4dd291efc1104af37015aae21f4"), looks := false }, kinds := [], alts := [], laidByText := true, laidKinds := [.data, .pinned], laidTests := true, laidLooks := .later }
def ParadeLastsUptoCardSaid : Prop := Claim7.holds Tryd.pinned (.plain (OpenSpec.upto paradeLastsSpec)) paradeLastsUptoCard

/-- THE SECOND FORM's CARD OF 'baterialaw01.ParadeTime'. -/
def paradeTimeUptoCard : Claim7 := { stood := { row := paradeTimeUptoRow, standIns := [], harness := (true, "786df9c5ae251d7caac2cf0ef8da082327ebf4dd291efc1104af37015aae21f4"), looks := false }, kinds := [], alts := [], laidByText := true, laidKinds := [.data, .pinned], laidTests := true, laidLooks := .later }
def ParadeTimeUptoCardSaid : Prop := Claim7.holds Tryd.pinned (.plain (OpenSpec.upto paradeTimeSpec)) paradeTimeUptoCard

/-- THE SECOND FORM's CARD OF 'bateriatop.TopDressed'. -/
def topDressedUptoCard : Claim7 := { stood := { row := topDressedUptoRow, standIns := [], harness := (true, "786df9c5ae251d7caac2cf0ef8da082327ebf4dd291efc1104af37015aae21f4"), looks := false }, kinds := [], alts := [], laidByText := true, laidKinds := [.data, .pinned], laidTests := true, laidLooks := .later }
def TopDressedUptoCardSaid : Prop := Claim7.holds Tryd.pinned (.plain (OpenSpec.upto topDressedSpec)) topDressedUptoCard

/-- THE SECOND FORM's CARD OF 'baterialaw01.ParadePlaces'. -/
def paradePlacesUptoCard : Claim7 := { stood := { row := paradePlacesUptoRow, standIns := [], harness := (true, "786df9c5ae251d7caac2cf0ef8da082327ebf4dd291efc1104af37015aae21f4"), looks := false }, kinds := [], alts := [], laidByText := true, laidKinds := [.data, .pinned], laidTests := true, laidLooks := .later }
def ParadePlacesUptoCardSaid : Prop := Claim7.holds Tryd.pinned (.plain (OpenSpec.upto paradePlacesSpec)) paradePlacesUptoCard

/-- THE SECOND FORM's CARD OF 'baterialaw01.ParadeOn'. -/
def paradeOnUptoCard : Claim7 := { stood := { row := paradeOnUptoRow, standIns := [], harness := (true, "786df9c5ae251d7caac2cf0ef8da082327ebf4dd291efc1104af37015aae21f4"), looks := false }, kinds := [], alts := [], laidByText := true, laidKinds := [.data, .pinned], laidTests := true, laidLooks := .later }
def ParadeOnUptoCardSaid : Prop := Claim7.holds Tryd.pinned (.plain (OpenSpec.upto paradeOnSpec)) paradeOnUptoCard

/-- THE SECOND FORM's CARD OF 'baterialaw01.ParadeRow'. -/
def paradeRowUptoCard : Claim7 := { stood := { row := paradeRowUptoRow, standIns := [], harness := (true, "786df9c5ae251d7caac2cf0ef8da082327ebf4dd291efc1104af37015aae21f4"), looks := false }, kinds := [], alts := [], laidByText := true, laidKinds := [.data, .pinned], laidTests := true, laidLooks := .later }
def ParadeRowUptoCardSaid : Prop := Claim7.holds Tryd.pinned (.plain (OpenSpec.upto paradeRowSpec)) paradeRowUptoCard

/-- THE SECOND FORM's CARD OF 'baterialaw01.ParadeTrue'. -/
def paradeTrueUptoCard : Claim7 := { stood := { row := paradeTrueUptoRow, standIns := [], harness := (true, "786df9c5ae251d7caac2cf0ef8da082327ebf4dd291efc1104af37015aae21f4"), looks := false }, kinds := [], alts := [], laidByText := true, laidKinds := [.data, .pinned], laidTests := true, laidLooks := .later }
def ParadeTrueUptoCardSaid : Prop := Claim7.holds Tryd.pinned (.plain (OpenSpec.upto paradeTrueSpec)) paradeTrueUptoCard

/-- THE SECOND FORM's CARD OF 'baterialaw01.ParadeNarrow'. -/
def paradeNarrowUptoCard : Claim7 := { stood := { row := paradeNarrowUptoRow, standIns := [], harness := (true, "786df9c5ae251d7caac2cf0ef8da082327ebf4dd291efc1104af37015aae21f4"), looks := false }, kinds := [], alts := [], laidByText := true, laidKinds := [.data, .pinned], laidTests := true, laidLooks := .later }
def ParadeNarrowUptoCardSaid : Prop := Claim7.holds Tryd.pinned (.plain (OpenSpec.upto paradeNarrowSpec)) paradeNarrowUptoCard

/-- THE SECOND FORM's CARD OF 'baterialaw01.ParadeOpen'. -/
def paradeOpenUptoCard : Claim7 := { stood := { row := paradeOpenUptoRow, standIns := [], harness := (true, "786df9c5ae251d7caac2cf0ef8da082327ebf4dd291efc1104af37015aae21f4"), looks := false }, kinds := [], alts := [], laidByText := true, laidKinds := [.data, .pinned], laidTests := true, laidLooks := .later }
def ParadeOpenUptoCardSaid : Prop := Claim7.holds Tryd.pinned (.plain (OpenSpec.upto paradeOpenSpec)) paradeOpenUptoCard

/-- THE SECOND FORM's CARD OF 'baterialaw01.ParadeGaps'. -/
def paradeGapsUptoCard : Claim7 := { stood := { row := paradeGapsUptoRow, standIns := [], harness := (true, "786df9c5ae251d7caac2cf0ef8da082327ebf4dd291efc1104af37015aae21f4"), looks := false }, kinds := [], alts := [], laidByText := true, laidKinds := [.data, .pinned], laidTests := true, laidLooks := .later }
def ParadeGapsUptoCardSaid : Prop := Claim7.holds Tryd.pinned (.plain (OpenSpec.upto paradeGapsSpec)) paradeGapsUptoCard

/-- THE SECOND FORM's CARD OF 'baterialaw01.ParadePlans'. -/
def paradePlansUptoCard : Claim7 := { stood := { row := paradePlansUptoRow, standIns := [], harness := (true, "786df9c5ae251d7caac2cf0ef8da082327ebf4dd291efc1104af37015aae21f4"), looks := false }, kinds := [], alts := [], laidByText := true, laidKinds := [.data, .pinned], laidTests := true, laidLooks := .later }
def ParadePlansUptoCardSaid : Prop := Claim7.holds Tryd.pinned (.plain (OpenSpec.upto paradePlansSpec)) paradePlansUptoCard

/-- THE SECOND FORM's CARD OF 'baterialaw01.ParadeBest'. -/
def paradeBestUptoCard : Claim7 := { stood := { row := paradeBestUptoRow, standIns := [], harness := (true, "786df9c5ae251d7caac2cf0ef8da082327ebf4dd291efc1104af37015aae21f4"), looks := false }, kinds := [], alts := [], laidByText := true, laidKinds := [.data, .pinned], laidTests := true, laidLooks := .later }
def ParadeBestUptoCardSaid : Prop := Claim7.holds Tryd.pinned (.plain (OpenSpec.upto paradeBestSpec)) paradeBestUptoCard

/-- THE SECOND FORM's CARD OF 'baterialaw01.ParadeKnown'. -/
def paradeKnownUptoCard : Claim7 := { stood := { row := paradeKnownUptoRow, standIns := [], harness := (true, "786df9c5ae251d7caac2cf0ef8da082327ebf4dd291efc1104af37015aae21f4"), looks := false }, kinds := [], alts := [], laidByText := true, laidKinds := [.data, .data, .data, .data, .pinned], laidTests := true, laidLooks := .later }
def ParadeKnownUptoCardSaid : Prop := Claim7.holds Tryd.pinned (.plain (OpenSpec.upto paradeKnownSpec)) paradeKnownUptoCard
end Rows
end Go.Proofs.YtgfipifgijohhaaDoor
