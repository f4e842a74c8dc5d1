/-
  NARROWER THAN 'FOR EVERY INPUT', by the rows' own cells (each row's printed sentence says how): ParadeChecks: laid · ParadeLasts: laid · ParadeTime: laid · TopDressed: laid · ParadePlaces: laid · ParadeOn: laid · ParadeRow: laid · ParadeTrue: laid · ParadeNarrow: laid · ParadeOpen: laid · ParadeGaps: laid · ParadePlans: laid · ParadeBest: laid · ParadeKnown: laid.
  DERIVED. THE GIVEN ROWS OF THIS SEAT. 14 by the template 'for every input the law returns true; each argument reads behind the call as it read before'; 0 by the template 'total and deterministic' (their statements: YtgfipifgijohhaaDoorTotals.lean).
  GIVEN WITH THE SEED: the statements are not yours to turn. If you find one false, say at which input.
  Laid BY PROGRAM, IN A SANDBOX (cutbox-rows.mjs): the forced cells as the released guide's own fill.sh prints them over the translation 22a915ab081826bd… (all of the seat's roots in one cut). By AI agents, Wed Nov 11 2026. No macro, syntax, notation, axiom, sorry.
-/
import Derived.Test.YtgfipifgijohhaaDoorChecked
import GoSem.PinnedTables
import GoSem.Claim
import GoSem.ClaimJoined
import GoSem.ClaimMapViews
import Derived.JoinedTies
import Derived.KernelRfl
namespace Go.Proofs.YtgfipifgijohhaaDoor
/- THE CELL 'sum', in the pinned program and in every row, IS THE sha256 OF THE DUMP (.gsa) THAT YtgfipifgijohhaaDoorProg.lean LOADS. Nothing in Lean hashes anything: it is a label: what it is worth is what the hold of that sum in a sandbox is worth. -/
noncomputable def Tryd.pinned : Pinned := { name := "ytgfipifgijohhaadoor", sum := "22a915ab081826bdb6b7306b7babace898c9beb7abfe5823dc6d0d4e8af218cb", checked := Tryd.checked }
namespace Rows
def none {H : Type} : Left H := { results := [], args := [] }

/- WHAT THE LISTED PACKAGE-LEVEL VARIABLES READ AS WHEN THE CALL BEGINS. Each datum BY PROGRAM (the guide's laid-datum.mjs) off the statement by which the dump's own 'gosem.cut.vars' lays the variable. In a bare row this is a premise. The card (YtgfipifgijohhaaDoorCards.lean) ties it to the program's text. -/
def laid_unicode_utf8_acceptRanges {H : Type} : DataW H := .agg [.agg [.lit (.int .u8 128), .lit (.int .u8 191)], .agg [.lit (.int .u8 160), .lit (.int .u8 191)], .agg [.lit (.int .u8 128), .lit (.int .u8 159)], .agg [.lit (.int .u8 144), .lit (.int .u8 191)], .agg [.lit (.int .u8 128), .lit (.int .u8 143)], .agg [.lit (.int .u8 0), .lit (.int .u8 0)], .agg [.lit (.int .u8 0), .lit (.int .u8 0)], .agg [.lit (.int .u8 0), .lit (.int .u8 0)], .agg [.lit (.int .u8 0), .lit (.int .u8 0)], .agg [.lit (.int .u8 0), .lit (.int .u8 0)], .agg [.lit (.int .u8 0), .lit (.int .u8 0)], .agg [.lit (.int .u8 0), .lit (.int .u8 0)], .agg [.lit (.int .u8 0), .lit (.int .u8 0)], .agg [.lit (.int .u8 0), .lit (.int .u8 0)], .agg [.lit (.int .u8 0), .lit (.int .u8 0)], .agg [.lit (.int .u8 0), .lit (.int .u8 0)]]
/-- One of Go's own tables, pinned by name: the form's constant. -/
def laid_unicode_utf8_first : DataW Unit := Go.Pinned.utf8First
def laid_math_bits_deBruijn32tab {H : Type} : DataW H := .agg [.lit (.int .u8 0), .lit (.int .u8 1), .lit (.int .u8 28), .lit (.int .u8 2), .lit (.int .u8 29), .lit (.int .u8 14), .lit (.int .u8 24), .lit (.int .u8 3), .lit (.int .u8 30), .lit (.int .u8 22), .lit (.int .u8 20), .lit (.int .u8 15), .lit (.int .u8 25), .lit (.int .u8 17), .lit (.int .u8 4), .lit (.int .u8 8), .lit (.int .u8 31), .lit (.int .u8 27), .lit (.int .u8 13), .lit (.int .u8 23), .lit (.int .u8 21), .lit (.int .u8 19), .lit (.int .u8 16), .lit (.int .u8 7), .lit (.int .u8 26), .lit (.int .u8 12), .lit (.int .u8 18), .lit (.int .u8 6), .lit (.int .u8 11), .lit (.int .u8 5), .lit (.int .u8 10), .lit (.int .u8 9)]
def laid_math_bits_deBruijn64tab {H : Type} : DataW H := .agg [.lit (.int .u8 0), .lit (.int .u8 1), .lit (.int .u8 56), .lit (.int .u8 2), .lit (.int .u8 57), .lit (.int .u8 49), .lit (.int .u8 28), .lit (.int .u8 3), .lit (.int .u8 61), .lit (.int .u8 58), .lit (.int .u8 42), .lit (.int .u8 50), .lit (.int .u8 38), .lit (.int .u8 29), .lit (.int .u8 17), .lit (.int .u8 4), .lit (.int .u8 62), .lit (.int .u8 47), .lit (.int .u8 59), .lit (.int .u8 36), .lit (.int .u8 45), .lit (.int .u8 43), .lit (.int .u8 51), .lit (.int .u8 22), .lit (.int .u8 53), .lit (.int .u8 39), .lit (.int .u8 33), .lit (.int .u8 30), .lit (.int .u8 24), .lit (.int .u8 18), .lit (.int .u8 12), .lit (.int .u8 5), .lit (.int .u8 63), .lit (.int .u8 55), .lit (.int .u8 48), .lit (.int .u8 27), .lit (.int .u8 60), .lit (.int .u8 41), .lit (.int .u8 37), .lit (.int .u8 16), .lit (.int .u8 46), .lit (.int .u8 35), .lit (.int .u8 44), .lit (.int .u8 21), .lit (.int .u8 52), .lit (.int .u8 32), .lit (.int .u8 23), .lit (.int .u8 11), .lit (.int .u8 54), .lit (.int .u8 26), .lit (.int .u8 40), .lit (.int .u8 15), .lit (.int .u8 34), .lit (.int .u8 20), .lit (.int .u8 31), .lit (.int .u8 10), .lit (.int .u8 25), .lit (.int .u8 14), .lit (.int .u8 19), .lit (.int .u8 9), .lit (.int .u8 13), .lit (.int .u8 8), .lit (.int .u8 7), .lit (.int .u8 6)]
def laid_internal_strconv_uint64pow10 {H : Type} : DataW H := .agg [.lit (.int .u64 1), .lit (.int .u64 10), .lit (.int .u64 100), .lit (.int .u64 1000), .lit (.int .u64 10000), .lit (.int .u64 100000), .lit (.int .u64 1000000), .lit (.int .u64 10000000), .lit (.int .u64 100000000), .lit (.int .u64 1000000000), .lit (.int .u64 10000000000), .lit (.int .u64 100000000000), .lit (.int .u64 1000000000000), .lit (.int .u64 10000000000000), .lit (.int .u64 100000000000000), .lit (.int .u64 1000000000000000), .lit (.int .u64 10000000000000000), .lit (.int .u64 100000000000000000), .lit (.int .u64 1000000000000000000), .lit (.int .u64 10000000000000000000)]

/-- 'baterialaw01.ParadeChecks': WHATEVER THE INPUT: true; the input reads as it did. -/
def paradeChecksSpec : ChangeSpec := { name := "paradeChecks", fn := fun _ => fun
  | [d1, d2, d3, d4, d5, d6] => { results := [.lit (.bool true)], args := [d1, d2, d3, d4, d5, d6] }
  | _ => none }
def paradeChecksRow : OpenClaim := { program := "ytgfipifgijohhaadoor", sum := "22a915ab081826bdb6b7306b7babace898c9beb7abfe5823dc6d0d4e8af218cb", func := "bateria/baterialaw01.ParadeChecks", spec := "paradeChecks", inPlace := ["internal/bytealg.IndexByteString", "internal/bytealg.IndexString"], unfollowed := true, recurses := true, named := ["unicode/utf8.first", "unicode/utf8.acceptRanges", "internal/bytealg.MaxLen"], apart := false, laid := [("unicode/utf8.acceptRanges", laid_unicode_utf8_acceptRanges), ("unicode/utf8.first", laid_unicode_utf8_first)] }
def ParadeChecksSaid : Prop := paradeChecksRow.holds Tryd.pinned (OpenSpec.ofChange paradeChecksSpec)

/-- ITS FALSE NEIGHBOUR: 'it returns false'. Refute it at one input. -/
def paradeChecksWrong : ChangeSpec := { name := "paradeChecks", fn := fun _ => fun
  | [d1, d2, d3, d4, d5, d6] => { results := [.lit (.bool false)], args := [d1, d2, d3, d4, d5, d6] }
  | _ => none }
def ParadeChecksWrongFalsely : Prop := paradeChecksRow.holds Tryd.pinned (OpenSpec.ofChange paradeChecksWrong)

/-- 'baterialaw01.ParadeLasts': WHATEVER THE INPUT: true; the input reads as it did. -/
def paradeLastsSpec : ChangeSpec := { name := "paradeLasts", fn := fun _ => fun
  | [d1, d2, d3, d4] => { results := [.lit (.bool true)], args := [d1, d2, d3, d4] }
  | _ => none }
def paradeLastsRow : OpenClaim := { program := "ytgfipifgijohhaadoor", sum := "22a915ab081826bdb6b7306b7babace898c9beb7abfe5823dc6d0d4e8af218cb", func := "bateria/baterialaw01.ParadeLasts", spec := "paradeLasts", inPlace := ["internal/bytealg.IndexByteString", "internal/bytealg.IndexString"], unfollowed := true, recurses := true, named := ["unicode/utf8.first", "unicode/utf8.acceptRanges", "internal/bytealg.MaxLen"], apart := false, laid := [("unicode/utf8.acceptRanges", laid_unicode_utf8_acceptRanges), ("unicode/utf8.first", laid_unicode_utf8_first)] }
def ParadeLastsSaid : Prop := paradeLastsRow.holds Tryd.pinned (OpenSpec.ofChange paradeLastsSpec)

/-- ITS FALSE NEIGHBOUR: 'it returns false'. Refute it at one input. -/
def paradeLastsWrong : ChangeSpec := { name := "paradeLasts", fn := fun _ => fun
  | [d1, d2, d3, d4] => { results := [.lit (.bool false)], args := [d1, d2, d3, d4] }
  | _ => none }
def ParadeLastsWrongFalsely : Prop := paradeLastsRow.holds Tryd.pinned (OpenSpec.ofChange paradeLastsWrong)

/-- 'baterialaw01.ParadeTime': WHATEVER THE INPUT: true; the input reads as it did. -/
def paradeTimeSpec : ChangeSpec := { name := "paradeTime", fn := fun _ => fun
  | [d] => { results := [.lit (.bool true)], args := [d] }
  | _ => none }
def paradeTimeRow : OpenClaim := { program := "ytgfipifgijohhaadoor", sum := "22a915ab081826bdb6b7306b7babace898c9beb7abfe5823dc6d0d4e8af218cb", func := "bateria/baterialaw01.ParadeTime", spec := "paradeTime", inPlace := ["internal/bytealg.IndexByteString", "internal/bytealg.IndexString"], unfollowed := true, recurses := true, named := ["unicode/utf8.first", "unicode/utf8.acceptRanges", "internal/bytealg.MaxLen"], apart := false, laid := [("unicode/utf8.acceptRanges", laid_unicode_utf8_acceptRanges), ("unicode/utf8.first", laid_unicode_utf8_first)] }
def ParadeTimeSaid : Prop := paradeTimeRow.holds Tryd.pinned (OpenSpec.ofChange paradeTimeSpec)

/-- ITS FALSE NEIGHBOUR: 'it returns false'. Refute it at one input. -/
def paradeTimeWrong : ChangeSpec := { name := "paradeTime", fn := fun _ => fun
  | [d] => { results := [.lit (.bool false)], args := [d] }
  | _ => none }
def ParadeTimeWrongFalsely : Prop := paradeTimeRow.holds Tryd.pinned (OpenSpec.ofChange paradeTimeWrong)

/-- 'bateriatop.TopDressed': WHATEVER THE INPUT: true; the input reads as it did. -/
def topDressedSpec : ChangeSpec := { name := "topDressed", fn := fun _ => fun
  | [d] => { results := [.lit (.bool true)], args := [d] }
  | _ => none }
def topDressedRow : OpenClaim := { program := "ytgfipifgijohhaadoor", sum := "22a915ab081826bdb6b7306b7babace898c9beb7abfe5823dc6d0d4e8af218cb", func := "bateria/bateriatop.TopDressed", spec := "topDressed", inPlace := ["internal/bytealg.IndexByteString", "internal/bytealg.IndexString"], unfollowed := true, recurses := true, named := ["unicode/utf8.first", "unicode/utf8.acceptRanges", "internal/bytealg.MaxLen"], apart := false, laid := [("unicode/utf8.acceptRanges", laid_unicode_utf8_acceptRanges), ("unicode/utf8.first", laid_unicode_utf8_first)] }
def TopDressedSaid : Prop := topDressedRow.holds Tryd.pinned (OpenSpec.ofChange topDressedSpec)

/-- ITS FALSE NEIGHBOUR: 'it returns false'. Refute it at one input. -/
def topDressedWrong : ChangeSpec := { name := "topDressed", fn := fun _ => fun
  | [d] => { results := [.lit (.bool false)], args := [d] }
  | _ => none }
def TopDressedWrongFalsely : Prop := topDressedRow.holds Tryd.pinned (OpenSpec.ofChange topDressedWrong)

/-- 'baterialaw01.ParadePlaces': WHATEVER THE INPUT: true; the input reads as it did. -/
def paradePlacesSpec : ChangeSpec := { name := "paradePlaces", fn := fun _ => fun
  | [d1, d2, d3, d4, d5, d6] => { results := [.lit (.bool true)], args := [d1, d2, d3, d4, d5, d6] }
  | _ => none }
def paradePlacesRow : OpenClaim := { program := "ytgfipifgijohhaadoor", sum := "22a915ab081826bdb6b7306b7babace898c9beb7abfe5823dc6d0d4e8af218cb", func := "bateria/baterialaw01.ParadePlaces", spec := "paradePlaces", inPlace := ["internal/bytealg.IndexByteString", "internal/bytealg.IndexString"], unfollowed := true, recurses := true, named := ["unicode/utf8.first", "unicode/utf8.acceptRanges", "internal/bytealg.MaxLen"], apart := false, laid := [("unicode/utf8.acceptRanges", laid_unicode_utf8_acceptRanges), ("unicode/utf8.first", laid_unicode_utf8_first)] }
def ParadePlacesSaid : Prop := paradePlacesRow.holds Tryd.pinned (OpenSpec.ofChange paradePlacesSpec)

/-- ITS FALSE NEIGHBOUR: 'it returns false'. Refute it at one input. -/
def paradePlacesWrong : ChangeSpec := { name := "paradePlaces", fn := fun _ => fun
  | [d1, d2, d3, d4, d5, d6] => { results := [.lit (.bool false)], args := [d1, d2, d3, d4, d5, d6] }
  | _ => none }
def ParadePlacesWrongFalsely : Prop := paradePlacesRow.holds Tryd.pinned (OpenSpec.ofChange paradePlacesWrong)

/-- 'baterialaw01.ParadeOn': WHATEVER THE INPUT: true; the input reads as it did. -/
def paradeOnSpec : ChangeSpec := { name := "paradeOn", fn := fun _ => fun
  | [d] => { results := [.lit (.bool true)], args := [d] }
  | _ => none }
def paradeOnRow : OpenClaim := { program := "ytgfipifgijohhaadoor", sum := "22a915ab081826bdb6b7306b7babace898c9beb7abfe5823dc6d0d4e8af218cb", func := "bateria/baterialaw01.ParadeOn", spec := "paradeOn", inPlace := ["internal/bytealg.IndexByteString", "internal/bytealg.IndexString"], unfollowed := true, recurses := true, named := ["unicode/utf8.first", "unicode/utf8.acceptRanges", "internal/bytealg.MaxLen"], apart := false, laid := [("unicode/utf8.acceptRanges", laid_unicode_utf8_acceptRanges), ("unicode/utf8.first", laid_unicode_utf8_first)] }
def ParadeOnSaid : Prop := paradeOnRow.holds Tryd.pinned (OpenSpec.ofChange paradeOnSpec)

/-- ITS FALSE NEIGHBOUR: 'it returns false'. Refute it at one input. -/
def paradeOnWrong : ChangeSpec := { name := "paradeOn", fn := fun _ => fun
  | [d] => { results := [.lit (.bool false)], args := [d] }
  | _ => none }
def ParadeOnWrongFalsely : Prop := paradeOnRow.holds Tryd.pinned (OpenSpec.ofChange paradeOnWrong)

/-- 'baterialaw01.ParadeRow': WHATEVER THE INPUT: true; the input reads as it did. -/
def paradeRowSpec : ChangeSpec := { name := "paradeRow", fn := fun _ => fun
  | [d] => { results := [.lit (.bool true)], args := [d] }
  | _ => none }
def paradeRowRow : OpenClaim := { program := "ytgfipifgijohhaadoor", sum := "22a915ab081826bdb6b7306b7babace898c9beb7abfe5823dc6d0d4e8af218cb", func := "bateria/baterialaw01.ParadeRow", spec := "paradeRow", inPlace := ["internal/bytealg.IndexByteString", "internal/bytealg.IndexString"], unfollowed := true, recurses := true, named := ["unicode/utf8.first", "unicode/utf8.acceptRanges", "internal/bytealg.MaxLen"], apart := false, laid := [("unicode/utf8.acceptRanges", laid_unicode_utf8_acceptRanges), ("unicode/utf8.first", laid_unicode_utf8_first)] }
def ParadeRowSaid : Prop := paradeRowRow.holds Tryd.pinned (OpenSpec.ofChange paradeRowSpec)

/-- ITS FALSE NEIGHBOUR: 'it returns false'. Refute it at one input. -/
def paradeRowWrong : ChangeSpec := { name := "paradeRow", fn := fun _ => fun
  | [d] => { results := [.lit (.bool false)], args := [d] }
  | _ => none }
def ParadeRowWrongFalsely : Prop := paradeRowRow.holds Tryd.pinned (OpenSpec.ofChange paradeRowWrong)

/-- 'baterialaw01.ParadeTrue': WHATEVER THE INPUT: true; the input reads as it did. -/
def paradeTrueSpec : ChangeSpec := { name := "paradeTrue", fn := fun _ => fun
  | [d] => { results := [.lit (.bool true)], args := [d] }
  | _ => none }
def paradeTrueRow : OpenClaim := { program := "ytgfipifgijohhaadoor", sum := "22a915ab081826bdb6b7306b7babace898c9beb7abfe5823dc6d0d4e8af218cb", func := "bateria/baterialaw01.ParadeTrue", spec := "paradeTrue", inPlace := ["internal/bytealg.IndexByteString", "internal/bytealg.IndexString"], unfollowed := true, recurses := true, named := ["unicode/utf8.first", "unicode/utf8.acceptRanges", "internal/bytealg.MaxLen"], apart := false, laid := [("unicode/utf8.acceptRanges", laid_unicode_utf8_acceptRanges), ("unicode/utf8.first", laid_unicode_utf8_first)] }
def ParadeTrueSaid : Prop := paradeTrueRow.holds Tryd.pinned (OpenSpec.ofChange paradeTrueSpec)

/-- ITS FALSE NEIGHBOUR: 'it returns false'. Refute it at one input. -/
def paradeTrueWrong : ChangeSpec := { name := "paradeTrue", fn := fun _ => fun
  | [d] => { results := [.lit (.bool false)], args := [d] }
  | _ => none }
def ParadeTrueWrongFalsely : Prop := paradeTrueRow.holds Tryd.pinned (OpenSpec.ofChange paradeTrueWrong)

/-- 'baterialaw01.ParadeNarrow': WHATEVER THE INPUT: true; the input reads as it did. -/
def paradeNarrowSpec : ChangeSpec := { name := "paradeNarrow", fn := fun _ => fun
  | [d] => { results := [.lit (.bool true)], args := [d] }
  | _ => none }
def paradeNarrowRow : OpenClaim := { program := "ytgfipifgijohhaadoor", sum := "22a915ab081826bdb6b7306b7babace898c9beb7abfe5823dc6d0d4e8af218cb", func := "bateria/baterialaw01.ParadeNarrow", spec := "paradeNarrow", inPlace := ["internal/bytealg.IndexByteString", "internal/bytealg.IndexString"], unfollowed := true, recurses := true, named := ["unicode/utf8.first", "unicode/utf8.acceptRanges", "internal/bytealg.MaxLen"], apart := false, laid := [("unicode/utf8.acceptRanges", laid_unicode_utf8_acceptRanges), ("unicode/utf8.first", laid_unicode_utf8_first)] }
def ParadeNarrowSaid : Prop := paradeNarrowRow.holds Tryd.pinned (OpenSpec.ofChange paradeNarrowSpec)

/-- ITS FALSE NEIGHBOUR: 'it returns false'. Refute it at one input. -/
def paradeNarrowWrong : ChangeSpec := { name := "paradeNarrow", fn := fun _ => fun
  | [d] => { results := [.lit (.bool false)], args := [d] }
  | _ => none }
def ParadeNarrowWrongFalsely : Prop := paradeNarrowRow.holds Tryd.pinned (OpenSpec.ofChange paradeNarrowWrong)

/-- 'baterialaw01.ParadeOpen': WHATEVER THE INPUT: true; the input reads as it did. -/
def paradeOpenSpec : ChangeSpec := { name := "paradeOpen", fn := fun _ => fun
  | [d] => { results := [.lit (.bool true)], args := [d] }
  | _ => none }
def paradeOpenRow : OpenClaim := { program := "ytgfipifgijohhaadoor", sum := "22a915ab081826bdb6b7306b7babace898c9beb7abfe5823dc6d0d4e8af218cb", func := "bateria/baterialaw01.ParadeOpen", spec := "paradeOpen", inPlace := ["internal/bytealg.IndexByteString", "internal/bytealg.IndexString"], unfollowed := true, recurses := true, named := ["unicode/utf8.first", "unicode/utf8.acceptRanges", "internal/bytealg.MaxLen"], apart := false, laid := [("unicode/utf8.acceptRanges", laid_unicode_utf8_acceptRanges), ("unicode/utf8.first", laid_unicode_utf8_first)] }
def ParadeOpenSaid : Prop := paradeOpenRow.holds Tryd.pinned (OpenSpec.ofChange paradeOpenSpec)

/-- ITS FALSE NEIGHBOUR: 'it returns false'. Refute it at one input. -/
def paradeOpenWrong : ChangeSpec := { name := "paradeOpen", fn := fun _ => fun
  | [d] => { results := [.lit (.bool false)], args := [d] }
  | _ => none }
def ParadeOpenWrongFalsely : Prop := paradeOpenRow.holds Tryd.pinned (OpenSpec.ofChange paradeOpenWrong)

/-- 'baterialaw01.ParadeGaps': WHATEVER THE INPUT: true; the input reads as it did. -/
def paradeGapsSpec : ChangeSpec := { name := "paradeGaps", fn := fun _ => fun
  | [d1, d2, d3, d4, d5, d6] => { results := [.lit (.bool true)], args := [d1, d2, d3, d4, d5, d6] }
  | _ => none }
def paradeGapsRow : OpenClaim := { program := "ytgfipifgijohhaadoor", sum := "22a915ab081826bdb6b7306b7babace898c9beb7abfe5823dc6d0d4e8af218cb", func := "bateria/baterialaw01.ParadeGaps", spec := "paradeGaps", inPlace := ["internal/bytealg.IndexByteString", "internal/bytealg.IndexString"], unfollowed := true, recurses := true, named := ["unicode/utf8.first", "unicode/utf8.acceptRanges", "internal/bytealg.MaxLen"], apart := false, laid := [("unicode/utf8.acceptRanges", laid_unicode_utf8_acceptRanges), ("unicode/utf8.first", laid_unicode_utf8_first)] }
def ParadeGapsSaid : Prop := paradeGapsRow.holds Tryd.pinned (OpenSpec.ofChange paradeGapsSpec)

/-- ITS FALSE NEIGHBOUR: 'it returns false'. Refute it at one input. -/
def paradeGapsWrong : ChangeSpec := { name := "paradeGaps", fn := fun _ => fun
  | [d1, d2, d3, d4, d5, d6] => { results := [.lit (.bool false)], args := [d1, d2, d3, d4, d5, d6] }
  | _ => none }
def ParadeGapsWrongFalsely : Prop := paradeGapsRow.holds Tryd.pinned (OpenSpec.ofChange paradeGapsWrong)

/-- 'baterialaw01.ParadePlans': WHATEVER THE INPUT: true; the input reads as it did. -/
def paradePlansSpec : ChangeSpec := { name := "paradePlans", fn := fun _ => fun
  | [d1, d2, d3] => { results := [.lit (.bool true)], args := [d1, d2, d3] }
  | _ => none }
def paradePlansRow : OpenClaim := { program := "ytgfipifgijohhaadoor", sum := "22a915ab081826bdb6b7306b7babace898c9beb7abfe5823dc6d0d4e8af218cb", func := "bateria/baterialaw01.ParadePlans", spec := "paradePlans", inPlace := ["internal/bytealg.IndexByteString", "internal/bytealg.IndexString"], unfollowed := true, recurses := true, named := ["unicode/utf8.first", "unicode/utf8.acceptRanges", "internal/bytealg.MaxLen"], apart := false, laid := [("unicode/utf8.acceptRanges", laid_unicode_utf8_acceptRanges), ("unicode/utf8.first", laid_unicode_utf8_first)] }
def ParadePlansSaid : Prop := paradePlansRow.holds Tryd.pinned (OpenSpec.ofChange paradePlansSpec)

/-- ITS FALSE NEIGHBOUR: 'it returns false'. Refute it at one input. -/
def paradePlansWrong : ChangeSpec := { name := "paradePlans", fn := fun _ => fun
  | [d1, d2, d3] => { results := [.lit (.bool false)], args := [d1, d2, d3] }
  | _ => none }
def ParadePlansWrongFalsely : Prop := paradePlansRow.holds Tryd.pinned (OpenSpec.ofChange paradePlansWrong)

/-- 'baterialaw01.ParadeBest': WHATEVER THE INPUT: true; the input reads as it did. -/
def paradeBestSpec : ChangeSpec := { name := "paradeBest", fn := fun _ => fun
  | [d] => { results := [.lit (.bool true)], args := [d] }
  | _ => none }
def paradeBestRow : OpenClaim := { program := "ytgfipifgijohhaadoor", sum := "22a915ab081826bdb6b7306b7babace898c9beb7abfe5823dc6d0d4e8af218cb", func := "bateria/baterialaw01.ParadeBest", spec := "paradeBest", inPlace := ["internal/bytealg.IndexByteString", "internal/bytealg.IndexString"], unfollowed := true, recurses := true, named := ["unicode/utf8.first", "unicode/utf8.acceptRanges", "internal/bytealg.MaxLen"], apart := false, laid := [("unicode/utf8.acceptRanges", laid_unicode_utf8_acceptRanges), ("unicode/utf8.first", laid_unicode_utf8_first)] }
def ParadeBestSaid : Prop := paradeBestRow.holds Tryd.pinned (OpenSpec.ofChange paradeBestSpec)

/-- ITS FALSE NEIGHBOUR: 'it returns false'. Refute it at one input. -/
def paradeBestWrong : ChangeSpec := { name := "paradeBest", fn := fun _ => fun
  | [d] => { results := [.lit (.bool false)], args := [d] }
  | _ => none }
def ParadeBestWrongFalsely : Prop := paradeBestRow.holds Tryd.pinned (OpenSpec.ofChange paradeBestWrong)

/-- 'baterialaw01.ParadeKnown': WHATEVER THE INPUT: true; the input reads as it did. -/
def paradeKnownSpec : ChangeSpec := { name := "paradeKnown", fn := fun _ => fun
  | [] => { results := [.lit (.bool true)], args := [] }
  | _ => none }
def paradeKnownRow : OpenClaim := { program := "ytgfipifgijohhaadoor", sum := "22a915ab081826bdb6b7306b7babace898c9beb7abfe5823dc6d0d4e8af218cb", func := "bateria/baterialaw01.ParadeKnown", spec := "paradeKnown", inPlace := ["internal/bytealg.IndexByteString", "internal/bytealg.IndexString", "internal/abi.NoEscape"], unfollowed := true, recurses := true, named := ["unicode/utf8.first", "unicode/utf8.acceptRanges", "internal/strconv.uint64pow10", "math/bits.deBruijn32tab", "math/bits.deBruijn64tab", "internal/bytealg.MaxLen"], apart := false, laid := [("math/bits.deBruijn32tab", laid_math_bits_deBruijn32tab), ("math/bits.deBruijn64tab", laid_math_bits_deBruijn64tab), ("internal/strconv.uint64pow10", laid_internal_strconv_uint64pow10), ("unicode/utf8.acceptRanges", laid_unicode_utf8_acceptRanges), ("unicode/utf8.first", laid_unicode_utf8_first)] }
def ParadeKnownSaid : Prop := paradeKnownRow.holds Tryd.pinned (OpenSpec.ofChange paradeKnownSpec)

/-- ITS FALSE NEIGHBOUR: 'it returns false'. Refute it at one input. -/
def paradeKnownWrong : ChangeSpec := { name := "paradeKnown", fn := fun _ => fun
  | [] => { results := [.lit (.bool false)], args := [] }
  | _ => none }
def ParadeKnownWrongFalsely : Prop := paradeKnownRow.holds Tryd.pinned (OpenSpec.ofChange paradeKnownWrong)

/- THE SECOND FORM. 'bulk': how many values and letters a reading holds, each counted each time it is reached (what is shared counts as often as it is met; a slice's spare places count too). A statement '..UptoSaid' is the law's where the arguments, and the package variables that the reading takes, are together of bulk at most 1048576: NARROWER than '..Said'. Prove '..Said' where nothing that the law and all that it calls make is longer than what came in: it says more and counts as full. Else prove '..UptoSaid'. A law counts once. -/
mutual
def uptoBulk {H : Type} : DataW H → Nat
  | .lit (.string bytes) => bytes.length + 1
  | .lit _ => 1
  | .nil => 1
  | .ptr d => uptoBulk d + 1
  | .slice elems spare => uptoBulkAll elems + uptoBulkAll spare + 1
  | .agg parts => uptoBulkAll parts + 1
  | .iface _ d => uptoBulk d + 1
  | .map entries => uptoBulkEntries entries + 1
  | .held _ => 1
def uptoBulkAll {H : Type} : List (DataW H) → Nat
  | [] => 0
  | d :: r => uptoBulk d + uptoBulkAll r
def uptoBulkEntries {H : Type} : List (Lit × DataW H) → Nat
  | [] => 0
  | x :: r => uptoBulkEntry x + uptoBulkEntries r
def uptoBulkEntry {H : Type} : Lit × DataW H → Nat
  | (.string bytes, d) => bytes.length + uptoBulk d + 1
  | (_, d) => uptoBulk d + 1
 end
def uptoSmall : (H : Type) → List (DataW H) → Bool := fun _ ds => decide (uptoBulkAll ds ≤ 1048576)
def OpenSpec.upto (s : _root_.Go.ChangeSpec) : _root_.Go.OpenSpec := { _root_.Go.OpenSpec.ofChange s with cond := some uptoSmall }

/-- 'baterialaw01.ParadeChecks', WHERE WHAT IT READS IS OF BULK AT MOST 1048576: true; the input reads as it did. -/
def paradeChecksUptoRow : OpenClaim := { program := "ytgfipifgijohhaadoor", sum := "22a915ab081826bdb6b7306b7babace898c9beb7abfe5823dc6d0d4e8af218cb", func := "bateria/baterialaw01.ParadeChecks", spec := "paradeChecks", inPlace := ["internal/bytealg.IndexByteString", "internal/bytealg.IndexString"], unfollowed := true, recurses := true, named := ["unicode/utf8.first", "unicode/utf8.acceptRanges", "internal/bytealg.MaxLen"], apart := false, laid := [("unicode/utf8.acceptRanges", laid_unicode_utf8_acceptRanges), ("unicode/utf8.first", laid_unicode_utf8_first)], narrowed := true }
def ParadeChecksUptoSaid : Prop := paradeChecksUptoRow.holds Tryd.pinned (OpenSpec.upto paradeChecksSpec)

/-- 'baterialaw01.ParadeLasts', WHERE WHAT IT READS IS OF BULK AT MOST 1048576: true; the input reads as it did. -/
def paradeLastsUptoRow : OpenClaim := { program := "ytgfipifgijohhaadoor", sum := "22a915ab081826bdb6b7306b7babace898c9beb7abfe5823dc6d0d4e8af218cb", func := "bateria/baterialaw01.ParadeLasts", spec := "paradeLasts", inPlace := ["internal/bytealg.IndexByteString", "internal/bytealg.IndexString"], unfollowed := true, recurses := true, named := ["unicode/utf8.first", "unicode/utf8.acceptRanges", "internal/bytealg.MaxLen"], apart := false, laid := [("unicode/utf8.acceptRanges", laid_unicode_utf8_acceptRanges), ("unicode/utf8.first", laid_unicode_utf8_first)], narrowed := true }
def ParadeLastsUptoSaid : Prop := paradeLastsUptoRow.holds Tryd.pinned (OpenSpec.upto paradeLastsSpec)

/-- 'baterialaw01.ParadeTime', WHERE WHAT IT READS IS OF BULK AT MOST 1048576: true; the input reads as it did. -/
def paradeTimeUptoRow : OpenClaim := { program := "ytgfipifgijohhaadoor", sum := "22a915ab081826bdb6b7306b7babace898c9beb7abfe5823dc6d0d4e8af218cb", func := "bateria/baterialaw01.ParadeTime", spec := "paradeTime", inPlace := ["internal/bytealg.IndexByteString", "internal/bytealg.IndexString"], unfollowed := true, recurses := true, named := ["unicode/utf8.first", "unicode/utf8.acceptRanges", "internal/bytealg.MaxLen"], apart := false, laid := [("unicode/utf8.acceptRanges", laid_unicode_utf8_acceptRanges), ("unicode/utf8.first", laid_unicode_utf8_first)], narrowed := true }
def ParadeTimeUptoSaid : Prop := paradeTimeUptoRow.holds Tryd.pinned (OpenSpec.upto paradeTimeSpec)

/-- 'bateriatop.TopDressed', WHERE WHAT IT READS IS OF BULK AT MOST 1048576: true; the input reads as it did. -/
def topDressedUptoRow : OpenClaim := { program := "ytgfipifgijohhaadoor", sum := "22a915ab081826bdb6b7306b7babace898c9beb7abfe5823dc6d0d4e8af218cb", func := "bateria/bateriatop.TopDressed", spec := "topDressed", inPlace := ["internal/bytealg.IndexByteString", "internal/bytealg.IndexString"], unfollowed := true, recurses := true, named := ["unicode/utf8.first", "unicode/utf8.acceptRanges", "internal/bytealg.MaxLen"], apart := false, laid := [("unicode/utf8.acceptRanges", laid_unicode_utf8_acceptRanges), ("unicode/utf8.first", laid_unicode_utf8_first)], narrowed := true }
def TopDressedUptoSaid : Prop := topDressedUptoRow.holds Tryd.pinned (OpenSpec.upto topDressedSpec)

/-- 'baterialaw01.ParadePlaces', WHERE WHAT IT READS IS OF BULK AT MOST 1048576: true; the input reads as it did. -/
def paradePlacesUptoRow : OpenClaim := { program := "ytgfipifgijohhaadoor", sum := "22a915ab081826bdb6b7306b7babace898c9beb7abfe5823dc6d0d4e8af218cb", func := "bateria/baterialaw01.ParadePlaces", spec := "paradePlaces", inPlace := ["internal/bytealg.IndexByteString", "internal/bytealg.IndexString"], unfollowed := true, recurses := true, named := ["unicode/utf8.first", "unicode/utf8.acceptRanges", "internal/bytealg.MaxLen"], apart := false, laid := [("unicode/utf8.acceptRanges", laid_unicode_utf8_acceptRanges), ("unicode/utf8.first", laid_unicode_utf8_first)], narrowed := true }
def ParadePlacesUptoSaid : Prop := paradePlacesUptoRow.holds Tryd.pinned (OpenSpec.upto paradePlacesSpec)

/-- 'baterialaw01.ParadeOn', WHERE WHAT IT READS IS OF BULK AT MOST 1048576: true; the input reads as it did. -/
def paradeOnUptoRow : OpenClaim := { program := "ytgfipifgijohhaadoor", sum := "22a915ab081826bdb6b7306b7babace898c9beb7abfe5823dc6d0d4e8af218cb", func := "bateria/baterialaw01.ParadeOn", spec := "paradeOn", inPlace := ["internal/bytealg.IndexByteString", "internal/bytealg.IndexString"], unfollowed := true, recurses := true, named := ["unicode/utf8.first", "unicode/utf8.acceptRanges", "internal/bytealg.MaxLen"], apart := false, laid := [("unicode/utf8.acceptRanges", laid_unicode_utf8_acceptRanges), ("unicode/utf8.first", laid_unicode_utf8_first)], narrowed := true }
def ParadeOnUptoSaid : Prop := paradeOnUptoRow.holds Tryd.pinned (OpenSpec.upto paradeOnSpec)

/-- 'baterialaw01.ParadeRow', WHERE WHAT IT READS IS OF BULK AT MOST 1048576: true; the input reads as it did. -/
def paradeRowUptoRow : OpenClaim := { program := "ytgfipifgijohhaadoor", sum := "22a915ab081826bdb6b7306b7babace898c9beb7abfe5823dc6d0d4e8af218cb", func := "bateria/baterialaw01.ParadeRow", spec := "paradeRow", inPlace := ["internal/bytealg.IndexByteString", "internal/bytealg.IndexString"], unfollowed := true, recurses := true, named := ["unicode/utf8.first", "unicode/utf8.acceptRanges", "internal/bytealg.MaxLen"], apart := false, laid := [("unicode/utf8.acceptRanges", laid_unicode_utf8_acceptRanges), ("unicode/utf8.first", laid_unicode_utf8_first)], narrowed := true }
def ParadeRowUptoSaid : Prop := paradeRowUptoRow.holds Tryd.pinned (OpenSpec.upto paradeRowSpec)

/-- 'baterialaw01.ParadeTrue', WHERE WHAT IT READS IS OF BULK AT MOST 1048576: true; the input reads as it did. -/
def paradeTrueUptoRow : OpenClaim := { program := "ytgfipifgijohhaadoor", sum := "22a915ab081826bdb6b7306b7babace898c9beb7abfe5823dc6d0d4e8af218cb", func := "bateria/baterialaw01.ParadeTrue", spec := "paradeTrue", inPlace := ["internal/bytealg.IndexByteString", "internal/bytealg.IndexString"], unfollowed := true, recurses := true, named := ["unicode/utf8.first", "unicode/utf8.acceptRanges", "internal/bytealg.MaxLen"], apart := false, laid := [("unicode/utf8.acceptRanges", laid_unicode_utf8_acceptRanges), ("unicode/utf8.first", laid_unicode_utf8_first)], narrowed := true }
def ParadeTrueUptoSaid : Prop := paradeTrueUptoRow.holds Tryd.pinned (OpenSpec.upto paradeTrueSpec)

/-- 'baterialaw01.ParadeNarrow', WHERE WHAT IT READS IS OF BULK AT MOST 1048576: true; the input reads as it did. -/
def paradeNarrowUptoRow : OpenClaim := { program := "ytgfipifgijohhaadoor", sum := "22a915ab081826bdb6b7306b7babace898c9beb7abfe5823dc6d0d4e8af218cb", func := "bateria/baterialaw01.ParadeNarrow", spec := "paradeNarrow", inPlace := ["internal/bytealg.IndexByteString", "internal/bytealg.IndexString"], unfollowed := true, recurses := true, named := ["unicode/utf8.first", "unicode/utf8.acceptRanges", "internal/bytealg.MaxLen"], apart := false, laid := [("unicode/utf8.acceptRanges", laid_unicode_utf8_acceptRanges), ("unicode/utf8.first", laid_unicode_utf8_first)], narrowed := true }
def ParadeNarrowUptoSaid : Prop := paradeNarrowUptoRow.holds Tryd.pinned (OpenSpec.upto paradeNarrowSpec)

/-- 'baterialaw01.ParadeOpen', WHERE WHAT IT READS IS OF BULK AT MOST 1048576: true; the input reads as it did. -/
def paradeOpenUptoRow : OpenClaim := { program := "ytgfipifgijohhaadoor", sum := "22a915ab081826bdb6b7306b7babace898c9beb7abfe5823dc6d0d4e8af218cb", func := "bateria/baterialaw01.ParadeOpen", spec := "paradeOpen", inPlace := ["internal/bytealg.IndexByteString", "internal/bytealg.IndexString"], unfollowed := true, recurses := true, named := ["unicode/utf8.first", "unicode/utf8.acceptRanges", "internal/bytealg.MaxLen"], apart := false, laid := [("unicode/utf8.acceptRanges", laid_unicode_utf8_acceptRanges), ("unicode/utf8.first", laid_unicode_utf8_first)], narrowed := true }
def ParadeOpenUptoSaid : Prop := paradeOpenUptoRow.holds Tryd.pinned (OpenSpec.upto paradeOpenSpec)

/-- 'baterialaw01.ParadeGaps', WHERE WHAT IT READS IS OF BULK AT MOST 1048576: true; the input reads as it did. -/
def paradeGapsUptoRow : OpenClaim := { program := "ytgfipifgijohhaadoor", sum := "22a915ab081826bdb6b7306b7babace898c9beb7abfe5823dc6d0d4e8af218cb", func := "bateria/baterialaw01.ParadeGaps", spec := "paradeGaps", inPlace := ["internal/bytealg.IndexByteString", "internal/bytealg.IndexString"], unfollowed := true, recurses := true, named := ["unicode/utf8.first", "unicode/utf8.acceptRanges", "internal/bytealg.MaxLen"], apart := false, laid := [("unicode/utf8.acceptRanges", laid_unicode_utf8_acceptRanges), ("unicode/utf8.first", laid_unicode_utf8_first)], narrowed := true }
def ParadeGapsUptoSaid : Prop := paradeGapsUptoRow.holds Tryd.pinned (OpenSpec.upto paradeGapsSpec)

/-- 'baterialaw01.ParadePlans', WHERE WHAT IT READS IS OF BULK AT MOST 1048576: true; the input reads as it did. -/
def paradePlansUptoRow : OpenClaim := { program := "ytgfipifgijohhaadoor", sum := "22a915ab081826bdb6b7306b7babace898c9beb7abfe5823dc6d0d4e8af218cb", func := "bateria/baterialaw01.ParadePlans", spec := "paradePlans", inPlace := ["internal/bytealg.IndexByteString", "internal/bytealg.IndexString"], unfollowed := true, recurses := true, named := ["unicode/utf8.first", "unicode/utf8.acceptRanges", "internal/bytealg.MaxLen"], apart := false, laid := [("unicode/utf8.acceptRanges", laid_unicode_utf8_acceptRanges), ("unicode/utf8.first", laid_unicode_utf8_first)], narrowed := true }
def ParadePlansUptoSaid : Prop := paradePlansUptoRow.holds Tryd.pinned (OpenSpec.upto paradePlansSpec)

/-- 'baterialaw01.ParadeBest', WHERE WHAT IT READS IS OF BULK AT MOST 1048576: true; the input reads as it did. -/
def paradeBestUptoRow : OpenClaim := { program := "ytgfipifgijohhaadoor", sum := "22a915ab081826bdb6b7306b7babace898c9beb7abfe5823dc6d0d4e8af218cb", func := "bateria/baterialaw01.ParadeBest", spec := "paradeBest", inPlace := ["internal/bytealg.IndexByteString", "internal/bytealg.IndexString"], unfollowed := true, recurses := true, named := ["unicode/utf8.first", "unicode/utf8.acceptRanges", "internal/bytealg.MaxLen"], apart := false, laid := [("unicode/utf8.acceptRanges", laid_unicode_utf8_acceptRanges), ("unicode/utf8.first", laid_unicode_utf8_first)], narrowed := true }
def ParadeBestUptoSaid : Prop := paradeBestUptoRow.holds Tryd.pinned (OpenSpec.upto paradeBestSpec)

/-- 'baterialaw01.ParadeKnown', WHERE WHAT IT READS IS OF BULK AT MOST 1048576: true; the input reads as it did. -/
def paradeKnownUptoRow : OpenClaim := { program := "ytgfipifgijohhaadoor", sum := "22a915ab081826bdb6b7306b7babace898c9beb7abfe5823dc6d0d4e8af218cb", func := "bateria/baterialaw01.ParadeKnown", spec := "paradeKnown", inPlace := ["internal/bytealg.IndexByteString", "internal/bytealg.IndexString", "internal/abi.NoEscape"], unfollowed := true, recurses := true, named := ["unicode/utf8.first", "unicode/utf8.acceptRanges", "internal/strconv.uint64pow10", "math/bits.deBruijn32tab", "math/bits.deBruijn64tab", "internal/bytealg.MaxLen"], apart := false, laid := [("math/bits.deBruijn32tab", laid_math_bits_deBruijn32tab), ("math/bits.deBruijn64tab", laid_math_bits_deBruijn64tab), ("internal/strconv.uint64pow10", laid_internal_strconv_uint64pow10), ("unicode/utf8.acceptRanges", laid_unicode_utf8_acceptRanges), ("unicode/utf8.first", laid_unicode_utf8_first)], narrowed := true }
def ParadeKnownUptoSaid : Prop := paradeKnownUptoRow.holds Tryd.pinned (OpenSpec.upto paradeKnownSpec)

end Rows
end Go.Proofs.YtgfipifgijohhaaDoor
