/-
  No cell of these rows narrows 'for every input' (looked for: loops, veiled, ifaces, maps, wideKeys, modest, calm, conditions, laid).
  DERIVED. THE GIVEN ROWS OF THIS SEAT. 10 by the template 'for every input the law returns true; each argument reads behind the call as it read before'; 0 by the template 'total and deterministic' (their statements: YtdcinngdilfpnaaTotals.lean).
  GIVEN WITH THE SEED: the statements are not yours to turn. If you find one false, say at which input.
  Laid BY PROGRAM, IN A SANDBOX (cutbox-rows.mjs): the forced cells as the released guide's own fill.sh prints them over the translation 5fac9e5bb99bf2c9… (all of the seat's roots in one cut). By AI agents, Wed Nov 11 2026. No macro, syntax, notation, axiom, sorry.
-/
import Derived.Test.YtdcinngdilfpnaaChecked
import GoSem.Claim
import GoSem.ClaimJoined
import GoSem.ClaimMapViews
import Derived.JoinedTies
import Derived.KernelRfl
namespace Go.Proofs.Ytdcinngdilfpnaa
/- THE CELL 'sum', in the pinned program and in every row, IS THE sha256 OF THE DUMP (.gsa) THAT YtdcinngdilfpnaaProg.lean LOADS. Nothing in Lean hashes anything: it is a label: what it is worth is what the hold of that sum in a sandbox is worth. -/
noncomputable def Try.pinned : Pinned := { name := "ytdcinngdilfpnaa", sum := "5fac9e5bb99bf2c9a4386dc0841a3ca08c2aa6959c916f6ed493d6438c2be224", checked := Try.checked }
namespace Rows
def none {H : Type} : Left H := { results := [], args := [] }

/-- 'baterialaw03.CostumeEnough': WHATEVER THE INPUT: true; the input reads as it did. -/
def costumeEnoughSpec : ChangeSpec := { name := "costumeEnough", fn := fun _ => fun
  | [d] => { results := [.lit (.bool true)], args := [d] }
  | _ => none }
def costumeEnoughRow : OpenClaim := { program := "ytdcinngdilfpnaa", sum := "5fac9e5bb99bf2c9a4386dc0841a3ca08c2aa6959c916f6ed493d6438c2be224", func := "bateria/baterialaw03.CostumeEnough", spec := "costumeEnough", inPlace := ["slices.overlaps[int]"], unfollowed := true, recurses := true, plainKeys := false, apart := false }
def CostumeEnoughSaid : Prop := costumeEnoughRow.holds Try.pinned (OpenSpec.ofChange costumeEnoughSpec)

/-- ITS FALSE NEIGHBOUR: 'it returns false'. Refute it at one input. -/
def costumeEnoughWrong : ChangeSpec := { name := "costumeEnough", fn := fun _ => fun
  | [d] => { results := [.lit (.bool false)], args := [d] }
  | _ => none }
def CostumeEnoughWrongFalsely : Prop := costumeEnoughRow.holds Try.pinned (OpenSpec.ofChange costumeEnoughWrong)

/-- 'baterialaw03.CostumeChecks': WHATEVER THE INPUT: true; the input reads as it did. -/
def costumeChecksSpec : ChangeSpec := { name := "costumeChecks", fn := fun _ => fun
  | [d1, d2, d3, d4, d5, d6] => { results := [.lit (.bool true)], args := [d1, d2, d3, d4, d5, d6] }
  | _ => none }
def costumeChecksRow : OpenClaim := { program := "ytdcinngdilfpnaa", sum := "5fac9e5bb99bf2c9a4386dc0841a3ca08c2aa6959c916f6ed493d6438c2be224", func := "bateria/baterialaw03.CostumeChecks", spec := "costumeChecks", inPlace := ["slices.overlaps[int]"], unfollowed := true, recurses := true, plainKeys := false, apart := false }
def CostumeChecksSaid : Prop := costumeChecksRow.holds Try.pinned (OpenSpec.ofChange costumeChecksSpec)

/-- ITS FALSE NEIGHBOUR: 'it returns false'. Refute it at one input. -/
def costumeChecksWrong : ChangeSpec := { name := "costumeChecks", fn := fun _ => fun
  | [d1, d2, d3, d4, d5, d6] => { results := [.lit (.bool false)], args := [d1, d2, d3, d4, d5, d6] }
  | _ => none }
def CostumeChecksWrongFalsely : Prop := costumeChecksRow.holds Try.pinned (OpenSpec.ofChange costumeChecksWrong)

/-- 'baterialaw03.CostumePlaces': WHATEVER THE INPUT: true; the input reads as it did. -/
def costumePlacesSpec : ChangeSpec := { name := "costumePlaces", fn := fun _ => fun
  | [d] => { results := [.lit (.bool true)], args := [d] }
  | _ => none }
def costumePlacesRow : OpenClaim := { program := "ytdcinngdilfpnaa", sum := "5fac9e5bb99bf2c9a4386dc0841a3ca08c2aa6959c916f6ed493d6438c2be224", func := "bateria/baterialaw03.CostumePlaces", spec := "costumePlaces", inPlace := ["slices.overlaps[int]"], unfollowed := true, recurses := true, plainKeys := false, apart := false }
def CostumePlacesSaid : Prop := costumePlacesRow.holds Try.pinned (OpenSpec.ofChange costumePlacesSpec)

/-- ITS FALSE NEIGHBOUR: 'it returns false'. Refute it at one input. -/
def costumePlacesWrong : ChangeSpec := { name := "costumePlaces", fn := fun _ => fun
  | [d] => { results := [.lit (.bool false)], args := [d] }
  | _ => none }
def CostumePlacesWrongFalsely : Prop := costumePlacesRow.holds Try.pinned (OpenSpec.ofChange costumePlacesWrong)

/-- 'baterialaw03.CostumeOrder': WHATEVER THE INPUT: true; the input reads as it did. -/
def costumeOrderSpec : ChangeSpec := { name := "costumeOrder", fn := fun _ => fun
  | [d] => { results := [.lit (.bool true)], args := [d] }
  | _ => none }
def costumeOrderRow : OpenClaim := { program := "ytdcinngdilfpnaa", sum := "5fac9e5bb99bf2c9a4386dc0841a3ca08c2aa6959c916f6ed493d6438c2be224", func := "bateria/baterialaw03.CostumeOrder", spec := "costumeOrder", inPlace := ["slices.overlaps[int]"], unfollowed := true, recurses := true, plainKeys := false, apart := false }
def CostumeOrderSaid : Prop := costumeOrderRow.holds Try.pinned (OpenSpec.ofChange costumeOrderSpec)

/-- ITS FALSE NEIGHBOUR: 'it returns false'. Refute it at one input. -/
def costumeOrderWrong : ChangeSpec := { name := "costumeOrder", fn := fun _ => fun
  | [d] => { results := [.lit (.bool false)], args := [d] }
  | _ => none }
def CostumeOrderWrongFalsely : Prop := costumeOrderRow.holds Try.pinned (OpenSpec.ofChange costumeOrderWrong)

/-- 'baterialaw03.CostumeFits': WHATEVER THE INPUT: true; the input reads as it did. -/
def costumeFitsSpec : ChangeSpec := { name := "costumeFits", fn := fun _ => fun
  | [d] => { results := [.lit (.bool true)], args := [d] }
  | _ => none }
def costumeFitsRow : OpenClaim := { program := "ytdcinngdilfpnaa", sum := "5fac9e5bb99bf2c9a4386dc0841a3ca08c2aa6959c916f6ed493d6438c2be224", func := "bateria/baterialaw03.CostumeFits", spec := "costumeFits", inPlace := ["slices.overlaps[int]"], unfollowed := true, recurses := true, plainKeys := false, apart := false }
def CostumeFitsSaid : Prop := costumeFitsRow.holds Try.pinned (OpenSpec.ofChange costumeFitsSpec)

/-- ITS FALSE NEIGHBOUR: 'it returns false'. Refute it at one input. -/
def costumeFitsWrong : ChangeSpec := { name := "costumeFits", fn := fun _ => fun
  | [d] => { results := [.lit (.bool false)], args := [d] }
  | _ => none }
def CostumeFitsWrongFalsely : Prop := costumeFitsRow.holds Try.pinned (OpenSpec.ofChange costumeFitsWrong)

/-- 'baterialaw03.CostumeOne': WHATEVER THE INPUT: true; the input reads as it did. -/
def costumeOneSpec : ChangeSpec := { name := "costumeOne", fn := fun _ => fun
  | [d] => { results := [.lit (.bool true)], args := [d] }
  | _ => none }
def costumeOneRow : OpenClaim := { program := "ytdcinngdilfpnaa", sum := "5fac9e5bb99bf2c9a4386dc0841a3ca08c2aa6959c916f6ed493d6438c2be224", func := "bateria/baterialaw03.CostumeOne", spec := "costumeOne", inPlace := ["slices.overlaps[int]"], unfollowed := true, recurses := true, plainKeys := false, apart := false }
def CostumeOneSaid : Prop := costumeOneRow.holds Try.pinned (OpenSpec.ofChange costumeOneSpec)

/-- ITS FALSE NEIGHBOUR: 'it returns false'. Refute it at one input. -/
def costumeOneWrong : ChangeSpec := { name := "costumeOne", fn := fun _ => fun
  | [d] => { results := [.lit (.bool false)], args := [d] }
  | _ => none }
def CostumeOneWrongFalsely : Prop := costumeOneRow.holds Try.pinned (OpenSpec.ofChange costumeOneWrong)

/-- 'baterialaw03.CostumeBest': WHATEVER THE INPUT: true; the input reads as it did. -/
def costumeBestSpec : ChangeSpec := { name := "costumeBest", fn := fun _ => fun
  | [d] => { results := [.lit (.bool true)], args := [d] }
  | _ => none }
def costumeBestRow : OpenClaim := { program := "ytdcinngdilfpnaa", sum := "5fac9e5bb99bf2c9a4386dc0841a3ca08c2aa6959c916f6ed493d6438c2be224", func := "bateria/baterialaw03.CostumeBest", spec := "costumeBest", inPlace := ["slices.overlaps[int]"], unfollowed := true, recurses := true, plainKeys := false, apart := false }
def CostumeBestSaid : Prop := costumeBestRow.holds Try.pinned (OpenSpec.ofChange costumeBestSpec)

/-- ITS FALSE NEIGHBOUR: 'it returns false'. Refute it at one input. -/
def costumeBestWrong : ChangeSpec := { name := "costumeBest", fn := fun _ => fun
  | [d] => { results := [.lit (.bool false)], args := [d] }
  | _ => none }
def CostumeBestWrongFalsely : Prop := costumeBestRow.holds Try.pinned (OpenSpec.ofChange costumeBestWrong)

/-- 'baterialaw03.CostumeWears': WHATEVER THE INPUT: true; the input reads as it did. -/
def costumeWearsSpec : ChangeSpec := { name := "costumeWears", fn := fun _ => fun
  | [d1, d2, d3, d4, d5, d6, d7, d8, d9] => { results := [.lit (.bool true)], args := [d1, d2, d3, d4, d5, d6, d7, d8, d9] }
  | _ => none }
def costumeWearsRow : OpenClaim := { program := "ytdcinngdilfpnaa", sum := "5fac9e5bb99bf2c9a4386dc0841a3ca08c2aa6959c916f6ed493d6438c2be224", func := "bateria/baterialaw03.CostumeWears", spec := "costumeWears", inPlace := ["slices.overlaps[int]"], unfollowed := true, recurses := true, plainKeys := false, apart := false }
def CostumeWearsSaid : Prop := costumeWearsRow.holds Try.pinned (OpenSpec.ofChange costumeWearsSpec)

/-- ITS FALSE NEIGHBOUR: 'it returns false'. Refute it at one input. -/
def costumeWearsWrong : ChangeSpec := { name := "costumeWears", fn := fun _ => fun
  | [d1, d2, d3, d4, d5, d6, d7, d8, d9] => { results := [.lit (.bool false)], args := [d1, d2, d3, d4, d5, d6, d7, d8, d9] }
  | _ => none }
def CostumeWearsWrongFalsely : Prop := costumeWearsRow.holds Try.pinned (OpenSpec.ofChange costumeWearsWrong)

/-- 'baterialaw03.CostumeCheapest': WHATEVER THE INPUT: true; the input reads as it did. -/
def costumeCheapestSpec : ChangeSpec := { name := "costumeCheapest", fn := fun _ => fun
  | [d1, d2, d3] => { results := [.lit (.bool true)], args := [d1, d2, d3] }
  | _ => none }
def costumeCheapestRow : OpenClaim := { program := "ytdcinngdilfpnaa", sum := "5fac9e5bb99bf2c9a4386dc0841a3ca08c2aa6959c916f6ed493d6438c2be224", func := "bateria/baterialaw03.CostumeCheapest", spec := "costumeCheapest", inPlace := ["slices.overlaps[int]"], unfollowed := true, recurses := true, plainKeys := false, apart := false }
def CostumeCheapestSaid : Prop := costumeCheapestRow.holds Try.pinned (OpenSpec.ofChange costumeCheapestSpec)

/-- ITS FALSE NEIGHBOUR: 'it returns false'. Refute it at one input. -/
def costumeCheapestWrong : ChangeSpec := { name := "costumeCheapest", fn := fun _ => fun
  | [d1, d2, d3] => { results := [.lit (.bool false)], args := [d1, d2, d3] }
  | _ => none }
def CostumeCheapestWrongFalsely : Prop := costumeCheapestRow.holds Try.pinned (OpenSpec.ofChange costumeCheapestWrong)

/-- 'baterialaw03.CostumeShort': WHATEVER THE INPUT: true; the input reads as it did. -/
def costumeShortSpec : ChangeSpec := { name := "costumeShort", fn := fun _ => fun
  | [d] => { results := [.lit (.bool true)], args := [d] }
  | _ => none }
def costumeShortRow : OpenClaim := { program := "ytdcinngdilfpnaa", sum := "5fac9e5bb99bf2c9a4386dc0841a3ca08c2aa6959c916f6ed493d6438c2be224", func := "bateria/baterialaw03.CostumeShort", spec := "costumeShort", inPlace := ["slices.overlaps[int]"], unfollowed := true, recurses := true, plainKeys := false, apart := false }
def CostumeShortSaid : Prop := costumeShortRow.holds Try.pinned (OpenSpec.ofChange costumeShortSpec)

/-- ITS FALSE NEIGHBOUR: 'it returns false'. Refute it at one input. -/
def costumeShortWrong : ChangeSpec := { name := "costumeShort", fn := fun _ => fun
  | [d] => { results := [.lit (.bool false)], args := [d] }
  | _ => none }
def CostumeShortWrongFalsely : Prop := costumeShortRow.holds Try.pinned (OpenSpec.ofChange costumeShortWrong)

/- THE SECOND FORM. 'bulk': how many values and letters a reading holds, each counted each time it is reached (what is shared counts as often as it is met; a slice's spare places count too). A statement '..UptoSaid' is the law's where the arguments, and the package variables that the reading takes, are together of bulk at most 1048576: NARROWER than '..Said'. Prove '..Said' where nothing that the law and all that it calls make is longer than what came in: it says more and counts as full. Else prove '..UptoSaid'. A law counts once. -/
mutual
def uptoBulk {H : Type} : DataW H → Nat
  | .lit (.string bytes) => bytes.length + 1
  | .lit _ => 1
  | .nil => 1
  | .ptr d => uptoBulk d + 1
  | .slice elems spare => uptoBulkAll elems + uptoBulkAll spare + 1
  | .agg parts => uptoBulkAll parts + 1
  | .iface _ d => uptoBulk d + 1
  | .map entries => uptoBulkEntries entries + 1
  | .held _ => 1
def uptoBulkAll {H : Type} : List (DataW H) → Nat
  | [] => 0
  | d :: r => uptoBulk d + uptoBulkAll r
def uptoBulkEntries {H : Type} : List (Lit × DataW H) → Nat
  | [] => 0
  | x :: r => uptoBulkEntry x + uptoBulkEntries r
def uptoBulkEntry {H : Type} : Lit × DataW H → Nat
  | (.string bytes, d) => bytes.length + uptoBulk d + 1
  | (_, d) => uptoBulk d + 1
 end
def uptoSmall : (H : Type) → List (DataW H) → Bool := fun _ ds => decide (uptoBulkAll ds ≤ 1048576)
def OpenSpec.upto (s : _root_.Go.ChangeSpec) : _root_.Go.OpenSpec := { _root_.Go.OpenSpec.ofChange s with cond := some uptoSmall }

/-- 'baterialaw03.CostumeEnough', WHERE WHAT IT READS IS OF BULK AT MOST 1048576: true; the input reads as it did. -/
def costumeEnoughUptoRow : OpenClaim := { program := "ytdcinngdilfpnaa", sum := "5fac9e5bb99bf2c9a4386dc0841a3ca08c2aa6959c916f6ed493d6438c2be224", func := "bateria/baterialaw03.CostumeEnough", spec := "costumeEnough", inPlace := ["slices.overlaps[int]"], unfollowed := true, recurses := true, plainKeys := false, apart := false, narrowed := true }
def CostumeEnoughUptoSaid : Prop := costumeEnoughUptoRow.holds Try.pinned (OpenSpec.upto costumeEnoughSpec)

/-- 'baterialaw03.CostumeChecks', WHERE WHAT IT READS IS OF BULK AT MOST 1048576: true; the input reads as it did. -/
def costumeChecksUptoRow : OpenClaim := { program := "ytdcinngdilfpnaa", sum := "5fac9e5bb99bf2c9a4386dc0841a3ca08c2aa6959c916f6ed493d6438c2be224", func := "bateria/baterialaw03.CostumeChecks", spec := "costumeChecks", inPlace := ["slices.overlaps[int]"], unfollowed := true, recurses := true, plainKeys := false, apart := false, narrowed := true }
def CostumeChecksUptoSaid : Prop := costumeChecksUptoRow.holds Try.pinned (OpenSpec.upto costumeChecksSpec)

/-- 'baterialaw03.CostumePlaces', WHERE WHAT IT READS IS OF BULK AT MOST 1048576: true; the input reads as it did. -/
def costumePlacesUptoRow : OpenClaim := { program := "ytdcinngdilfpnaa", sum := "5fac9e5bb99bf2c9a4386dc0841a3ca08c2aa6959c916f6ed493d6438c2be224", func := "bateria/baterialaw03.CostumePlaces", spec := "costumePlaces", inPlace := ["slices.overlaps[int]"], unfollowed := true, recurses := true, plainKeys := false, apart := false, narrowed := true }
def CostumePlacesUptoSaid : Prop := costumePlacesUptoRow.holds Try.pinned (OpenSpec.upto costumePlacesSpec)

/-- 'baterialaw03.CostumeOrder', WHERE WHAT IT READS IS OF BULK AT MOST 1048576: true; the input reads as it did. -/
def costumeOrderUptoRow : OpenClaim := { program := "ytdcinngdilfpnaa", sum := "5fac9e5bb99bf2c9a4386dc0841a3ca08c2aa6959c916f6ed493d6438c2be224", func := "bateria/baterialaw03.CostumeOrder", spec := "costumeOrder", inPlace := ["slices.overlaps[int]"], unfollowed := true, recurses := true, plainKeys := false, apart := false, narrowed := true }
def CostumeOrderUptoSaid : Prop := costumeOrderUptoRow.holds Try.pinned (OpenSpec.upto costumeOrderSpec)

/-- 'baterialaw03.CostumeFits', WHERE WHAT IT READS IS OF BULK AT MOST 1048576: true; the input reads as it did. -/
def costumeFitsUptoRow : OpenClaim := { program := "ytdcinngdilfpnaa", sum := "5fac9e5bb99bf2c9a4386dc0841a3ca08c2aa6959c916f6ed493d6438c2be224", func := "bateria/baterialaw03.CostumeFits", spec := "costumeFits", inPlace := ["slices.overlaps[int]"], unfollowed := true, recurses := true, plainKeys := false, apart := false, narrowed := true }
def CostumeFitsUptoSaid : Prop := costumeFitsUptoRow.holds Try.pinned (OpenSpec.upto costumeFitsSpec)

/-- 'baterialaw03.CostumeOne', WHERE WHAT IT READS IS OF BULK AT MOST 1048576: true; the input reads as it did. -/
def costumeOneUptoRow : OpenClaim := { program := "ytdcinngdilfpnaa", sum := "5fac9e5bb99bf2c9a4386dc0841a3ca08c2aa6959c916f6ed493d6438c2be224", func := "bateria/baterialaw03.CostumeOne", spec := "costumeOne", inPlace := ["slices.overlaps[int]"], unfollowed := true, recurses := true, plainKeys := false, apart := false, narrowed := true }
def CostumeOneUptoSaid : Prop := costumeOneUptoRow.holds Try.pinned (OpenSpec.upto costumeOneSpec)

/-- 'baterialaw03.CostumeBest', WHERE WHAT IT READS IS OF BULK AT MOST 1048576: true; the input reads as it did. -/
def costumeBestUptoRow : OpenClaim := { program := "ytdcinngdilfpnaa", sum := "5fac9e5bb99bf2c9a4386dc0841a3ca08c2aa6959c916f6ed493d6438c2be224", func := "bateria/baterialaw03.CostumeBest", spec := "costumeBest", inPlace := ["slices.overlaps[int]"], unfollowed := true, recurses := true, plainKeys := false, apart := false, narrowed := true }
def CostumeBestUptoSaid : Prop := costumeBestUptoRow.holds Try.pinned (OpenSpec.upto costumeBestSpec)

/-- 'baterialaw03.CostumeWears', WHERE WHAT IT READS IS OF BULK AT MOST 1048576: true; the input reads as it did. -/
def costumeWearsUptoRow : OpenClaim := { program := "ytdcinngdilfpnaa", sum := "5fac9e5bb99bf2c9a4386dc0841a3ca08c2aa6959c916f6ed493d6438c2be224", func := "bateria/baterialaw03.CostumeWears", spec := "costumeWears", inPlace := ["slices.overlaps[int]"], unfollowed := true, recurses := true, plainKeys := false, apart := false, narrowed := true }
def CostumeWearsUptoSaid : Prop := costumeWearsUptoRow.holds Try.pinned (OpenSpec.upto costumeWearsSpec)

/-- 'baterialaw03.CostumeCheapest', WHERE WHAT IT READS IS OF BULK AT MOST 1048576: true; the input reads as it did. -/
def costumeCheapestUptoRow : OpenClaim := { program := "ytdcinngdilfpnaa", sum := "5fac9e5bb99bf2c9a4386dc0841a3ca08c2aa6959c916f6ed493d6438c2be224", func := "bateria/baterialaw03.CostumeCheapest", spec := "costumeCheapest", inPlace := ["slices.overlaps[int]"], unfollowed := true, recurses := true, plainKeys := false, apart := false, narrowed := true }
def CostumeCheapestUptoSaid : Prop := costumeCheapestUptoRow.holds Try.pinned (OpenSpec.upto costumeCheapestSpec)

/-- 'baterialaw03.CostumeShort', WHERE WHAT IT READS IS OF BULK AT MOST 1048576: true; the input reads as it did. -/
def costumeShortUptoRow : OpenClaim := { program := "ytdcinngdilfpnaa", sum := "5fac9e5bb99bf2c9a4386dc0841a3ca08c2aa6959c916f6ed493d6438c2be224", func := "bateria/baterialaw03.CostumeShort", spec := "costumeShort", inPlace := ["slices.overlaps[int]"], unfollowed := true, recurses := true, plainKeys := false, apart := false, narrowed := true }
def CostumeShortUptoSaid : Prop := costumeShortUptoRow.holds Try.pinned (OpenSpec.upto costumeShortSpec)

end Rows
end Go.Proofs.Ytdcinngdilfpnaa
