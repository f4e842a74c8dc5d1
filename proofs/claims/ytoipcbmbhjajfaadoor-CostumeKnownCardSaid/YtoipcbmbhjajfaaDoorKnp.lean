/-
  PLAIN: the chapter's examples of CostumeKnown, reckoned out.
-/
import Derived.Test.YtoipcbmbhjajfaaDoorCnw
import Derived.Test.YtoipcbmbhjajfaaDoorCat
import Derived.Test.YtoipcbmbhjajfaaDoorShp
import Derived.Test.YtoipcbmbhjajfaaDoorBwl
namespace Go.Proofs.YtoipcbmbhjajfaaDoor
open Go.RowKit

def earlyP : Plot := { nightP with parts := [⟨0, 0, 0, 100, 120⟩, ⟨1, 0, 0, 110, 130⟩, ⟨0, 1, 1, 144, 160⟩] }
def bothP : Plot := { nightP with parts := [⟨0, 0, 0, 100, 120⟩, ⟨0, 0, 0, 110, 130⟩, ⟨0, 1, 1, 145, 160⟩] }
def sameP : Plot := { nightP with parts := [⟨0, 0, 0, 100, 120⟩, ⟨1, 0, 0, 110, 130⟩, ⟨0, 1, 0, 125, 160⟩] }
def oddI : List Item := [⟨0, 41, 46, 50, 0⟩, ⟨0, 40, 46, 80, 10⟩, ⟨1, 30, 50, 30, 0⟩]
def rackT : List Item := [⟨0, 40, 46, 80, 10⟩, ⟨1, 30, 50, 30, 0⟩]
theorem kn_check : plotErr nightP = 0 ∧ plotErr earlyP = 12 ∧ plotErr bothP = 10 ∧ plotErr sameP = 0 := by decide +kernel
theorem kn_atA : atErr nightP 0 119 = 0 ∧ atRes nightP 0 119 = 0 := by decide +kernel
theorem kn_atB : atErr nightP 0 120 = 0 ∧ atRes nightP 0 120 = -1 := by decide +kernel
set_option maxRecDepth 1000000 in
theorem kn_most : mostErr nightP 1 = 0 ∧ mostRes nightP 1 = (1, 145) := by decide +kernel
theorem kn_fit0 : fitcErr nightP rackI 0 0 = 0 ∧ fitcRes nightP rackI 0 0 = 1 := by decide +kernel
theorem kn_fit1 : fitcErr nightP rackI 1 0 = 0 ∧ fitcRes nightP rackI 1 0 = 2 := by decide +kernel
theorem kn_fit2 : fitcErr nightP rackI 1 1 = 0 ∧ fitcRes nightP rackI 1 1 = 1 := by decide +kernel
theorem kn_fit3 : fitcErr nightP oddI 0 0 = 0 ∧ fitcRes nightP oddI 0 0 = 3 := by decide +kernel
theorem kn_wear : wearErr nightP rackI [0, 1, 2] = 0 ∧ wearErr nightP rackI [0, 0, 2] = 10 ∧ wearErr nightP rackI [1, 1, 2] = 11 ∧ wearErr nightP rackI [0, 1, 0] = 3 := by decide +kernel
theorem kn_cheap : cheapErr nightP rackT = 7 := by decide +kernel
theorem kn_short : smallErr nightP rackT = 0 ∧ shortL nightP rackT = [0, 1] := by decide +kernel
def knownB : List UInt8 := [112, 101, 114, 115, 111, 110, 115, 32, 52, 48, 32, 52, 50, 32, 52, 52, 32, 52, 52, 10, 119, 97, 108, 107, 32, 48, 32, 53, 10, 119, 97, 108, 107, 32, 53, 32, 48, 10, 100, 114, 101, 115, 115, 32, 49, 48, 32, 50, 48, 10, 112, 97, 114, 116, 32, 48, 32, 48, 32, 48, 32, 49, 48, 48, 32, 49, 50, 48, 10, 112, 97, 114, 116, 32, 49, 32, 48, 32, 48, 32, 49, 49, 48, 32, 49, 51, 48, 10, 112, 97, 114, 116, 32, 48, 32, 49, 32, 49, 32, 49, 52, 53, 32, 49, 54, 48, 10, 101, 110, 100, 32, 51, 10]
theorem kn_sheet : sheetRes nightP = knownB := by
  unfold sheetRes
  rw [if_pos kn_check.1]
  simp [sheetL, upToParts, upToDress, upToWalk, rowL, numsL, walksL, partsL, partN, sizesL, nightP, lst, pt, nm, Lib.itoa, Lib.decDigits, personsW, walkW, dressW, partW, endW, knownB]
end Go.Proofs.YtoipcbmbhjajfaaDoor
