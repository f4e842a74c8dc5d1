/-
  PLAIN: what the chapter's examples give. No program in sight.
-/
import Derived.Test.YtgfipifgijohhaaDoorAw
import Derived.Test.YtgfipifgijohhaaDoorPln
import Derived.Test.YtgfipifgijohhaaDoorGga
namespace Go.Proofs.YtgfipifgijohhaaDoor

def turnedW : List Wing := [⟨kitName 0, 100, 50, 40⟩, ⟨kitName 1, 200, 50, 60⟩, ⟨kitName 7, 100, 30, 50⟩]
def twiceW : List Wing := [⟨kitName 0, 100, 40, 50⟩, ⟨kitName 0, 200, 50, 60⟩, ⟨kitName 7, 100, 30, 50⟩]
theorem known_check : check 1000 sambaW = 0 ∧ check 1000 [] = 4 ∧ check 1000 turnedW = 9 ∧ check 1000 twiceW = 8 ∧ checkStarts 1000 sambaW [0, 2, 10] = 12 := by decide +kernel
theorem known_where0 : whereSpan 1000 sambaW [0, 3, 8] 0 10 = (400, 500) ∧ askedErr 1000 sambaW [0, 3, 8] 0 10 = 0 := by decide +kernel
theorem known_where2 : whereSpan 1000 sambaW [0, 3, 8] 2 10 = (60, 100) ∧ askedErr 1000 sambaW [0, 3, 8] 2 10 = 0 := by decide +kernel
theorem known_pass1 : passSpan 1000 sambaW [0, 3, 8] 1 1000 = (22, 28) ∧ passErr 1000 sambaW [0, 3, 8] 1 1000 = 0 := by decide +kernel
theorem known_pass2 : passSpan 1000 sambaW [0, 3, 8] 2 1100 = (30, 45) ∧ passErr 1000 sambaW [0, 3, 8] 2 1100 = 0 := by decide +kernel
theorem known_lasts : lastsRes 1000 sambaW [0, 3, 8] 30 40 150 = (3, 30, 45) ∧ bothErr 1000 sambaW [0, 3, 8] 30 40 150 = 0 := by decide +kernel
theorem known_gap0 : gapSpan 1000 sambaW [0, 3, 8] 1 3 = (20, 50) ∧ gapErr 1000 sambaW [0, 3, 8] 1 3 = 0 := by decide +kernel
theorem known_gap1 : gapSpan 1000 sambaW [0, 3, 8] 1 5 = (0, 50) ∧ gapErr 1000 sambaW [0, 3, 8] 1 5 = 0 := by decide +kernel
theorem known_gap2 : gapSpan 1000 sambaW [0, 3, 8] 2 20 = (0, 340) ∧ gapErr 1000 sambaW [0, 3, 8] 2 20 = 0 := by decide +kernel
theorem known_opens0 : opensRes 1000 sambaW [0, 3, 8] 30 60 150 = ([2, 2, 3], 0) := by decide +kernel
theorem known_opens1 : opensRes 1000 sambaW [0, 3, 8] 30 60 15 = ([2, 1, 1], 0) := by decide +kernel
theorem known_opens2 : opensRes 1000 sambaW [0, 3, 8] 30 60 440 = ([2, 2, 2], 0) := by decide +kernel
theorem known_widest : widestRes 1000 sambaW [0, 3, 8] = (2, 25, 440, 0) := by decide +kernel
theorem known_plan0 : planRes 1000 sambaW 30 60 150 = ([0, 3, 8], 440) ∧ planErr 1000 sambaW 30 60 150 = 0 := by decide +kernel
theorem known_plan1 : planRes 1000 sambaW 31 60 150 = ([0, 3, 9], 470) ∧ planErr 1000 sambaW 31 60 150 = 0 := by decide +kernel
theorem known_plan2 : planErr 1000 sambaW 30 44 150 = 7 := by decide +kernel
end Go.Proofs.YtgfipifgijohhaaDoor
