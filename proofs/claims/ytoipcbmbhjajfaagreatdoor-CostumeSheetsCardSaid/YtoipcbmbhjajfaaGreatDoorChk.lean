/-
  WALKS: the reference's look at a school: within, named, Check.
-/
import Derived.Test.YtoipcbmbhjajfaaGreatDoorSpec
import Derived.Test.YtoipcbmbhjajfaaGreatDoorApp
import Derived.WalkSpells
import Derived.WalkLawsBesides
import Derived.BigQuiet
namespace Go.Proofs.YtoipcbmbhjajfaaGreatDoor
open Go.RowKit

theorem ret_bool {a b : Bool} (h : a = b) : Ending.returned (.bool a) = .returned (.bool b) := by rw [h]
theorem ret_int {a b : Int} (h : a = b) : Ending.returned (.int .i64 a) = .returned (.int .i64 b) := by rw [h]

def LettersTo (s : ByteArray) (k : Nat) : Prop := (s.data.toList.take k).all letter = true

theorem letters_succ {s : ByteArray} {k : Nat} (h : LettersTo s k) (hk : k < s.size) (hl : letter s[k] = true) : LettersTo s (k + 1) := by
  unfold LettersTo at *
  rw [List.take_succ_eq_append_getElem (by simpa using hk), List.all_append, h]
  simpa [ByteArray.getElem_eq_getElem_data] using hl
theorem letters_bad {s : ByteArray} {k : Nat} (hk : k < s.size) (hl : letter s[k] = false) : namedB s = false := by
  unfold namedB
  have : s.data.toList.all letter = false := by
    rw [List.all_eq_false]
    exact ⟨s[k], by simp [ByteArray.getElem_eq_getElem_data], by simp [hl]⟩
  simp [this]
theorem letters_all {s : ByteArray} (h : LettersTo s s.size) : namedB s = inB s.size 1 8 := by
  unfold LettersTo at h
  unfold namedB
  rw [List.take_of_length_le (by simp)] at h
  rw [h]; simp

end Go.Proofs.YtoipcbmbhjajfaaGreatDoor
