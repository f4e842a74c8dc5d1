/-
  WALKS: what a person does in a minute: on, At.
-/
import Derived.Test.YtoipcbmbhjajfaaGreatDoorCwc
namespace Go.Proofs.YtoipcbmbhjajfaaGreatDoor
open Go.RowKit

def onP (x : Part) (minute : Int) : Bool := inB minute x.start (x.stop - 1)
def hitP (n minute : Int) (x : Part) : Bool := decide (x.person = n) && onP x minute
/-- the first of k that is so, or -1 -/
def firstAt (f : Nat → Bool) : Nat → Int
  | 0 => -1
  | k + 1 => if 0 ≤ firstAt f k then firstAt f k else if f k = true then (k : Int) else -1
theorem firstAt_none {f : Nat → Bool} {k : Nat} (h : ∀ j, j < k → f j = false) : firstAt f k = -1 := by
  induction k with
  | zero => rfl
  | succ k ih =>
    have := ih (fun j hj => h j (by omega))
    simp only [firstAt, this, h k (by omega)]
    rfl
theorem firstAt_at {f : Nat → Bool} {k : Nat} (h : ∀ j, j < k → f j = false) (hk : f k = true) : ∀ n, k < n → firstAt f n = k := by
  intro n
  induction n with
  | zero => intro h0; omega
  | succ n ih =>
    intro hn
    by_cases e : k = n
    · subst e
      simp only [firstAt, firstAt_none h, hk]
      rfl
    · have := ih (by omega)
      simp only [firstAt, this]
      rw [if_pos (by omega)]
def personE (p : Plot) (n : Int) : Int := if plotErr p = 0 then (if inB n 0 ((p.persons.length : Int) - 1) = false then 7 else 0) else plotErr p
def atErr (p : Plot) (n minute : Int) : Int := if personE p n = 0 then (if inB minute 0 1440 = false then 2 else 0) else personE p n
def atRes (p : Plot) (n minute : Int) : Int := if atErr p n minute = 0 then firstAt (fun i => hitP n minute (pt p.parts i)) p.parts.length else 0

set_option maxHeartbeats 1000000 in
set_option maxRecDepth 100000 in
theorem on_any (x : Part) (minute : Int) (w : World) (ht : Timed x) :
    Calls Tryz.prog 67 #[partV x, .int .i64 minute] w fun e w' => e = .returned (.bool (onP x minute)) ∧ Below w.heap.size w w' := by
  have hb := hid (below_alloc w (.cells #[.int .i64 x.person, .int .i64 x.place, .int .i64 x.kind, .int .i64 x.start, .int .i64 x.stop] 60))
  have z1 : IntKind.i64.wrap (x.stop - 1) = x.stop - 1 := IntWalk.i64_in _ (by have := ht.2.2; omega)
  go_enter Tryz.func67, Tryz.ntmps67
  go_wp2_with (go_at_call 46; refine (cin_any _ _ _ _).mono ?_; rintro e w' ⟨rfl, rfl⟩)
  go_ret
  exact ⟨rfl, hb.out⟩

end Go.Proofs.YtoipcbmbhjajfaaGreatDoor
