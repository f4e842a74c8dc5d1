/-
  A PART IS STORED into a list of parts of the call's own. No function is walked here.
-/
import Derived.Test.YtdcinngdilfpnaaKpl
import Derived.Test.YtdcinngdilfpnaaCod
namespace Go.Proofs.Ytdcinngdilfpnaa
open Go.RowKit

theorem flat_setP : ∀ (xs : List Part) (i : Nat) (y : Part), i < xs.length →
    ((((((xs.flatMap encPart).set (i * 5) (.int .i64 y.person)).set (i * 5 + 1) (.int .i64 y.place)).set (i * 5 + 2) (.int .i64 y.kind)).set (i * 5 + 3) (.int .i64 y.start)).set (i * 5 + 4) (.int .i64 y.stop)) = (xs.set i y).flatMap encPart
  | [], i, y, h => by simp at h
  | x :: xs, 0, y, _ => by simp [encPart]
  | x :: xs, i + 1, y, h => by
    have ih := flat_setP xs i y (by simpa using h)
    have e : (i + 1) * 5 = i * 5 + 1 + 1 + 1 + 1 + 1 := by omega
    rw [List.set_cons_succ, List.flatMap_cons, List.flatMap_cons, ← ih, e]
    simp [encPart]
theorem OwnR.setP {base : Nat} {w : World} {g n c i : Nat} {xs : List Part} (h : OwnR encPart 5 38 base w (.slice (some ⟨g, 0, none⟩) n c) xs) (hi : i < xs.length) (y : Part) :
    OwnR encPart 5 38 base (((((w.setCell ⟨g, i * 5, none⟩ (.int .i64 y.person)).setCell ⟨g, i * 5 + 1, none⟩ (.int .i64 y.place)).setCell ⟨g, i * 5 + 2, none⟩ (.int .i64 y.kind)).setCell ⟨g, i * 5 + 3, none⟩ (.int .i64 y.start)).setCell ⟨g, i * 5 + 4, none⟩ (.int .i64 y.stop)) (.slice (some ⟨g, 0, none⟩) n c) (xs.set i y) := by
  have hl : n = xs.length := by
    obtain ⟨a, c', e⟩ := h.form
    cases e
    rfl
  subst hl
  unfold OwnR
  rw [List.length_set, ← flat_setP xs i y hi]
  have h0 : w.ownsRow base 38 5 (.slice (some ⟨g, 0, none⟩) xs.length c) xs.length (xs.flatMap encPart) := h
  exact (World.ownsRow.stored (h := (World.ownsRow.stored (h := (World.ownsRow.stored (h := (World.ownsRow.stored (h := (World.ownsRow.stored (h := h0) (i * 5) (.int .i64 y.person)).1) (i * 5 + 1) (.int .i64 y.place)).1) (i * 5 + 2) (.int .i64 y.kind)).1) (i * 5 + 3) (.int .i64 y.start)).1) (i * 5 + 4) (.int .i64 y.stop)).1
end Go.Proofs.Ytdcinngdilfpnaa
