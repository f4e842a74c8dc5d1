/-
  A PART IS STORED into a list of parts of the call's own. No function is walked here.
  One part less: the plot is valid still; a list of the call's own cut short; a list's end. No function is walked here.
-/
import Derived.Test.YtdcinngdilfpnaaKpl
import Derived.Test.YtdcinngdilfpnaaCod
import Derived.Test.YtdcinngdilfpnaaCon
import Derived.Test.YtdcinngdilfpnaaCfw
import Derived.Test.YtdcinngdilfpnaaCht
namespace Go.Proofs.Ytdcinngdilfpnaa
open Go.RowKit

theorem flat_setP : ∀ (xs : List Part) (i : Nat) (y : Part), i < xs.length →
    ((((((xs.flatMap encPart).set (i * 5) (.int .i64 y.person)).set (i * 5 + 1) (.int .i64 y.place)).set (i * 5 + 2) (.int .i64 y.kind)).set (i * 5 + 3) (.int .i64 y.start)).set (i * 5 + 4) (.int .i64 y.stop)) = (xs.set i y).flatMap encPart
  | [], i, y, h => by simp at h
  | x :: xs, 0, y, _ => by simp [encPart]
  | x :: xs, i + 1, y, h => by
    have ih := flat_setP xs i y (by simpa using h)
    have e : (i + 1) * 5 = i * 5 + 1 + 1 + 1 + 1 + 1 := by omega
    rw [List.set_cons_succ, List.flatMap_cons, List.flatMap_cons, ← ih, e]
    simp [encPart]
theorem OwnR.setP {base : Nat} {w : World} {g n c i : Nat} {xs : List Part} (h : OwnR encPart 5 38 base w (.slice (some ⟨g, 0, none⟩) n c) xs) (hi : i < xs.length) (y : Part) :
    OwnR encPart 5 38 base (((((w.setCell ⟨g, i * 5, none⟩ (.int .i64 y.person)).setCell ⟨g, i * 5 + 1, none⟩ (.int .i64 y.place)).setCell ⟨g, i * 5 + 2, none⟩ (.int .i64 y.kind)).setCell ⟨g, i * 5 + 3, none⟩ (.int .i64 y.start)).setCell ⟨g, i * 5 + 4, none⟩ (.int .i64 y.stop)) (.slice (some ⟨g, 0, none⟩) n c) (xs.set i y) := by
  have hl : n = xs.length := by
    obtain ⟨a, c', e⟩ := h.form
    cases e
    rfl
  subst hl
  unfold OwnR
  rw [List.length_set, ← flat_setP xs i y hi]
  have h0 : w.ownsRow base 38 5 (.slice (some ⟨g, 0, none⟩) xs.length c) xs.length (xs.flatMap encPart) := h
  exact (World.ownsRow.stored (h := (World.ownsRow.stored (h := (World.ownsRow.stored (h := (World.ownsRow.stored (h := (World.ownsRow.stored (h := h0) (i * 5) (.int .i64 y.person)).1) (i * 5 + 1) (.int .i64 y.place)).1) (i * 5 + 2) (.int .i64 y.kind)).1) (i * 5 + 3) (.int .i64 y.start)).1) (i * 5 + 4) (.int .i64 y.stop)).1
end Go.Proofs.Ytdcinngdilfpnaa

namespace Go.Proofs.Ytdcinngdilfpnaa
open Go.RowKit

theorem valid_less {p : Plot} (v : Valid p) {k : Nat} (hk : k < p.parts.length) : Valid { p with parts := p.parts.eraseIdx k } := by
  have hl : (p.parts.eraseIdx k).length = p.parts.length - 1 := by rw [List.length_eraseIdx_of_lt hk]
  refine ⟨v.persons, v.figures, v.walk, v.rows, v.dress, v.dresses, ?_, fun i hi => ?_, fun i hi j hj => ?_⟩
  · show (p.parts.eraseIdx k).length ≤ 30
    have := v.few; omega
  · have hi' : i < (p.parts.eraseIdx k).length := hi
    show aloneE p (pt (p.parts.eraseIdx k) i) = 0
    rw [pt_erase]
    exact v.parts _ (by unfold skip; split <;> omega)
  · have hi' : i < (p.parts.eraseIdx k).length := hi
    show twoE p (pt (p.parts.eraseIdx k) j) (pt (p.parts.eraseIdx k) i) = 0
    rw [pt_erase, pt_erase]
    exact v.twos _ (by unfold skip; split <;> omega) _ (by unfold skip; split <;> split <;> omega)
theorem flat_takeP {α : Type} {enc : α → List Value} {k : Nat} (henc : ∀ x, (enc x).length = k) : ∀ (xs : List α) (i : Nat), (xs.flatMap enc).take (i * k) = (xs.take i).flatMap enc
  | [], i => by simp
  | x :: xs, 0 => by simp
  | x :: xs, i + 1 => by
    rw [List.flatMap_cons, List.take_succ_cons, List.flatMap_cons, ← flat_takeP henc xs i, List.take_append, henc]
    have e : (i + 1) * k - k = i * k := by rw [Nat.add_mul]; omega
    rw [e, List.take_of_length_le (by rw [henc, Nat.add_mul]; omega)]
/-- the first i of a list of the call's own, with its room -/
theorem OwnR.takeP {α : Type} {enc : α → List Value} {k : Nat} {e : TypeId} {base : Nat} {w : World} {g n c : Nat} {xs : List α} (henc : ∀ x, (enc x).length = k) (h : OwnR enc k e base w (.slice (some ⟨g, 0, none⟩) n c) xs) {i : Nat} (hi : i ≤ xs.length) : OwnR enc k e base w (.slice (some ⟨g, 0, none⟩) i c) (xs.take i) := by
  have hlt : (xs.take i).length = i := by rw [List.length_take]; omega
  refine ⟨by rw [flatMap_length henc], ?_⟩
  rcases h.2 with ⟨h', _⟩ | ⟨g', cap', cur, h', hb, hg, hnc, hcm, hcs, ht⟩
  · cases h'
  · simp only [Value.slice.injEq, Option.some.injEq, Addr.mk.injEq, and_true, true_and] at h'
    obtain ⟨rfl, rfl, rfl⟩ := h'
    refine .inr ⟨g, c, cur, by rw [hlt], hb, hg, by omega, hcm, hcs, ?_⟩
    rw [hlt, ← flat_takeP henc xs i, ← ht, List.take_take, Nat.min_eq_left (Nat.mul_le_mul_right _ hi)]
/-- the end of a list -/
theorem Src.dropP {w : World} {a : Addr} {n c : Nat} {xs : List Part} (h : PartsAt none w (.slice (some a) n c) xs) (hs : a.spot = none) {i : Nat} (c' : Nat) : Src encPart w (.slice (some (a.add (i * 5))) (xs.length - i) c') (xs.drop i) := by
  refine .inl ⟨a.add (i * 5), c', by rw [List.length_drop], fun j u hj => ?_⟩
  obtain ⟨b, off, spot⟩ := a
  simp only at hs
  subst hs
  obtain ⟨a', cap, e, hh⟩ := h
  cases e
  have hjl : j < (xs.drop i).length * 5 := by
    have := (List.getElem?_eq_some_iff.1 hj).1
    rwa [flatMap_length (k := 5) (fun x => rfl)] at this
  rw [List.length_drop] at hjl
  obtain ⟨b', off', e', _, _, _, _, h5⟩ := hh (by omega)
  cases e'
  have h6 := h5 (i + j / 5) (by omega) (j % 5) (Nat.mod_lt _ (by decide))
  have hat := flatMap_at (enc := encPart) (k := 5) (z := noPart) partCell (fun x => rfl) encPart_at (xs.drop i) (j / 5) (by rw [List.length_drop]; omega) (j % 5) (Nat.mod_lt _ (by decide))
  have e1 : j / 5 * 5 + j % 5 = j := by omega
  rw [e1, hj] at hat
  have e2 : (xs.drop i).getD (j / 5) noPart = pt xs (i + j / 5) := by
    unfold pt
    rw [List.getD_eq_getElem?_getD, List.getD_eq_getElem?_getD, List.getElem?_drop]
  rw [e2] at hat
  rw [addr_off, addr_off, hat]
  have e3 : off + i * 5 + j = off + (i + j / 5) * 5 + j % 5 := by omega
  rw [e3]
  exact h6
end Go.Proofs.Ytdcinngdilfpnaa
