/-
  A ROW OF NUMBERS into which a number is put, in place. Plain over worlds; no program in sight.
-/
import Derived.Test.YtoipcbmbhjajfaaGreatDoorRep
import Derived.Laws.IdiomCopy
namespace Go.Proofs.YtoipcbmbhjajfaaGreatDoor
open Go.RowKit

theorem heap_setOne {w : World} {g i : Nat} {cs : Array Value} {t : TypeId} {u : Value} (h : w.heap[g]? = some (.cells cs t (0, 0))) : (w.setCell ⟨g, i, none⟩ u).heap[g]? = some (.cells (cs.setIfInBounds i u) t (0, 0)) := by
  simp [World.setCell, Array.getElem?_modify, h]
theorem heap_setCells {g : Nat} {t : TypeId} : ∀ (vs : List Value) (o : Nat) (w : World) (cur : Array Value), w.heap[g]? = some (.cells cur t (0, 0)) →
    ∃ cur', (w.setCells g o vs).heap[g]? = some (.cells cur' t (0, 0)) ∧ cur'.size = cur.size ∧ ∀ j, j < cur.size → cur'[j]? = if o ≤ j ∧ j < o + vs.length then vs[j - o]? else cur[j]? := by
  intro vs
  induction vs with
  | nil => intro o w cur h; exact ⟨cur, h, rfl, fun j _ => by rw [if_neg (by simp)]⟩
  | cons v vs ih =>
    intro o w cur h
    obtain ⟨cur', h1, h2, h3⟩ := ih (o + 1) (w.setCell ⟨g, o, none⟩ v) _ (heap_setOne h)
    refine ⟨cur', h1, by rw [h2]; simp, fun j hj => ?_⟩
    rw [h3 j (by simpa using hj)]
    by_cases e : j = o
    · subst e
      rw [if_neg (by omega), if_pos (by simp)]
      simp [hj]
    · by_cases h4 : o + 1 ≤ j ∧ j < o + 1 + vs.length
      · rw [if_pos h4, if_pos (by simp; omega)]
        obtain ⟨k, rfl⟩ : ∃ k, j = o + 1 + k := ⟨j - (o + 1), by omega⟩
        rw [show o + 1 + k - (o + 1) = k by omega, show o + 1 + k - o = k + 1 by omega]
        simp
      · rw [if_neg h4, if_neg (by simp; omega), Array.getElem?_setIfInBounds, if_neg (Ne.symm e)]

theorem OwnInts.ofBlock {base : Nat} {w : World} {g n cap : Nat} {cur : Array Value} {ys : List Int} (hb : base ≤ g) (hh : w.heap[g]? = some (.cells cur 3 (0, 0))) (hn : n ≤ cap) (hm : cap ≤ maxLen) (hs : cur.size = cap) (hl : ys.length = n) (hc : ∀ j, j < n → cur[j]? = some (.int .i64 (nm ys j))) :
    OwnInts base w (.slice (some ⟨g, 0, none⟩) n cap) ys := by
  subst hl
  refine ⟨by simp, .inr ⟨g, cap, cur, rfl, hb, hh, hn, hm, by rw [hs, Nat.mul_one], ?_⟩⟩
  apply List.ext_getElem?
  intro j
  rw [Nat.mul_one, List.getElem?_take, List.getElem?_map]
  by_cases hj : j < ys.length
  · rw [if_pos hj, Array.getElem?_toList, hc j hj, List.getElem?_eq_getElem hj]
    simp [nm, List.getD_eq_getElem?_getD, List.getElem?_eq_getElem hj]
  · rw [if_neg hj, List.getElem?_eq_none (by omega)]
    rfl
theorem OwnInts.blk {base : Nat} {w : World} {v : Value} {ys : List Int} (h : OwnInts base w v ys) : (v = .slice none 0 0 ∧ ys = []) ∨
    ∃ g cap cur, v = .slice (some ⟨g, 0, none⟩) ys.length cap ∧ base ≤ g ∧ w.heap[g]? = some (.cells cur 3 (0, 0)) ∧ ys.length ≤ cap ∧ cap ≤ maxLen ∧ cur.size = cap ∧ ∀ j, j < ys.length → cur[j]? = some (.int .i64 (nm ys j)) := by
  obtain ⟨_, h2⟩ := h
  rcases h2 with ⟨rfl, h0⟩ | ⟨g, cap, cur, rfl, hb, hh, h1, hm, hs, ht⟩
  · exact .inl ⟨rfl, List.eq_nil_of_length_eq_zero h0⟩
  · refine .inr ⟨g, cap, cur, rfl, hb, hh, h1, hm, by rw [hs, Nat.mul_one], fun j hj => ?_⟩
    have : (cur.toList.take (ys.length * 1))[j]? = (ys.map (Value.int .i64))[j]? := by rw [ht]
    rw [List.getElem?_take, if_pos (by omega), List.getElem?_map, List.getElem?_eq_getElem hj, Array.getElem?_toList] at this
    rw [this]
    simp [nm, List.getD_eq_getElem?_getD, List.getElem?_eq_getElem hj]
theorem nm_ins (xs : List Int) (x : Int) {i : Nat} (hi : i ≤ xs.length) (j : Nat) : nm (xs.take i ++ x :: xs.drop i) j = if j < i then nm xs j else if j = i then x else nm xs (j - 1) := by
  unfold nm
  simp only [List.getD_eq_getElem?_getD]
  by_cases h1 : j < i
  · rw [if_pos h1, List.getElem?_append_left (by simp; omega), List.getElem?_take, if_pos h1]
  · rw [if_neg h1, List.getElem?_append_right (by simp; omega)]
    have e0 : (xs.take i).length = i := by simp [hi]
    rw [e0]
    by_cases h2 : j = i
    · subst h2; rw [if_pos rfl]; simp
    · rw [if_neg h2]
      obtain ⟨m, rfl⟩ : ∃ m, j = i + 1 + m := ⟨j - (i + 1), by omega⟩
      rw [show i + 1 + m - i = m + 1 by omega, List.getElem?_cons_succ, List.getElem?_drop, show i + 1 + m - 1 = i + m by omega]
theorem ins_length (xs : List Int) (x : Int) {i : Nat} (hi : i ≤ xs.length) : (xs.take i ++ x :: xs.drop i).length = xs.length + 1 := by simp; omega
theorem drop_at {xs : List Int} {i : Nat} (j : Nat) (hj : i + j < xs.length) : ((xs.map (Value.int .i64)).drop i)[j]? = some (.int .i64 (nm xs (i + j))) := by
  rw [List.getElem?_drop, List.getElem?_map, List.getElem?_eq_getElem hj]
  simp [nm, List.getD_eq_getElem?_getD, List.getElem?_eq_getElem hj]
end Go.Proofs.YtoipcbmbhjajfaaGreatDoor
