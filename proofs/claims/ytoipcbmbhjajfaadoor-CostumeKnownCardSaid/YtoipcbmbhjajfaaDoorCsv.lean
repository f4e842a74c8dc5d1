/-
  SOME PARTS OF A PLOT, in their order: the plot is valid still. No program in sight.
-/
import Derived.Test.YtoipcbmbhjajfaaDoorCsp
import Derived.Test.YtoipcbmbhjajfaaDoorCon
import Derived.Test.YtoipcbmbhjajfaaDoorCht
namespace Go.Proofs.YtoipcbmbhjajfaaDoor
open Go.RowKit

theorem someL_len (p : Plot) (l : List Int) : (someL p l).length = l.length := by simp [someL]
theorem pt_some {p : Plot} {l : List Int} {i : Nat} (h : i < l.length) : pt (someL p l) i = pt p.parts (nm l i).toNat := by
  unfold pt someL nm
  rw [List.getD_eq_getElem?_getD, List.getElem?_map, List.getD_eq_getElem?_getD (l := l), List.getElem?_eq_getElem h]
  rfl
theorem Inc.at {n m : Int} {l : List Int} (h : Inc n m l) {i : Nat} (hi : i < l.length) : m ≤ nm l i ∧ nm l i < n := by
  have e : nm l i = l[i] := by unfold nm; rw [List.getD_eq_getElem?_getD, List.getElem?_eq_getElem hi]; rfl
  rw [e]
  exact h.2 _ (List.getElem_mem hi)
theorem Inc.lt {n m : Int} {l : List Int} (h : Inc n m l) {i k : Nat} (hi : i < l.length) (hk : k < i) : nm l k < nm l i := by
  have e : nm l i = l[i] := by unfold nm; rw [List.getD_eq_getElem?_getD, List.getElem?_eq_getElem hi]; rfl
  have e2 : nm l k = l[k] := by unfold nm; rw [List.getD_eq_getElem?_getD, List.getElem?_eq_getElem (by omega)]; rfl
  rw [e, e2]
  exact List.pairwise_iff_getElem.1 h.1 k i (by omega) hi hk
theorem valid_some {p : Plot} (v : Valid p) {l : List Int} (h : Inc p.parts.length 0 l) : Valid { p with parts := someL p l } := by
  have hl : (someL p l).length = l.length := someL_len p l
  have hn := inc_length h
  refine ⟨v.persons, v.figures, v.walk, v.rows, v.dress, v.dresses, ?_, fun i hi => ?_, fun i hi j hj => ?_⟩
  · show (someL p l).length ≤ 30
    have := v.few; omega
  · have hi' : i < (someL p l).length := hi
    show aloneE p (pt (someL p l) i) = 0
    have := h.at (i := i) (by omega)
    rw [pt_some (by omega)]
    exact v.parts _ (by omega)
  · have hi' : i < (someL p l).length := hi
    show twoE p (pt (someL p l) j) (pt (someL p l) i) = 0
    have h1 := h.at (i := i) (by omega)
    have h2 := h.at (i := j) (by omega)
    have h3 := h.lt (i := i) (by omega) hj
    rw [pt_some (by omega), pt_some (by omega)]
    exact v.twos _ (by omega) _ (by omega)
theorem items_some {p : Plot} {items : List Item} (h : itemsErr p items = 0) {l : List Int} (hl : Inc p.parts.length 0 l) : itemsErr { p with parts := someL p l } items = 0 := by
  obtain ⟨h1, h2, h3⟩ := itemsErr_zero h
  unfold itemsErr
  rw [if_pos (plotErr_zero.2 (valid_some (plotErr_zero.1 h1) hl)), if_neg (by omega)]
  exact firstBad_zero.2 h3
theorem small_some {p : Plot} {items : List Item} (h : smallErr p items = 0) {l : List Int} (hl : Inc p.parts.length 0 l) : smallErr { p with parts := someL p l } items = 0 := by
  obtain ⟨h1, h2, h3⟩ := smallErr_zero h
  unfold smallErr
  have hn := inc_length hl
  rw [if_pos (items_some h1 hl), if_neg (by show ¬ (6 < (someL p l).length ∨ 10 < items.length); rw [someL_len]; omega)]
theorem best_some {p : Plot} {items : List Item} {l : List Int} : (bestP { p with parts := someL p l } items (someL p l)).isSome = worn p items l := by
  unfold worn
  rw [bestP_parts (p := { p with parts := someL p l }) (q := p) rfl rfl rfl]
theorem worn_all (p : Plot) (items : List Item) : worn p items ((List.range p.parts.length).map fun (i : Nat) => (i : Int)) = (bestP p items p.parts).isSome := by
  unfold worn
  have e : someL p ((List.range p.parts.length).map fun (i : Nat) => (i : Int)) = p.parts := by
    unfold someL
    rw [List.map_map]
    apply List.ext_getElem
    · simp
    · intro i h1 h2
      simp [pt, List.getD_eq_getElem?_getD, List.getElem?_eq_getElem h2]
  rw [e]
theorem inc_range (n : Nat) : Inc n 0 ((List.range n).map fun (i : Nat) => (i : Int)) := by
  refine ⟨?_, fun x h => ?_⟩
  · rw [List.pairwise_map]
    exact List.pairwise_lt_range.imp (fun h => by omega)
  · obtain ⟨i, hi, rfl⟩ := List.mem_map.1 h
    have := List.mem_range.1 hi
    omega
theorem nm_map {l : List Int} {f : Int → Int} {i : Nat} (h : i < l.length) : nm (l.map f) i = f (nm l i) := by
  unfold nm
  rw [List.getD_eq_getElem?_getD, List.getElem?_map, List.getD_eq_getElem?_getD (l := l), List.getElem?_eq_getElem h]
  rfl
/-- what can be dressed whole can be dressed in part -/
theorem worn_sub {p : Plot} {items : List Item} (h : (bestP p items p.parts).isSome = true) {l : List Int} (hl : Inc p.parts.length 0 l) : worn p items l = true := by
  obtain ⟨⟨b, c⟩, hb⟩ := Option.isSome_iff_exists.1 h
  obtain ⟨q1, q2, q3, _⟩ := bestR_some hb
  have q3 : b.length = p.parts.length := by simpa using q3
  obtain ⟨h1, h2⟩ := wears_iff.1 q1
  have hm : (l.map fun i => nm b i.toNat).length = l.length := by simp
  have hw : wearsE p items (someL p l) (l.map fun i => nm b i.toNat) = 0 := by
    refine wears_iff.2 ⟨fun i hi => ?_, fun i hi k hk => ?_⟩
    · have := hl.at (i := i) (by omega)
      rw [pt_some (by omega), nm_map (by omega)]
      exact h1 _ (by omega)
    · have e1 := hl.at (i := i) (by omega)
      have e2 := hl.at (i := k) (by omega)
      have e3 := hl.lt (i := i) (by omega) hk
      rw [pt_some (by omega), pt_some (by omega), nm_map (by omega), nm_map (by omega)]
      exact h2 _ (by omega) _ (by omega)
  obtain ⟨b', c', e, _⟩ := bestP_le (p := p) (items := items) (parts := someL p l) (by rw [hm, someL_len]) hw
  unfold worn
  rw [e]; rfl
theorem First.some_iff {p : Plot} {items : List Item} {l : List Int} (h : First p items p.parts.length l) : l ≠ [] ↔ (bestP p items p.parts).isSome = false := by
  constructor
  · intro hn
    cases e : (bestP p items p.parts).isSome with
    | false => rfl
    | true => have := worn_sub e h.inc; rw [h.bad hn] at this; cases this
  · intro hf e
    have := h.none e _ (inc_range p.parts.length)
    rw [worn_all, hf] at this; cases this
end Go.Proofs.YtoipcbmbhjajfaaDoor
