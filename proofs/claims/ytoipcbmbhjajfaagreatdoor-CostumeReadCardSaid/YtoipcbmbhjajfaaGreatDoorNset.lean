/-
  A SET OF NUMBERS that a call keeps in a map of structs of one number: what it holds, asked and added to. Over any program.
-/
import Derived.Maps.Own
import Derived.RowKit
namespace Go.Proofs.YtoipcbmbhjajfaaGreatDoor
open Go.RowKit Go.Maps Go.ChangeMaps

def oneKey (n : Int) : Value := .agg #[.int .i64 n]
/-- block b is a map whose keys are the numbers xs, each true -/
def NumSet (w : World) (b : Nat) (xs : List Int) : Prop :=
  ∃ es clock, w.heap[b]? = some (.map es clock) ∧ es.toList.map (·.key) = xs.map oneKey ∧ ∀ e, e ∈ es.toList → e.val = .bool true
theorem NumSet.made (w : World) : NumSet (w.alloc (.map #[] 0)) w.heap.size [] := ⟨#[], 0, (MapKept.heap_alloc w _).1, rfl, fun e h => by simp at h⟩
theorem NumSet.lt {w : World} {b : Nat} {xs : List Int} (h : NumSet w b xs) : b < w.heap.size := by
  obtain ⟨es, c, hb, _⟩ := h
  exact (Array.getElem?_eq_some_iff.1 hb).1
theorem NumSet.kept {w w' : World} {b : Nat} {xs : List Int} {row : Option Nat} (h : NumSet w b xs) (hg : w.grownBy w' row) (hne : some b ≠ row) : NumSet w' b xs := by
  have hlt := h.lt
  obtain ⟨es, c, hb, h1, h2⟩ := h
  exact ⟨es, c, (hg.block b hlt hne).trans hb, h1, h2⟩
theorem oneKey_inj {a b : Int} (h : oneKey a = oneKey b) : a = b := by unfold oneKey at h; simpa using h
theorem NumSet.find {P : Program} {k : TypeId} (K : Keyed P k) (hk : ∀ n, -9223372036854775808 ≤ n → n ≤ 9223372036854775807 → ∃ l, keyOf P k (oneKey n) = some l) {es : Array MapEntry} {xs : List Int} (hx : ∀ n, n ∈ xs → -9223372036854775808 ≤ n ∧ n ≤ 9223372036854775807)
    (h1 : es.toList.map (·.key) = xs.map oneKey) (n : Int) (hn1 : -9223372036854775808 ≤ n) (hn2 : n ≤ 9223372036854775807) (w : World) :
    (n ∉ xs ∧ (Instr.findKey k (oneKey n) es.toList).run P w = .ok none w) ∨ (n ∈ xs ∧ ∃ j e, (Instr.findKey k (oneKey n) es.toList).run P w = .ok (some (j, e.val)) w ∧ e ∈ es.toList) := by
  obtain ⟨l, hl⟩ := hk n hn1 hn2
  have hkeys : ∀ e, e ∈ es.toList → ∃ m, m ∈ xs ∧ e.key = oneKey m := fun e he => by
    have : e.key ∈ es.toList.map (·.key) := List.mem_map_of_mem he
    rw [h1, List.mem_map] at this
    obtain ⟨m, hm, e2⟩ := this
    exact ⟨m, hm, e2.symm⟩
  rcases K.find w hl es.toList (fun e he => by
    obtain ⟨m, hm, e2⟩ := hkeys e he
    rw [e2]
    exact hk m (hx m hm).1 (hx m hm).2) with ⟨hr, hno⟩ | ⟨j, e, hr, hj, hek⟩
  · refine .inl ⟨fun hmem => ?_, hr⟩
    have : oneKey n ∈ es.toList.map (·.key) := by rw [h1]; exact List.mem_map_of_mem hmem
    obtain ⟨e, he, e2⟩ := List.mem_map.1 this
    exact hno e he e2
  · have he : e ∈ es.toList := List.mem_of_getElem? hj
    obtain ⟨m, hm, e2⟩ := hkeys e he
    have : m = n := oneKey_inj (e2.symm.trans hek)
    exact .inr ⟨this ▸ hm, j, e, hr, he⟩

/-- asked -/
theorem NumSet.ask {P : Program} {t k e : TypeId} (K : Keyed P k) (ht : P.underlying t = some (.map k e)) (hk : ∀ n, -9223372036854775808 ≤ n → n ≤ 9223372036854775807 → ∃ l, keyOf P k (oneKey n) = some l) {w : World} {b : Nat} {xs : List Int}
    (hz : (zeroValue e).run P w = .ok (.bool false) w) (h : NumSet w b xs) (hx : ∀ n, n ∈ xs → -9223372036854775808 ≤ n ∧ n ≤ 9223372036854775807) (n : Int) (hn1 : -9223372036854775808 ≤ n) (hn2 : n ≤ 9223372036854775807) :
    (Instr.lookup t (.map (some b)) (oneKey n) false).run P w = .ok (.bool (decide (n ∈ xs))) w := by
  obtain ⟨es, c, hb, h1, h2⟩ := h
  obtain ⟨l, hl⟩ := hk n hn1 hn2
  have hc := fun em => K.check w em hl
  rcases NumSet.find K hk hx h1 n hn1 hn2 w with ⟨hno, hr⟩ | ⟨hyes, j, e0, hr, he⟩
  · simp [Instr.lookup, run_underlying ht, MapKept.run_getObj_map hb, hc, hr, hz, Result.andThen, hno]
  · simp [Instr.lookup, run_underlying ht, MapKept.run_getObj_map hb, hc, hr, Result.andThen, hyes, h2 e0 he]

/-- added to -/
theorem NumSet.add {P : Program} {t k e : TypeId} (K : Keyed P k) (ht : P.underlying t = some (.map k e)) (hk : ∀ n, -9223372036854775808 ≤ n → n ≤ 9223372036854775807 → ∃ l, keyOf P k (oneKey n) = some l) {w : World} {b : Nat} {xs : List Int}
    (h : NumSet w b xs) (hx : ∀ n, n ∈ xs → -9223372036854775808 ≤ n ∧ n ≤ 9223372036854775807) (n : Int) (hn1 : -9223372036854775808 ≤ n) (hn2 : n ≤ 9223372036854775807) (hno : n ∉ xs) :
    ∃ w', (Instr.mapUpdate t (.map (some b)) (oneKey n) (.bool true)).run P w = .ok () w' ∧ NumSet w' b (xs ++ [n]) ∧ w.grownBy w' (some b) := by
  obtain ⟨es, c, hb, h1, h2⟩ := h
  obtain ⟨l, hl⟩ := hk n hn1 hn2
  have hc := fun em => K.check w em hl
  rcases NumSet.find K hk hx h1 n hn1 hn2 w with ⟨_, hr⟩ | ⟨hyes, _⟩
  · refine ⟨setBlock w b (.map (es.push { key := oneKey n, val := .bool true, born := c }) (c + 1)), ?_, ⟨_, _, heap_setBlock_same hb _, ?_, fun e he => ?_⟩, ⟨rfl, rfl, rfl, by simp [setBlock], fun i _ hi => heap_setBlock_other hb _ (fun e => hi (by rw [e]))⟩⟩
    · simp [Instr.mapUpdate, run_underlying ht, MapKept.run_getObj_map hb, hc, hr, MapKept.run_setObj_map _ hb, Result.andThen, setBlock]
    · simp [h1]
    · rcases (by simpa using he : e ∈ es.toList ∨ e = _) with he | rfl
      · exact h2 e he
      · rfl
  · exact absurd hyes hno
end Go.Proofs.YtoipcbmbhjajfaaGreatDoor
