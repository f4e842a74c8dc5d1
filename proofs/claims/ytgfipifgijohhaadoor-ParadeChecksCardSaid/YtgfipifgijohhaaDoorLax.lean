/-
  CELLS OF BLOCKS THAT ARE NEW are held too.
-/
import Derived.Test.YtgfipifgijohhaaDoorOrdS
import Derived.Test.YtgfipifgijohhaaDoorLk
namespace Go.Proofs.YtgfipifgijohhaaDoor
open Go.RowKit

/-- a cell of a block that is new since w -/
theorem LK.addFar2 {d : Nat} {cs : Cells} {li : List (Value × List Int)} {lw : List (Value × List Wing)} {w0 w w' : World} (k : LK d cs li lw w0 w) {cs' : Cells} (k' : LK d cs' li lw w0 w') {b o : Nat} {v : Value} (hb : w.heap.size ≤ b)
    (hc : w'.cell? ⟨b, o, none⟩ = some v) (hf : w'.frozen? ⟨b, o, none⟩ = false) : LK d ((b, o, v) :: cs') li lw w0 w' where
  below := k'.below
  d0 := k'.d0
  beat := k'.beat
  cell := fun b o' u h => by
    rcases List.mem_cons.1 h with h | h
    · cases h; exact ⟨by have := k.lt; omega, Nat.le_trans k.below.size hb, hc, hf⟩
    · exact k'.cell b o' u h
  ints := fun v xs h => ⟨k'.i h, fun h0 b o' u hm => by
    rcases List.mem_cons.1 hm with hm | hm
    · cases hm
      obtain ⟨b, e, hb, _⟩ := (k.i h).block h0
      intro e2; rw [e] at e2; cases e2; omega
    · exact (k'.ints v xs h).2 h0 b o' u hm⟩
  wgs := fun v xs h => ⟨k'.g h, fun h0 b o' u hm => by
    rcases List.mem_cons.1 hm with hm | hm
    · cases hm
      obtain ⟨b, e, hb, _⟩ := (k.g h).block h0
      intro e2; rw [e] at e2; cases e2; omega
    · exact (k'.wgs v xs h).2 h0 b o' u hm⟩

theorem LK.addNews {d : Nat} {cs : Cells} {li : List (Value × List Int)} {lw : List (Value × List Wing)} {w0 w w' : World} (k : LK d cs li lw w0 w) {cs' : Cells} (k' : LK d cs' li lw w0 w') :
    ∀ news : Cells, (∀ b o v, (b, o, v) ∈ news → w.heap.size ≤ b ∧ w'.cell? ⟨b, o, none⟩ = some v ∧ w'.frozen? ⟨b, o, none⟩ = false) → LK d (news ++ cs') li lw w0 w'
  | [], _ => k'
  | (b, o, v) :: news, h => by
    obtain ⟨h1, h2, h3⟩ := h b o v (List.mem_cons_self ..)
    exact k.addFar2 (LK.addNews k k' news fun b' o' v' hm => h b' o' v' (List.mem_cons_of_mem _ hm)) h1 h2 h3

/-- the cells of a literal -/
def litCells (A : Nat) (cells : List Value) : Cells := cells.zipIdx.map fun x => (A, x.2, x.1)

theorem LK.addLit {d : Nat} {cs : Cells} {li : List (Value × List Int)} {lw : List (Value × List Wing)} {w0 w w' : World} (k : LK d cs li lw w0 w) {cs' : Cells} (k' : LK d cs' li lw w0 w') {A : Nat} {cells : List Value} (hb : w.heap.size ≤ A)
    (h : ∀ o u, cells[o]? = some u → w'.cell? ⟨A, o, none⟩ = some u ∧ w'.frozen? ⟨A, o, none⟩ = false) : LK d (litCells A cells ++ cs') li lw w0 w' :=
  k.addNews k' _ fun b o v hm => by
    obtain ⟨x, hx, e⟩ := List.mem_map.1 hm
    cases e
    obtain ⟨h1, h2⟩ := h _ _ (List.mem_zipIdx_iff_getElem?.1 hx)
    exact ⟨hb, h1, h2⟩
end Go.Proofs.YtgfipifgijohhaaDoor
