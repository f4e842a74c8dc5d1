/-
  ONE WORD FOR WHAT STAYS WHILE A STATEMENT RUNS: cells, lists of numbers, wings, the drum; and the plain law of walk's rows.
-/
import Derived.Test.YtgfipifgijohhaaDoorWk
namespace Go.Proofs.YtgfipifgijohhaaDoor
open Go.RowKit

abbrev Cells := List (Nat × Nat × Value)

/-- what stays while a statement runs, block d being its drum's -/
structure LK (d : Nat) (cs : Cells) (li : List (Value × List Int)) (lw : List (Value × List Wing)) (w0 w : World) : Prop where
  below : Below w0.heap.size w0 w
  d0 : w0.heap.size ≤ d
  beat : Beat d w
  cell : ∀ b o v, (b, o, v) ∈ cs → b ≠ d ∧ w0.heap.size ≤ b ∧ w.cell? ⟨b, o, none⟩ = some v ∧ w.frozen? ⟨b, o, none⟩ = false
  ints : ∀ v xs, (v, xs) ∈ li → IntsAt (some d) w v xs ∧ (0 < xs.length → ∀ b o u, (b, o, u) ∈ cs → v.ownBlock ≠ some b)
  wgs : ∀ v ws, (v, ws) ∈ lw → WgAt (some d) w v ws ∧ (0 < ws.length → ∀ b o u, (b, o, u) ∈ cs → v.ownBlock ≠ some b)

variable {d : Nat} {cs cs' : Cells} {li : List (Value × List Int)} {lw : List (Value × List Wing)} {w0 w w' : World}

theorem LK.start (hb : Beat d w) (h : Below w0.heap.size w0 w) (hd : w0.heap.size ≤ d) : LK d [] [] [] w0 w :=
  ⟨h, hd, hb, (fun _ _ _ h => by cases h), (fun _ _ h => by cases h), (fun _ _ h => by cases h)⟩
theorem LK.lt (k : LK d cs li lw w0 w) : d < w.heap.size := k.beat.lt
theorem LK.c (k : LK d cs li lw w0 w) {b o : Nat} {v : Value} (h : (b, o, v) ∈ cs) : w.cell? ⟨b, o, none⟩ = some v := (k.cell b o v h).2.2.1
theorem LK.f (k : LK d cs li lw w0 w) {b o : Nat} {v : Value} (h : (b, o, v) ∈ cs) : w.frozen? ⟨b, o, none⟩ = false := (k.cell b o v h).2.2.2
theorem LK.clt (k : LK d cs li lw w0 w) {b o : Nat} {v : Value} (h : (b, o, v) ∈ cs) : b < w.heap.size := World.block_lt_of_cell? w ⟨b, o, none⟩ (k.c h)
theorem LK.i (k : LK d cs li lw w0 w) {v : Value} {xs : List Int} (h : (v, xs) ∈ li) : IntsAt (some d) w v xs := (k.ints v xs h).1
theorem LK.g (k : LK d cs li lw w0 w) {v : Value} {ws : List Wing} (h : (v, ws) ∈ lw) : WgAt (some d) w v ws := (k.wgs v ws h).1

theorem LK.go (k : LK d cs li lw w0 w) (hg : w.grownBy w' (some d)) (hb : Beat d w') : LK d cs li lw w0 w' where
  below := k.below.grown hg k.below.size (by intro j hj; simp at hj; have := k.d0; omega)
  d0 := k.d0
  beat := hb
  cell := fun b o v h => ⟨(k.cell b o v h).1, (k.cell b o v h).2.1, cell_gb hg (k.cell b o v h).1 (k.c h), frozen_gb hg (k.clt h) (k.cell b o v h).1 (k.f h)⟩
  ints := fun v xs h => ⟨(k.i h).kept hg, (k.ints v xs h).2⟩
  wgs := fun v ws h => ⟨(k.g h).kept hg, (k.wgs v ws h).2⟩
theorem LK.later (k : LK d cs li lw w0 w) (hb : Below w.heap.size w w') : LK d cs li lw w0 w' := k.go (gb_below hb _) (k.beat.gb hb)
theorem LK.alloc (k : LK d cs li lw w0 w) (X : Obj) : LK d cs li lw w0 (w.alloc X) := k.later (below_alloc w X)
theorem LK.drew (k : LK d cs li lw w0 w) : LK d cs li lw w0 w.drew := k.later (Below.refl _ w).drew
theorem LK.drewN (k : LK d cs li lw w0 w) (n : Nat) : LK d cs li lw w0 (w.drewN n) := k.later (below_drewN (Below.refl _ w) n)

theorem IntsAt.block {w : World} {v : Value} {xs : List Int} {o : Option Nat} (h : IntsAt o w v xs) (h0 : 0 < xs.length) : ∃ b, v.ownBlock = some b ∧ b < w.heap.size ∧ some b ≠ o := by
  obtain ⟨a, cap, rfl, hh⟩ := h
  obtain ⟨b, off, rfl, _, _, h3, h4, _⟩ := hh h0
  exact ⟨b, rfl, h4, h3⟩
theorem WgAt.block {w : World} {v : Value} {xs : List Wing} {o : Option Nat} (h : WgAt o w v xs) (h0 : 0 < xs.length) : ∃ b, v.ownBlock = some b ∧ b < w.heap.size ∧ some b ≠ o := by
  obtain ⟨a, cap, rfl, hh⟩ := h
  obtain ⟨b, off, rfl, _, _, h3, h4, _⟩ := hh h0
  exact ⟨b, rfl, h4, h3⟩

/-- a cell of a block that is new -/
theorem LK.addNew (k : LK d cs li lw w0 w) {X : Obj} (k' : LK d cs' li lw w0 (w.alloc X)) {o : Nat} {v : Value} (hc : (w.alloc X).cell? ⟨w.heap.size, o, none⟩ = some v) (hf : (w.alloc X).frozen? ⟨w.heap.size, o, none⟩ = false) : LK d ((w.heap.size, o, v) :: cs') li lw w0 (w.alloc X) where
  below := k'.below
  d0 := k'.d0
  beat := k'.beat
  cell := fun b o' u h => by
    rcases List.mem_cons.1 h with h | h
    · cases h; exact ⟨by have := k.lt; omega, k.below.size, hc, hf⟩
    · exact k'.cell b o' u h
  ints := fun v xs h => ⟨k'.i h, fun h0 b o' u hm => by
    rcases List.mem_cons.1 hm with hm | hm
    · cases hm
      obtain ⟨b, e, hb, _⟩ := (k.i h).block h0
      intro e2; rw [e] at e2; cases e2; omega
    · exact (k'.ints v xs h).2 h0 b o' u hm⟩
  wgs := fun v xs h => ⟨k'.g h, fun h0 b o' u hm => by
    rcases List.mem_cons.1 hm with hm | hm
    · cases hm
      obtain ⟨b, e, hb, _⟩ := (k.g h).block h0
      intro e2; rw [e] at e2; cases e2; omega
    · exact (k'.wgs v xs h).2 h0 b o' u hm⟩
theorem LK.box1 (k : LK d cs li lw w0 w) (x : Value) (t : TypeId) : LK d ((w.heap.size, 0, x) :: cs) li lw w0 (w.alloc (.cells #[x] t)) :=
  k.addNew (k.alloc _) (cell_at rfl rfl) (frozen_at rfl)
theorem LK.box2 (k : LK d cs li lw w0 w) (x y : Value) (t : TypeId) : LK d ((w.heap.size, 0, x) :: (w.heap.size, 1, y) :: cs) li lw w0 (w.alloc (.cells #[x, y] t)) :=
  k.addNew (k.addNew (k.alloc _) (cell_at rfl rfl) (frozen_at rfl)) (cell_at rfl rfl) (frozen_at rfl)
theorem LK.box3 (k : LK d cs li lw w0 w) (x y z : Value) (t : TypeId) : LK d ((w.heap.size, 0, x) :: (w.heap.size, 1, y) :: (w.heap.size, 2, z) :: cs) li lw w0 (w.alloc (.cells #[x, y, z] t)) :=
  k.addNew (k.addNew (k.addNew (k.alloc _) (cell_at rfl rfl) (frozen_at rfl)) (cell_at rfl rfl) (frozen_at rfl)) (cell_at rfl rfl) (frozen_at rfl)

/-- a list that a call has made -/
theorem LK.addInts (k : LK d cs li lw w0 w) (k' : LK d cs li lw w0 w') {v : Value} {xs : List Int} (h : OwnInts w.heap.size w' v xs) : LK d cs ((v, xs) :: li) lw w0 w' where
  below := k'.below
  d0 := k'.d0
  beat := k'.beat
  cell := k'.cell
  ints := fun v' xs' hm => by
    rcases List.mem_cons.1 hm with hm | hm
    · cases hm
      exact ⟨h.at (by intro j hj; cases hj; exact k.lt), fun _ b o u hb e => by
        have := k.clt hb
        have := (World.ownsRow.lt h b e).1
        omega⟩
    · exact k'.ints v' xs' hm
  wgs := k'.wgs
theorem LK.addWgs (k : LK d cs li lw w0 w) (k' : LK d cs li lw w0 w') {v : Value} {ws : List Wing} (h : OwnWg w.heap.size w' v ws) : LK d cs li ((v, ws) :: lw) w0 w' where
  below := k'.below
  d0 := k'.d0
  beat := k'.beat
  cell := k'.cell
  ints := k'.ints
  wgs := fun v' xs' hm => by
    rcases List.mem_cons.1 hm with hm | hm
    · cases hm
      exact ⟨h.at (by intro j hj; cases hj; exact k.lt), fun _ b o u hb e => by
        have := k.clt hb
        have := (World.ownsRow.lt h b e).1
        omega⟩
    · exact k'.wgs v' xs' hm
/-- a list that came in -/
theorem LK.rawInts (k : LK d [] li lw w0 w) {v : Value} {xs : List Int} (h : IntsAt none w0 v xs) : LK d [] ((v, xs) :: li) lw w0 w where
  below := k.below
  d0 := k.d0
  beat := k.beat
  cell := k.cell
  ints := fun v' xs' hm => by
    rcases List.mem_cons.1 hm with hm | hm
    · cases hm
      refine ⟨?_, fun _ b o u hb => by cases hb⟩
      have h' := h.below k.below
      have h0 := k.d0
      obtain ⟨a, cap, rfl, hh⟩ := h
      obtain ⟨a', cap', e, hh'⟩ := h'
      cases e
      refine ⟨_, _, rfl, fun hp => ?_⟩
      obtain ⟨b, off, e1, q1, q2, _, q4, q5⟩ := hh' hp
      obtain ⟨b', off', e1', _, _, _, q4', _⟩ := hh hp
      rw [e1] at e1'; cases e1'
      exact ⟨b, off, e1, q1, q2, by intro e; cases e; omega, q4, q5⟩
    · exact k.ints v' xs' hm
  wgs := k.wgs
theorem LK.rawWgs (k : LK d [] li lw w0 w) {v : Value} {xs : List Wing} (h : WgAt none w0 v xs) : LK d [] li ((v, xs) :: lw) w0 w where
  below := k.below
  d0 := k.d0
  beat := k.beat
  cell := k.cell
  ints := k.ints
  wgs := fun v' xs' hm => by
    rcases List.mem_cons.1 hm with hm | hm
    · cases hm
      refine ⟨?_, fun _ b o u hb => by cases hb⟩
      have h' := h.below k.below
      have h0 := k.d0
      obtain ⟨a, cap, rfl, hh⟩ := h
      obtain ⟨a', cap', e, hh'⟩ := h'
      cases e
      refine ⟨_, _, rfl, fun hp => ?_⟩
      obtain ⟨b, off, e1, q1, q2, _, q4, q5⟩ := hh' hp
      obtain ⟨b', off', e1', _, _, _, q4', _⟩ := hh hp
      rw [e1] at e1'; cases e1'
      exact ⟨b, off, e1, q1, q2, by intro e; cases e; omega, q4, q5⟩
    · exact k.wgs v' xs' hm

/-- the cells behind a store -/
def upd (cs : Cells) (b o : Nat) (u : Value) : Cells := cs.map fun x => if x.1 = b ∧ x.2.1 = o then (b, o, u) else x

theorem IntsAt.put {w : World} {v : Value} {xs : List Int} {q : Option Nat} {b o : Nat} {u : Value} (h : IntsAt q w v xs) (hb : 0 < xs.length → v.ownBlock ≠ some b) : IntsAt q (w.setCell ⟨b, o, none⟩ u) v xs := by
  obtain ⟨a, cap, rfl, hh⟩ := h
  refine ⟨a, cap, rfl, fun h0 => ?_⟩
  have hb := hb h0
  obtain ⟨b', off, rfl, h1, h2, h3, h4, h5⟩ := hh h0
  exact ⟨b', off, rfl, h1, h2, h3, by simpa using h4, fun i hi => cell_set_far (by intro e; subst e; exact hb rfl) (h5 i hi)⟩
theorem WgAt.put {w : World} {v : Value} {xs : List Wing} {q : Option Nat} {b o : Nat} {u : Value} (h : WgAt q w v xs) (hb : 0 < xs.length → v.ownBlock ≠ some b) : WgAt q (w.setCell ⟨b, o, none⟩ u) v xs := by
  obtain ⟨a, cap, rfl, hh⟩ := h
  refine ⟨a, cap, rfl, fun h0 => ?_⟩
  have hb := hb h0
  obtain ⟨b', off, rfl, h1, h2, h3, h4, h5⟩ := hh h0
  have hf : ∀ {o' : Nat} {x : Value}, w.cell? ⟨b', o', none⟩ = some x → (w.setCell ⟨b, o, none⟩ u).cell? ⟨b', o', none⟩ = some x := fun h => cell_set_far (by intro e; subst e; exact hb rfl) h
  exact ⟨b', off, rfl, h1, h2, h3, by simpa using h4, fun i hi => ⟨hf (h5 i hi).1, hf (h5 i hi).2.1, hf (h5 i hi).2.2.1, hf (h5 i hi).2.2.2⟩⟩

theorem LK.put (k : LK d cs li lw w0 w) {b o : Nat} {v : Value} (h : (b, o, v) ∈ cs) (u : Value) : LK d (upd cs b o u) li lw w0 (w.setCell ⟨b, o, none⟩ u) := by
  obtain ⟨hbd, hb0, hc, hf⟩ := k.cell b o v h
  have hmem : ∀ b' o' u', (b', o', u') ∈ upd cs b o u → (b' = b ∧ o' = o ∧ u' = u) ∨ ((b', o', u') ∈ cs ∧ ¬ (b' = b ∧ o' = o)) := fun b' o' u' hm => by
    unfold upd at hm
    rw [List.mem_map] at hm
    obtain ⟨⟨x1, x2, x3⟩, hx, e⟩ := hm
    split at e
    · cases e; exact .inl ⟨rfl, rfl, rfl⟩
    · rename_i hne
      cases e; exact .inr ⟨hx, hne⟩
  have hmemb : ∀ b' o' u', (b', o', u') ∈ upd cs b o u → ∃ o2 u2, (b', o2, u2) ∈ cs := fun b' o' u' hm => by
    rcases hmem _ _ _ hm with ⟨rfl, rfl, rfl⟩ | ⟨h1, _⟩
    · exact ⟨_, _, h⟩
    · exact ⟨_, _, h1⟩
  refine ⟨k.below.setCell (p := ⟨b, o, none⟩) hb0 u, k.d0, k.beat.putFar hbd, fun b' o' u' hm => ?_, fun v xs hm => ?_, fun v xs hm => ?_⟩
  · rcases hmem _ _ _ hm with ⟨rfl, rfl, rfl⟩ | ⟨h1, hne⟩
    · exact ⟨hbd, hb0, World.cell?_setCell_same _ _ _ hc, (World.frozen?_setCell _ _ _ _).trans hf⟩
    · refine ⟨(k.cell _ _ _ h1).1, (k.cell _ _ _ h1).2.1, (World.cell?_setCell_other _ _ _ _ (by intro e; cases e; exact hne ⟨rfl, rfl⟩)).trans (k.c h1), (World.frozen?_setCell _ _ _ _).trans (k.f h1)⟩
  · refine ⟨(k.i hm).put (fun h0 => (k.ints v xs hm).2 h0 b o _ h), fun h0 b' o' u' hm' => ?_⟩
    obtain ⟨o2, u2, h2⟩ := hmemb _ _ _ hm'
    exact (k.ints v xs hm).2 h0 b' o2 u2 h2
  · refine ⟨(k.g hm).put (fun h0 => (k.wgs v xs hm).2 h0 b o _ h), fun h0 b' o' u' hm' => ?_⟩
    obtain ⟨o2, u2, h2⟩ := hmemb _ _ _ hm'
    exact (k.wgs v xs hm).2 h0 b' o2 u2 h2

theorem upd_far {cs : Cells} {b o : Nat} {u : Value} (h : ∀ b' o' v, (b', o', v) ∈ cs → b' ≠ b) : upd cs b o u = cs := by
  unfold upd
  conv => rhs; rw [← List.map_id cs]
  refine List.map_congr_left (fun x hx => ?_)
  rw [if_neg (by rintro ⟨e, _⟩; exact h x.1 x.2.1 x.2.2 hx e)]
  rfl
theorem LK.put2 {Z : Nat} {x y x' y' : Value} (k : LK d ((Z, 0, x) :: (Z, 1, y) :: cs) li lw w0 w) (h : ∀ b o v, (b, o, v) ∈ cs → b ≠ Z) :
    LK d ((Z, 0, x') :: (Z, 1, y') :: cs) li lw w0 ((w.setCell ⟨Z, 0, none⟩ x').setCell ⟨Z, 1, none⟩ y') := by
  have k1 := k.put (List.Mem.head _) x'
  have e1 : upd ((Z, 0, x) :: (Z, 1, y) :: cs) Z 0 x' = (Z, 0, x') :: (Z, 1, y) :: cs := by
    have := upd_far (o := 0) (u := x') h
    unfold upd at *
    simp [this]
  rw [e1] at k1
  have k2 := k1.put (o := 1) (v := y) (List.Mem.tail _ (List.Mem.head _)) y'
  have e2 : upd ((Z, 0, x') :: (Z, 1, y) :: cs) Z 1 y' = (Z, 0, x') :: (Z, 1, y') :: cs := by
    have := upd_far (o := 1) (u := y') h
    unfold upd at *
    simp [this]
  rw [e2] at k2
  exact k2
theorem LK.put3 {Z : Nat} {x y z x' y' z' : Value} (k : LK d ((Z, 0, x) :: (Z, 1, y) :: (Z, 2, z) :: cs) li lw w0 w) (h : ∀ b o v, (b, o, v) ∈ cs → b ≠ Z) :
    LK d ((Z, 0, x') :: (Z, 1, y') :: (Z, 2, z') :: cs) li lw w0 (((w.setCell ⟨Z, 0, none⟩ x').setCell ⟨Z, 1, none⟩ y').setCell ⟨Z, 2, none⟩ z') := by
  have k1 := k.put (List.Mem.head _) x'
  have e1 : upd ((Z, 0, x) :: (Z, 1, y) :: (Z, 2, z) :: cs) Z 0 x' = (Z, 0, x') :: (Z, 1, y) :: (Z, 2, z) :: cs := by
    have := upd_far (o := 0) (u := x') h
    unfold upd at *
    simp [this]
  rw [e1] at k1
  have k2 := k1.put (o := 1) (v := y) (List.Mem.tail _ (List.Mem.head _)) y'
  have e2 : upd ((Z, 0, x') :: (Z, 1, y) :: (Z, 2, z) :: cs) Z 1 y' = (Z, 0, x') :: (Z, 1, y') :: (Z, 2, z) :: cs := by
    have := upd_far (o := 1) (u := y') h
    unfold upd at *
    simp [this]
  rw [e2] at k2
  have k3 := k2.put (o := 2) (v := z) (List.Mem.tail _ (List.Mem.tail _ (List.Mem.head _))) z'
  have e3 : upd ((Z, 0, x') :: (Z, 1, y') :: (Z, 2, z) :: cs) Z 2 z' = (Z, 0, x') :: (Z, 1, y') :: (Z, 2, z') :: cs := by
    have := upd_far (o := 2) (u := z') h
    unfold upd at *
    simp [this]
  rw [e3] at k3
  exact k3

/-- the world gets a name -/
theorem LK.name (k : LK d cs li lw w0 w) : ∃ w', w = w' ∧ LK d cs li lw w0 w' := ⟨w, rfl, k⟩

theorem IntsAt.cell {q : Option Nat} {w : World} {b off n c : Nat} {xs : List Int} (h : IntsAt q w (.slice (some ⟨b, off, none⟩) n c) xs) {i : Nat} (hi : i < xs.length) : w.cell? ⟨b, off + i, none⟩ = some (.int .i64 (nm xs i)) := by
  obtain ⟨a, cap, e, hh⟩ := h
  cases e
  obtain ⟨b', off', e, _, _, _, _, h5⟩ := hh (by omega)
  cases e
  exact h5 i hi
theorem WgAt.cells {q : Option Nat} {w : World} {b off n c : Nat} {ws : List Wing} (h : WgAt q w (.slice (some ⟨b, off, none⟩) n c) ws) {i : Nat} (hi : i < ws.length) :
    w.cell? ⟨b, off + i * 4, none⟩ = some (.string (wg ws i).name) ∧ w.cell? ⟨b, off + i * 4 + 1, none⟩ = some (.int .i64 (wg ws i).len) ∧ w.cell? ⟨b, off + i * 4 + 2, none⟩ = some (.int .i64 (wg ws i).lo) ∧ w.cell? ⟨b, off + i * 4 + 2 + 1, none⟩ = some (.int .i64 (wg ws i).hi) := by
  obtain ⟨a, cap, e, hh⟩ := h
  cases e
  obtain ⟨b', off', e, _, _, _, _, h5⟩ := hh (by omega)
  cases e
  exact h5 i hi
theorem IntsAt.slice {q : Option Nat} {w : World} {v : Value} {xs : List Int} (h : IntsAt q w v xs) (h0 : 0 < xs.length) : ∃ b off c, v = .slice (some ⟨b, off, none⟩) xs.length c ∧ xs.length ≤ c ∧ c ≤ maxLen := by
  obtain ⟨a, cap, rfl, hh⟩ := h
  obtain ⟨b, off, rfl, h1, h2, _, _, _⟩ := hh h0
  exact ⟨b, off, cap, rfl, h1, h2⟩
theorem WgAt.slice {q : Option Nat} {w : World} {v : Value} {xs : List Wing} (h : WgAt q w v xs) (h0 : 0 < xs.length) : ∃ b off c, v = .slice (some ⟨b, off, none⟩) xs.length c ∧ xs.length ≤ c ∧ c ≤ maxLen := by
  obtain ⟨a, cap, rfl, hh⟩ := h
  obtain ⟨b, off, rfl, h1, h2, _, _, _⟩ := hh h0
  exact ⟨b, off, cap, rfl, h1, h2⟩

/-! ### the rows of walk -/

theorem rowN_low {ws : List Wing} {st ps : List Int} {t : Int} : ∀ (k i : Nat), i < k → nm (rowN ws st ps t k) i = nm (rowN ws st ps t (i + 1)) i := by
  intro k
  induction k with
  | zero => intro i hi; omega
  | succ k ih =>
    intro i hi
    by_cases h : i < k
    · rw [← ih i h]; simp only [rowN]; rw [nm_snoc, rowN_length, if_pos h]
    · obtain rfl : i = k := by omega
      rfl

theorem starts_up {route : Int} {ws : List Wing} {st : List Int} (h : checkStarts route ws st = 0) : ∀ i, i + 1 < st.length → nm st i ≤ nm st (i + 1) := by
  intro i hi
  obtain ⟨hc, hl, hf⟩ := starts_zero h
  obtain ⟨_, _, _, _, hh⟩ := check_zero hc
  have h1 := hf (i + 1) hi
  unfold startErr at h1
  split at h1
  · omega
  · split at h1
    · omega
    · rename_i h2
      have h3 : leastOf ws st (i + 1) = passed (Ln ws) (nm st) (Lo ws) i (Ln ws i) := rfl
      have h4 := passed_ge_start (L := Ln ws) (S := nm st) (P := Lo ws) (k := i) (fun j hj => by have := hh j (by omega); unfold Lo; omega) (fun j hj => by have := hh j (by omega); unfold Ln; omega) (x := Ln ws i) (by have := hh i (by omega); unfold Ln; omega) i (Nat.le_refl _)
      omega

/-- the place of wing i in a second, for true paces; -1 before its start -/
theorem rowN_front {route : Int} {ws : List Wing} {st ps : List Int} (h : checkStarts route ws st = 0) {t : Int} : ∀ i, i < ws.length → nm (rowN ws st ps t ws.length) i = if t < nm st i then -1 else front (Ln ws) (nm st) (nm ps) i t := by
  obtain ⟨hc, hl, hf⟩ := starts_zero h
  intro i
  induction i with
  | zero =>
    intro hi
    rw [rowN_low _ _ hi]
    simp only [rowN]
    rw [nm_snoc]
    simp [front]
  | succ i ih =>
    intro hi
    have hu := starts_up h i (by omega)
    have ih' := ih (by omega)
    rw [rowN_low _ _ (by omega)] at ih'
    rw [rowN_low _ _ hi]
    rw [rowN, nm_snoc, rowN_length, if_neg (by omega), if_pos rfl]
    by_cases ht : t < nm st (i + 1)
    · rw [if_pos ht, if_pos ht]
    · rw [if_neg ht, if_neg ht, if_neg (by omega), Nat.add_sub_cancel, ih', if_neg (by omega)]
      rfl

theorem rowsN_at (ws : List Wing) (st ps : List Int) (n t : Nat) (h : t < n) : (rowsN ws st ps n)[t]? = some (rowN ws st ps t ws.length) := by
  simp [rowsN, List.getElem?_range h]
end Go.Proofs.YtgfipifgijohhaaDoor
