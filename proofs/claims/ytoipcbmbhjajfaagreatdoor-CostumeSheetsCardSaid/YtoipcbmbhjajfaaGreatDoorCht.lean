/-
  WHAT STAYS while the cheapest wear is looked for: three cells, the wear so far and the best wear; an append that leaves the list behind it as it was. And the plain law of a search that stops early.
  WALK: the closure that looks for the cheapest wear and calls itself.
  WALK: the closure that looks for the cheapest wear: a wear that is not whole yet.
  WALKS: cheapest, Cheapest.
-/
import Derived.Test.YtoipcbmbhjajfaaGreatDoorCfw
import Derived.Test.YtoipcbmbhjajfaaGreatDoorApp
import Derived.WalkMore
import Derived.Deep.LoopGhost
import Derived.Deep.CutRange
import Derived.BigQuiet
import Derived.Deep.QuietTactic
namespace Go.Proofs.YtoipcbmbhjajfaaGreatDoor
open Go.RowKit

/-- where a list lies that is one number longer -/
def Wake (n0 : Nat) (v v' : Value) (n : Nat) : Prop := (∃ g c, v = .slice (some ⟨g, 0, none⟩) n c ∧ v' = .slice (some ⟨g, 0, none⟩) (n + 1) c) ∨ v'.ownBlock = some n0
theorem OwnInts.back {base : Nat} {w : World} {g n c : Nat} {xs : List Int} {y : Int} (hn : xs.length = n) (h : OwnInts base w (.slice (some ⟨g, 0, none⟩) (n + 1) c) (xs ++ [y])) : OwnInts base w (.slice (some ⟨g, 0, none⟩) n c) xs := by
  subst hn
  obtain ⟨h1, h2⟩ := h
  rcases h2 with ⟨e, _⟩ | ⟨g', cap, cur, e, hb, hh, q1, q2, q3, q4⟩
  · cases e
  · injection e with e1 _ e3
    injection e1 with e1
    injection e1 with e1
    subst e1
    subst e3
    refine ⟨by simp, .inr ⟨g, c, cur, rfl, hb, hh, by simp at q1; omega, q2, q3, ?_⟩⟩
    have := congrArg (List.take xs.length) q4
    simpa [List.take_take] using this

theorem OwnInts.lt' {base : Nat} {w : World} {v : Value} {xs : List Int} (h : OwnInts base w v xs) {g : Nat} (hg : v.ownBlock = some g) : base ≤ g ∧ g < w.heap.size := World.ownsRow.lt h g hg

theorem run_app_keep {w : World} (ty : TypeId) (base : Nat) (xs : List Int) (y : Int) (v : Value) (B c0 : Nat) (hown : OwnInts base w v xs) (hc : w.cell? ⟨B, 0, none⟩ = some (.int .i64 y)) (hn : xs.length ≤ 1000000) (hbase : base ≤ w.heap.size) :
    ∃ v' w', (Builtin.append_ #[24, 24] ty #[v, .slice (some ⟨B, 0, none⟩) 1 c0]).run Tryz.prog w = .ok v' w' ∧ OwnInts base w' v' (xs ++ [y]) ∧ OwnInts base w' v xs ∧ w.grownBy w' v.ownBlock ∧ Wake w.heap.size v v' xs.length := by
  obtain ⟨i0, hi, hz0, hz1, hz2⟩ := info_parts infoInt
  have hnews : ∀ j u, [Value.int .i64 y][j]? = some u → w.cell? ((⟨B, 0, none⟩ : Addr).add j) = some u := by
    intro j u hj
    cases j with
    | zero => simp at hj; subst hj; simpa [Addr.add] using hc
    | succ j => simp at hj
  obtain ⟨v', w', hr, h2, h3, h4, h5⟩ := run_append_own_at (P := Tryz.prog) w base 24 ty 3 i0 (.int .i64 0) 1 8 Tryz.underlying24 hi hz0 hz1 hz2 rfl (by decide) v xs.length (xs.map (Value.int .i64)) hown ⟨B, 0, none⟩ 1 c0 [.int .i64 y] rfl hnews
    (by intro u hu; simp at hu; subst hu; rfl) (by unfold maxLen; omega) (by omega) hbase
  have hown' : OwnInts base w' v' (xs ++ [y]) := by unfold OwnInts; simpa using h2
  have hv := hown
  obtain ⟨hl, hv2⟩ := hv
  rcases hv2 with ⟨rfl, h0⟩ | ⟨g, cap, cur, rfl, hbg, hg, hnc, hcm, hcs, htake⟩
  · refine ⟨v', w', hr, hown', ⟨hl, .inl ⟨rfl, h0⟩⟩, h3, .inr ?_⟩
    rcases h5 with h5 | h5
    · obtain ⟨_, q⟩ := hown'
      rcases q with ⟨e, q⟩ | ⟨g, _, _, e, _⟩
      · exact absurd q (by simp)
      · rw [e] at h5; cases h5
    · exact h5
  · by_cases hroom : xs.length + 1 ≤ cap
    · have hr2 := run_append_room (P := Tryz.prog) w 24 ty 3 i0 Tryz.underlying24 hi g xs.length cap cur hg ⟨B, 0, none⟩ 1 c0 [.int .i64 y] (by rw [hz1]; rfl) hnews (by intro u hu; simp at hu; subst hu; rfl) hroom (by rw [hz1, hcs]; simp; omega)
      rw [hr] at hr2
      injection hr2 with e1 e2
      subst e1
      exact ⟨_, w', hr, hown', OwnInts.back rfl hown', h3, .inl ⟨g, cap, rfl, rfl⟩⟩
    · have holds : ∀ j u, (xs.map (Value.int .i64))[j]? = some u → w.cell? ((⟨g, 0, none⟩ : Addr).add j) = some u := World.ownsRow.cells hown (g := g) rfl
      have hr2 := run_append_grow (P := Tryz.prog) w 24 ty 3 i0 (.int .i64 0) Tryz.underlying24 hi hz0 ⟨g, 0, none⟩ xs.length cap (xs.map (Value.int .i64)) (by rw [hz1]; simp) holds ⟨B, 0, none⟩ 1 c0 [.int .i64 y] (by rw [hz1]; rfl) hnews (by omega) (by omega) (growslice_fits (by omega) (by rw [hz2]; omega))
      rw [hr] at hr2
      injection hr2 with e1 e2
      subst e1
      refine ⟨_, w', hr, hown', ?_, h3, .inr rfl⟩
      rw [e2]
      exact World.ownsRow.kept hown (gb_below (below_trans (show Below w.heap.size w w.drew from (Below.refl _ _).drew) (below_alloc _ _)) none) (.inr (by simp [Value.ownBlock]))

theorem step_app_keep {w : World} {ops : Array Oper} {o : Oper} {a : Act} {K : Act → World → Prop} {Q : Exit → Act → World → Prop} {E : Prop} (hgd : o.guard = none) (s x : Operand)
    (ho : o.op = .call { callee := .builtin .append, args := #[s, x], argTypes := #[24, 24] })
    (base : Nat) (xs : List Int) (y : Int) (v : Value) (B c0 : Nat) (hown : OwnInts base w v xs) (hc : w.cell? ⟨B, 0, none⟩ = some (.int .i64 y)) (hs : a.eval s = v) (hx : a.eval x = .slice (some ⟨B, 0, none⟩) 1 c0)
    (hn : xs.length ≤ 1000000) (hbase : base ≤ w.heap.size)
    (h : ∀ a1 c w', OwnInts base w' (.slice a1 (xs.length + 1) c) (xs ++ [y]) → OwnInts base w' v xs → w.grownBy w' v.ownBlock → Wake w.heap.size v (.slice a1 (xs.length + 1) c) xs.length → K (a.put o.dst (.slice a1 (xs.length + 1) c)) w') :
    if Region.wanted o (yielded ops a.tmps) = true then Oper.wp Tryz.prog o a w K Q else E := by
  rw [if_pos (by simp [Region.wanted, hgd])]
  obtain ⟨v', w', hr, h2, h3, h4, h5⟩ := run_app_keep o.type base xs y v B c0 hown hc hn hbase
  obtain ⟨a1, c, e⟩ := (own_int.2 h2).form
  rw [List.length_append] at e
  subst e
  unfold Oper.wp execOp
  simp only [ho, resolve, invoke, builtin, Sem.run_bind, Sem.run_pure, Result.andThen_ok, List.map_toArray, List.map_cons, List.map_nil, hs, hx, hr]
  exact h _ _ _ h2 h3 h4 h5

/-! ### the frame -/
structure FrC (S G F : Nat) (row : Option Nat) (w w' : World) : Prop where
  size : w.heap.size ≤ w'.heap.size
  same : ∀ i, i < w.heap.size → i ≠ S → i ≠ G → i ≠ F → some i ≠ row → w'.heap[i]? = w.heap[i]?
theorem FrC.refl (S G F : Nat) (row : Option Nat) (w : World) : FrC S G F row w w := ⟨Nat.le_refl _, fun _ _ _ _ _ _ => rfl⟩
theorem FrC.of_below {S G F : Nat} {row : Option Nat} {w w' : World} (h : Below w.heap.size w w') : FrC S G F row w w' := ⟨h.size, fun i hi _ _ _ _ => h.block i hi⟩
theorem FrC.of_grown {S G F : Nat} {row : Option Nat} {w w' : World} (h : w.grownBy w' row) : FrC S G F row w w' := ⟨h.size, fun i hi _ _ _ hr => h.block i hi hr⟩
theorem FrC.trans {S G F : Nat} {row row' : Option Nat} {w w' w'' : World} (h : FrC S G F row w w') (k : FrC S G F row' w' w'') (hr : ∀ g, row' = some g → row = some g ∨ w.heap.size ≤ g) : FrC S G F row w w'' :=
  ⟨Nat.le_trans h.size k.size, fun i hi h1 h2 h3 h4 => (k.same i (Nat.lt_of_lt_of_le hi h.size) h1 h2 h3 (fun e => by
    rcases hr i e.symm with h5 | h5
    · exact h4 h5.symm
    · omega)).trans (h.same i hi h1 h2 h3 h4)⟩
theorem FrC.trans' {S G F : Nat} {row : Option Nat} {w w' w'' : World} (h : FrC S G F row w w') (k : FrC S G F row w' w'') : FrC S G F row w w'' := h.trans k (fun _ e => .inl e)
theorem FrC.put {S G F : Nat} {row : Option Nat} {w : World} {b : Nat} (hb : b = S ∨ b = G ∨ b = F) (o : Nat) (u : Value) : FrC S G F row w (w.setCell ⟨b, o, none⟩ u) :=
  ⟨by simp [World.setCell], fun i _ h1 h2 h3 _ => Below.heap_setCell _ _ _ i (by rcases hb with rfl | rfl | rfl <;> assumption)⟩
theorem OwnInts.frc {base : Nat} {w w' : World} {v : Value} {xs : List Int} (h : OwnInts base w v xs) {S G F : Nat} {row : Option Nat} (hf : FrC S G F row w w') (hS : S < base) (hG : G < base) (hF : F < base) (hr : ∀ g, v.ownBlock = some g → row ≠ some g) : OwnInts base w' v xs := by
  obtain ⟨h1, h2⟩ := h
  refine ⟨h1, ?_⟩
  rcases h2 with h2 | ⟨g, cap, cur, e, hb, hh, q⟩
  · exact .inl h2
  · have hlt := (Array.getElem?_eq_some_iff.1 hh).1
    exact .inr ⟨g, cap, cur, e, hb, (hf.same g hlt (by omega) (by omega) (by omega) (fun e2 => hr g (by rw [e]; rfl) e2.symm)).trans hh, q⟩

/-- the best wear so far, in three cells -/
def StB (base : Nat) (w : World) (vb : Value) (g : Int) (f : Bool) : Option (List Int × Int) → Prop
  | none => f = false ∧ vb = .slice none 0 0 ∧ g = 0
  | some (l, c) => f = true ∧ g = c ∧ OwnInts base w vb l
theorem StB.frc {base : Nat} {w w' : World} {vb : Value} {g : Int} {f : Bool} {s : Option (List Int × Int)} (h : StB base w vb g f s) {S G F : Nat} {row : Option Nat} (hf : FrC S G F row w w') (hS : S < base) (hG : G < base) (hF : F < base) (hr : ∀ g, vb.ownBlock = some g → row ≠ some g) : StB base w' vb g f s := by
  cases s with
  | none => exact h
  | some x => obtain ⟨l, c⟩ := x; exact ⟨h.1, h.2.1, h.2.2.frc hf hS hG hF hr⟩
theorem StB.lt {base : Nat} {w : World} {vb : Value} {g : Int} {f : Bool} {s : Option (List Int × Int)} (h : StB base w vb g f s) {b : Nat} (hb : vb.ownBlock = some b) : base ≤ b ∧ b < w.heap.size := by
  cases s with
  | none => obtain ⟨_, e, _⟩ := h; rw [e] at hb; cases hb
  | some x => obtain ⟨l, c⟩ := x; exact h.2.2.lt' hb

theorem HK.grown {cs : Cells} {w0 w w' : World} {row : Option Nat} (k : HK cs w0 w) (hg : w.grownBy w' row) {base : Nat} (hr : ∀ g, row = some g → base ≤ g) (hb : w0.heap.size ≤ base) (hcs : ∀ b o v, (b, o, v) ∈ cs → b < base) : HK cs w0 w' :=
  ⟨k.below.grown hg k.below.size (fun g e => Nat.le_trans hb (hr g e)), fun b o v hm => by
    obtain ⟨q1, q2, q3⟩ := k.cell b o v hm
    have hlt := hcs b o v hm
    have hne : some b ≠ row := fun e => by have := hr b e.symm; omega
    have hbl := hg.block b (World.block_lt_of_cell? w ⟨b, o, none⟩ q2) hne
    exact ⟨q1, (World.cell?_of_block (a := ⟨b, o, none⟩) hbl).trans q2, (World.frozen?_of_block (a := ⟨b, o, none⟩) hbl).trans q3⟩⟩

theorem HK.put3 {S G F : Nat} {vb vb' vg vg' vf vf' : Value} {cs : Cells} {w0 w : World} (k : HK ((S, 0, vb) :: (G, 0, vg) :: (F, 0, vf) :: cs) w0 w) (hcs : ∀ b o v, (b, o, v) ∈ cs → b ≠ S ∧ b ≠ G ∧ b ≠ F) (hSG : S ≠ G) (hSF : S ≠ F) (hGF : G ≠ F) :
    HK ((S, 0, vb') :: (G, 0, vg') :: (F, 0, vf') :: cs) w0 (((w.setCell ⟨S, 0, none⟩ vb').setCell ⟨G, 0, none⟩ vg').setCell ⟨F, 0, none⟩ vf') := by
  have s1 := k.cell S 0 vb (by simp)
  have s2 := k.cell G 0 vg (by simp)
  have s3 := k.cell F 0 vf (by simp)
  refine ⟨((k.below.setCell (p := ⟨S, 0, none⟩) s1.1 _).setCell (p := ⟨G, 0, none⟩) s2.1 _).setCell (p := ⟨F, 0, none⟩) s3.1 _, fun b o v hm => ?_⟩
  simp only [World.frozen?_setCell]
  rcases List.mem_cons.1 hm with e | hm
  · cases e
    exact ⟨s1.1, cell_set_far (Ne.symm hSF) (cell_set_far (Ne.symm hSG) (World.cell?_setCell_same _ _ _ s1.2.1)), s1.2.2⟩
  rcases List.mem_cons.1 hm with e | hm
  · cases e
    exact ⟨s2.1, cell_set_far (Ne.symm hGF) (World.cell?_setCell_same _ _ _ (cell_set_far hSG s2.2.1)), s2.2.2⟩
  rcases List.mem_cons.1 hm with e | hm
  · cases e
    exact ⟨s3.1, World.cell?_setCell_same _ _ _ (cell_set_far hGF (cell_set_far hSF s3.2.1)), s3.2.2⟩
  · obtain ⟨n1, n2, n3⟩ := hcs b o v hm
    obtain ⟨q1, q2, q3⟩ := k.cell b o v (by simp [hm])
    exact ⟨q1, cell_set_far (Ne.symm n3) (cell_set_far (Ne.symm n2) (cell_set_far (Ne.symm n1) q2)), q3⟩

/-! ### all of it -/
structure Rdy (S G F base : Nat) (cs : Cells) (w0 : World) (vn : Value) (b : List Int) (vb : Value) (g : Int) (f : Bool) (s : Option (List Int × Int)) (w : World) : Prop where
  own : OwnInts base w vn b
  st : StB base w vb g f s
  sep : ∀ x, vb.ownBlock = some x → vn.ownBlock ≠ some x
  k : HK ((S, 0, vb) :: (G, 0, .int .i64 g) :: (F, 0, .bool f) :: cs) w0 w
  hb : base ≤ w.heap.size
structure Ctx (S G F base : Nat) (cs : Cells) (w0 : World) : Prop where
  hcs : ∀ b o v, (b, o, v) ∈ cs → b ≠ S ∧ b ≠ G ∧ b ≠ F
  low : ∀ b o v, (b, o, v) ∈ cs → b < base
  hSG : S ≠ G
  hSF : S ≠ F
  hGF : G ≠ F
  hS : S < base
  hG : G < base
  hF : F < base
  hb : w0.heap.size ≤ base
theorem Ctx.lows {S G F base : Nat} {cs : Cells} {w0 : World} (c : Ctx S G F base cs w0) {vb vg vf : Value} : ∀ b o v, (b, o, v) ∈ ((S, 0, vb) :: (G, 0, vg) :: (F, 0, vf) :: cs) → b < base := fun b o v hm => by
  have := c.hS; have := c.hG; have := c.hF
  rcases List.mem_cons.1 hm with e | hm
  · cases e; assumption
  rcases List.mem_cons.1 hm with e | hm
  · cases e; assumption
  rcases List.mem_cons.1 hm with e | hm
  · cases e; assumption
  exact c.low b o v hm
theorem Rdy.later {S G F base : Nat} {cs : Cells} {w0 : World} {vn : Value} {b : List Int} {vb : Value} {g : Int} {f : Bool} {s : Option (List Int × Int)} {w w' : World} (r : Rdy S G F base cs w0 vn b vb g f s w) (c : Ctx S G F base cs w0) (h : Below w.heap.size w w') : Rdy S G F base cs w0 vn b vb g f s w' :=
  ⟨OwnInts.later r.own h, r.st.frc (FrC.of_below (row := none) h) c.hS c.hG c.hF (fun _ _ e => by cases e), r.sep, r.k.later h, Nat.le_trans r.hb h.size⟩
/-- behind an append to the wear -/
theorem Rdy.app {S G F base : Nat} {cs : Cells} {w0 : World} {vn v3 : Value} {b : List Int} {n : Int} {vb : Value} {g : Int} {f : Bool} {s : Option (List Int × Int)} {w w' : World} (r : Rdy S G F base cs w0 vn b vb g f s w) (c : Ctx S G F base cs w0)
    (hg : w.grownBy w' vn.ownBlock) (h3 : OwnInts base w' v3 (b ++ [n])) (hw : Wake w.heap.size vn v3 b.length) : Rdy S G F base cs w0 v3 (b ++ [n]) vb g f s w' :=
  ⟨h3, r.st.frc (FrC.of_grown hg) c.hS c.hG c.hF r.sep, fun x hx => by
    rcases hw with ⟨g', c', e1, e2⟩ | hw
    · have := r.sep x hx
      rw [e1] at this
      rw [e2]
      exact this
    · rw [hw]
      have := (r.st.lt hx).2
      intro e
      have := Option.some.inj e
      omega, r.k.grown hg (fun g e => (r.own.lt' e).1) c.hb c.lows, Nat.le_trans r.hb hg.size⟩
/-- and back -/
theorem Rdy.back {S G F base : Nat} {cs : Cells} {w0 : World} {vn v3 : Value} {b : List Int} {n : Int} {vb vb' : Value} {g g' : Int} {f f' : Bool} {s s' : Option (List Int × Int)} {w w' w'' : World} (r : Rdy S G F base cs w0 vn b vb g f s w) (c : Ctx S G F base cs w0)
    (hg : w.grownBy w' vn.ownBlock) (hn : OwnInts base w' vn b) (hw : Wake w.heap.size vn v3 b.length)
    (r2 : Rdy S G F base cs w0 v3 (b ++ [n]) vb' g' f' s' w'') (hf : FrC S G F v3.ownBlock w' w'') (hv : ∀ x, vb'.ownBlock = some x → vb.ownBlock = some x ∨ w'.heap.size ≤ x) :
    Rdy S G F base cs w0 vn b vb' g' f' s' w'' ∧ FrC S G F vn.ownBlock w w'' ∧ (∀ x, vb'.ownBlock = some x → vb.ownBlock = some x ∨ w.heap.size ≤ x) := by
  refine ⟨⟨?_, r2.st, fun x hx e => ?_, r2.k, r2.hb⟩, (FrC.of_grown hg).trans hf (fun x e => ?_), fun x hx => (hv x hx).imp id (fun h => Nat.le_trans hg.size h)⟩
  · rcases hw with ⟨g', c', e1, e2⟩ | hw
    · have := r2.own
      rw [e2] at this
      rw [e1]
      exact OwnInts.back rfl this
    · refine hn.frc hf c.hS c.hG c.hF (fun x hx e => ?_)
      rw [hw] at e
      have := (r.own.lt' hx).2
      have := Option.some.inj e
      omega
  · rcases hv x hx with h | h
    · exact r.sep x h e
    · have := (r.own.lt' e).2
      have := hg.size
      omega
  · rcases hw with ⟨g', c', e1, e2⟩ | hw
    · rw [e2] at e; rw [e1]; exact .inl e
    · rw [hw] at e; exact .inr (by have := Option.some.inj e; omega)

/-- a new best wear -/
theorem Rdy.store {S G F base : Nat} {cs : Cells} {w0 : World} {vn v' : Value} {b l : List Int} {vb : Value} {g : Int} {f : Bool} {s : Option (List Int × Int)} {w w2 : World} (r : Rdy S G F base cs w0 vn b vb g f s w) (c : Ctx S G F base cs w0)
    (h : Below w.heap.size w w2) (H : OwnInts w.heap.size w2 v' l) (n : Int) (row : Option Nat) :
    Rdy S G F base cs w0 vn b v' n true (some (l, n)) (((w2.setCell ⟨S, 0, none⟩ v').setCell ⟨G, 0, none⟩ (.int .i64 n)).setCell ⟨F, 0, none⟩ (.bool true)) ∧ FrC S G F row w (((w2.setCell ⟨S, 0, none⟩ v').setCell ⟨G, 0, none⟩ (.int .i64 n)).setCell ⟨F, 0, none⟩ (.bool true)) := by
  have hf : ∀ row, FrC S G F row w2 (((w2.setCell ⟨S, 0, none⟩ v').setCell ⟨G, 0, none⟩ (.int .i64 n)).setCell ⟨F, 0, none⟩ (.bool true)) := fun row => ((FrC.put (.inl rfl) _ _).trans' (FrC.put (.inr (.inl rfl)) _ _)).trans' (FrC.put (.inr (.inr rfl)) _ _)
  have r2 := r.later c h
  exact ⟨⟨r2.own.frc (hf none) c.hS c.hG c.hF (fun _ _ e => by cases e), ⟨rfl, rfl, (OwnInts.base' H r.hb).frc (hf none) c.hS c.hG c.hF (fun _ _ e => by cases e)⟩, fun x hx e => by
    have := (H.lt' hx).1
    have := (r.own.lt' e).2
    omega, r2.k.put3 c.hcs c.hSG c.hSF c.hGF, Nat.le_trans r2.hb (hf none).size⟩, (FrC.of_below h).trans' (hf row)⟩

/-! ### a search that stops early -/
theorem mergeN_idle {f : Nat → Bst} {s : Bst} {k : Nat} {m : Bst} : ∀ {n : Nat}, k ≤ n → mergeB s (mergeN f k) = m → (∀ i, k ≤ i → i < n → mergeB m (f i) = m) → mergeB s (mergeN f n) = m := by
  intro n
  induction n with
  | zero => intro h1 h2 _; obtain rfl : k = 0 := (by omega); exact h2
  | succ n ih =>
    intro h1 h2 h3
    by_cases hk : k = n + 1
    · rw [← hk]; exact h2
    · simp only [mergeN]
      rw [← mergeB_assoc, ih (by omega) h2 (fun i a b => h3 i a (by omega)), h3 n (by omega) (by omega)]
end Go.Proofs.YtoipcbmbhjajfaaGreatDoor

namespace Go.Proofs.YtoipcbmbhjajfaaGreatDoor
open Go.RowKit

attribute [local go_sem] Oper.semAt_some
theorem bool_ne (a b : Bool) : (a == b) = decide (a = b) := by cases a <;> cases b <;> rfl

set_option maxHeartbeats 4000000 in
set_option maxRecDepth 100000 in
/-- a whole wear -/
theorem chp_leaf (p : Plot) (items : List Item) (T I S G F Y base : Nat) (vp vw vd vq vi : Value) (cs : Cells) (w0 : World) (h : PlotAt none w0 vp vw vd vq p) (hI : ItemsAt none w0 vi items) (hv : itemsErr p items = 0) (C : Ctx S G F base cs w0)
    (t3 : (T, 3, vq) ∈ cs) (i0 : (I, 0, vi) ∈ cs)
    (b : List Int) (vn vb : Value) (g : Int) (f : Bool) (s : Bst) (w : World) (hw : wearsE p items p.parts b = 0) (hl : b.length = p.parts.length) (r : Rdy S G F base cs w0 vn b vb g f s w) :
    Calls Tryz.prog 69 #[vn, .pointer (some ⟨T, 0, none⟩), .pointer (some ⟨I, 0, none⟩), .pointer (some ⟨F, 0, none⟩), .pointer (some ⟨G, 0, none⟩), .pointer (some ⟨S, 0, none⟩), .pointer (some ⟨Y, 0, none⟩)] w
     fun e w' => e = .returned (.tuple #[]) ∧ ∃ vb' g' f', Rdy S G F base cs w0 vn b vb' g' f' (mergeB s (bestR p items p.parts 0 b)) w' ∧ FrC S G F vn.ownBlock w w' ∧ (∀ x, vb'.ownBlock = some x → vb.ownBlock = some x ∨ w.heap.size ≤ x) := by
  have R := hid r
  have HC := hid C
  obtain ⟨aq, cq, rfl⟩ := h.parts.form
  obtain ⟨ai, ci, rfl⟩ := hI.form
  obtain ⟨an, cn, rfl⟩ := (own_int.2 r.own).form
  obtain ⟨av, nv, cv, rfl⟩ : ∃ a n c, vb = .slice a n c := by
    cases s with
    | none => exact ⟨_, _, _, r.st.2.1⟩
    | some x => obtain ⟨l, c⟩ := x; obtain ⟨a, c', e⟩ := (own_int.2 r.st.2.2).form; exact ⟨_, _, _, e⟩
  have n1 := C.hSG
  have n2 := C.hSF
  have n3 := C.hGF
  have n4 := Ne.symm C.hSG
  have n5 := Ne.symm C.hSF
  have n6 := Ne.symm C.hGF
  have hfew := (plotErr_zero.1 (itemsErr_zero hv).1).few
  have hil := (itemsErr_zero hv).2.1
  have HCo := hid (fun W' (hb0 : Below w0.heap.size w0 W') (hw' : OwnInts base W' (.slice an b.length cn) b) => cost_any items b _ _ W' (hI.below hb0) (hw'.at (by simp)) (wears_within hw) (items_priced hv) (by omega) (by omega))
  have HBs := hid (show bestR p items p.parts 0 b = some (b, costW items b) from by simp only [bestR]; rw [if_pos hw])
  have hcb := costW_bd (items_priced hv) (wears_within hw)
  have hblen : b.length ≤ 1000000 := by omega
  obtain ⟨d1, d2⟩ := eq_bool (a := (b.length : Int)) (b := (p.parts.length : Int)) (by omega)
  have x1 := R.out.k.c (b := T) (o := 3) (v := .slice aq p.parts.length cq) (by simp [t3])
  have x2 := R.out.k.c (b := I) (o := 0) (v := .slice ai items.length ci) (by simp [i0])
  rw [HBs.out]
  clear h hI hv hw hl r C
  by_cases hs : s = none ∨ costW items b < g
  · have hm : mergeB s (some (b, costW items b)) = some (b, costW items b) := by
      cases s with
      | none => rfl
      | some x =>
        obtain ⟨l, c⟩ := x
        have hg := R.out.st.2.1
        rcases hs with hs | hs
        · cases hs
        · simp only [mergeB]; rw [if_pos (by omega)]
    rw [hm]
    have hcond : f = false ∨ (f = true ∧ costW items b < g) := by
      cases s with
      | none => exact .inl R.out.st.1
      | some x =>
        obtain ⟨l, c⟩ := x
        rcases hs with hs | hs
        · cases hs
        · exact .inr ⟨R.out.st.1, hs⟩
    clear hs hm
    rcases hcond with rfl | ⟨rfl, hlt⟩
    · go_enter Tryz.func69, Tryz.ntmps69
      go_step3
      go_wp2_with (first
        | (go_at_call 70; refine (HCo.out _ R.out.k.below R.out.own).mono ?_; rintro e w1 ⟨rfl, hb1⟩; have R1 := hid (R.out.later HC.out hb1); have HB1 := hid hb1; clear hb1; have y1 := R1.out.k.c (b := F) (o := 0) (v := .bool false) (by simp); have y2 := R1.out.k.c (b := G) (o := 0) (v := .int .i64 g) (by simp); have y3 := R1.out.k.c (b := S) (o := 0) (v := .slice av nv cv) (by simp); have z1 := R1.out.k.f (b := F) (o := 0) (v := .bool false) (by simp); have z2 := R1.out.k.f (b := G) (o := 0) (v := .int .i64 g) (by simp); have z3 := R1.out.k.f (b := S) (o := 0) (v := .slice av nv cv) (by simp))
        | (at_builtin; refine wpList_app encInt Tryz.underlying24 infoInt' (by decide) (by decide) (fun _ => rfl) rfl _ _ rfl w1.heap.size [] b (fun y _ => encInt_one y) _ _ rfl rfl (OwnR.empty encInt 1 3 (Nat.le_refl _)) (Src.ints (R1.out.own.later (below_alloc _ _) |>.at (d := none) (by simp)) (own_int.2 R1.out.own).sound) (by simpa using hblen) (by simp) ?_; intro v' w2 hown' hg2 _ hat2; rw [List.nil_append] at hown'; obtain ⟨a2, c2, rfl⟩ := hown'.form; have hb2 : Below w1.heap.size w1 w2 := ((below_alloc w1 _).grown hg2 (by simp) (fun g e => by cases e; exact Nat.le_refl _)); have R2 := hid (R1.out.later HC.out hb2); have H2 := hid (own_int.1 hown'); have HB2 := hid hb2; clear y1 y2 y3 z1 z2 z3 hown' hg2 hat2 hb2; have y1 := R2.out.k.c (b := F) (o := 0) (v := .bool false) (by simp); have y2 := R2.out.k.c (b := G) (o := 0) (v := .int .i64 g) (by simp); have y3 := R2.out.k.c (b := S) (o := 0) (v := .slice av nv cv) (by simp); have z1 := R2.out.k.f (b := F) (o := 0) (v := .bool false) (by simp); have z2 := R2.out.k.f (b := G) (o := 0) (v := .int .i64 g) (by simp); have z3 := R2.out.k.f (b := S) (o := 0) (v := .slice av nv cv) (by simp)))
      rw [Exit.noGoto_ret]
      have hst := R1.out.store HC.out HB2.out H2.out (costW items b) (Value.slice an b.length cn).ownBlock
      exact bodyPost_ret (v := .tuple #[]) (by simp [results, Tryz.results69, go_sem]) rfl ⟨rfl, .slice a2 b.length c2, costW items b, true, hst.1, (FrC.of_below HB1.out).trans' hst.2, fun x hx => .inr (Nat.le_trans HB1.out.size (H2.out.lt' hx).1)⟩
    · go_enter Tryz.func69, Tryz.ntmps69
      go_step3
      go_wp2_with (first
        | (go_at_call 70; refine (HCo.out _ R.out.k.below R.out.own).mono ?_; rintro e w1 ⟨rfl, hb1⟩; have R1 := hid (R.out.later HC.out hb1); have HB1 := hid hb1; clear hb1; have y1 := R1.out.k.c (b := F) (o := 0) (v := .bool true) (by simp); have y2 := R1.out.k.c (b := G) (o := 0) (v := .int .i64 g) (by simp); have y3 := R1.out.k.c (b := S) (o := 0) (v := .slice av nv cv) (by simp); have z1 := R1.out.k.f (b := F) (o := 0) (v := .bool true) (by simp); have z2 := R1.out.k.f (b := G) (o := 0) (v := .int .i64 g) (by simp); have z3 := R1.out.k.f (b := S) (o := 0) (v := .slice av nv cv) (by simp))
        | (at_builtin; refine wpList_app encInt Tryz.underlying24 infoInt' (by decide) (by decide) (fun _ => rfl) rfl _ _ rfl w1.heap.size [] b (fun y _ => encInt_one y) _ _ rfl rfl (OwnR.empty encInt 1 3 (Nat.le_refl _)) (Src.ints (R1.out.own.later (below_alloc _ _) |>.at (d := none) (by simp)) (own_int.2 R1.out.own).sound) (by simpa using hblen) (by simp) ?_; intro v' w2 hown' hg2 _ hat2; rw [List.nil_append] at hown'; obtain ⟨a2, c2, rfl⟩ := hown'.form; have hb2 : Below w1.heap.size w1 w2 := ((below_alloc w1 _).grown hg2 (by simp) (fun g e => by cases e; exact Nat.le_refl _)); have R2 := hid (R1.out.later HC.out hb2); have H2 := hid (own_int.1 hown'); have HB2 := hid hb2; clear y1 y2 y3 z1 z2 z3 hown' hg2 hat2 hb2; have y1 := R2.out.k.c (b := F) (o := 0) (v := .bool true) (by simp); have y2 := R2.out.k.c (b := G) (o := 0) (v := .int .i64 g) (by simp); have y3 := R2.out.k.c (b := S) (o := 0) (v := .slice av nv cv) (by simp); have z1 := R2.out.k.f (b := F) (o := 0) (v := .bool true) (by simp); have z2 := R2.out.k.f (b := G) (o := 0) (v := .int .i64 g) (by simp); have z3 := R2.out.k.f (b := S) (o := 0) (v := .slice av nv cv) (by simp)))
      rw [Exit.noGoto_ret]
      have hst := R1.out.store HC.out HB2.out H2.out (costW items b) (Value.slice an b.length cn).ownBlock
      exact bodyPost_ret (v := .tuple #[]) (by simp [results, Tryz.results69, go_sem]) rfl ⟨rfl, .slice a2 b.length c2, costW items b, true, hst.1, (FrC.of_below HB1.out).trans' hst.2, fun x hx => .inr (Nat.le_trans HB1.out.size (H2.out.lt' hx).1)⟩
  · obtain ⟨l, c, rfl⟩ : ∃ l c, s = some (l, c) := by
      cases s with
      | none => exact absurd (.inl rfl) hs
      | some x => obtain ⟨l, c⟩ := x; exact ⟨l, c, rfl⟩
    obtain ⟨rfl, hg, _⟩ := R.out.st
    have hge : ¬ costW items b < g := fun h => hs (.inr h)
    have hm : mergeB (some (l, c)) (some (b, costW items b)) = some (l, c) := by simp only [mergeB]; rw [if_neg (by omega)]
    rw [hm]
    clear hs hm hg
    go_enter Tryz.func69, Tryz.ntmps69
    go_step3
    go_wp2_with (first
      | (go_at_call 70; refine (HCo.out _ R.out.k.below R.out.own).mono ?_; rintro e w1 ⟨rfl, hb1⟩; have R1 := hid (R.out.later HC.out hb1); have HB1 := hid hb1; clear hb1; have y1 := R1.out.k.c (b := F) (o := 0) (v := .bool true) (by simp); have y2 := R1.out.k.c (b := G) (o := 0) (v := .int .i64 g) (by simp)))
    rw [Exit.noGoto_ret]
    exact bodyPost_ret (v := .tuple #[]) (by simp [results, Tryz.results69, go_sem]) rfl ⟨rfl, _, _, _, R1.out, FrC.of_below HB1.out, fun x hx => .inl hx⟩
end Go.Proofs.YtoipcbmbhjajfaaGreatDoor

namespace Go.Proofs.YtoipcbmbhjajfaaGreatDoor
open Go.RowKit

attribute [local go_sem] Oper.semAt_some
/-- what a call of the search leaves behind -/
def ChPost (p : Plot) (items : List Item) (S G F base : Nat) (cs : Cells) (w0 : World) (r : Nat) (b : List Int) (vn vb : Value) (s : Bst) (w : World) (e : Ending) (w' : World) : Prop :=
  e = .returned (.tuple #[]) ∧ ∃ vb' g' f', Rdy S G F base cs w0 vn b vb' g' f' (mergeB s (bestR p items p.parts r b)) w' ∧ FrC S G F vn.ownBlock w w' ∧ (∀ x, vb'.ownBlock = some x → vb.ownBlock = some x ∨ w.heap.size ≤ x)
/-- how far a round has come -/
def ChRel (p : Plot) (items : List Item) (S G F base : Nat) (cs : Cells) (w0 : World) (r : Nat) (b : List Int) (vn vb : Value) (s : Bst) (w : World) (k : Nat) (wr : World) : Prop :=
  ∃ vb' g' f' s', mergeB s (mergeN (fun i => bestR p items p.parts r (b ++ [(i : Int)])) k) = s' ∧ Rdy S G F base cs w0 vn b vb' g' f' s' wr ∧ FrC S G F vn.ownBlock w wr ∧ (∀ x, vb'.ownBlock = some x → vb.ownBlock = some x ∨ w.heap.size ≤ x)

set_option maxHeartbeats 4000000 in
set_option maxRecDepth 100000 in
theorem chp_step (p : Plot) (items : List Item) (T I S G F Y base : Nat) (vp vw vd vq vi : Value) (cs : Cells) (w0 : World) (h : PlotAt none w0 vp vw vd vq p) (hI : ItemsAt none w0 vi items) (hv : itemsErr p items = 0) (C : Ctx S G F base cs w0)
    (t0 : (T, 0, vp) ∈ cs) (t1 : (T, 1, vw) ∈ cs) (t2 : (T, 2, vd) ∈ cs) (t3 : (T, 3, vq) ∈ cs) (i0 : (I, 0, vi) ∈ cs)
    (y0 : (Y, 0, .func (.func 69) #[] #[.pointer (some ⟨T, 0, none⟩), .pointer (some ⟨I, 0, none⟩), .pointer (some ⟨F, 0, none⟩), .pointer (some ⟨G, 0, none⟩), .pointer (some ⟨S, 0, none⟩), .pointer (some ⟨Y, 0, none⟩)]) ∈ cs)
    (r : Nat) (ih : ∀ (b : List Int) (vn vb : Value) (g : Int) (f : Bool) (s : Bst) (w : World), wearsE p items p.parts b = 0 → b.length + r = p.parts.length → Rdy S G F base cs w0 vn b vb g f s w →
      Calls Tryz.prog 69 #[vn, .pointer (some ⟨T, 0, none⟩), .pointer (some ⟨I, 0, none⟩), .pointer (some ⟨F, 0, none⟩), .pointer (some ⟨G, 0, none⟩), .pointer (some ⟨S, 0, none⟩), .pointer (some ⟨Y, 0, none⟩)] w (ChPost p items S G F base cs w0 r b vn vb s w))
    (b : List Int) (vn vb : Value) (g : Int) (f : Bool) (s : Bst) (w : World) (hw : wearsE p items p.parts b = 0) (hl : b.length + (r + 1) = p.parts.length) (rd : Rdy S G F base cs w0 vn b vb g f s w) :
    Calls Tryz.prog 69 #[vn, .pointer (some ⟨T, 0, none⟩), .pointer (some ⟨I, 0, none⟩), .pointer (some ⟨F, 0, none⟩), .pointer (some ⟨G, 0, none⟩), .pointer (some ⟨S, 0, none⟩), .pointer (some ⟨Y, 0, none⟩)] w (ChPost p items S G F base cs w0 (r + 1) b vn vb s w) := by
  have R := hid rd
  have HC := hid C
  have H := hid h
  have HI := hid hI
  have IH := hid ih
  have HV := hid hv
  have HW := hid hw
  have HL := hid hl
  obtain ⟨ap, cp, rfl⟩ := h.persons.form
  obtain ⟨aw, cw, rfl⟩ := h.walk.form
  obtain ⟨ad, cd, ed, _⟩ := h.dress
  subst ed
  obtain ⟨aq, cq, rfl⟩ := h.parts.form
  obtain ⟨ai, ci, rfl⟩ := hI.form
  obtain ⟨an, cn, rfl⟩ := (own_int.2 rd.own).form
  have hfew := (plotErr_zero.1 (itemsErr_zero hv).1).few
  have hil := (itemsErr_zero hv).2.1
  have HCo := hid (fun W' (hb0 : Below w0.heap.size w0 W') (hw' : OwnInts base W' (.slice an b.length cn) b) => cost_any items b _ _ W' (HI.out.below hb0) (hw'.at (by simp)) (wears_within hw) (items_priced hv) (by omega) (by omega))
  have HNx := hid (fun W' (n : Int) (hb0 : Below w0.heap.size w0 W') (hw' : OwnInts base W' (.slice an b.length cn) b) => next_any p items b n _ _ _ _ _ _ W' (H.out.below hb0) (HI.out.below hb0) (hw'.at (by simp)) (itemsErr_zero hv).1 (by omega) hil (items_clean hv))
  have HBs := hid (show bestR p items p.parts (r + 1) b = mergeN (fun i => bestR p items p.parts r (b ++ [(i : Int)])) items.length from by simp only [bestR]; rw [if_pos hw])
  have HBad := hid (fun (k : Nat) (hk : nextE p items p.parts b (k : Int) ≠ 0) => bestR_bad (p := p) (items := items) (parts := p.parts) (b := b ++ [(k : Int)]) (by rw [wearsE_snoc, if_pos hw]; exact hk) r)
  have HGood := hid (fun (k : Nat) (hk : nextE p items p.parts b (k : Int) = 0) => show wearsE p items p.parts (b ++ [(k : Int)]) = 0 from by rw [wearsE_snoc, if_pos hw]; exact hk)
  have hcb := costW_bd (items_priced hv) (wears_within hw)
  have hblen : b.length ≤ 1000000 := by omega
  obtain ⟨d1, d2⟩ := ne_bool (a := (b.length : Int)) (b := (p.parts.length : Int)) (by omega)
  have x1 := R.out.k.c (b := T) (o := 3) (v := .slice aq p.parts.length cq) (by simp [t3])
  have x2 := R.out.k.c (b := I) (o := 0) (v := .slice ai items.length ci) (by simp [i0])
  have T0 := hid t0
  have T1 := hid t1
  have T2 := hid t2
  have T3 := hid t3
  have I0 := hid i0
  have Y0 := hid y0
  clear h hI hv hw hl rd C ih t0 t1 t2 t3 i0 y0
  go_enter Tryz.func69, Tryz.ntmps69
  go_step3
  go_wp2_with fail
  go_step3
  go_wp2_with fail
  clear d1 d2 x1 x2
  go_loopg [32] items.length (fun m i wr => ∃ k : Nat, k + m = items.length ∧ i = .int .i64 k ∧ ChRel p items S G F base cs w0 r b (.slice an b.length cn) vb s w k wr)
  case atStart => exact ⟨0, by omega, rfl, vb, g, f, s, by simp [mergeN, mergeB_none'], R.out, FrC.refl _ _ _ _ _, fun x hx => .inl hx⟩
  case round =>
    obtain ⟨k, hk, rfl, vb', g', f', s', hs', rd', hf', hv'⟩ := hrel
    have R := hid rd'
    have HS := hid hs'
    have HF := hid hf'
    have HVb := hid hv'
    clear rd' hs' hf' hv'
    obtain ⟨wo, rfl⟩ : ∃ wo : World, wo = wr := ⟨_, rfl⟩
    by_cases hlt : k < items.length
    rotate_left
    · obtain rfl : k = items.length := by omega
      go_wp2_with fail
      rw [Exit.noGoto_normal]
      exact bodyPost_end (v := .tuple #[]) (by simp [results, Tryz.results69, go_sem]) rfl ⟨rfl, vb', g', f', by rw [HBs.out, HS.out]; exact R.out, HF.out, HVb.out⟩
    have i1 : (k : Int) < (items.length : Int) := by omega
    have z1 : IntKind.i64.wrap ((k : Int) + 1) = (k : Int) + 1 := IntWalk.i64_in _ (by omega)
    go_upto_region 7 with fail
    go_cut [32, 46] from 32 to 59 (fun i v wx => i = .int .i64 k ∧ ∃ st : Bool, v = .bool st ∧ (st = true → ∃ l c, s' = some (l, c) ∧ c ≤ costW items b) ∧ Rdy S G F base cs w0 (.slice an b.length cn) b vb' g' f' s' wx ∧ Below wo.heap.size wo wx)
    case first =>
      cases s' with
      | none =>
        obtain ⟨rfl, rfl, rfl⟩ := R.out.st
        have y1 := R.out.k.c (b := F) (o := 0) (v := .bool false) (by simp)
        go_quiet (fail)
        go_wp2_with fail
        go_meet
        have hb2 : Below wo.heap.size wo (wo.drewN nq) := below_drewN (Below.refl _ _) nq
        exact ⟨rfl, false, rfl, (fun h => by cases h), R.out.later HC.out hb2, hb2⟩
      | some x =>
        obtain ⟨l, c⟩ := x
        obtain ⟨rfl, rfl, _⟩ := R.out.st
        obtain ⟨wy, hwy⟩ : ∃ wy, wo = wy := ⟨_, rfl⟩
        rw [hwy] at R ⊢
        have HBy := hid (show Below wo.heap.size wo wy.drew from by rw [← hwy]; exact (Below.refl _ _).drew)
        have R := hid (R.out.later HC.out (Below.refl _ _).drew)
        have hcb' := hcb
        clear hwy
        by_cases hc : g' ≤ costW items b
        · by_cases hg0 : 0 < g'
          · have Hc := hid hc
            go_region_held3 (fun w' => w'.cell? ⟨F, 0, none⟩ = some (.bool true) ∧ w'.cell? ⟨G, 0, none⟩ = some (.int .i64 g') ∧ w'.cell? ⟨I, 0, none⟩ = some (.slice ai items.length ci))
              (first | exact ⟨R.out.k.c (by simp), R.out.k.c (by simp), R.out.k.c (by simp [I0.out])⟩) (first
              | (go_at_call 70; refine (HCo.out _ R.out.k.below R.out.own).mono ?_; rintro e w1 ⟨rfl, hb1⟩; have HBy := hid (HBy.out.trans (hb1.mono HBy.out.size)); have R := hid (R.out.later HC.out hb1); clear hb1))
            all_goals (
              go_wp2_with fail
              go_meet
              exact ⟨rfl, true, rfl, fun _ => ⟨l, g', rfl, Hc.out⟩, R.out, HBy.out⟩)
          · go_region_held3 (fun w' => w'.cell? ⟨F, 0, none⟩ = some (.bool true) ∧ w'.cell? ⟨G, 0, none⟩ = some (.int .i64 g') ∧ w'.cell? ⟨I, 0, none⟩ = some (.slice ai items.length ci))
              (first | exact ⟨R.out.k.c (by simp), R.out.k.c (by simp), R.out.k.c (by simp [I0.out])⟩) (first
              | (go_at_call 70; refine (HCo.out _ R.out.k.below R.out.own).mono ?_; rintro e w1 ⟨rfl, hb1⟩; have HBy := hid (HBy.out.trans (hb1.mono HBy.out.size)); have R := hid (R.out.later HC.out hb1); clear hb1))
            all_goals (
              go_wp2_with fail
              go_meet
              exact ⟨rfl, false, by rw [decide_eq_false (by omega)], (fun h => by cases h), R.out, HBy.out⟩)
        · have y1 := R.out.k.c (b := F) (o := 0) (v := .bool true) (by simp)
          have y2 := R.out.k.c (b := G) (o := 0) (v := .int .i64 g') (by simp)
          have y3 := R.out.k.c (b := I) (o := 0) (v := .slice ai items.length ci) (by simp [I0.out])
          go_region_with (go_at_call 70; refine (HCo.out _ R.out.k.below R.out.own).mono ?_; rintro e w1 ⟨rfl, hb1⟩; have HBy := hid (HBy.out.trans (hb1.mono HBy.out.size)); have R := hid (R.out.later HC.out hb1); clear hb1 y1 y2 y3; have y1 := R.out.k.c (b := F) (o := 0) (v := .bool true) (by simp); have y2 := R.out.k.c (b := G) (o := 0) (v := .int .i64 g') (by simp); have y3 := R.out.k.c (b := I) (o := 0) (v := .slice ai items.length ci) (by simp [I0.out]))
          all_goals (
            go_wp2_with fail
            go_meet
            exact ⟨rfl, false, rfl, (fun h => by cases h), R.out, HBy.out⟩)
    case rest =>
      obtain ⟨rfl, st, rfl, hst, rd2, hb2⟩ := hcut
      have R := hid rd2
      have HB2 := hid hb2
      clear rd2 hb2
      cases st with
      | true =>
        obtain ⟨l, c, rfl, hc⟩ := hst rfl
        have hc := hid hc
        clear hst
        go_wp2_with fail
        rw [Exit.noGoto_normal]
        have hfin : mergeB s (bestR p items p.parts (r + 1) b) = some (l, c) := by
          rw [HBs.out]
          exact mergeN_idle (Nat.le_of_lt hlt) HS.out (fun i _ hi => merge_idle (items_priced HV.out) (Int.le_trans hc.out (costW_mono (items_priced HV.out) (by omega))))
        exact bodyPost_end (v := .tuple #[]) (by simp [results, Tryz.results69, go_sem]) rfl ⟨rfl, vb', g', f', by rw [hfin]; exact R.out, HF.out.trans' (FrC.of_below HB2.out), HVb.out⟩
      | false =>
        clear hst
        have y0 := R.out.k.c (b := T) (o := 0) (v := .slice ap p.persons.length cp) (by simp [T0.out])
        have y1 := R.out.k.c (b := T) (o := 1) (v := .slice aw p.walk.length cw) (by simp [T1.out])
        have y2 := R.out.k.c (b := T) (o := 2) (v := .slice ad p.dress.length cd) (by simp [T2.out])
        have y3 := R.out.k.c (b := T) (o := 3) (v := .slice aq p.parts.length cq) (by simp [T3.out])
        have y4 := R.out.k.c (b := I) (o := 0) (v := .slice ai items.length ci) (by simp [I0.out])
        obtain ⟨ne, hne⟩ : ∃ ne, nextE p items p.parts b (k : Int) = ne := ⟨_, rfl⟩
        have HN2 := hid (fun W' => HNx.out W' (k : Int))
        have HBad := hid (HBad.out k)
        have HGood := hid (HGood.out k)
        rw [hne] at HN2 HBad HGood
        clear hne
        by_cases hn0 : ne = 0
        rotate_left
        · obtain ⟨e1, e2⟩ := ne_bool hn0
          have HBad := hid (HBad.out hn0)
          clear hn0
          go_wp2_with (go_at_call 71; refine (HN2.out _ R.out.k.below R.out.own).mono ?_; rintro e w1 ⟨rfl, hb1⟩; have R1 := hid (R.out.later HC.out hb1); have HB3 := hid (HB2.out.trans (hb1.mono HB2.out.size)); clear hb1 y0 y1 y2 y3 y4)
          go_roundg (items.length - (k + 1))
          case measure => omega
          case rel => exact ⟨k + 1, by omega, by go_num, vb', g', f', s', by simp only [mergeN]; rw [HBad.out, mergeB_none', HS.out], R1.out, HF.out.trans' (FrC.of_below HB3.out), HVb.out⟩
        · subst hn0
          have HGd := hid (HGood.out rfl)
          clear HBad HGood
          go_upto_region 9 with (go_at_call 71; refine (HN2.out _ R.out.k.below R.out.own).mono ?_; rintro e w1 ⟨rfl, hb1⟩; have R1 := hid (R.out.later HC.out hb1); have HB3 := hid (HB2.out.trans (hb1.mono HB2.out.size)); clear hb1 y0 y1 y2 y3 y4)
          obtain ⟨wy, hwy⟩ : ∃ wy, w1 = wy := ⟨_, rfl⟩
          rw [hwy] at R1 HB3 ⊢
          clear hwy
          have RY := hid (R1.out.later HC.out (Below.refl _ wy).drew)
          have HB4 := hid (HB3.out.trans ((Below.refl _ wy).drew.mono HB3.out.size))
          have hlen2 := HL.out
          go_region_held3 (fun w' => w'.cell? ⟨Y, 0, none⟩ = some (.func (.func 69) #[] #[.pointer (some ⟨T, 0, none⟩), .pointer (some ⟨I, 0, none⟩), .pointer (some ⟨F, 0, none⟩), .pointer (some ⟨G, 0, none⟩), .pointer (some ⟨S, 0, none⟩), .pointer (some ⟨Y, 0, none⟩)]))
            (first | exact RY.out.k.c (by simp [Y0.out]) | exact (RY.out.k.later (below_alloc _ _)).c (by simp [Y0.out]) | exact RL.out.k.c (by simp) | exact R3.out.k.c (by simp [Y0.out]) | exact R4.out.k.c (by simp [Y0.out])) (first
            | (refine step_app_keep rfl _ _ rfl base b (k : Int) _ _ _ (OwnInts.later RY.out.own (below_alloc _ _)) (cell_at rfl rfl) rfl rfl hblen (Nat.le_trans RY.out.hb (below_alloc _ _).size) ?_; intro a3 c3 w3 hown3 hkeep3 hg3 hwk3; have RL := hid (RY.out.later HC.out (below_alloc wy.drew (.cells #[.int .i64 (k : Int)] 3))); have HBL := hid (HB4.out.trans ((below_alloc wy.drew (.cells #[.int .i64 (k : Int)] 3)).mono HB4.out.size)); have R3 := hid (RL.out.app HC.out hg3 hown3 hwk3); have HG3 := hid hg3; have HK3 := hid hkeep3; have HW3 := hid hwk3; clear hg3 hkeep3 hwk3 hown3)
            | (go_at_call 69; refine (IH.out (b ++ [(k : Int)]) _ _ _ _ _ _ HGd.out (by simp; omega) R3.out).mono ?_; rintro e w4 ⟨rfl, vb4, g4, f4, rd4, hf4, hv4⟩; have R4 := hid rd4; have HF4 := hid hf4; have HV4 := hid hv4; clear rd4 hf4 hv4))
          all_goals (
            obtain ⟨q1, q2, q3⟩ := RL.out.back HC.out HG3.out HK3.out HW3.out R4.out HF4.out HV4.out
            have Q1 := hid q1
            have Q2 := hid (HF.out.trans' ((FrC.of_below HBL.out).trans' q2))
            have Q3 := hid (fun x hx => (q3 x hx).elim (HVb.out x) (fun h => Or.inr (Nat.le_trans HF.out.size (Nat.le_trans HBL.out.size h))))
            clear q1 q2 q3
            go_wp2_with fail
            go_roundg (items.length - (k + 1))
            case measure => omega
            case rel => exact ⟨k + 1, by omega, by go_num, vb4, g4, f4, _, by simp only [mergeN]; rw [← mergeB_assoc, HS.out], Q1.out, Q2.out, Q3.out⟩)
end Go.Proofs.YtoipcbmbhjajfaaGreatDoor

namespace Go.Proofs.YtoipcbmbhjajfaaGreatDoor
open Go.RowKit

theorem chp_any (p : Plot) (items : List Item) (T I S G F Y base : Nat) (vp vw vd vq vi : Value) (cs : Cells) (w0 : World) (h : PlotAt none w0 vp vw vd vq p) (hI : ItemsAt none w0 vi items) (hv : itemsErr p items = 0) (C : Ctx S G F base cs w0)
    (t0 : (T, 0, vp) ∈ cs) (t1 : (T, 1, vw) ∈ cs) (t2 : (T, 2, vd) ∈ cs) (t3 : (T, 3, vq) ∈ cs) (i0 : (I, 0, vi) ∈ cs)
    (y0 : (Y, 0, .func (.func 69) #[] #[.pointer (some ⟨T, 0, none⟩), .pointer (some ⟨I, 0, none⟩), .pointer (some ⟨F, 0, none⟩), .pointer (some ⟨G, 0, none⟩), .pointer (some ⟨S, 0, none⟩), .pointer (some ⟨Y, 0, none⟩)]) ∈ cs) :
    ∀ (r : Nat) (b : List Int) (vn vb : Value) (g : Int) (f : Bool) (s : Bst) (w : World), wearsE p items p.parts b = 0 → b.length + r = p.parts.length → Rdy S G F base cs w0 vn b vb g f s w →
      Calls Tryz.prog 69 #[vn, .pointer (some ⟨T, 0, none⟩), .pointer (some ⟨I, 0, none⟩), .pointer (some ⟨F, 0, none⟩), .pointer (some ⟨G, 0, none⟩), .pointer (some ⟨S, 0, none⟩), .pointer (some ⟨Y, 0, none⟩)] w (ChPost p items S G F base cs w0 r b vn vb s w) := by
  intro r
  induction r with
  | zero =>
    intro b vn vb g f s w h1 h2 h3
    exact chp_leaf p items T I S G F Y base vp vw vd vq vi cs w0 h hI hv C t3 i0 b vn vb g f s w h1 (by omega) h3
  | succ r ih =>
    intro b vn vb g f s w h1 h2 h3
    exact chp_step p items T I S G F Y base vp vw vd vq vi cs w0 h hI hv C t0 t1 t2 t3 i0 y0 r ih b vn vb g f s w h1 h2 h3

theorem HK.putH {Y : Nat} {u u' : Value} {cs : Cells} {w0 w : World} (k : HK ((Y, 0, u) :: cs) w0 w) (hcs : ∀ b o v, (b, o, v) ∈ cs → b ≠ Y) : HK ((Y, 0, u') :: cs) w0 (w.setCell ⟨Y, 0, none⟩ u') := by
  have s1 := k.cell Y 0 u (by simp)
  refine ⟨k.below.setCell (p := ⟨Y, 0, none⟩) s1.1 _, fun b o v hm => ?_⟩
  simp only [World.frozen?_setCell]
  rcases List.mem_cons.1 hm with e | hm
  · cases e
    exact ⟨s1.1, World.cell?_setCell_same _ _ _ s1.2.1, s1.2.2⟩
  · obtain ⟨q1, q2, q3⟩ := k.cell b o v (by simp [hm])
    exact ⟨q1, cell_set_far (Ne.symm (hcs b o v hm)) q2, q3⟩

theorem run_store_fn (P : Program) (w : World) (a : Addr) (m : Mode) (f : Fn) (x y : Array Value) : (store a (.func f x y) m).run P w = stored P w a (.func f x y) m := run_store P w a _ m rfl
attribute [local go_sem] run_store_fn
def bestL : Bst → List Int
  | none => []
  | some x => x.1
def bestC : Bst → Int
  | none => 0
  | some x => x.2
theorem StB.out {base : Nat} {w : World} {vb : Value} {g : Int} {f : Bool} {s : Bst} (h : StB base w vb g f s) : OwnInts base w vb (bestL s) ∧ g = bestC s ∧ f = s.isSome := by
  cases s with
  | none => obtain ⟨rfl, rfl, rfl⟩ := h; exact ⟨own_nil _ _, rfl, rfl⟩
  | some x => obtain ⟨l, c⟩ := x; obtain ⟨rfl, rfl, h⟩ := h; exact ⟨h, rfl, rfl⟩

def CheapPost (s : Bst) (w : World) (e : Ending) (w' : World) : Prop := ∃ v', e = .returned (.tuple #[v', .int .i64 (bestC s), .bool s.isSome]) ∧ OwnInts w.heap.size w' v' (bestL s) ∧ Below w.heap.size w w'

set_option maxHeartbeats 4000000 in
set_option maxRecDepth 100000 in
theorem cheap_any (p : Plot) (items : List Item) (vp vw vd vq vi : Value) (w : World) (h : PlotAt none w vp vw vd vq p) (hI : ItemsAt none w vi items) (hv : itemsErr p items = 0) :
    Calls Tryz.prog 49 #[plotV vp vw vd vq, vi] w (CheapPost (bestP p items p.parts) w) := by
  have H := hid h
  have HI := hid hI
  have HV := hid hv
  obtain ⟨ap, cp, rfl⟩ := h.persons.form
  obtain ⟨aw, cw, rfl⟩ := h.walk.form
  obtain ⟨ad, cd, ed, _⟩ := h.dress
  subst ed
  obtain ⟨aq, cq, rfl⟩ := h.parts.form
  obtain ⟨ai, ci, rfl⟩ := hI.form
  have K := hid ((((((((HK.start w).box4m (n := w.heap.size) rfl (.slice ap p.persons.length cp) (.slice aw p.walk.length cw) (.slice ad p.dress.length cd) (.slice aq p.parts.length cq) 27).box1n (n := w.heap.size + 1) (by simp) (.slice ai items.length ci) 44).box1n (n := w.heap.size + 1 + 1) (by simp) (.slice none 0 0) 24).box1n (n := w.heap.size + 1 + 1 + 1) (by simp) (.int .i64 0) 3).box1n (n := w.heap.size + 1 + 1 + 1 + 1) (by simp) (.bool false) 4).box1n (n := w.heap.size + 1 + 1 + 1 + 1 + 1) (by simp) .nilFunc 116))
  have hmf : ∀ (fn : Fn) (first cap : Array Value) (w : World), (Instr.makeFunc fn first cap).run Tryz.prog w = .ok (.func fn first cap) w := fun _ _ _ _ => rfl
  clear h hI hv
  go_enter Tryz.func49, Tryz.ntmps49
  go_upto_region 2 with fail
  obtain ⟨w1, hw1, K1⟩ := K.out.name
  rw [hw1]
  have K := hid K1
  clear hw1 K1
  have yc := K.out.c (b := w.heap.size + 1 + 1 + 1 + 1 + 1) (o := 0) (v := .nilFunc) (by simp)
  have yf := K.out.f (b := w.heap.size + 1 + 1 + 1 + 1 + 1) (o := 0) (v := .nilFunc) (by simp)
  have KP := hid (K.out.putH (u' := .func (.func 69) #[] #[.pointer (some ⟨w.heap.size, 0, none⟩), .pointer (some ⟨w.heap.size + 1, 0, none⟩), .pointer (some ⟨w.heap.size + 1 + 1 + 1 + 1, 0, none⟩), .pointer (some ⟨w.heap.size + 1 + 1 + 1, 0, none⟩), .pointer (some ⟨w.heap.size + 1 + 1, 0, none⟩), .pointer (some ⟨w.heap.size + 1 + 1 + 1 + 1 + 1, 0, none⟩)])
    (by intro b' o v hm; simp only [List.mem_cons, Prod.mk.injEq, List.not_mem_nil, or_false] at hm; omega))
  go_upto_region 3 with fail
  clear yc yf
  obtain ⟨w2, hw2, K2⟩ := KP.out.name
  rw [hw2]
  clear hw2
  have K := hid K2
  clear K2 KP
  have yc := K.out.c (b := w.heap.size + 1 + 1 + 1 + 1 + 1) (o := 0) (v := .func (.func 69) #[] #[.pointer (some ⟨w.heap.size, 0, none⟩), .pointer (some ⟨w.heap.size + 1, 0, none⟩), .pointer (some ⟨w.heap.size + 1 + 1 + 1 + 1, 0, none⟩), .pointer (some ⟨w.heap.size + 1 + 1 + 1, 0, none⟩), .pointer (some ⟨w.heap.size + 1 + 1, 0, none⟩), .pointer (some ⟨w.heap.size + 1 + 1 + 1 + 1 + 1, 0, none⟩)]) (by simp)
  have hY := K.out.clt (b := w.heap.size + 1 + 1 + 1 + 1 + 1) (o := 0) (v := .func (.func 69) #[] #[.pointer (some ⟨w.heap.size, 0, none⟩), .pointer (some ⟨w.heap.size + 1, 0, none⟩), .pointer (some ⟨w.heap.size + 1 + 1 + 1 + 1, 0, none⟩), .pointer (some ⟨w.heap.size + 1 + 1 + 1, 0, none⟩), .pointer (some ⟨w.heap.size + 1 + 1, 0, none⟩), .pointer (some ⟨w.heap.size + 1 + 1 + 1 + 1 + 1, 0, none⟩)]) (by simp)
  have K2 := hid (K.out.sub (cs2 := (w.heap.size + 1 + 1, 0, .slice none 0 0) :: (w.heap.size + 1 + 1 + 1, 0, .int .i64 0) :: (w.heap.size + 1 + 1 + 1 + 1, 0, .bool false) ::
    [(w.heap.size + 1 + 1 + 1 + 1 + 1, 0, .func (.func 69) #[] #[.pointer (some ⟨w.heap.size, 0, none⟩), .pointer (some ⟨w.heap.size + 1, 0, none⟩), .pointer (some ⟨w.heap.size + 1 + 1 + 1 + 1, 0, none⟩), .pointer (some ⟨w.heap.size + 1 + 1 + 1, 0, none⟩), .pointer (some ⟨w.heap.size + 1 + 1, 0, none⟩), .pointer (some ⟨w.heap.size + 1 + 1 + 1 + 1 + 1, 0, none⟩)]), (w.heap.size + 1, 0, .slice ai items.length ci), (w.heap.size, 0, .slice ap p.persons.length cp), (w.heap.size, 1, .slice aw p.walk.length cw), (w.heap.size, 2, .slice ad p.dress.length cd), (w.heap.size, 3, .slice aq p.parts.length cq)])
    (by intro x hx; simp only [List.mem_cons, List.not_mem_nil, or_false] at hx ⊢; rcases hx with h | h | h | h | h | h | h | h | h <;> simp [h]))
  have hctx := hid (show Ctx (w.heap.size + 1 + 1) (w.heap.size + 1 + 1 + 1) (w.heap.size + 1 + 1 + 1 + 1) (w.heap.size + 1 + 1 + 1 + 1 + 1 + 1) [(w.heap.size + 1 + 1 + 1 + 1 + 1, 0, .func (.func 69) #[] #[.pointer (some ⟨w.heap.size, 0, none⟩), .pointer (some ⟨w.heap.size + 1, 0, none⟩), .pointer (some ⟨w.heap.size + 1 + 1 + 1 + 1, 0, none⟩), .pointer (some ⟨w.heap.size + 1 + 1 + 1, 0, none⟩), .pointer (some ⟨w.heap.size + 1 + 1, 0, none⟩), .pointer (some ⟨w.heap.size + 1 + 1 + 1 + 1 + 1, 0, none⟩)]), (w.heap.size + 1, 0, .slice ai items.length ci), (w.heap.size, 0, .slice ap p.persons.length cp), (w.heap.size, 1, .slice aw p.walk.length cw), (w.heap.size, 2, .slice ad p.dress.length cd), (w.heap.size, 3, .slice aq p.parts.length cq)] w from
    ⟨by intro b' o v hm; simp only [List.mem_cons, Prod.mk.injEq, List.not_mem_nil, or_false] at hm; omega, by intro b' o v hm; simp only [List.mem_cons, Prod.mk.injEq, List.not_mem_nil, or_false] at hm; omega, by omega, by omega, by omega, by omega, by omega, by omega, by omega⟩)
  go_wp2_with fail
  refine (chp_any p items w.heap.size (w.heap.size + 1) (w.heap.size + 1 + 1) (w.heap.size + 1 + 1 + 1) (w.heap.size + 1 + 1 + 1 + 1) (w.heap.size + 1 + 1 + 1 + 1 + 1) (w.heap.size + 1 + 1 + 1 + 1 + 1 + 1) _ _ _ _ _ _ w H.out HI.out HV.out hctx.out (by simp) (by simp) (by simp) (by simp) (by simp) (by simp) p.parts.length [] (.slice none 0 0) (.slice none 0 0) 0 false none w2 rfl (by simp)
    ⟨own_nil _ _, ⟨rfl, rfl, rfl⟩, (fun x hx => by cases hx), K2.out, by omega⟩).mono ?_
  rintro e w3 ⟨rfl, vb, g, f, rd, hf, hvv⟩
  have e0 : mergeB none (bestR p items p.parts p.parts.length []) = bestP p items p.parts := rfl
  rw [e0] at rd
  obtain ⟨s, hs⟩ : ∃ s, bestP p items p.parts = s := ⟨_, rfl⟩
  rw [hs] at rd
  have HSs := hid hs
  obtain ⟨ho, rfl, rfl⟩ := rd.st.out
  obtain ⟨av, cv, rfl⟩ := (own_int.2 ho).form
  have HO := hid ho
  have KR := hid rd.k
  clear rd hf hvv e0 hs ho yc
  have y1 := KR.out.c (b := w.heap.size + 1 + 1) (o := 0) (v := .slice av (bestL s).length cv) (by simp)
  have y2 := KR.out.c (b := w.heap.size + 1 + 1 + 1) (o := 0) (v := .int .i64 (bestC s)) (by simp)
  have y3 := KR.out.c (b := w.heap.size + 1 + 1 + 1 + 1) (o := 0) (v := .bool s.isSome) (by simp)
  have z1 := KR.out.f (b := w.heap.size + 1 + 1) (o := 0) (v := .slice av (bestL s).length cv) (by simp)
  have z2 := KR.out.f (b := w.heap.size + 1 + 1 + 1) (o := 0) (v := .int .i64 (bestC s)) (by simp)
  have z3 := KR.out.f (b := w.heap.size + 1 + 1 + 1 + 1) (o := 0) (v := .bool s.isSome) (by simp)
  go_wp2_with fail
  go_region
  have KF := hid (KR.out.put3 (vb' := .slice av (bestL s).length cv) (vg' := .int .i64 (bestC s)) (vf' := .bool s.isSome) hctx.out.hcs (by omega) (by omega) (by omega)).drew
  have hfr := FrC.trans' (((FrC.put (S := w.heap.size + 1 + 1) (G := w.heap.size + 1 + 1 + 1) (F := w.heap.size + 1 + 1 + 1 + 1) (row := none) (w := w3) (.inl rfl) 0 (.slice av (bestL s).length cv)).trans' (FrC.put (.inr (.inl rfl)) 0 (.int .i64 (bestC s)))).trans' (FrC.put (.inr (.inr rfl)) 0 (.bool s.isSome))) (FrC.of_below (Below.refl _ _).drew)
  have HO2 := hid (HO.out.frc hfr (by omega) (by omega) (by omega) (fun _ _ e => by cases e))
  clear y1 y2 y3 z1 z2 z3 hfr
  obtain ⟨w5, hw5, K5⟩ := KF.out.name
  rw [hw5] at HO2 ⊢
  clear hw5 KF
  have y1 := K5.c (b := w.heap.size + 1 + 1) (o := 0) (v := .slice av (bestL s).length cv) (by simp)
  have y2 := K5.c (b := w.heap.size + 1 + 1 + 1) (o := 0) (v := .int .i64 (bestC s)) (by simp)
  have y3 := K5.c (b := w.heap.size + 1 + 1 + 1 + 1) (o := 0) (v := .bool s.isSome) (by simp)
  have KB := hid K5.below
  clear K5
  go_wp2_with fail
  have hO3 := HO2.out
  have hO4 : OwnInts w.heap.size w5 (.slice av (bestL s).length cv) (bestL s) := OwnInts.base' hO3 (by omega)
  refine bodyPost_ret (v := .tuple #[.slice av (bestL s).length cv, .int .i64 (bestC s), .bool s.isSome]) (by simp [results, Tryz.results49, go_sem, y1, y2, y3]) rfl ?_
  rw [HSs.out]
  exact ⟨_, rfl, hO4, KB.out⟩

theorem smallErr_zero {p : Plot} {items : List Item} (h : smallErr p items = 0) : itemsErr p items = 0 ∧ p.parts.length ≤ 6 ∧ items.length ≤ 10 := by
  unfold smallErr at h
  split at h
  next h1 =>
    split at h
    · cases h
    next h2 => exact ⟨h1, by omega, by omega⟩
  next h1 => exact absurd h h1
def cheapB (p : Plot) (items : List Item) : Bst := if smallErr p items = 0 then bestP p items p.parts else none
def cheapErr (p : Plot) (items : List Item) : Int := if smallErr p items = 0 then (if (bestP p items p.parts).isSome = true then 0 else 7) else smallErr p items
def CheapestPost (p : Plot) (items : List Item) (w : World) (e : Ending) (w' : World) : Prop :=
  ∃ v', e = .returned (.tuple #[v', .int .i64 (bestC (cheapB p items)), .int .i64 (cheapErr p items)]) ∧ OwnInts w.heap.size w' v' (bestL (cheapB p items)) ∧ Below w.heap.size w w'

set_option maxHeartbeats 4000000 in
set_option maxRecDepth 100000 in
theorem cheapest_any (p : Plot) (items : List Item) (vp vw vd vq vi : Value) (w : World) (h : PlotAt none w vp vw vd vq p) (hI : ItemsAt none w vi items) :
    Calls Tryz.prog 18 #[plotV vp vw vd vq, vi] w (CheapestPost p items w) := by
  have H := hid h
  have HI := hid hI
  have HC := hid (fun W' hb => small_any p items vp vw vd vq vi W' (H.out.below hb) (HI.out.below hb))
  have HCh := hid (fun W' hb hv => cheap_any p items vp vw vd vq vi W' (H.out.below hb) (HI.out.below hb) hv)
  obtain ⟨ap, cp, rfl⟩ := h.persons.form
  obtain ⟨aw, cw, rfl⟩ := h.walk.form
  obtain ⟨ad, cd, ed, _⟩ := h.dress
  subst ed
  obtain ⟨aq, cq, rfl⟩ := h.parts.form
  obtain ⟨ai, ci, rfl⟩ := hI.form
  have K := hid ((HK.start w).box4m (n := w.heap.size) rfl (.slice ap p.persons.length cp) (.slice aw p.walk.length cw) (.slice ad p.dress.length cd) (.slice aq p.parts.length cq) 27)
  clear h hI
  by_cases hs : smallErr p items = 0
  rotate_left
  · obtain ⟨e1, e2⟩ := ne_bool hs
    have HE := hid (show cheapErr p items = smallErr p items from by unfold cheapErr; rw [if_neg hs])
    have HR := hid (show cheapB p items = none from by unfold cheapB; rw [if_neg hs])
    clear hs
    go_enter Tryz.func18, Tryz.ntmps18
    go_wp2_with (go_at_call 48; refine (HC.out _ K.out.below).mono ?_; rintro e w2 ⟨rfl, hb2⟩; have K := hid (K.out.later hb2); clear hb2)
    refine bodyPost_ret (v := .tuple #[.slice none 0 0, .int .i64 0, .int .i64 (smallErr p items)]) (by simp [results, Tryz.results18, go_sem]) rfl ?_
    unfold CheapestPost
    rw [HE.out, HR.out]
    exact ⟨_, rfl, own_nil _ _, K.out.below⟩
  have hv := (smallErr_zero hs).1
  have HCh := hid (fun W' hb => HCh.out W' hb hv)
  have HR := hid (show cheapB p items = bestP p items p.parts from by unfold cheapB; rw [if_pos hs])
  have HE := hid (show cheapErr p items = if (bestP p items p.parts).isSome = true then 0 else 7 from by unfold cheapErr; rw [if_pos hs])
  rw [hs] at HC
  obtain ⟨s, hs2⟩ : ∃ s, bestP p items p.parts = s := ⟨_, rfl⟩
  rw [hs2] at HCh HR HE
  clear hs hv hs2
  cases s with
  | none =>
    go_enter Tryz.func18, Tryz.ntmps18
    go_wp2_with (first
      | (go_at_call 48; refine (HC.out _ K.out.below).mono ?_; rintro e w2 ⟨rfl, hb2⟩; have K := hid (K.out.later hb2); clear hb2; have p0 := K.out.c (b := w.heap.size) (o := 0) (v := .slice ap p.persons.length cp) (by simp); have p1 := K.out.c (b := w.heap.size) (o := 1) (v := .slice aw p.walk.length cw) (by simp); have p2 := K.out.c (b := w.heap.size) (o := 2) (v := .slice ad p.dress.length cd) (by simp); have p3 := K.out.c (b := w.heap.size) (o := 3) (v := .slice aq p.parts.length cq) (by simp))
      | (go_at_call 49; refine (HCh.out _ K.out.below).mono ?_; rintro e w3 ⟨v', rfl, ho, hb3⟩; obtain ⟨a3, c3, rfl⟩ := (own_int.2 ho).form; have K := hid (K.out.later hb3); clear hb3 ho p0 p1 p2 p3))
    refine bodyPost_ret (v := .tuple #[.slice none 0 0, .int .i64 0, .int .i64 7]) (by simp [results, Tryz.results18, go_sem]) rfl ?_
    unfold CheapestPost
    rw [HE.out, HR.out]
    exact ⟨_, rfl, own_nil _ _, K.out.below⟩
  | some x =>
    obtain ⟨l, c⟩ := x
    go_enter Tryz.func18, Tryz.ntmps18
    go_wp2_with (first
      | (go_at_call 48; refine (HC.out _ K.out.below).mono ?_; rintro e w2 ⟨rfl, hb2⟩; have K := hid (K.out.later hb2); clear hb2; have p0 := K.out.c (b := w.heap.size) (o := 0) (v := .slice ap p.persons.length cp) (by simp); have p1 := K.out.c (b := w.heap.size) (o := 1) (v := .slice aw p.walk.length cw) (by simp); have p2 := K.out.c (b := w.heap.size) (o := 2) (v := .slice ad p.dress.length cd) (by simp); have p3 := K.out.c (b := w.heap.size) (o := 3) (v := .slice aq p.parts.length cq) (by simp))
      | (go_at_call 49; refine (HCh.out _ K.out.below).mono ?_; rintro e w3 ⟨v', rfl, ho, hb3⟩; obtain ⟨a3, c3, rfl⟩ := (own_int.2 ho).form; have HO := hid (OwnInts.base' (b' := w.heap.size) ho K.out.below.size); have K := hid (K.out.later hb3); clear hb3 ho p0 p1 p2 p3))
    refine bodyPost_ret (v := .tuple #[.slice a3 l.length c3, .int .i64 c, .int .i64 0]) (by simp [results, Tryz.results18, go_sem, bestL, bestC]) rfl ?_
    unfold CheapestPost
    rw [HE.out, HR.out]
    exact ⟨_, rfl, HO.out, K.out.below⟩
end Go.Proofs.YtoipcbmbhjajfaaGreatDoor
