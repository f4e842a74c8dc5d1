/-
  WHAT STAYS while the cheapest wear is looked for: three cells, the wear so far and the best wear; an append that leaves the list behind it as it was. And the plain law of a search that stops early.
-/
import Derived.Test.YtdcinngdilfpnaaCfw
import Derived.Test.YtdcinngdilfpnaaApp
namespace Go.Proofs.Ytdcinngdilfpnaa
open Go.RowKit

/-- where a list lies that is one number longer -/
def Wake (n0 : Nat) (v v' : Value) (n : Nat) : Prop := (∃ g c, v = .slice (some ⟨g, 0, none⟩) n c ∧ v' = .slice (some ⟨g, 0, none⟩) (n + 1) c) ∨ v'.ownBlock = some n0
theorem OwnInts.back {base : Nat} {w : World} {g n c : Nat} {xs : List Int} {y : Int} (hn : xs.length = n) (h : OwnInts base w (.slice (some ⟨g, 0, none⟩) (n + 1) c) (xs ++ [y])) : OwnInts base w (.slice (some ⟨g, 0, none⟩) n c) xs := by
  subst hn
  obtain ⟨h1, h2⟩ := h
  rcases h2 with ⟨e, _⟩ | ⟨g', cap, cur, e, hb, hh, q1, q2, q3, q4⟩
  · cases e
  · injection e with e1 _ e3
    injection e1 with e1
    injection e1 with e1
    subst e1
    subst e3
    refine ⟨by simp, .inr ⟨g, c, cur, rfl, hb, hh, by simp at q1; omega, q2, q3, ?_⟩⟩
    have := congrArg (List.take xs.length) q4
    simpa [List.take_take] using this

theorem OwnInts.lt' {base : Nat} {w : World} {v : Value} {xs : List Int} (h : OwnInts base w v xs) {g : Nat} (hg : v.ownBlock = some g) : base ≤ g ∧ g < w.heap.size := World.ownsRow.lt h g hg

theorem run_app_keep {w : World} (ty : TypeId) (base : Nat) (xs : List Int) (y : Int) (v : Value) (B c0 : Nat) (hown : OwnInts base w v xs) (hc : w.cell? ⟨B, 0, none⟩ = some (.int .i64 y)) (hn : xs.length ≤ 1000000) (hbase : base ≤ w.heap.size) :
    ∃ v' w', (Builtin.append_ #[22, 22] ty #[v, .slice (some ⟨B, 0, none⟩) 1 c0]).run Try.prog w = .ok v' w' ∧ OwnInts base w' v' (xs ++ [y]) ∧ OwnInts base w' v xs ∧ w.grownBy w' v.ownBlock ∧ Wake w.heap.size v v' xs.length := by
  obtain ⟨i0, hi, hz0, hz1, hz2⟩ := info_parts infoInt
  have hnews : ∀ j u, [Value.int .i64 y][j]? = some u → w.cell? ((⟨B, 0, none⟩ : Addr).add j) = some u := by
    intro j u hj
    cases j with
    | zero => simp at hj; subst hj; simpa [Addr.add] using hc
    | succ j => simp at hj
  obtain ⟨v', w', hr, h2, h3, h4, h5⟩ := run_append_own_at (P := Try.prog) w base 22 ty 3 i0 (.int .i64 0) 1 8 Try.underlying22 hi hz0 hz1 hz2 rfl (by decide) v xs.length (xs.map (Value.int .i64)) hown ⟨B, 0, none⟩ 1 c0 [.int .i64 y] rfl hnews
    (by intro u hu; simp at hu; subst hu; rfl) (by unfold maxLen; omega) (by omega) hbase
  have hown' : OwnInts base w' v' (xs ++ [y]) := by unfold OwnInts; simpa using h2
  have hv := hown
  obtain ⟨hl, hv2⟩ := hv
  rcases hv2 with ⟨rfl, h0⟩ | ⟨g, cap, cur, rfl, hbg, hg, hnc, hcm, hcs, htake⟩
  · refine ⟨v', w', hr, hown', ⟨hl, .inl ⟨rfl, h0⟩⟩, h3, .inr ?_⟩
    rcases h5 with h5 | h5
    · obtain ⟨_, q⟩ := hown'
      rcases q with ⟨e, q⟩ | ⟨g, _, _, e, _⟩
      · exact absurd q (by simp)
      · rw [e] at h5; cases h5
    · exact h5
  · by_cases hroom : xs.length + 1 ≤ cap
    · have hr2 := run_append_room (P := Try.prog) w 22 ty 3 i0 Try.underlying22 hi g xs.length cap cur hg ⟨B, 0, none⟩ 1 c0 [.int .i64 y] (by rw [hz1]; rfl) hnews (by intro u hu; simp at hu; subst hu; rfl) hroom (by rw [hz1, hcs]; simp; omega)
      rw [hr] at hr2
      injection hr2 with e1 e2
      subst e1
      exact ⟨_, w', hr, hown', OwnInts.back rfl hown', h3, .inl ⟨g, cap, rfl, rfl⟩⟩
    · have holds : ∀ j u, (xs.map (Value.int .i64))[j]? = some u → w.cell? ((⟨g, 0, none⟩ : Addr).add j) = some u := World.ownsRow.cells hown (g := g) rfl
      have hr2 := run_append_grow (P := Try.prog) w 22 ty 3 i0 (.int .i64 0) Try.underlying22 hi hz0 ⟨g, 0, none⟩ xs.length cap (xs.map (Value.int .i64)) (by rw [hz1]; simp) holds ⟨B, 0, none⟩ 1 c0 [.int .i64 y] (by rw [hz1]; rfl) hnews (by omega) (by omega) (growslice_fits (by omega) (by rw [hz2]; omega))
      rw [hr] at hr2
      injection hr2 with e1 e2
      subst e1
      refine ⟨_, w', hr, hown', ?_, h3, .inr rfl⟩
      rw [e2]
      exact World.ownsRow.kept hown (gb_below (below_trans (show Below w.heap.size w w.drew from (Below.refl _ _).drew) (below_alloc _ _)) none) (.inr (by simp [Value.ownBlock]))

theorem step_app_keep {w : World} {ops : Array Oper} {o : Oper} {a : Act} {K : Act → World → Prop} {Q : Exit → Act → World → Prop} {E : Prop} (hgd : o.guard = none) (s x : Operand)
    (ho : o.op = .call { callee := .builtin .append, args := #[s, x], argTypes := #[22, 22] })
    (base : Nat) (xs : List Int) (y : Int) (v : Value) (B c0 : Nat) (hown : OwnInts base w v xs) (hc : w.cell? ⟨B, 0, none⟩ = some (.int .i64 y)) (hs : a.eval s = v) (hx : a.eval x = .slice (some ⟨B, 0, none⟩) 1 c0)
    (hn : xs.length ≤ 1000000) (hbase : base ≤ w.heap.size)
    (h : ∀ a1 c w', OwnInts base w' (.slice a1 (xs.length + 1) c) (xs ++ [y]) → OwnInts base w' v xs → w.grownBy w' v.ownBlock → Wake w.heap.size v (.slice a1 (xs.length + 1) c) xs.length → K (a.put o.dst (.slice a1 (xs.length + 1) c)) w') :
    if Region.wanted o (yielded ops a.tmps) = true then Oper.wp Try.prog o a w K Q else E := by
  rw [if_pos (by simp [Region.wanted, hgd])]
  obtain ⟨v', w', hr, h2, h3, h4, h5⟩ := run_app_keep o.type base xs y v B c0 hown hc hn hbase
  obtain ⟨a1, c, e⟩ := (own_int.2 h2).form
  rw [List.length_append] at e
  subst e
  unfold Oper.wp execOp
  simp only [ho, resolve, invoke, builtin, Sem.run_bind, Sem.run_pure, Result.andThen_ok, List.map_toArray, List.map_cons, List.map_nil, hs, hx, hr]
  exact h _ _ _ h2 h3 h4 h5

/-! ### the frame -/
structure FrC (S G F : Nat) (row : Option Nat) (w w' : World) : Prop where
  size : w.heap.size ≤ w'.heap.size
  same : ∀ i, i < w.heap.size → i ≠ S → i ≠ G → i ≠ F → some i ≠ row → w'.heap[i]? = w.heap[i]?
theorem FrC.refl (S G F : Nat) (row : Option Nat) (w : World) : FrC S G F row w w := ⟨Nat.le_refl _, fun _ _ _ _ _ _ => rfl⟩
theorem FrC.of_below {S G F : Nat} {row : Option Nat} {w w' : World} (h : Below w.heap.size w w') : FrC S G F row w w' := ⟨h.size, fun i hi _ _ _ _ => h.block i hi⟩
theorem FrC.of_grown {S G F : Nat} {row : Option Nat} {w w' : World} (h : w.grownBy w' row) : FrC S G F row w w' := ⟨h.size, fun i hi _ _ _ hr => h.block i hi hr⟩
theorem FrC.trans {S G F : Nat} {row row' : Option Nat} {w w' w'' : World} (h : FrC S G F row w w') (k : FrC S G F row' w' w'') (hr : ∀ g, row' = some g → row = some g ∨ w.heap.size ≤ g) : FrC S G F row w w'' :=
  ⟨Nat.le_trans h.size k.size, fun i hi h1 h2 h3 h4 => (k.same i (Nat.lt_of_lt_of_le hi h.size) h1 h2 h3 (fun e => by
    rcases hr i e.symm with h5 | h5
    · exact h4 h5.symm
    · omega)).trans (h.same i hi h1 h2 h3 h4)⟩
theorem FrC.trans' {S G F : Nat} {row : Option Nat} {w w' w'' : World} (h : FrC S G F row w w') (k : FrC S G F row w' w'') : FrC S G F row w w'' := h.trans k (fun _ e => .inl e)
theorem FrC.put {S G F : Nat} {row : Option Nat} {w : World} {b : Nat} (hb : b = S ∨ b = G ∨ b = F) (o : Nat) (u : Value) : FrC S G F row w (w.setCell ⟨b, o, none⟩ u) :=
  ⟨by simp [World.setCell], fun i _ h1 h2 h3 _ => Below.heap_setCell _ _ _ i (by rcases hb with rfl | rfl | rfl <;> assumption)⟩
theorem OwnInts.frc {base : Nat} {w w' : World} {v : Value} {xs : List Int} (h : OwnInts base w v xs) {S G F : Nat} {row : Option Nat} (hf : FrC S G F row w w') (hS : S < base) (hG : G < base) (hF : F < base) (hr : ∀ g, v.ownBlock = some g → row ≠ some g) : OwnInts base w' v xs := by
  obtain ⟨h1, h2⟩ := h
  refine ⟨h1, ?_⟩
  rcases h2 with h2 | ⟨g, cap, cur, e, hb, hh, q⟩
  · exact .inl h2
  · have hlt := (Array.getElem?_eq_some_iff.1 hh).1
    exact .inr ⟨g, cap, cur, e, hb, (hf.same g hlt (by omega) (by omega) (by omega) (fun e2 => hr g (by rw [e]; rfl) e2.symm)).trans hh, q⟩

/-- the best wear so far, in three cells -/
def StB (base : Nat) (w : World) (vb : Value) (g : Int) (f : Bool) : Option (List Int × Int) → Prop
  | none => f = false ∧ vb = .slice none 0 0 ∧ g = 0
  | some (l, c) => f = true ∧ g = c ∧ OwnInts base w vb l
theorem StB.frc {base : Nat} {w w' : World} {vb : Value} {g : Int} {f : Bool} {s : Option (List Int × Int)} (h : StB base w vb g f s) {S G F : Nat} {row : Option Nat} (hf : FrC S G F row w w') (hS : S < base) (hG : G < base) (hF : F < base) (hr : ∀ g, vb.ownBlock = some g → row ≠ some g) : StB base w' vb g f s := by
  cases s with
  | none => exact h
  | some x => obtain ⟨l, c⟩ := x; exact ⟨h.1, h.2.1, h.2.2.frc hf hS hG hF hr⟩
theorem StB.lt {base : Nat} {w : World} {vb : Value} {g : Int} {f : Bool} {s : Option (List Int × Int)} (h : StB base w vb g f s) {b : Nat} (hb : vb.ownBlock = some b) : base ≤ b ∧ b < w.heap.size := by
  cases s with
  | none => obtain ⟨_, e, _⟩ := h; rw [e] at hb; cases hb
  | some x => obtain ⟨l, c⟩ := x; exact h.2.2.lt' hb

theorem HK.grown {cs : Cells} {w0 w w' : World} {row : Option Nat} (k : HK cs w0 w) (hg : w.grownBy w' row) {base : Nat} (hr : ∀ g, row = some g → base ≤ g) (hb : w0.heap.size ≤ base) (hcs : ∀ b o v, (b, o, v) ∈ cs → b < base) : HK cs w0 w' :=
  ⟨k.below.grown hg k.below.size (fun g e => Nat.le_trans hb (hr g e)), fun b o v hm => by
    obtain ⟨q1, q2, q3⟩ := k.cell b o v hm
    have hlt := hcs b o v hm
    have hne : some b ≠ row := fun e => by have := hr b e.symm; omega
    have hbl := hg.block b (World.block_lt_of_cell? w ⟨b, o, none⟩ q2) hne
    exact ⟨q1, (World.cell?_of_block (a := ⟨b, o, none⟩) hbl).trans q2, (World.frozen?_of_block (a := ⟨b, o, none⟩) hbl).trans q3⟩⟩

theorem HK.put3 {S G F : Nat} {vb vb' vg vg' vf vf' : Value} {cs : Cells} {w0 w : World} (k : HK ((S, 0, vb) :: (G, 0, vg) :: (F, 0, vf) :: cs) w0 w) (hcs : ∀ b o v, (b, o, v) ∈ cs → b ≠ S ∧ b ≠ G ∧ b ≠ F) (hSG : S ≠ G) (hSF : S ≠ F) (hGF : G ≠ F) :
    HK ((S, 0, vb') :: (G, 0, vg') :: (F, 0, vf') :: cs) w0 (((w.setCell ⟨S, 0, none⟩ vb').setCell ⟨G, 0, none⟩ vg').setCell ⟨F, 0, none⟩ vf') := by
  have s1 := k.cell S 0 vb (by simp)
  have s2 := k.cell G 0 vg (by simp)
  have s3 := k.cell F 0 vf (by simp)
  refine ⟨((k.below.setCell (p := ⟨S, 0, none⟩) s1.1 _).setCell (p := ⟨G, 0, none⟩) s2.1 _).setCell (p := ⟨F, 0, none⟩) s3.1 _, fun b o v hm => ?_⟩
  simp only [World.frozen?_setCell]
  rcases List.mem_cons.1 hm with e | hm
  · cases e
    exact ⟨s1.1, cell_set_far (Ne.symm hSF) (cell_set_far (Ne.symm hSG) (World.cell?_setCell_same _ _ _ s1.2.1)), s1.2.2⟩
  rcases List.mem_cons.1 hm with e | hm
  · cases e
    exact ⟨s2.1, cell_set_far (Ne.symm hGF) (World.cell?_setCell_same _ _ _ (cell_set_far hSG s2.2.1)), s2.2.2⟩
  rcases List.mem_cons.1 hm with e | hm
  · cases e
    exact ⟨s3.1, World.cell?_setCell_same _ _ _ (cell_set_far hGF (cell_set_far hSF s3.2.1)), s3.2.2⟩
  · obtain ⟨n1, n2, n3⟩ := hcs b o v hm
    obtain ⟨q1, q2, q3⟩ := k.cell b o v (by simp [hm])
    exact ⟨q1, cell_set_far (Ne.symm n3) (cell_set_far (Ne.symm n2) (cell_set_far (Ne.symm n1) q2)), q3⟩

/-! ### all of it -/
structure Rdy (S G F base : Nat) (cs : Cells) (w0 : World) (vn : Value) (b : List Int) (vb : Value) (g : Int) (f : Bool) (s : Option (List Int × Int)) (w : World) : Prop where
  own : OwnInts base w vn b
  st : StB base w vb g f s
  sep : ∀ x, vb.ownBlock = some x → vn.ownBlock ≠ some x
  k : HK ((S, 0, vb) :: (G, 0, .int .i64 g) :: (F, 0, .bool f) :: cs) w0 w
  hb : base ≤ w.heap.size
structure Ctx (S G F base : Nat) (cs : Cells) (w0 : World) : Prop where
  hcs : ∀ b o v, (b, o, v) ∈ cs → b ≠ S ∧ b ≠ G ∧ b ≠ F
  low : ∀ b o v, (b, o, v) ∈ cs → b < base
  hSG : S ≠ G
  hSF : S ≠ F
  hGF : G ≠ F
  hS : S < base
  hG : G < base
  hF : F < base
  hb : w0.heap.size ≤ base
theorem Ctx.lows {S G F base : Nat} {cs : Cells} {w0 : World} (c : Ctx S G F base cs w0) {vb vg vf : Value} : ∀ b o v, (b, o, v) ∈ ((S, 0, vb) :: (G, 0, vg) :: (F, 0, vf) :: cs) → b < base := fun b o v hm => by
  have := c.hS; have := c.hG; have := c.hF
  rcases List.mem_cons.1 hm with e | hm
  · cases e; assumption
  rcases List.mem_cons.1 hm with e | hm
  · cases e; assumption
  rcases List.mem_cons.1 hm with e | hm
  · cases e; assumption
  exact c.low b o v hm
theorem Rdy.later {S G F base : Nat} {cs : Cells} {w0 : World} {vn : Value} {b : List Int} {vb : Value} {g : Int} {f : Bool} {s : Option (List Int × Int)} {w w' : World} (r : Rdy S G F base cs w0 vn b vb g f s w) (c : Ctx S G F base cs w0) (h : Below w.heap.size w w') : Rdy S G F base cs w0 vn b vb g f s w' :=
  ⟨OwnInts.later r.own h, r.st.frc (FrC.of_below (row := none) h) c.hS c.hG c.hF (fun _ _ e => by cases e), r.sep, r.k.later h, Nat.le_trans r.hb h.size⟩
/-- behind an append to the wear -/
theorem Rdy.app {S G F base : Nat} {cs : Cells} {w0 : World} {vn v3 : Value} {b : List Int} {n : Int} {vb : Value} {g : Int} {f : Bool} {s : Option (List Int × Int)} {w w' : World} (r : Rdy S G F base cs w0 vn b vb g f s w) (c : Ctx S G F base cs w0)
    (hg : w.grownBy w' vn.ownBlock) (h3 : OwnInts base w' v3 (b ++ [n])) (hw : Wake w.heap.size vn v3 b.length) : Rdy S G F base cs w0 v3 (b ++ [n]) vb g f s w' :=
  ⟨h3, r.st.frc (FrC.of_grown hg) c.hS c.hG c.hF r.sep, fun x hx => by
    rcases hw with ⟨g', c', e1, e2⟩ | hw
    · have := r.sep x hx
      rw [e1] at this
      rw [e2]
      exact this
    · rw [hw]
      have := (r.st.lt hx).2
      intro e
      have := Option.some.inj e
      omega, r.k.grown hg (fun g e => (r.own.lt' e).1) c.hb c.lows, Nat.le_trans r.hb hg.size⟩
/-- and back -/
theorem Rdy.back {S G F base : Nat} {cs : Cells} {w0 : World} {vn v3 : Value} {b : List Int} {n : Int} {vb vb' : Value} {g g' : Int} {f f' : Bool} {s s' : Option (List Int × Int)} {w w' w'' : World} (r : Rdy S G F base cs w0 vn b vb g f s w) (c : Ctx S G F base cs w0)
    (hg : w.grownBy w' vn.ownBlock) (hn : OwnInts base w' vn b) (hw : Wake w.heap.size vn v3 b.length)
    (r2 : Rdy S G F base cs w0 v3 (b ++ [n]) vb' g' f' s' w'') (hf : FrC S G F v3.ownBlock w' w'') (hv : ∀ x, vb'.ownBlock = some x → vb.ownBlock = some x ∨ w'.heap.size ≤ x) :
    Rdy S G F base cs w0 vn b vb' g' f' s' w'' ∧ FrC S G F vn.ownBlock w w'' ∧ (∀ x, vb'.ownBlock = some x → vb.ownBlock = some x ∨ w.heap.size ≤ x) := by
  refine ⟨⟨?_, r2.st, fun x hx e => ?_, r2.k, r2.hb⟩, (FrC.of_grown hg).trans hf (fun x e => ?_), fun x hx => (hv x hx).imp id (fun h => Nat.le_trans hg.size h)⟩
  · rcases hw with ⟨g', c', e1, e2⟩ | hw
    · have := r2.own
      rw [e2] at this
      rw [e1]
      exact OwnInts.back rfl this
    · refine hn.frc hf c.hS c.hG c.hF (fun x hx e => ?_)
      rw [hw] at e
      have := (r.own.lt' hx).2
      have := Option.some.inj e
      omega
  · rcases hv x hx with h | h
    · exact r.sep x h e
    · have := (r.own.lt' e).2
      have := hg.size
      omega
  · rcases hw with ⟨g', c', e1, e2⟩ | hw
    · rw [e2] at e; rw [e1]; exact .inl e
    · rw [hw] at e; exact .inr (by have := Option.some.inj e; omega)

/-- a new best wear -/
theorem Rdy.store {S G F base : Nat} {cs : Cells} {w0 : World} {vn v' : Value} {b l : List Int} {vb : Value} {g : Int} {f : Bool} {s : Option (List Int × Int)} {w w2 : World} (r : Rdy S G F base cs w0 vn b vb g f s w) (c : Ctx S G F base cs w0)
    (h : Below w.heap.size w w2) (H : OwnInts w.heap.size w2 v' l) (n : Int) (row : Option Nat) :
    Rdy S G F base cs w0 vn b v' n true (some (l, n)) (((w2.setCell ⟨S, 0, none⟩ v').setCell ⟨G, 0, none⟩ (.int .i64 n)).setCell ⟨F, 0, none⟩ (.bool true)) ∧ FrC S G F row w (((w2.setCell ⟨S, 0, none⟩ v').setCell ⟨G, 0, none⟩ (.int .i64 n)).setCell ⟨F, 0, none⟩ (.bool true)) := by
  have hf : ∀ row, FrC S G F row w2 (((w2.setCell ⟨S, 0, none⟩ v').setCell ⟨G, 0, none⟩ (.int .i64 n)).setCell ⟨F, 0, none⟩ (.bool true)) := fun row => ((FrC.put (.inl rfl) _ _).trans' (FrC.put (.inr (.inl rfl)) _ _)).trans' (FrC.put (.inr (.inr rfl)) _ _)
  have r2 := r.later c h
  exact ⟨⟨r2.own.frc (hf none) c.hS c.hG c.hF (fun _ _ e => by cases e), ⟨rfl, rfl, (OwnInts.base' H r.hb).frc (hf none) c.hS c.hG c.hF (fun _ _ e => by cases e)⟩, fun x hx e => by
    have := (H.lt' hx).1
    have := (r.own.lt' e).2
    omega, r2.k.put3 c.hcs c.hSG c.hSF c.hGF, Nat.le_trans r2.hb (hf none).size⟩, (FrC.of_below h).trans' (hf row)⟩

/-! ### a search that stops early -/
theorem mergeN_idle {f : Nat → Bst} {s : Bst} {k : Nat} {m : Bst} : ∀ {n : Nat}, k ≤ n → mergeB s (mergeN f k) = m → (∀ i, k ≤ i → i < n → mergeB m (f i) = m) → mergeB s (mergeN f n) = m := by
  intro n
  induction n with
  | zero => intro h1 h2 _; obtain rfl : k = 0 := (by omega); exact h2
  | succ n ih =>
    intro h1 h2 h3
    by_cases hk : k = n + 1
    · rw [← hk]; exact h2
    · simp only [mergeN]
      rw [← mergeB_assoc, ih (by omega) h2 (fun i a b => h3 i a (by omega)), h3 n (by omega) (by omega)]
end Go.Proofs.Ytdcinngdilfpnaa
