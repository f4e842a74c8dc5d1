/-
  ONE WORD FOR WHAT STAYS WHILE A SCHOOL IS MADE OF NUMBERS; the names of wings; one append within a region that draws.
  A REGION THAT DRAWS ITS ORDER, WHOSE LAST OPERATION WRITES A CELL THAT ITS LOADS READ: the library's 'wpAnyH', with its condition asked only as long as that operation has not come up.
-/
import Derived.Test.YtefdopifebhgiaaGreatDoorKsc
import Derived.Deep.AppendLies
namespace Go.Proofs.YtefdopifebhgiaaGreatDoor
open Go.RowKit

/-- the names that a school may have, in their order -/
def kitNames : List ByteArray := [⟨#[102, 114, 111, 110, 116]⟩, ⟨#[100, 114, 117, 109, 115]⟩, ⟨#[102, 108, 97, 103, 115]⟩, ⟨#[102, 108, 111, 97, 116]⟩, ⟨#[98, 97, 105, 97, 110, 97, 115]⟩, ⟨#[107, 105, 100, 115]⟩, ⟨#[113, 117, 101, 101, 110, 115]⟩, ⟨#[98, 97, 99, 107]⟩]
def kitName (i : Nat) : ByteArray := kitNames.getD i ByteArray.empty

set_option maxHeartbeats 1000000 in
set_option maxRecDepth 100000 in
theorem names_any (w : World) :
    Calls Tryz.prog 24 #[] w fun e w' => ∃ g, w.heap.size ≤ g ∧ e = .returned (.slice (some ⟨g, 0, none⟩) 8 8) ∧ (∀ i, i < 8 → w'.cell? ⟨g, i, none⟩ = some (.string (kitName i))) ∧ Below w.heap.size w w' := by
  go_enter Tryz.func24, Tryz.ntmps24
  go_wp2
  go_ret
  refine ⟨_, Nat.le_refl _, rfl, fun i hi => ?_, (Below.refl _ w).alloc (Nat.le_refl _) _⟩
  match i, hi with
  | 0, _ => exact cell_at rfl rfl
  | 1, _ => exact cell_at rfl rfl
  | 2, _ => exact cell_at rfl rfl
  | 3, _ => exact cell_at rfl rfl
  | 4, _ => exact cell_at rfl rfl
  | 5, _ => exact cell_at rfl rfl
  | 6, _ => exact cell_at rfl rfl
  | 7, _ => exact cell_at rfl rfl

/-- a region that draws: its fact on the world may be made stronger on the way -/
theorem anyH_weaken {P : Program} {md : Region.Mode} {ops : Array Oper} {Q : Exit → Act → World → Prop} {S S2 : World → Prop} (hS : ∀ w, S2 w → S w) :
    ∀ (fuel : Nat) (listed : Array Bool) (a : Act) (w : World), wpAnyH P md ops Q S2 fuel listed a w → wpAnyH P md ops Q S fuel listed a w
  | 0, _, _, _, h => h
  | fuel + 1, _, _, _, h => ⟨h.1, fun i hi => wpOp_mono (fun _ _ h' => ⟨hS _ h'.1, anyH_weaken hS fuel _ _ _ h'.2⟩) (h.2 i hi)⟩
theorem switch_held {P : Program} {md : Region.Mode} {ops : Array Oper} {Q : Exit → Act → World → Prop} {S S2 : World → Prop} {fuel : Nat} {listed : Array Bool} {a : Act} {w : World}
    (hS : ∀ w, S2 w → S w) (h : S2 w ∧ wpAnyH P md ops Q S2 fuel listed a w) : S w ∧ wpAnyH P md ops Q S fuel listed a w := ⟨hS _ h.1, anyH_weaken hS _ _ _ _ h.2⟩

/-- what stays while a school is made in block B, its wings in a row of base or later; R: the result's block -/
structure Keep (d R B base : Nat) (w0 : World) (route : Int) (v : Value) (ws : List Wing) (w : World) : Prop where
  gb : w0.grownBy w (some d)
  beat : Beat d w
  c0 : w.cell? ⟨B, 0, none⟩ = some (.int .i64 route)
  c1 : w.cell? ⟨B, 1, none⟩ = some v
  f0 : w.frozen? ⟨B, 0, none⟩ = false
  f1 : w.frozen? ⟨B, 1, none⟩ = false
  r0 : w.cell? ⟨R, 0, none⟩ = some (.int .i64 0)
  r1 : w.cell? ⟨R, 1, none⟩ = some (.slice none 0 0)
  g0 : w.frozen? ⟨R, 0, none⟩ = false
  g1 : w.frozen? ⟨R, 1, none⟩ = false
  own : OwnWg base w v ws
  sz : base ≤ w.heap.size
  hd : d < w0.heap.size
  hR : w0.heap.size ≤ R
  hRB : R < B
  hB : B < base

variable {d R B base : Nat} {w0 w w' : World} {route : Int} {v : Value} {ws : List Wing}

theorem Keep.go (k : Keep d R B base w0 route v ws w) (hg : w.grownBy w' (some d)) (hb : Beat d w') : Keep d R B base w0 route v ws w' where
  gb := gb_trans k.gb hg
  beat := hb
  c0 := cell_gb hg (by have := k.hd; have := k.hR; have := k.hRB; omega) k.c0
  c1 := cell_gb hg (by have := k.hd; have := k.hR; have := k.hRB; omega) k.c1
  f0 := frozen_gb hg (by have := k.sz; have := k.hB; omega) (by have := k.hd; have := k.hR; have := k.hRB; omega) k.f0
  f1 := frozen_gb hg (by have := k.sz; have := k.hB; omega) (by have := k.hd; have := k.hR; have := k.hRB; omega) k.f1
  r0 := cell_gb hg (by have := k.hd; have := k.hR; omega) k.r0
  r1 := cell_gb hg (by have := k.hd; have := k.hR; omega) k.r1
  g0 := frozen_gb hg (by have := k.sz; have := k.hB; have := k.hRB; omega) (by have := k.hd; have := k.hR; omega) k.g0
  g1 := frozen_gb hg (by have := k.sz; have := k.hB; have := k.hRB; omega) (by have := k.hd; have := k.hR; omega) k.g1
  own := World.ownsRow.kept k.own hg (by
    cases e : v.ownBlock with
    | none => exact .inl rfl
    | some j => exact .inr (fun e2 => by have := (World.ownsRow.lt k.own j e).1; have := k.hd; have := k.hR; have := k.hRB; have := k.hB; cases e2; omega))
  sz := Nat.le_trans k.sz hg.size
  hd := k.hd
  hR := k.hR
  hRB := k.hRB
  hB := k.hB

theorem Keep.alloc (k : Keep d R B base w0 route v ws w) (X : Obj) : Keep d R B base w0 route v ws (w.alloc X) :=
  k.go (World.grownBy_alloc w X _) (k.beat.gb ((Below.refl _ w).alloc (Nat.le_refl _) X))
theorem Keep.drew (k : Keep d R B base w0 route v ws w) : Keep d R B base w0 route v ws w.drew :=
  k.go (gb_below (Below.refl _ w).drew _) (k.beat.gb (Below.refl _ w).drew)
theorem Keep.below (k : Keep d R B base w0 route v ws w) (h : Below w.heap.size w w') : Keep d R B base w0 route v ws w' :=
  k.go (gb_below h _) (k.beat.gb h)

theorem Keep.block (k : Keep d R B base w0 route v ws w) (hg : w.grownBy w' v.ownBlock) {b : Nat} (hb : b < base) : w'.heap[b]? = w.heap[b]? :=
  hg.block b (Nat.lt_of_lt_of_le hb k.sz) (fun e => by have := (World.ownsRow.lt k.own b e.symm).1; omega)
theorem Keep.cellOwn (k : Keep d R B base w0 route v ws w) (hg : w.grownBy w' v.ownBlock) {b o : Nat} (hb : b < base) {u : Value} (h : w.cell? ⟨b, o, none⟩ = some u) : w'.cell? ⟨b, o, none⟩ = some u :=
  (World.cell?_of_block (a := ⟨b, o, none⟩) (k.block hg hb)).trans h
theorem Keep.frozenOwn (k : Keep d R B base w0 route v ws w) (hg : w.grownBy w' v.ownBlock) {b o : Nat} (hb : b < base) (h : w.frozen? ⟨b, o, none⟩ = false) : w'.frozen? ⟨b, o, none⟩ = false :=
  (World.frozen?_of_block (a := ⟨b, o, none⟩) (k.block hg hb)).trans h

theorem Keep.stored (k : Keep d R B base w0 route v ws w) (hg : w.grownBy w' v.ownBlock) {v' : Value} {ws' : List Wing} (ho : OwnWg base w' v' ws') : Keep d R B base w0 route v' ws' (w'.setCell ⟨B, 1, none⟩ v') := by
  have h1 := k.hd
  have h2 := k.hR
  have h3 := k.hRB
  have h4 := k.hB
  have h5 := k.sz
  have h6 := hg.size
  have hp := gb_put w' B 1 v'
  have e0 : w'.cell? ⟨B, 1, none⟩ = some v := k.cellOwn hg h4 k.c1
  obtain ⟨u, hu, huf⟩ := k.beat
  refine ⟨⟨hp.os.trans (hg.os.trans k.gb.os), hp.tape.trans (hg.tape.trans k.gb.tape), hp.output.trans (hg.output.trans k.gb.output), Nat.le_trans k.gb.size (Nat.le_trans hg.size hp.size), fun i hi hn => ?_⟩,
    ⟨u, ?_, ?_⟩, ?_, ?_, ?_, ?_, ?_, ?_, ?_, ?_, ?_, ?_, h1, h2, h3, h4⟩
  · exact (hp.block i (by omega) (by intro e; cases e; omega)).trans ((k.block hg (by omega)).trans (k.gb.block i hi hn))
  · exact cell_set_far (by omega) (k.cellOwn hg (by omega) hu)
  · exact (World.frozen?_setCell _ _ _ _).trans (k.frozenOwn hg (by omega) huf)
  · exact (World.cell?_setCell_other _ _ _ _ (by intro e; cases e)).trans (k.cellOwn hg (by omega) k.c0)
  · exact World.cell?_setCell_same _ _ _ e0
  · exact (World.frozen?_setCell _ _ _ _).trans (k.frozenOwn hg (by omega) k.f0)
  · exact (World.frozen?_setCell _ _ _ _).trans (k.frozenOwn hg (by omega) k.f1)
  · exact cell_set_far (by omega) (k.cellOwn hg (by omega) k.r0)
  · exact cell_set_far (by omega) (k.cellOwn hg (by omega) k.r1)
  · exact (World.frozen?_setCell _ _ _ _).trans (k.frozenOwn hg (by omega) k.g0)
  · exact (World.frozen?_setCell _ _ _ _).trans (k.frozenOwn hg (by omega) k.g1)
  · exact ho.put (by omega)
  · exact Nat.le_trans h5 (Nat.le_trans h6 hp.size)

theorem step_app_wing {ops : Array Oper} {o : Oper} {a : Act} {K : Act → World → Prop} {Q : Exit → Act → World → Prop} {E : Prop} {w : World} (hgd : o.guard = none) (s x : Operand)
    (ho : o.op = .call { callee := .builtin .append, args := #[s, x], argTypes := #[22, 22] })
    (base : Nat) (xs : List Wing) (y : Wing) (v : Value) (hown : OwnWg base w v xs) (hs : a.eval s = v) (hx : a.eval x = .slice (some ⟨w.heap.size, 0, none⟩) 1 1)
    (hn : xs.length ≤ 1000000) (hbase : base ≤ w.heap.size)
    (h : ∀ a1 c1 w', OwnWg base w' (.slice a1 (xs.length + 1) c1) (xs ++ [y]) → w.grownBy w' v.ownBlock → K (a.put o.dst (.slice a1 (xs.length + 1) c1)) w') :
    if Region.wanted o (yielded ops a.tmps) = true then Oper.wp Tryz.prog o a (w.alloc (.cells #[.string y.name, .int .i64 y.len, .int .i64 y.lo, .int .i64 y.hi] 45)) K Q else E := by
  obtain ⟨i0, hi, hz0⟩ : ∃ i0, Tryz.prog.info? 45 = some i0 ∧ (i0.zero.map (·.cells.size), i0.size, i0.bytes) = (some 4, 4, 40) := by
    have := infoWing
    cases h : Tryz.prog.info? 45 with
    | none => rw [h] at this; simp at this
    | some i => rw [h] at this; exact ⟨i, rfl, by simpa using this⟩
  simp only [Prod.mk.injEq, Option.map_eq_some_iff] at hz0
  obtain ⟨⟨z, hz, hzs⟩, hsz, hby⟩ := hz0
  refine step_append_lies _ hgd s x 22 ho base 45 i0 z 4 40 Tryz.underlying22 hi hz hsz hby hzs (by decide) v xs.length (xs.flatMap wingCells) hs (World.ownsRow.alloc hown _) ⟨w.heap.size, 0, none⟩ 1 1 (wingCells y) hx rfl ?_
    (by intro u hu; simp [wingCells] at hu; rcases hu with rfl | rfl | rfl | rfl <;> rfl) (by decide) (by unfold maxLen; omega) (by omega) (by simp; omega) _ rfl ?_
  · intro j u hj
    have hlt : j < 4 := by have := (List.getElem?_eq_some_iff.1 hj).1; simpa [wingCells] using this
    match j, hlt with
    | 0, _ => simp [wingCells] at hj; subst hj; simp [Addr.add]
    | 1, _ => simp [wingCells] at hj; subst hj; simp [Addr.add]
    | 2, _ => simp [wingCells] at hj; subst hj; simp [Addr.add]
    | 3, _ => simp [wingCells] at hj; subst hj; simp [Addr.add]
  · intro g cap w' hown' hg _ _
    exact h _ _ w' (by unfold OwnWg; simpa using hown') (gb_trans (World.grownBy_alloc w _ _) hg)
end Go.Proofs.YtefdopifebhgiaaGreatDoor

namespace Go.Proofs.YtefdopifebhgiaaGreatDoor
open Go.RowKit

section
variable {P : Program} {ops : Array Oper} {Q : Exit → Act → World → Prop} {md : Region.Mode} {S : World → Prop} {L : Nat}

/-- Whatever order is picked from here on; S holds behind each operation as long as number L has not come up. -/
def wpAnyG (P : Program) (md : Region.Mode) (ops : Array Oper) (Q : Exit → Act → World → Prop) (L : Nat) (S : World → Prop) : Nat → Array Bool → Act → World → Prop
  | 0, listed, a, w => Region.ready md ops listed = [] ∧ Q .normal a w
  | fuel + 1, listed, a, w =>
    (Region.ready md ops listed = [] → Q .normal a w) ∧
    ∀ i ∈ Region.ready md ops listed, wpOp P ops Q i (fun a' w' => (i ≠ L → S w') ∧ wpAnyG P md ops Q L S fuel (listed.setIfInBounds i true) a' w') a w

theorem wpAny_of_G : ∀ (fuel : Nat) (listed : Array Bool) (a : Act) (w : World), wpAnyG P md ops Q L S fuel listed a w → wpAny P md ops Q fuel listed a w
  | 0, _, _, _, h => h
  | fuel + 1, _, _, _, h => ⟨h.1, fun i hi => wpOp_mono (fun _ _ h' => wpAny_of_G fuel _ _ _ h'.2) (h.2 i hi)⟩

theorem anyG_weaken {S2 : World → Prop} (hS : ∀ w, S2 w → S w) :
    ∀ (fuel : Nat) (listed : Array Bool) (a : Act) (w : World), wpAnyG P md ops Q L S2 fuel listed a w → wpAnyG P md ops Q L S fuel listed a w
  | 0, _, _, _, h => h
  | fuel + 1, _, _, _, h => ⟨h.1, fun i hi => wpOp_mono (fun _ _ h' => ⟨fun hi => hS _ (h'.1 hi), anyG_weaken hS fuel _ _ _ h'.2⟩) (h.2 i hi)⟩

/-- number L waits for number i -/
def waits (md : Region.Mode) (ops : Array Oper) (L i : Nat) : Bool :=
  match ops[L]? with
  | none => false
  | some o => o.after.any fun e => Region.binds md e && e.on == i

theorem not_ready_of_waits {i : Nat} {listed : Array Bool} (hw : waits md ops L i = true) (hi : listed.getD i false = false) : L ∉ Region.ready md ops listed := by
  intro h
  obtain ⟨_, o, ho, hall⟩ := mem_ready.1 h
  unfold waits at hw
  rw [ho] at hw
  simp only [Array.any_eq_true, Bool.and_eq_true, beq_iff_eq] at hw
  obtain ⟨j, hj, hb, he⟩ := hw
  have := hall _ (Array.getElem_mem hj) hb
  rw [he, hi] at this
  cases this

theorem wpAnyG_first {i : Nat} {oi : Oper} {v : Value} (hi : ops[i]? = some oi) (hsel : ∀ (j : Nat) (o : Oper) cs b, ops[j]? = some o → o.op ≠ .select cs b)
    (hQ : ∀ c a w, Q (.panic c) (a.put oi.dst v) w → Q (.panic c) a w) (hw : waits md ops L i = true) (hiL : i ≠ L) :
    ∀ (fuel : Nat) (listed : Array Bool) (a : Act) (w : World),
      (∀ j oj, ops[j]? = some oj → j ≠ i → listed.getD j true = false → (∀ e ∈ oj.after, Region.binds md e = true → e.on ≠ i) → oi.apart ops oj = true) →
      i ∈ Region.ready md ops listed → YieldsIf P ops S oi v a → S w →
      wpAnyG P md ops Q L S fuel (listed.setIfInBounds i true) (a.put oi.dst v) w → wpAnyG P md ops Q L S (fuel + 1) listed a w := by
  intro fuel
  induction fuel with
  | zero =>
    intro listed a w _ hr hy hS H
    refine ⟨fun h => (by rw [h] at hr; cases hr), fun j hj => ?_⟩
    by_cases hji : j = i
    · subst hji; exact hy.wpOp hi hS ⟨fun _ => hS, H⟩
    · have := ready_mono hj hji
      rw [H.1] at this
      cases this
  | succ fuel ih =>
    intro listed a w hfree hr hy hS H
    refine ⟨fun h => (by rw [h] at hr; cases hr), fun j hj => ?_⟩
    by_cases hji : j = i
    · subst hji; exact hy.wpOp hi hS ⟨fun _ => hS, H⟩
    · have h1 := H.2 j (ready_mono hj hji)
      have hun : listed.getD i false = false := by
        have h0 := (mem_ready.1 hr).1
        rcases Nat.lt_or_ge i listed.size with h' | h'
        · simp [h'] at h0 ⊢; exact h0
        · simp [Array.getElem?_eq_none h']
      have hjL : j ≠ L := fun e => not_ready_of_waits hw hun (e ▸ hj)
      obtain ⟨hjun, oj, hoj, hall⟩ := mem_ready.1 hj
      have hnot : ∀ e ∈ oj.after, Region.binds md e = true → e.on ≠ i := fun e he hb heq => by
        have h1 := hall e he hb
        rw [heq, hun] at h1
        cases h1
      have h2 := wpOp_putIf hoj (hfree j oj hoj hji hjun hnot) (fun cs b => hsel i oi cs b hi) (fun cs b => hsel j oj cs b hoj) hQ hy h1
      have hfree' : ∀ k ok, ops[k]? = some ok → k ≠ i → (listed.setIfInBounds j true).getD k true = false →
          (∀ e ∈ ok.after, Region.binds md e = true → e.on ≠ i) → oi.apart ops ok = true := fun k ok hk hki hun hno => by
        refine hfree k ok hk hki ?_ hno
        by_cases hjk : j = k
        · subst hjk; exact hjun
        · rw [getD_set_ne true hjk] at hun; exact hun
      refine wpOp_mono (fun a' w' h3 => ⟨h3.2.1, ih (listed.setIfInBounds j true) a' w' hfree' (ready_mono hr (Ne.symm hji)) h3.1 (h3.2.1 hjL) ?_⟩) h2
      rw [Array.setIfInBounds_comm _ _ hji]
      exact h3.2.2

theorem wpAnyG_take {i : Nat} {oi : Oper} {v : Value} {fuel : Nat} {listed : Array Bool} {a : Act} {w : World} (hi : ops.toList[i]? = some oi)
    (hs : Region.noSelect ops = true) (hf : Region.free md ops listed i = true) (hr : (Region.ready md ops listed).contains i = true) (hw : (waits md ops L i && i != L) = true)
    (hQ : ∀ c a w, Q (.panic c) (a.put oi.dst v) w → Q (.panic c) a w) (hy : YieldsIf P ops S oi v a) (hS : S w)
    (h : wpAnyG P md ops Q L S fuel (listed.setIfInBounds i true) (a.put oi.dst v) w) : wpAnyG P md ops Q L S (fuel + 1) listed a w := by
  simp only [Bool.and_eq_true, bne_iff_ne] at hw
  rw [Array.getElem?_toList] at hi
  exact wpAnyG_first hi (Region.noSelect_spec hs) hQ hw.1 hw.2 fuel listed a w (Region.free_spec hi hf) (by simpa using hr) hy hS h

theorem wpAnyG_done {listed : Array Bool} {a : Act} {w : World} (hr : Region.ready md ops listed = []) (h : Q .normal a w) :
    ∀ fuel, wpAnyG P md ops Q L S fuel listed a w
  | 0 => ⟨hr, h⟩
  | _ + 1 => ⟨fun _ => h, by rw [hr]; simp⟩

/-- each of the operations rs comes up next -/
def AllReadyG (P : Program) (md : Region.Mode) (ops : Array Oper) (Q : Exit → Act → World → Prop) (L : Nat) (S : World → Prop) (fuel : Nat) (listed : Array Bool) (a : Act) (w : World) (rs : List Nat) : Prop :=
  ∀ i ∈ rs, wpOp P ops Q i (fun a' w' => (i ≠ L → S w') ∧ wpAnyG P md ops Q L S fuel (listed.setIfInBounds i true) a' w') a w

theorem AllReadyG.nil {fuel : Nat} {listed : Array Bool} {a : Act} {w : World} : AllReadyG P md ops Q L S fuel listed a w [] := fun _ h => by cases h

theorem AllReadyG.cons {fuel : Nat} {listed : Array Bool} {a : Act} {w : World} {i : Nat} {o : Oper} {rs : List Nat} (ho : ops.toList[i]? = some o)
    (h : ∀ K' : Act → World → Prop, Shut (∀ a w, (i ≠ L → S w) → ((i ≠ L → S w) → wpAnyG P md ops Q L S fuel (listed.setIfInBounds i true) a w) → K' a w) → if Region.wanted o (yielded ops a.tmps) = true then Oper.wp P o a w K' Q else K' (a.put o.dst undef) w)
    (hs : AllReadyG P md ops Q L S fuel listed a w rs) : AllReadyG P md ops Q L S fuel listed a w (i :: rs) := fun j hj => by
  rcases List.mem_cons.1 hj with rfl | hj
  · exact wpOp_step (by rw [← Array.getElem?_toList]; exact ho) (fun K' hK => h K' (fun a w hS hW => hK a w ⟨hS, hW hS⟩))
  · exact hs j hj

theorem wpAnyG_ready {rs : List Nat} {fuel : Nat} {listed : Array Bool} {a : Act} {w : World} (hr : Region.ready md ops listed = rs) (hne : rs ≠ [])
    (h : AllReadyG P md ops Q L S fuel listed a w rs) : wpAnyG P md ops Q L S (fuel + 1) listed a w := ⟨fun h0 => absurd (hr ▸ h0) hne, hr ▸ h⟩

theorem wp_region_G {id : Nat} {a : Act} {w : World} (hm : P.follows .mixedOrders = true)
    (h : wpAnyG P .any ops Q L S ops.size (Array.replicate ops.size false) a w.drew) : (Code.region id ops true).wp P Q a w :=
  wp_region_any hm (wpAny_of_G _ _ _ _ h)

end
end Go.Proofs.YtefdopifebhgiaaGreatDoor
