/-
  A REGION THAT DRAWS ITS ORDER, BY AN INVARIANT: each operation is looked at once, whatever came up before it.
-/
import Derived.Test.YtefdopifebhgiaaGreatDoorKd
import Derived.Deep.RegionHeld3
import Derived.RegionTactic
namespace Go.Proofs.YtefdopifebhgiaaGreatDoor
open Go.RowKit

theorem filter_less {p p' : Nat → Bool} (himp : ∀ x, p' x = true → p x = true) : ∀ l : List Nat, (∃ i ∈ l, p i = true ∧ p' i = false) → (l.filter p').length < (l.filter p).length := by
  have hle : ∀ l : List Nat, (l.filter p').length ≤ (l.filter p).length := by
    intro l
    induction l with
    | nil => simp
    | cons x l ih =>
      by_cases h' : p' x = true
      · rw [List.filter_cons_of_pos h', List.filter_cons_of_pos (himp x h')]; simp; exact ih
      · rw [List.filter_cons_of_neg h']
        by_cases h : p x = true
        · rw [List.filter_cons_of_pos h]; simp; omega
        · rw [List.filter_cons_of_neg h]; exact ih
  intro l
  induction l with
  | nil => rintro ⟨i, hi, _⟩; cases hi
  | cons x l ih =>
    rintro ⟨i, hi, h1, h2⟩
    rcases List.mem_cons.1 hi with rfl | hi
    · rw [List.filter_cons_of_neg (by simp [h2]), List.filter_cons_of_pos h1]
      have := hle l
      simp; omega
    · have := ih ⟨i, hi, h1, h2⟩
      by_cases h' : p' x = true
      · rw [List.filter_cons_of_pos h', List.filter_cons_of_pos (himp x h')]; simp; exact this
      · rw [List.filter_cons_of_neg h']
        by_cases h : p x = true
        · rw [List.filter_cons_of_pos h]; simp; omega
        · rw [List.filter_cons_of_neg h]; exact this

section
variable {P : Program} {ops : Array Oper} {Q : Exit → Act → World → Prop} {md : Region.Mode}

/-- how many operations are still to come -/
def left (ops : Array Oper) (listed : Array Bool) : Nat := ((List.range ops.size).filter fun i => !listed.getD i true).length

theorem left_less {listed : Array Bool} {i : Nat} (hi : i ∈ Region.ready md ops listed) : left ops (listed.setIfInBounds i true) < left ops listed := by
  obtain ⟨h1, o, ho, _⟩ := mem_ready.1 hi
  have hlt : i < ops.size := (Array.getElem?_eq_some_iff.1 ho).1
  have hil : i < listed.size := by
    rcases Nat.lt_or_ge i listed.size with h | h
    · exact h
    · simp [Array.getElem?_eq_none h] at h1
  refine filter_less (fun x hx => ?_) _ ⟨i, List.mem_range.2 hlt, by simp only [h1]; rfl, ?_⟩
  · by_cases e : x = i
    · subst e; rw [h1]; rfl
    · rw [getD_set_ne true (Ne.symm e)] at hx; exact hx
  · simp [hil]

/-- all of them have come when none is ready, if each waits for elder ones only -/
theorem all_listed {listed : Array Bool} (hs : listed.size = ops.size) (hord : ∀ i o, ops[i]? = some o → ∀ e ∈ o.after, Region.binds md e = true → e.on < i) (hr : Region.ready md ops listed = []) :
    ∀ n i, i < n → i < ops.size → listed.getD i false = true := by
  intro n
  induction n with
  | zero => intro i h; omega
  | succ n ih =>
    intro i hi hlt
    by_cases h : i < n
    · exact ih i h hlt
    · obtain rfl : i = n := by omega
      cases hc : listed.getD i false with
      | true => rfl
      | false =>
        have ho : ops[i]? = some ops[i] := Array.getElem?_eq_getElem hlt
        have hm : i ∈ Region.ready md ops listed := mem_ready.2 ⟨by
          have h0 : i < listed.size := by omega
          simp [h0] at hc ⊢; exact hc, _, ho, fun e he hb => ih e.on (hord i _ ho e he hb) (by have := hord i _ ho e he hb; omega)⟩
        rw [hr] at hm
        cases hm

theorem wpAny_inv (Inv : Array Bool → Act → World → Prop) (hord : ∀ i o, ops[i]? = some o → ∀ e ∈ o.after, Region.binds md e = true → e.on < i)
    (hstep : ∀ listed a w i, Inv listed a w → i ∈ Region.ready md ops listed → wpOp P ops Q i (fun a' w' => Inv (listed.setIfInBounds i true) a' w') a w)
    (hend : ∀ listed a w, Inv listed a w → (∀ i, i < ops.size → listed.getD i false = true) → Q .normal a w) :
    ∀ (fuel : Nat) (listed : Array Bool) (a : Act) (w : World), listed.size = ops.size → left ops listed ≤ fuel → Inv listed a w → wpAny P md ops Q fuel listed a w := by
  intro fuel
  induction fuel with
  | zero =>
    intro listed a w hs hf hI
    have hr : Region.ready md ops listed = [] := by
      cases h : Region.ready md ops listed with
      | nil => rfl
      | cons i l =>
        have := left_less (md := md) (ops := ops) (listed := listed) (i := i) (by rw [h]; exact List.mem_cons_self ..)
        omega
    exact ⟨hr, hend _ _ _ hI fun i hi => all_listed hs hord hr (i + 1) i (by omega) hi⟩
  | succ fuel ih =>
    intro listed a w hs hf hI
    refine ⟨fun hr => hend _ _ _ hI fun i hi => all_listed hs hord hr (i + 1) i (by omega) hi, fun i hi => ?_⟩
    refine wpOp_mono (fun a' w' h => ih _ _ _ (by simpa using hs) (by have := left_less (md := md) (ops := ops) hi; omega) h) (hstep _ _ _ i hI hi)

theorem left_all (ops : Array Oper) : left ops (Array.replicate ops.size false) ≤ ops.size := by
  unfold left
  exact Nat.le_trans (List.length_filter_le _ _) (by simp)

/-- a region that draws, by an invariant -/
theorem wp_region_inv {id : Nat} {a : Act} {w : World} (hm : P.follows .mixedOrders = true) (Inv : Array Bool → Act → World → Prop)
    (hord : ∀ i o, ops[i]? = some o → ∀ e ∈ o.after, Region.binds .any e = true → e.on < i)
    (hstep : ∀ listed a w i, Inv listed a w → i ∈ Region.ready .any ops listed → wpOp P ops Q i (fun a' w' => Inv (listed.setIfInBounds i true) a' w') a w)
    (hend : ∀ listed a w, Inv listed a w → (∀ i, i < ops.size → listed.getD i false = true) → Q .normal a w)
    (h : Inv (Array.replicate ops.size false) a w.drew) : (Code.region id ops true).wp P Q a w :=
  wp_region_any hm (wpAny_inv Inv hord hstep hend _ _ _ _ (by simp) (left_all ops) h)
end
end Go.Proofs.YtefdopifebhgiaaGreatDoor

namespace Go.Proofs.YtefdopifebhgiaaGreatDoor
open Go.RowKit

/-- the slots and what stands in them -/
def putAll (a : Act) (vs : Nat → Value) : List Nat → Act
  | [] => a
  | k :: l => (putAll a vs l).put (some k) (vs k)

theorem putAll_self (a : Act) (slots : List Nat) : putAll a (fun k => a.tmps.getD k undef) slots = a := by
  induction slots with
  | nil => rfl
  | cons k l ih =>
    simp only [putAll, ih, Act.put]
    cases a
    rename_i tmps defers
    simp only [Act.mk.injEq, and_true]
    apply Array.ext_getElem?
    intro j
    rw [Array.getElem?_setIfInBounds]
    split
    · rename_i e; subst e
      split
      · rename_i h; simp [h]
      · rename_i h; simp at h; simp [h]
    · rfl

section
variable {P : Program} {ops : Array Oper} {Q : Exit → Act → World → Prop} {md : Region.Mode} {S : World → Prop}

theorem wpAnyH_inv (Inv : Array Bool → Act → World → Prop) (hord : ∀ i o, ops[i]? = some o → ∀ e ∈ o.after, Region.binds md e = true → e.on < i)
    (hstep : ∀ listed a w i, listed.size = ops.size → Inv listed a w → i ∈ Region.ready md ops listed → wpOp P ops Q i (fun a' w' => S w' ∧ Inv (listed.setIfInBounds i true) a' w') a w)
    (hend : ∀ listed a w, Inv listed a w → (∀ i, i < ops.size → listed.getD i false = true) → Q .normal a w) :
    ∀ (fuel : Nat) (listed : Array Bool) (a : Act) (w : World), listed.size = ops.size → left ops listed ≤ fuel → Inv listed a w → wpAnyH P md ops Q S fuel listed a w := by
  intro fuel
  induction fuel with
  | zero =>
    intro listed a w hs hf hI
    have hr : Region.ready md ops listed = [] := by
      cases h : Region.ready md ops listed with
      | nil => rfl
      | cons i l =>
        have := left_less (md := md) (ops := ops) (listed := listed) (i := i) (by rw [h]; exact List.mem_cons_self ..)
        omega
    exact ⟨hr, hend _ _ _ hI fun i hi => all_listed hs hord hr (i + 1) i (by omega) hi⟩
  | succ fuel ih =>
    intro listed a w hs hf hI
    refine ⟨fun hr => hend _ _ _ hI fun i hi => all_listed hs hord hr (i + 1) i (by omega) hi, fun i hi => ?_⟩
    refine wpOp_mono (fun a' w' h => ⟨h.1, ih _ _ _ (by simpa using hs) (by have := left_less (md := md) (ops := ops) hi; omega) h.2⟩) (hstep _ _ _ i hs hI hi)

/-- each operation waits for elder ones only -/
def ordered (md : Region.Mode) (ops : Array Oper) : Bool :=
  (List.range ops.size).all fun i => match ops[i]? with
    | none => true
    | some o => o.after.all fun e => !Region.binds md e || decide (e.on < i)

theorem ordered_spec (h : ordered md ops = true) : ∀ i o, ops[i]? = some o → ∀ e ∈ o.after, Region.binds md e = true → e.on < i := by
  intro i o ho e he hb
  unfold ordered at h
  rw [List.all_eq_true] at h
  have h1 := h i (List.mem_range.2 (Array.getElem?_eq_some_iff.1 ho).1)
  rw [ho] at h1
  simp only [Array.all_eq_true_iff_forall_mem] at h1
  have := h1 e he
  rw [hb] at this
  simpa using this

/-- number i waits for number j -/
def awaits (md : Region.Mode) (ops : Array Oper) (i j : Nat) : Bool :=
  match ops[i]? with
  | none => false
  | some o => o.after.any fun e => Region.binds md e && e.on == j

def mark (l : Nat → Bool) (i : Nat) : Nat → Bool := fun j => if j = i then true else l j

/-- the step of one operation: it finds F, and leaves F with itself marked -/
def StepS (P : Program) (md : Region.Mode) (ops : Array Oper) (Q : Exit → Act → World → Prop) (S : World → Prop) (a0 : Act) (slots : List Nat) (F : (Nat → Bool) → (Nat → Value) → World → Prop) (i : Nat) : Prop :=
  ∀ (l : Nat → Bool) (vs : Nat → Value) (w : World), l i = false → (∀ j, awaits md ops i j = true → l j = true) → S w → F l vs w →
    ∀ K : Act → World → Prop, Shut (∀ vs' w', S w' → F (mark l i) vs' w' → K (putAll a0 vs' slots) w') →
      match ops[i]? with
      | none => True
      | some o => if Region.wanted o (yielded ops (putAll a0 vs slots).tmps) = true then Oper.wp P o (putAll a0 vs slots) w K Q else K ((putAll a0 vs slots).put o.dst undef) w

theorem wpAnyH_slots {a0 : Act} {w0 : World} (slots taken rest : List Nat) (F : (Nat → Bool) → (Nat → Value) → World → Prop) {listed : Array Bool} {fuel : Nat}
    (hord : ordered md ops = true) (hcover : (List.range ops.size).all (fun i => taken.contains i || rest.contains i) = true) (hsize : listed.size = ops.size) (hleft : left ops listed ≤ fuel)
    (htaken : taken.all (fun i => listed.getD i false) = true) (hnot : rest.all (fun i => !listed.getD i true) = true)
    (hS : S w0) (hF : ∀ l vs, (∀ i ∈ rest, l i = false) → F l vs w0)
    (hstep : ∀ i ∈ rest, StepS P md ops Q S a0 slots F i)
    (hend : ∀ l vs w, (∀ i ∈ rest, l i = true) → S w → F l vs w → Q .normal (putAll a0 vs slots) w) :
    wpAnyH P md ops Q S fuel listed a0 w0 := by
  refine wpAnyH_inv (fun lt a w => (∀ i ∈ taken, lt.getD i false = true) ∧ S w ∧ ∃ vs, a = putAll a0 vs slots ∧ F (fun i => lt.getD i false) vs w) (ordered_spec hord) ?_ ?_ fuel listed a0 w0 hsize hleft ?_
  · rintro lt a w i hs ⟨ht, hSw, vs, rfl, hFw⟩ hi
    obtain ⟨h1, o, ho, hall⟩ := mem_ready.1 hi
    have hlt : i < ops.size := (Array.getElem?_eq_some_iff.1 ho).1
    have hl0 : lt.getD i false = false := by
      have h0 : i < lt.size := by omega
      simp [h0] at h1 ⊢; exact h1
    have hir : i ∈ rest := by
      rw [List.all_eq_true] at hcover
      have := hcover i (List.mem_range.2 hlt)
      simp only [Bool.or_eq_true, List.contains_iff_mem] at this
      rcases this with h | h
      · have := ht i h; rw [hl0] at this; cases this
      · exact h
    refine wpOp_step ho (fun K' hK => ?_)
    have h := hstep i hir (fun i => lt.getD i false) vs w hl0 (fun j hj => by
      unfold awaits at hj
      rw [ho] at hj
      simp only [Array.any_eq_true, Bool.and_eq_true, beq_iff_eq] at hj
      obtain ⟨n, hn, hb, he⟩ := hj
      have := hall _ (Array.getElem_mem hn) hb
      rw [he] at this
      exact this) hSw hFw K' (hid (fun vs' w' hS' hF' => hK _ _ ⟨hS', fun k hk => by
        by_cases e : k = i
        · subst e; simp [show k < lt.size by omega]
        · rw [getD_set_ne false (Ne.symm e)]; exact ht k hk, hS', vs', rfl, by
          have e : (fun k => (lt.setIfInBounds i true).getD k false) = mark (fun k => lt.getD k false) i := by
            funext k
            unfold mark
            by_cases e : k = i
            · subst e; rw [if_pos rfl]; simp [show k < lt.size by omega]
            · rw [if_neg e, getD_set_ne false (Ne.symm e)]
          rw [e]; exact hF'⟩))
    rw [ho] at h
    exact h
  · rintro lt a w ⟨ht, hSw, vs, rfl, hFw⟩ hall
    refine hend _ vs w (fun i hi => ?_) hSw hFw
    refine hall i ?_
    rw [List.all_eq_true] at hnot
    have h1 := hnot i hi
    by_cases h : i < ops.size
    · exact h
    · rw [Array.getD_eq_getD_getElem?, Array.getElem?_eq_none (by omega)] at h1
      simp at h1
  · refine ⟨fun i hi => by rw [List.all_eq_true] at htaken; exact htaken i hi, hS, fun k => a0.tmps.getD k undef, (putAll_self a0 slots).symm, hF _ _ (fun i hi => ?_)⟩
    rw [List.all_eq_true] at hnot
    have h1 := hnot i hi
    by_cases h0 : i < listed.size
    · simp [h0] at h1 ⊢; exact h1
    · simp [h0]

theorem StepS.nil {a0 : Act} {slots : List Nat} {F : (Nat → Bool) → (Nat → Value) → World → Prop} : ∀ i ∈ ([] : List Nat), StepS P md ops Q S a0 slots F i := fun _ h => by cases h

/-- one operation's step, the others' behind it -/
theorem StepS.cons {a0 : Act} {slots : List Nat} {F : (Nat → Bool) → (Nat → Value) → World → Prop} {i : Nat} {o : Oper} {rs : List Nat} (ho : ops.toList[i]? = some o)
    (h : ∀ (l : Nat → Bool) (vs : Nat → Value) (w : World), l i = false → (∀ j, awaits md ops i j = true → l j = true) → S w → F l vs w →
      ∀ K : Act → World → Prop, Shut (∀ vs' w', S w' → F (mark l i) vs' w' → K (putAll a0 vs' slots) w') →
        if Region.wanted o (yielded ops (putAll a0 vs slots).tmps) = true then Oper.wp P o (putAll a0 vs slots) w K Q else K ((putAll a0 vs slots).put o.dst undef) w)
    (hs : ∀ j ∈ rs, StepS P md ops Q S a0 slots F j) : ∀ j ∈ i :: rs, StepS P md ops Q S a0 slots F j := fun j hj => by
  rcases List.mem_cons.1 hj with rfl | hj
  · intro l vs w h1 h2 h3 h4 K hK
    rw [← Array.getElem?_toList, ho]
    exact h l vs w h1 h2 h3 h4 K hK
  · exact hs j hj
end

theorem putK {S : World → Prop} {a0 : Act} {slots : List Nat} {G : (Nat → Value) → World → Prop} {K' : Act → World → Prop} {a : Act} {w' : World} {vs' : Nat → Value}
    (h : ∀ vs' w', S w' → G vs' w' → K' (putAll a0 vs' slots) w') (e : putAll a0 vs' slots = a) (hS : S w') (hG : G vs' w') : K' a w' := e ▸ h vs' w' hS hG

/-- a slice literal's cells, in a block that is new since b0 -/
def LitAt (b0 : Nat) (w : World) (v : Value) (n : Nat) (cells : List Value) : Prop :=
  ∃ A, v = .slice (some ⟨A, 0, none⟩) n n ∧ b0 ≤ A ∧ A < w.heap.size ∧ ∀ o u, cells[o]? = some u → w.cell? ⟨A, o, none⟩ = some u ∧ w.frozen? ⟨A, o, none⟩ = false

theorem LitAt.later {b0 d : Nat} {w w' : World} {v : Value} {n : Nat} {cells : List Value} (h : LitAt b0 w v n cells) (hg : w.grownBy w' (some d)) (hd : d < b0) : LitAt b0 w' v n cells := by
  obtain ⟨A, e, hb, hlt, hc⟩ := h
  exact ⟨A, e, hb, Nat.lt_of_lt_of_le hlt hg.size, fun o u ho => ⟨cell_gb hg (by omega) (hc o u ho).1, frozen_gb hg hlt (by omega) (hc o u ho).2⟩⟩
theorem LitAt.new {b0 : Nat} {w : World} {n : Nat} {cells : List Value} {t : TypeId} (hb : b0 ≤ w.heap.size) : LitAt b0 (w.alloc (.cells cells.toArray t)) (.slice (some ⟨w.heap.size, 0, none⟩) n n) n cells :=
  ⟨_, rfl, hb, by simp, fun o u ho => ⟨cell_at rfl (by simpa using ho), frozen_at rfl⟩⟩
end Go.Proofs.YtefdopifebhgiaaGreatDoor
