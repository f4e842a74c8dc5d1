/-
  A REGION THAT DRAWS ITS ORDER, BY AN INVARIANT: each operation is looked at once, whatever came up before it; so many free operations cost no more than they are.
  A REGION THAT DRAWS ITS ORDER, from a point on where what is free of it has been taken: an invariant over the slots that the rest writes.
  CELLS OF BLOCKS THAT ARE NEW are held too.
  WALKS: Less, In, Inside.
  A STORE INTO A LIST OF THE STATEMENT's OWN: wings, numbers; what stays.
-/
import Derived.Test.YtgfipifgijohhaaDoorKp
import Derived.Test.YtgfipifgijohhaaDoorLk
import Derived.Test.YtgfipifgijohhaaDoorLo
namespace Go.Proofs.YtgfipifgijohhaaDoor
open Go.RowKit

theorem filter_less {p p' : Nat → Bool} (himp : ∀ x, p' x = true → p x = true) : ∀ l : List Nat, (∃ i ∈ l, p i = true ∧ p' i = false) → (l.filter p').length < (l.filter p).length := by
  have hle : ∀ l : List Nat, (l.filter p').length ≤ (l.filter p).length := by
    intro l
    induction l with
    | nil => simp
    | cons x l ih =>
      by_cases h' : p' x = true
      · rw [List.filter_cons_of_pos h', List.filter_cons_of_pos (himp x h')]; simp; exact ih
      · rw [List.filter_cons_of_neg h']
        by_cases h : p x = true
        · rw [List.filter_cons_of_pos h]; simp; omega
        · rw [List.filter_cons_of_neg h]; exact ih
  intro l
  induction l with
  | nil => rintro ⟨i, hi, _⟩; cases hi
  | cons x l ih =>
    rintro ⟨i, hi, h1, h2⟩
    rcases List.mem_cons.1 hi with rfl | hi
    · rw [List.filter_cons_of_neg (by simp [h2]), List.filter_cons_of_pos h1]
      have := hle l
      simp; omega
    · have := ih ⟨i, hi, h1, h2⟩
      by_cases h' : p' x = true
      · rw [List.filter_cons_of_pos h', List.filter_cons_of_pos (himp x h')]; simp; exact this
      · rw [List.filter_cons_of_neg h']
        by_cases h : p x = true
        · rw [List.filter_cons_of_pos h]; simp; omega
        · rw [List.filter_cons_of_neg h]; exact this

section
variable {P : Program} {ops : Array Oper} {Q : Exit → Act → World → Prop} {md : Region.Mode}

/-- how many operations are still to come -/
def left (ops : Array Oper) (listed : Array Bool) : Nat := ((List.range ops.size).filter fun i => !listed.getD i true).length

theorem left_less {listed : Array Bool} {i : Nat} (hi : i ∈ Region.ready md ops listed) : left ops (listed.setIfInBounds i true) < left ops listed := by
  obtain ⟨h1, o, ho, _⟩ := mem_ready.1 hi
  have hlt : i < ops.size := (Array.getElem?_eq_some_iff.1 ho).1
  have hil : i < listed.size := by
    rcases Nat.lt_or_ge i listed.size with h | h
    · exact h
    · simp [Array.getElem?_eq_none h] at h1
  refine filter_less (fun x hx => ?_) _ ⟨i, List.mem_range.2 hlt, by simp only [h1]; rfl, ?_⟩
  · by_cases e : x = i
    · subst e; rw [h1]; rfl
    · rw [getD_set_ne true (Ne.symm e)] at hx; exact hx
  · simp [hil]

/-- all of them have come when none is ready, if each waits for elder ones only -/
theorem all_listed {listed : Array Bool} (hs : listed.size = ops.size) (hord : ∀ i o, ops[i]? = some o → ∀ e ∈ o.after, Region.binds md e = true → e.on < i) (hr : Region.ready md ops listed = []) :
    ∀ n i, i < n → i < ops.size → listed.getD i false = true := by
  intro n
  induction n with
  | zero => intro i h; omega
  | succ n ih =>
    intro i hi hlt
    by_cases h : i < n
    · exact ih i h hlt
    · obtain rfl : i = n := by omega
      cases hc : listed.getD i false with
      | true => rfl
      | false =>
        have ho : ops[i]? = some ops[i] := Array.getElem?_eq_getElem hlt
        have hm : i ∈ Region.ready md ops listed := mem_ready.2 ⟨by
          have h0 : i < listed.size := by omega
          simp [h0] at hc ⊢; exact hc, _, ho, fun e he hb => ih e.on (hord i _ ho e he hb) (by have := hord i _ ho e he hb; omega)⟩
        rw [hr] at hm
        cases hm

theorem wpAny_inv (Inv : Array Bool → Act → World → Prop) (hord : ∀ i o, ops[i]? = some o → ∀ e ∈ o.after, Region.binds md e = true → e.on < i)
    (hstep : ∀ listed a w i, Inv listed a w → i ∈ Region.ready md ops listed → wpOp P ops Q i (fun a' w' => Inv (listed.setIfInBounds i true) a' w') a w)
    (hend : ∀ listed a w, Inv listed a w → (∀ i, i < ops.size → listed.getD i false = true) → Q .normal a w) :
    ∀ (fuel : Nat) (listed : Array Bool) (a : Act) (w : World), listed.size = ops.size → left ops listed ≤ fuel → Inv listed a w → wpAny P md ops Q fuel listed a w := by
  intro fuel
  induction fuel with
  | zero =>
    intro listed a w hs hf hI
    have hr : Region.ready md ops listed = [] := by
      cases h : Region.ready md ops listed with
      | nil => rfl
      | cons i l =>
        have := left_less (md := md) (ops := ops) (listed := listed) (i := i) (by rw [h]; exact List.mem_cons_self ..)
        omega
    exact ⟨hr, hend _ _ _ hI fun i hi => all_listed hs hord hr (i + 1) i (by omega) hi⟩
  | succ fuel ih =>
    intro listed a w hs hf hI
    refine ⟨fun hr => hend _ _ _ hI fun i hi => all_listed hs hord hr (i + 1) i (by omega) hi, fun i hi => ?_⟩
    refine wpOp_mono (fun a' w' h => ih _ _ _ (by simpa using hs) (by have := left_less (md := md) (ops := ops) hi; omega) h) (hstep _ _ _ i hI hi)

theorem left_all (ops : Array Oper) : left ops (Array.replicate ops.size false) ≤ ops.size := by
  unfold left
  exact Nat.le_trans (List.length_filter_le _ _) (by simp)

/-- a region that draws, by an invariant -/
theorem wp_region_inv {id : Nat} {a : Act} {w : World} (hm : P.follows .mixedOrders = true) (Inv : Array Bool → Act → World → Prop)
    (hord : ∀ i o, ops[i]? = some o → ∀ e ∈ o.after, Region.binds .any e = true → e.on < i)
    (hstep : ∀ listed a w i, Inv listed a w → i ∈ Region.ready .any ops listed → wpOp P ops Q i (fun a' w' => Inv (listed.setIfInBounds i true) a' w') a w)
    (hend : ∀ listed a w, Inv listed a w → (∀ i, i < ops.size → listed.getD i false = true) → Q .normal a w)
    (h : Inv (Array.replicate ops.size false) a w.drew) : (Code.region id ops true).wp P Q a w :=
  wp_region_any hm (wpAny_inv Inv hord hstep hend _ _ _ _ (by simp) (left_all ops) h)
end
end Go.Proofs.YtgfipifgijohhaaDoor

namespace Go.Proofs.YtgfipifgijohhaaDoor
open Go.RowKit

/-- the slots and what stands in them -/
def putAll (a : Act) (vs : Nat → Value) : List Nat → Act
  | [] => a
  | k :: l => (putAll a vs l).put (some k) (vs k)

theorem putAll_self (a : Act) (slots : List Nat) : putAll a (fun k => a.tmps.getD k undef) slots = a := by
  induction slots with
  | nil => rfl
  | cons k l ih =>
    simp only [putAll, ih, Act.put]
    cases a
    rename_i tmps defers
    simp only [Act.mk.injEq, and_true]
    apply Array.ext_getElem?
    intro j
    rw [Array.getElem?_setIfInBounds]
    split
    · rename_i e; subst e
      split
      · rename_i h; simp [h]
      · rename_i h; simp at h; simp [h]
    · rfl

section
variable {P : Program} {ops : Array Oper} {Q : Exit → Act → World → Prop} {md : Region.Mode} {S : World → Prop}

theorem wpAnyH_inv (Inv : Array Bool → Act → World → Prop) (hord : ∀ i o, ops[i]? = some o → ∀ e ∈ o.after, Region.binds md e = true → e.on < i)
    (hstep : ∀ listed a w i, listed.size = ops.size → Inv listed a w → i ∈ Region.ready md ops listed → wpOp P ops Q i (fun a' w' => S w' ∧ Inv (listed.setIfInBounds i true) a' w') a w)
    (hend : ∀ listed a w, Inv listed a w → (∀ i, i < ops.size → listed.getD i false = true) → Q .normal a w) :
    ∀ (fuel : Nat) (listed : Array Bool) (a : Act) (w : World), listed.size = ops.size → left ops listed ≤ fuel → Inv listed a w → wpAnyH P md ops Q S fuel listed a w := by
  intro fuel
  induction fuel with
  | zero =>
    intro listed a w hs hf hI
    have hr : Region.ready md ops listed = [] := by
      cases h : Region.ready md ops listed with
      | nil => rfl
      | cons i l =>
        have := left_less (md := md) (ops := ops) (listed := listed) (i := i) (by rw [h]; exact List.mem_cons_self ..)
        omega
    exact ⟨hr, hend _ _ _ hI fun i hi => all_listed hs hord hr (i + 1) i (by omega) hi⟩
  | succ fuel ih =>
    intro listed a w hs hf hI
    refine ⟨fun hr => hend _ _ _ hI fun i hi => all_listed hs hord hr (i + 1) i (by omega) hi, fun i hi => ?_⟩
    refine wpOp_mono (fun a' w' h => ⟨h.1, ih _ _ _ (by simpa using hs) (by have := left_less (md := md) (ops := ops) hi; omega) h.2⟩) (hstep _ _ _ i hs hI hi)

/-- each operation waits for elder ones only -/
def ordered (md : Region.Mode) (ops : Array Oper) : Bool :=
  (List.range ops.size).all fun i => match ops[i]? with
    | none => true
    | some o => o.after.all fun e => !Region.binds md e || decide (e.on < i)

theorem ordered_spec (h : ordered md ops = true) : ∀ i o, ops[i]? = some o → ∀ e ∈ o.after, Region.binds md e = true → e.on < i := by
  intro i o ho e he hb
  unfold ordered at h
  rw [List.all_eq_true] at h
  have h1 := h i (List.mem_range.2 (Array.getElem?_eq_some_iff.1 ho).1)
  rw [ho] at h1
  simp only [Array.all_eq_true_iff_forall_mem] at h1
  have := h1 e he
  rw [hb] at this
  simpa using this

/-- number i waits for number j -/
def awaits (md : Region.Mode) (ops : Array Oper) (i j : Nat) : Bool :=
  match ops[i]? with
  | none => false
  | some o => o.after.any fun e => Region.binds md e && e.on == j

def mark (l : Nat → Bool) (i : Nat) : Nat → Bool := fun j => if j = i then true else l j

/-- the step of one operation: it finds F, and leaves F with itself marked -/
def StepS (P : Program) (md : Region.Mode) (ops : Array Oper) (Q : Exit → Act → World → Prop) (S : World → Prop) (a0 : Act) (slots : List Nat) (F : (Nat → Bool) → (Nat → Value) → World → Prop) (i : Nat) : Prop :=
  ∀ (l : Nat → Bool) (vs : Nat → Value) (w : World), l i = false → (∀ j, awaits md ops i j = true → l j = true) → S w → F l vs w →
    ∀ K : Act → World → Prop, Shut (∀ vs' w', S w' → F (mark l i) vs' w' → K (putAll a0 vs' slots) w') →
      match ops[i]? with
      | none => True
      | some o => if Region.wanted o (yielded ops (putAll a0 vs slots).tmps) = true then Oper.wp P o (putAll a0 vs slots) w K Q else K ((putAll a0 vs slots).put o.dst undef) w

theorem wpAnyH_slots {a0 : Act} {w0 : World} (slots taken rest : List Nat) (F : (Nat → Bool) → (Nat → Value) → World → Prop) {listed : Array Bool} {fuel : Nat}
    (hord : ordered md ops = true) (hcover : (List.range ops.size).all (fun i => taken.contains i || rest.contains i) = true) (hsize : listed.size = ops.size) (hleft : left ops listed ≤ fuel)
    (htaken : taken.all (fun i => listed.getD i false) = true) (hnot : rest.all (fun i => !listed.getD i true) = true)
    (hS : S w0) (hF : ∀ l vs, (∀ i ∈ rest, l i = false) → F l vs w0)
    (hstep : ∀ i ∈ rest, StepS P md ops Q S a0 slots F i)
    (hend : ∀ l vs w, (∀ i ∈ rest, l i = true) → S w → F l vs w → Q .normal (putAll a0 vs slots) w) :
    wpAnyH P md ops Q S fuel listed a0 w0 := by
  refine wpAnyH_inv (fun lt a w => (∀ i ∈ taken, lt.getD i false = true) ∧ S w ∧ ∃ vs, a = putAll a0 vs slots ∧ F (fun i => lt.getD i false) vs w) (ordered_spec hord) ?_ ?_ fuel listed a0 w0 hsize hleft ?_
  · rintro lt a w i hs ⟨ht, hSw, vs, rfl, hFw⟩ hi
    obtain ⟨h1, o, ho, hall⟩ := mem_ready.1 hi
    have hlt : i < ops.size := (Array.getElem?_eq_some_iff.1 ho).1
    have hl0 : lt.getD i false = false := by
      have h0 : i < lt.size := by omega
      simp [h0] at h1 ⊢; exact h1
    have hir : i ∈ rest := by
      rw [List.all_eq_true] at hcover
      have := hcover i (List.mem_range.2 hlt)
      simp only [Bool.or_eq_true, List.contains_iff_mem] at this
      rcases this with h | h
      · have := ht i h; rw [hl0] at this; cases this
      · exact h
    refine wpOp_step ho (fun K' hK => ?_)
    have h := hstep i hir (fun i => lt.getD i false) vs w hl0 (fun j hj => by
      unfold awaits at hj
      rw [ho] at hj
      simp only [Array.any_eq_true, Bool.and_eq_true, beq_iff_eq] at hj
      obtain ⟨n, hn, hb, he⟩ := hj
      have := hall _ (Array.getElem_mem hn) hb
      rw [he] at this
      exact this) hSw hFw K' (hid (fun vs' w' hS' hF' => hK _ _ ⟨hS', fun k hk => by
        by_cases e : k = i
        · subst e; simp [show k < lt.size by omega]
        · rw [getD_set_ne false (Ne.symm e)]; exact ht k hk, hS', vs', rfl, by
          have e : (fun k => (lt.setIfInBounds i true).getD k false) = mark (fun k => lt.getD k false) i := by
            funext k
            unfold mark
            by_cases e : k = i
            · subst e; rw [if_pos rfl]; simp [show k < lt.size by omega]
            · rw [if_neg e, getD_set_ne false (Ne.symm e)]
          rw [e]; exact hF'⟩))
    rw [ho] at h
    exact h
  · rintro lt a w ⟨ht, hSw, vs, rfl, hFw⟩ hall
    refine hend _ vs w (fun i hi => ?_) hSw hFw
    refine hall i ?_
    rw [List.all_eq_true] at hnot
    have h1 := hnot i hi
    by_cases h : i < ops.size
    · exact h
    · rw [Array.getD_eq_getD_getElem?, Array.getElem?_eq_none (by omega)] at h1
      simp at h1
  · refine ⟨fun i hi => by rw [List.all_eq_true] at htaken; exact htaken i hi, hS, fun k => a0.tmps.getD k undef, (putAll_self a0 slots).symm, hF _ _ (fun i hi => ?_)⟩
    rw [List.all_eq_true] at hnot
    have h1 := hnot i hi
    by_cases h0 : i < listed.size
    · simp [h0] at h1 ⊢; exact h1
    · simp [h0]

theorem StepS.nil {a0 : Act} {slots : List Nat} {F : (Nat → Bool) → (Nat → Value) → World → Prop} : ∀ i ∈ ([] : List Nat), StepS P md ops Q S a0 slots F i := fun _ h => by cases h

/-- one operation's step, the others' behind it -/
theorem StepS.cons {a0 : Act} {slots : List Nat} {F : (Nat → Bool) → (Nat → Value) → World → Prop} {i : Nat} {o : Oper} {rs : List Nat} (ho : ops.toList[i]? = some o)
    (h : ∀ (l : Nat → Bool) (vs : Nat → Value) (w : World), l i = false → (∀ j, awaits md ops i j = true → l j = true) → S w → F l vs w →
      ∀ K : Act → World → Prop, Shut (∀ vs' w', S w' → F (mark l i) vs' w' → K (putAll a0 vs' slots) w') →
        if Region.wanted o (yielded ops (putAll a0 vs slots).tmps) = true then Oper.wp P o (putAll a0 vs slots) w K Q else K ((putAll a0 vs slots).put o.dst undef) w)
    (hs : ∀ j ∈ rs, StepS P md ops Q S a0 slots F j) : ∀ j ∈ i :: rs, StepS P md ops Q S a0 slots F j := fun j hj => by
  rcases List.mem_cons.1 hj with rfl | hj
  · intro l vs w h1 h2 h3 h4 K hK
    rw [← Array.getElem?_toList, ho]
    exact h l vs w h1 h2 h3 h4 K hK
  · exact hs j hj
end

theorem putK {S : World → Prop} {a0 : Act} {slots : List Nat} {G : (Nat → Value) → World → Prop} {K' : Act → World → Prop} {a : Act} {w' : World} {vs' : Nat → Value}
    (h : ∀ vs' w', S w' → G vs' w' → K' (putAll a0 vs' slots) w') (e : putAll a0 vs' slots = a) (hS : S w') (hG : G vs' w') : K' a w' := e ▸ h vs' w' hS hG

/-- a slice literal's cells, in a block that is new since b0 -/
def LitAt (b0 : Nat) (w : World) (v : Value) (n : Nat) (cells : List Value) : Prop :=
  ∃ A, v = .slice (some ⟨A, 0, none⟩) n n ∧ b0 ≤ A ∧ A < w.heap.size ∧ ∀ o u, cells[o]? = some u → w.cell? ⟨A, o, none⟩ = some u ∧ w.frozen? ⟨A, o, none⟩ = false

theorem LitAt.later {b0 d : Nat} {w w' : World} {v : Value} {n : Nat} {cells : List Value} (h : LitAt b0 w v n cells) (hg : w.grownBy w' (some d)) (hd : d < b0) : LitAt b0 w' v n cells := by
  obtain ⟨A, e, hb, hlt, hc⟩ := h
  exact ⟨A, e, hb, Nat.lt_of_lt_of_le hlt hg.size, fun o u ho => ⟨cell_gb hg (by omega) (hc o u ho).1, frozen_gb hg hlt (by omega) (hc o u ho).2⟩⟩
theorem LitAt.new {b0 : Nat} {w : World} {n : Nat} {cells : List Value} {t : TypeId} (hb : b0 ≤ w.heap.size) : LitAt b0 (w.alloc (.cells cells.toArray t)) (.slice (some ⟨w.heap.size, 0, none⟩) n n) n cells :=
  ⟨_, rfl, hb, by simp, fun o u ho => ⟨cell_at rfl (by simpa using ho), frozen_at rfl⟩⟩
end Go.Proofs.YtgfipifgijohhaaDoor

namespace Go.Proofs.YtgfipifgijohhaaDoor
open Go.RowKit

/-- a cell of a block that is new since w -/
theorem LK.addFar2 {d : Nat} {cs : Cells} {li : List (Value × List Int)} {lw : List (Value × List Wing)} {w0 w w' : World} (k : LK d cs li lw w0 w) {cs' : Cells} (k' : LK d cs' li lw w0 w') {b o : Nat} {v : Value} (hb : w.heap.size ≤ b)
    (hc : w'.cell? ⟨b, o, none⟩ = some v) (hf : w'.frozen? ⟨b, o, none⟩ = false) : LK d ((b, o, v) :: cs') li lw w0 w' where
  below := k'.below
  d0 := k'.d0
  beat := k'.beat
  cell := fun b o' u h => by
    rcases List.mem_cons.1 h with h | h
    · cases h; exact ⟨by have := k.lt; omega, Nat.le_trans k.below.size hb, hc, hf⟩
    · exact k'.cell b o' u h
  ints := fun v xs h => ⟨k'.i h, fun h0 b o' u hm => by
    rcases List.mem_cons.1 hm with hm | hm
    · cases hm
      obtain ⟨b, e, hb, _⟩ := (k.i h).block h0
      intro e2; rw [e] at e2; cases e2; omega
    · exact (k'.ints v xs h).2 h0 b o' u hm⟩
  wgs := fun v xs h => ⟨k'.g h, fun h0 b o' u hm => by
    rcases List.mem_cons.1 hm with hm | hm
    · cases hm
      obtain ⟨b, e, hb, _⟩ := (k.g h).block h0
      intro e2; rw [e] at e2; cases e2; omega
    · exact (k'.wgs v xs h).2 h0 b o' u hm⟩

theorem LK.addNews {d : Nat} {cs : Cells} {li : List (Value × List Int)} {lw : List (Value × List Wing)} {w0 w w' : World} (k : LK d cs li lw w0 w) {cs' : Cells} (k' : LK d cs' li lw w0 w') :
    ∀ news : Cells, (∀ b o v, (b, o, v) ∈ news → w.heap.size ≤ b ∧ w'.cell? ⟨b, o, none⟩ = some v ∧ w'.frozen? ⟨b, o, none⟩ = false) → LK d (news ++ cs') li lw w0 w'
  | [], _ => k'
  | (b, o, v) :: news, h => by
    obtain ⟨h1, h2, h3⟩ := h b o v (List.mem_cons_self ..)
    exact k.addFar2 (LK.addNews k k' news fun b' o' v' hm => h b' o' v' (List.mem_cons_of_mem _ hm)) h1 h2 h3

/-- the cells of a literal -/
def litCells (A : Nat) (cells : List Value) : Cells := cells.zipIdx.map fun x => (A, x.2, x.1)

theorem LK.addLit {d : Nat} {cs : Cells} {li : List (Value × List Int)} {lw : List (Value × List Wing)} {w0 w w' : World} (k : LK d cs li lw w0 w) {cs' : Cells} (k' : LK d cs' li lw w0 w') {A : Nat} {cells : List Value} (hb : w.heap.size ≤ A)
    (h : ∀ o u, cells[o]? = some u → w'.cell? ⟨A, o, none⟩ = some u ∧ w'.frozen? ⟨A, o, none⟩ = false) : LK d (litCells A cells ++ cs') li lw w0 w' :=
  k.addNews k' _ fun b o v hm => by
    obtain ⟨x, hx, e⟩ := List.mem_map.1 hm
    cases e
    obtain ⟨h1, h2⟩ := h _ _ (List.mem_zipIdx_iff_getElem?.1 hx)
    exact ⟨hb, h1, h2⟩
end Go.Proofs.YtgfipifgijohhaaDoor

namespace Go.Proofs.YtgfipifgijohhaaDoor
open Go.RowKit

theorem DK.second {d B : Nat} {cs cs' : List Value} {w0 w : World} {t : TypeId} (k : DK d B cs w0 w) : DK d w.heap.size cs' w0 (w.alloc (.cells cs'.toArray t)) where
  gb := (k.alloc _).gb
  beat := (k.alloc _).beat
  hd := k.hd
  hR := k.gb.size
  hlt := by simp
  cells := fun i v hv => cell_at rfl (by simpa using hv)
  fr := fun i => frozen_at rfl

set_option maxHeartbeats 1000000 in
set_option maxRecDepth 100000 in
theorem less_any (d : Nat) (lo hi : Int) (w : World) (h : Beat d w) (h1 : -1000000000 ≤ lo) (h2 : lo ≤ hi) (h4 : hi ≤ 1000000000) :
    Calls Tryd.prog 53 #[.pointer (some ⟨d, 0, none⟩), .agg #[.int .i64 lo, .int .i64 hi]] w
     fun e w' => ∃ a b : Int, e = .returned (.agg #[.int .i64 a, .int .i64 b]) ∧ lo ≤ a ∧ a ≤ b ∧ b ≤ hi ∧ Beat d w' ∧ w.grownBy w' (some d) := by
  have K := hid (DK.start (t := 27) (cs := [.int .i64 lo, .int .i64 hi]) h)
  have R := hid ((K.out.second (t := 27) (cs' := [.int .i64 0, .int .i64 0])).drew)
  have K := hid (K.out.alloc (.cells #[.int .i64 0, .int .i64 0] 27)).drew
  have hd := h.lt
  clear h
  have e1 : (w.alloc (.cells #[.int .i64 lo, .int .i64 hi] 27)).heap.size = w.heap.size + 1 := by simp
  have K : Hid (DK d w.heap.size [.int .i64 lo, .int .i64 hi] w ((w.alloc (.cells #[.int .i64 lo, .int .i64 hi] 27)).alloc (.cells #[.int .i64 0, .int .i64 0] 27)).drew) := K
  have R : Hid (DK d (w.heap.size + 1) [.int .i64 0, .int .i64 0] w ((w.alloc (.cells #[.int .i64 lo, .int .i64 hi] 27)).alloc (.cells #[.int .i64 0, .int .i64 0] 27)).drew) := hid (by have := R.out; rw [e1] at this; exact this)
  clear e1
  go_enter Tryd.func53, Tryd.ntmps53
  go_wp2
  go_region_held3 (fun w' => w'.cell? ⟨w.heap.size, 0, none⟩ = some (.int .i64 lo) ∧ w'.cell? ⟨w.heap.size, 1, none⟩ = some (.int .i64 hi))
    (first | exact ⟨K.out.c0, K.out.c1⟩) (first
    | (go_at_call 85; refine (of_any d _ _ _ K.out.beat (by omega) (by omega) (by omega)).mono ?_; rintro e w1 ⟨r, rfl, hr1, hr2, hbt, hgb⟩; have K := hid (K.out.go hgb hbt); have R := hid (R.out.go hgb hbt); clear hgb hbt; have c0 := R.out.c0; have c1 := R.out.c1; have f0 := R.out.fr 0; have f1 := R.out.fr 1; first | (have hx : ra = ra := rfl; clear hx; obtain ⟨rb, rfl⟩ : ∃ x, x = r := ⟨r, rfl⟩) | (obtain ⟨ra, rfl⟩ : ∃ x, x = r := ⟨r, rfl⟩)))
  go_wp2
  refine bodyPost_ret (v := .agg #[.int .i64 (min ra rb), .int .i64 (max ra rb)]) (by simp [results, Tryd.results53, go_sem, c0, c1]) rfl ⟨min ra rb, max ra rb, rfl, by omega, by omega, by omega, ?_, ?_⟩
  · exact Beat.putFar (Beat.putFar K.out.beat (by omega)) (by omega)
  · exact gb_out (gb_out K.out.gb (by omega)) (by omega)

set_option maxHeartbeats 1000000 in
set_option maxRecDepth 100000 in
theorem kin_any (lo hi n : Int) (w : World) :
    Calls Tryd.prog 52 #[.agg #[.int .i64 lo, .int .i64 hi], .int .i64 n] w fun e w' => e = .returned (.bool (inB n lo hi)) ∧ Below w.heap.size w w' := by
  have kb := hid (below_alloc w (.cells #[.int .i64 lo, .int .i64 hi] 27))
  by_cases h1 : lo ≤ n
  · by_cases h2 : n ≤ hi
    · go_enter Tryd.func52, Tryd.ntmps52
      go_wp2
      go_ret
      exact ⟨ret_bool (by unfold inB; simp [h1, h2]), kb.out⟩
    · go_enter Tryd.func52, Tryd.ntmps52
      go_wp2
      go_ret
      exact ⟨ret_bool (by unfold inB; simp; omega), kb.out⟩
  · go_enter Tryd.func52, Tryd.ntmps52
    go_wp2
    go_ret
    exact ⟨ret_bool (by unfold inB; simp; omega), kb.out⟩

set_option maxHeartbeats 1000000 in
set_option maxRecDepth 100000 in
theorem inside_any (a b lo hi : Int) (w : World) (h1 : lo ≤ a) (h2 : b ≤ hi) :
    Calls Tryd.prog 54 #[.agg #[.int .i64 a, .int .i64 b], .agg #[.int .i64 lo, .int .i64 hi]] w fun e w' => e = .returned (.bool true) ∧ Below w.heap.size w w' := by
  have kb := hid (below_trans (below_alloc w (.cells #[.int .i64 a, .int .i64 b] 27)) (below_alloc _ (.cells #[.int .i64 lo, .int .i64 hi] 27)))
  go_enter Tryd.func54, Tryd.ntmps54
  go_wp2
  go_ret
  exact ⟨rfl, kb.out⟩
end Go.Proofs.YtgfipifgijohhaaDoor

namespace Go.Proofs.YtgfipifgijohhaaDoor
open Go.RowKit

variable {d : Nat} {cs : Cells} {li : List (Value × List Int)} {lw : List (Value × List Wing)} {w0 w : World}

/-- a store into a block that nothing held lies in -/
theorem LK.store1 (k : LK d cs li lw w0 w) {b o : Nat} (u : Value) (hbd : b ≠ d) (hb0 : w0.heap.size ≤ b) (hcs : ∀ b' o' v, (b', o', v) ∈ cs → b' ≠ b)
    (hli : ∀ v xs, (v, xs) ∈ li → 0 < xs.length → v.ownBlock ≠ some b) (hlw : ∀ v xs, (v, xs) ∈ lw → 0 < xs.length → v.ownBlock ≠ some b) : LK d cs li lw w0 (w.setCell ⟨b, o, none⟩ u) :=
  ⟨k.below.setCell (p := ⟨b, o, none⟩) hb0 u, k.d0, k.beat.putFar hbd,
    fun b' o' v h => ⟨(k.cell b' o' v h).1, (k.cell b' o' v h).2.1, cell_set_far (Ne.symm (hcs b' o' v h)) (k.c h), (World.frozen?_setCell _ _ _ _).trans (k.f h)⟩,
    fun v xs h => ⟨(k.i h).put (hli v xs h), (k.ints v xs h).2⟩, fun v xs h => ⟨(k.g h).put (hlw v xs h), (k.wgs v xs h).2⟩⟩

theorem LK.dropW {x : Value × List Wing} (k : LK d cs li (x :: lw) w0 w) : LK d cs li lw w0 w :=
  ⟨k.below, k.d0, k.beat, k.cell, k.ints, fun v xs h => k.wgs v xs (List.mem_cons_of_mem _ h)⟩
theorem LK.dropI {x : Value × List Int} (k : LK d cs (x :: li) lw w0 w) : LK d cs li lw w0 w :=
  ⟨k.below, k.d0, k.beat, k.cell, fun v xs h => k.ints v xs (List.mem_cons_of_mem _ h), k.wgs⟩
theorem LK.addW (k : LK d cs li lw w0 w) {v : Value} {ws : List Wing} (h : WgAt (some d) w v ws) (ha : 0 < ws.length → ∀ b o u, (b, o, u) ∈ cs → v.ownBlock ≠ some b) : LK d cs li ((v, ws) :: lw) w0 w :=
  ⟨k.below, k.d0, k.beat, k.cell, k.ints, fun v' xs' hm => by
    rcases List.mem_cons.1 hm with hm | hm
    · cases hm; exact ⟨h, ha⟩
    · exact k.wgs v' xs' hm⟩
theorem LK.addI (k : LK d cs li lw w0 w) {v : Value} {xs : List Int} (h : IntsAt (some d) w v xs) (ha : 0 < xs.length → ∀ b o u, (b, o, u) ∈ cs → v.ownBlock ≠ some b) : LK d cs ((v, xs) :: li) lw w0 w :=
  ⟨k.below, k.d0, k.beat, k.cell, fun v' xs' hm => by
    rcases List.mem_cons.1 hm with hm | hm
    · cases hm; exact ⟨h, ha⟩
    · exact k.ints v' xs' hm, k.wgs⟩

theorem wg_set (ws : List Wing) (i : Nat) (y : Wing) (j : Nat) (hi : i < ws.length) : wg (ws.set i y) j = if j = i then y else wg ws j := by
  unfold wg
  rw [List.getD_eq_getElem?_getD, List.getElem?_set]
  by_cases e : i = j
  · subst e; simp [hi]
  · rw [if_neg e, if_neg (Ne.symm e), List.getD_eq_getElem?_getD]
theorem nm_set (xs : List Int) (i : Nat) (y : Int) (j : Nat) (hi : i < xs.length) : nm (xs.set i y) j = if j = i then y else nm xs j := by
  unfold nm
  rw [List.getD_eq_getElem?_getD, List.getElem?_set]
  by_cases e : i = j
  · subst e; simp [hi]
  · rw [if_neg e, if_neg (Ne.symm e), List.getD_eq_getElem?_getD]

theorem own_thawed {base : Nat} {v : Value} {ws : List Wing} (h : OwnWg base w v ws) {b off n c : Nat} (e : v = .slice (some ⟨b, off, none⟩) n c) : ∀ o, w.frozen? ⟨b, o, none⟩ = false := by
  subst e
  obtain ⟨_, h2⟩ := h
  rcases h2 with ⟨h0, _⟩ | ⟨g, cap, cur, e, hb, hh, h1, hm, hs, ht⟩
  · cases h0
  · cases e
    intro o
    unfold World.frozen?
    rw [hh]
    simp
/-- the pace of one wing set -/
theorem WgAt.pace {q : Option Nat} {b off n c i : Nat} {ws : List Wing} (h : WgAt q w (.slice (some ⟨b, off, none⟩) n c) ws) (hi : i < ws.length) (lo hi' : Int) :
    WgAt q ((w.setCell ⟨b, off + i * 4 + 2, none⟩ (.int .i64 lo)).setCell ⟨b, off + i * 4 + 2 + 1, none⟩ (.int .i64 hi')) (.slice (some ⟨b, off, none⟩) n c) (ws.set i ⟨(wg ws i).name, (wg ws i).len, lo, hi'⟩) := by
  have hc := fun j hj => h.cells (i := j) hj
  obtain ⟨a, cap, e, hh⟩ := h
  cases e
  obtain ⟨b', off', e, h1, h2, h3, h4, _⟩ := hh (by omega)
  cases e
  refine ⟨_, _, by rw [List.length_set], fun _ => ⟨b, off, rfl, by rw [List.length_set]; exact h1, h2, h3, by simpa using h4, fun j hj => ?_⟩⟩
  rw [List.length_set] at hj
  obtain ⟨c0, c1, c2, c3⟩ := hc j hj
  have far : ∀ {o : Nat} {v : Value}, w.cell? ⟨b, o, none⟩ = some v → o ≠ off + i * 4 + 2 → o ≠ off + i * 4 + 2 + 1 → ((w.setCell ⟨b, off + i * 4 + 2, none⟩ (.int .i64 lo)).setCell ⟨b, off + i * 4 + 2 + 1, none⟩ (.int .i64 hi')).cell? ⟨b, o, none⟩ = some v := fun {o v} hv n1 n2 =>
    (World.cell?_setCell_other _ _ _ _ (by intro e; cases e; exact n2 rfl)).trans ((World.cell?_setCell_other _ _ _ _ (by intro e; cases e; exact n1 rfl)).trans hv)
  rw [wg_set _ _ _ _ hi]
  by_cases e : j = i
  · subst e
    rw [if_pos rfl]
    refine ⟨far c0 (by omega) (by omega), far c1 (by omega) (by omega), ?_, ?_⟩
    · exact (World.cell?_setCell_other _ _ _ _ (by intro e; simp at e)).trans (World.cell?_setCell_same _ _ _ c2)
    · exact World.cell?_setCell_same _ _ _ ((World.cell?_setCell_other _ _ _ _ (by intro e; simp at e)).trans c3)
  · rw [if_neg e]
    exact ⟨far c0 (by omega) (by omega), far c1 (by omega) (by omega), far c2 (by omega) (by omega), far c3 (by omega) (by omega)⟩

/-- one number set -/
theorem IntsAt.set {q : Option Nat} {b off n c i : Nat} {xs : List Int} (h : IntsAt q w (.slice (some ⟨b, off, none⟩) n c) xs) (hi : i < xs.length) (z : Int) :
    IntsAt q (w.setCell ⟨b, off + i, none⟩ (.int .i64 z)) (.slice (some ⟨b, off, none⟩) n c) (xs.set i z) := by
  have hc := fun j hj => h.cell (i := j) hj
  obtain ⟨a, cap, e, hh⟩ := h
  cases e
  obtain ⟨b', off', e, h1, h2, h3, h4, _⟩ := hh (by omega)
  cases e
  refine ⟨_, _, by rw [List.length_set], fun _ => ⟨b, off, rfl, by rw [List.length_set]; exact h1, h2, h3, by simpa using h4, fun j hj => ?_⟩⟩
  rw [List.length_set] at hj
  rw [nm_set _ _ _ _ hi]
  by_cases e : j = i
  · subst e
    rw [if_pos rfl]
    exact World.cell?_setCell_same _ _ _ (hc j hj)
  · rw [if_neg e]
    exact (World.cell?_setCell_other _ _ _ _ (by intro e'; simp at e'; first | done | omega)).trans (hc j hj)

/-- a whole wing set -/
theorem WgAt.set {q : Option Nat} {b off n c i : Nat} {ws : List Wing} (h : WgAt q w (.slice (some ⟨b, off, none⟩) n c) ws) (hi : i < ws.length) (y : Wing) :
    WgAt q ((((w.setCell ⟨b, off + i * 4, none⟩ (.string y.name)).setCell ⟨b, off + i * 4 + 1, none⟩ (.int .i64 y.len)).setCell ⟨b, off + i * 4 + 2, none⟩ (.int .i64 y.lo)).setCell ⟨b, off + i * 4 + 2 + 1, none⟩ (.int .i64 y.hi)) (.slice (some ⟨b, off, none⟩) n c) (ws.set i y) := by
  have hc := fun j hj => h.cells (i := j) hj
  obtain ⟨a, cap, e, hh⟩ := h
  cases e
  obtain ⟨b', off', e, h1, h2, h3, h4, _⟩ := hh (by omega)
  cases e
  refine ⟨_, _, by rw [List.length_set], fun _ => ⟨b, off, rfl, by rw [List.length_set]; exact h1, h2, h3, by simpa using h4, fun j hj => ?_⟩⟩
  rw [List.length_set] at hj
  obtain ⟨c0, c1, c2, c3⟩ := hc j hj
  have other : ∀ {W : World} {o o' : Nat} {u v : Value}, W.cell? ⟨b, o, none⟩ = some v → o ≠ o' → (W.setCell ⟨b, o', none⟩ u).cell? ⟨b, o, none⟩ = some v := fun {W o o' u v} hv n => (World.cell?_setCell_other _ _ _ _ (by intro e; cases e; exact n rfl)).trans hv
  have same : ∀ {W : World} {o : Nat} {u v : Value}, W.cell? ⟨b, o, none⟩ = some v → (W.setCell ⟨b, o, none⟩ u).cell? ⟨b, o, none⟩ = some u := fun hv => World.cell?_setCell_same _ _ _ hv
  rw [wg_set _ _ _ _ hi]
  by_cases e : j = i
  · subst e
    rw [if_pos rfl]
    exact ⟨other (other (other (same c0) (by omega)) (by omega)) (by omega), other (other (same (other c1 (by omega))) (by omega)) (by omega), other (same (other (other c2 (by omega)) (by omega))) (by omega), same (other (other (other c3 (by omega)) (by omega)) (by omega))⟩
  · rw [if_neg e]
    exact ⟨other (other (other (other c0 (by omega)) (by omega)) (by omega)) (by omega), other (other (other (other c1 (by omega)) (by omega)) (by omega)) (by omega), other (other (other (other c2 (by omega)) (by omega)) (by omega)) (by omega), other (other (other (other c3 (by omega)) (by omega)) (by omega)) (by omega)⟩
end Go.Proofs.YtgfipifgijohhaaDoor
