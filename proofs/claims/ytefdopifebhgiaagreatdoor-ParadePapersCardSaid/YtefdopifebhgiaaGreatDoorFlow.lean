/-
  A REGION THAT DRAWS ITS ORDER, BY WHAT EACH OPERATION YIELDS: each operation is looked at once; what it yields stays true whatever comes up behind it.
-/
import Derived.Test.YtefdopifebhgiaaGreatDoorOrdI
import Derived.Test.YtefdopifebhgiaaGreatDoorTail
namespace Go.Proofs.YtefdopifebhgiaaGreatDoor
open Go.RowKit

theorem putAll_size (a : Act) (vs : Nat → Value) (slots : List Nat) : (putAll a vs slots).tmps.size = a.tmps.size := by
  induction slots with
  | nil => rfl
  | cons k l ih => simp only [putAll, Act.put]; simpa using ih
theorem putAll_tmps (a : Act) (vs : Nat → Value) (slots : List Nat) (j : Nat) : (putAll a vs slots).tmps[j]? = if j ∈ slots ∧ j < a.tmps.size then some (vs j) else a.tmps[j]? := by
  induction slots with
  | nil => simp [putAll]
  | cons k l ih =>
    have hsz := putAll_size a vs l
    simp only [putAll, Act.put]
    rw [Array.getElem?_setIfInBounds, hsz, ih]
    by_cases e : k = j
    · subst e
      by_cases h : k < a.tmps.size
      · simp [h]
      · simp [h]
    · rw [if_neg e]
      have : j ∈ k :: l ↔ j ∈ l := by simp [Ne.symm e]
      simp only [this]
theorem putAll_defers (a : Act) (vs : Nat → Value) (slots : List Nat) : (putAll a vs slots).defers = a.defers := by
  induction slots with
  | nil => rfl
  | cons k l ih => simp only [putAll, Act.put]; exact ih
def updV (vs : Nat → Value) (k : Nat) (v : Value) : Nat → Value := fun j => if j = k then v else vs j
theorem putAll_upd (a : Act) (vs : Nat → Value) {slots : List Nat} {k : Nat} (hk : k ∈ slots) (v : Value) : (putAll a vs slots).put (some k) v = putAll a (updV vs k v) slots := by
  have h1 : ((putAll a vs slots).put (some k) v).tmps = (putAll a (updV vs k v) slots).tmps := by
    apply Array.ext_getElem?
    intro j
    have hsz := putAll_size a vs slots
    rw [putAll_tmps]
    simp only [Act.put]
    rw [Array.getElem?_setIfInBounds, hsz, putAll_tmps]
    unfold updV
    by_cases e : k = j
    · subst e
      by_cases h : k < a.tmps.size
      · simp [h, hk]
      · simp [h]
    · rw [if_neg e, if_neg (Ne.symm e)]
  have h2 : ((putAll a vs slots).put (some k) v).defers = (putAll a (updV vs k v) slots).defers := by
    rw [putAll_defers]
    show (putAll a vs slots).defers = _
    rw [putAll_defers]
  cases h : (putAll a vs slots).put (some k) v
  cases h' : putAll a (updV vs k v) slots
  rw [h, h'] at h1 h2
  simp only at h1 h2
  rw [h1, h2]

section
variable {P : Program} {ops : Array Oper} {Q : Exit → Act → World → Prop} {md : Region.Mode}

def dstOf (ops : Array Oper) (i : Nat) : Option Nat := match ops[i]? with | some o => o.dst | none => none
/-- the slots of the region's operations, each one's own -/
def flowB (ops : Array Oper) (slots : List Nat) : Bool :=
  (List.range ops.size).all fun i => match dstOf ops i with
    | none => true
    | some k => slots.contains k && (List.range ops.size).all fun j => decide (j = i) || decide (dstOf ops j ≠ some k)

/-- the step of one operation; number A (an append) may end what is said of the elder ones -/
def StepF (P : Program) (md : Region.Mode) (ops : Array Oper) (Q : Exit → Act → World → Prop) (a0 : Act) (slots : List Nat) (A : Nat) (W : Bool → World → Prop) (R RA : World → World → Prop) (Y : Bool → Nat → Value → World → Prop) (i : Nat) : Prop :=
  ∀ (b : Bool) (vs : Nat → Value) (w : World), (awaits md ops A i = true ∨ i = A → b = false) → W b w → (∀ j k, awaits md ops i j = true → dstOf ops j = some k → Y b j (vs k) w) →
    ∀ K : Act → World → Prop, (match ops[i]? with
      | none => True
      | some o => Shut (∀ v w', W (b || i == A) w' → (if i = A then RA w w' else R w w') → (o.dst.isSome = true → Y (b || i == A) i v w') → K ((putAll a0 vs slots).put o.dst v) w') →
          if Region.wanted o (yielded ops (putAll a0 vs slots).tmps) = true then Oper.wp P o (putAll a0 vs slots) w K Q else K ((putAll a0 vs slots).put o.dst undef) w)

section
variable {a0 : Act} {slots : List Nat} {A : Nat} {W : Bool → World → Prop} {R RA : World → World → Prop} {Y : Bool → Nat → Value → World → Prop}
theorem StepF.nil : ∀ i ∈ ([] : List Nat), StepF P md ops Q a0 slots A W R RA Y i := fun _ h => by cases h
theorem StepF.cons {i : Nat} {o : Oper} {rs : List Nat} (ho : ops.toList[i]? = some o) (hne : (i == A) = false)
    (h : ∀ (b : Bool) (vs : Nat → Value) (w : World), (awaits md ops A i = true → b = false) → W b w → (∀ j k, awaits md ops i j = true → dstOf ops j = some k → Y b j (vs k) w) →
      ∀ K : Act → World → Prop, Shut (∀ v w', W b w' → R w w' → (o.dst.isSome = true → Y b i v w') → K ((putAll a0 vs slots).put o.dst v) w') →
        if Region.wanted o (yielded ops (putAll a0 vs slots).tmps) = true then Oper.wp P o (putAll a0 vs slots) w K Q else K ((putAll a0 vs slots).put o.dst undef) w)
    (hs : ∀ j ∈ rs, StepF P md ops Q a0 slots A W R RA Y j) : ∀ j ∈ i :: rs, StepF P md ops Q a0 slots A W R RA Y j := fun j hj => by
  rcases List.mem_cons.1 hj with rfl | hj
  · intro b vs w hb hW hY K
    rw [← Array.getElem?_toList, ho]
    intro hK
    have hne' : j ≠ A := by simpa using hne
    refine h b vs w (fun h => hb (.inl h)) hW hY K (hid fun v w' h1 h2 h3 => hK.out v w' ?_ ?_ ?_)
    · rw [hne, Bool.or_false]; exact h1
    · rw [if_neg hne']; exact h2
    · rw [hne, Bool.or_false]; exact h3
  · exact hs j hj
theorem StepF.app {i : Nat} {o : Oper} {rs : List Nat} (ho : ops.toList[i]? = some o) (he : i = A)
    (h : ∀ (vs : Nat → Value) (w : World), W false w → (∀ j k, awaits md ops i j = true → dstOf ops j = some k → Y false j (vs k) w) →
      ∀ K : Act → World → Prop, Shut (∀ v w', W true w' → RA w w' → (o.dst.isSome = true → Y true i v w') → K ((putAll a0 vs slots).put o.dst v) w') →
        if Region.wanted o (yielded ops (putAll a0 vs slots).tmps) = true then Oper.wp P o (putAll a0 vs slots) w K Q else K ((putAll a0 vs slots).put o.dst undef) w)
    (hs : ∀ j ∈ rs, StepF P md ops Q a0 slots A W R RA Y j) : ∀ j ∈ i :: rs, StepF P md ops Q a0 slots A W R RA Y j := fun j hj => by
  rcases List.mem_cons.1 hj with rfl | hj
  · intro b vs w hb hW hY K
    rw [← Array.getElem?_toList, ho]
    intro hK
    obtain rfl := hb (.inr he)
    have e : (j == A) = true := by simpa using he
    refine h vs w hW hY K (hid fun v w' h1 h2 h3 => hK.out v w' ?_ ?_ ?_)
    · rw [e]; exact h1
    · rw [if_pos he]; exact h2
    · rw [e]; exact h3
  · exact hs j hj

theorem wpAny_flow {w0 : World} (slots : List Nat) (A : Nat) (W : Bool → World → Prop) (R RA : World → World → Prop) (Y : Bool → Nat → Value → World → Prop) (rs : List Nat)
    (hord : ordered md ops = true) (hfl : flowB ops slots = true) (hrs : rs = List.range ops.size)
    (hR : ∀ b i v w w', W b w → R w w' → Y b i v w → Y b i v w') (hRA : ∀ i v w w', W false w → RA w w' → Y false i v w → Y true i v w') (hW : W false w0) (hstep : ∀ i ∈ rs, StepF P md ops Q a0 slots A W R RA Y i)
    (hend : ∀ vs w, W (decide (A < ops.size)) w → (∀ i k, dstOf ops i = some k → Y (decide (A < ops.size)) i (vs k) w) → Q .normal (putAll a0 vs slots) w) :
    wpAny P md ops Q ops.size (Array.replicate ops.size false) a0 w0 := by
  subst hrs
  refine wpAny_inv (fun lt a w => W (lt.getD A false) w ∧ lt.size = ops.size ∧ (lt.getD A false = true → ∀ i, awaits md ops A i = true → lt.getD i false = true) ∧ ∃ vs, a = putAll a0 vs slots ∧ ∀ i k, lt.getD i false = true → dstOf ops i = some k → Y (lt.getD A false) i (vs k) w) (ordered_spec hord) ?_ ?_ ops.size (Array.replicate ops.size false) a0 w0 (by simp) (left_all ops) ?_
  · rintro lt a w i ⟨hWw, hs, hA, vs, rfl, hY⟩ hi
    obtain ⟨h1, o, ho, hall⟩ := mem_ready.1 hi
    have hlt : i < ops.size := (Array.getElem?_eq_some_iff.1 ho).1
    have hil : i < lt.size := by omega
    have hun : lt.getD i false = false := by simp [hil] at h1 ⊢; exact h1
    have hbf : awaits md ops A i = true ∨ i = A → lt.getD A false = false := by
      rintro (h | rfl)
      · cases hc : lt.getD A false with
        | false => rfl
        | true => have := hA hc i h; rw [hun] at this; cases this
      · exact hun
    have hget : ∀ j, awaits md ops i j = true → lt.getD j false = true := fun j hj => by
      unfold awaits at hj
      rw [ho] at hj
      simp only [Array.any_eq_true, Bool.and_eq_true, beq_iff_eq] at hj
      obtain ⟨n, hn, hb, he⟩ := hj
      have := hall _ (Array.getElem_mem hn) hb
      rw [he] at this
      exact this
    have hset : ∀ j, (lt.setIfInBounds i true).getD j false = (lt.getD j false || i == j) := fun j => by
      by_cases e : j = i
      · subst e
        simp [hil]
      · rw [getD_set_ne false (Ne.symm e)]
        have : (i == j) = false := by simpa using Ne.symm e
        rw [this, Bool.or_false]
    refine wpOp_step ho (fun K' hK => ?_)
    have h := hstep i (List.mem_range.2 hlt) (lt.getD A false) vs w hbf hWw (fun j k hj hk => hY j k (hget j hj) hk) K'
    rw [ho] at h
    refine h (hid fun v w' hW' hRw hYi => hK _ _ ⟨by rw [hset]; exact hW', by simpa using hs, ?_, ?_⟩)
    · intro h2 j hj
      rw [hset] at h2 ⊢
      by_cases e : i = A
      · subst e; rw [hget j hj]; rfl
      · have : (i == A) = false := by simpa using e
        rw [this, Bool.or_false] at h2
        rw [hA h2 j hj]; rfl
    · show ∃ vs', _ ∧ _
      have hkeep : ∀ j v, Y (lt.getD A false) j v w → Y (lt.getD A false || i == A) j v w' := fun j v hy => by
        by_cases e : i = A
        · rw [if_pos e] at hRw
          have hbA := hbf (.inr e)
          have e2 : (i == A) = true := by simpa using e
          rw [e2, Bool.or_true]
          rw [hbA] at hy hWw
          exact hRA _ _ _ _ hWw hRw hy
        · rw [if_neg e] at hRw
          have e2 : (i == A) = false := by simpa using e
          rw [e2, Bool.or_false]
          exact hR _ _ _ _ _ hWw hRw hy
      have hdo : dstOf ops i = o.dst := by unfold dstOf; rw [ho]
      have hold : ∀ j k, j ≠ i → (lt.setIfInBounds i true).getD j false = true → dstOf ops j = some k → Y ((lt.setIfInBounds i true).getD A false) j (vs k) w' := fun j k e hj hk => by
        rw [hset]
        refine hkeep _ _ (hY j k ?_ hk)
        rwa [getD_set_ne false (Ne.symm e)] at hj
      cases hd : o.dst with
      | none =>
        refine ⟨vs, rfl, fun j k hj hk => ?_⟩
        by_cases e : j = i
        · subst e; rw [hdo, hd] at hk; cases hk
        · exact hold j k e hj hk
      | some k0 =>
        have hf := List.all_eq_true.1 hfl i (List.mem_range.2 hlt)
        rw [hdo, hd] at hf
        simp only [Bool.and_eq_true, List.contains_iff_mem] at hf
        refine ⟨updV vs k0 v, putAll_upd a0 vs hf.1 v, fun j k hj hk => ?_⟩
        by_cases e : j = i
        · subst e
          rw [hdo, hd] at hk
          cases hk
          unfold updV
          rw [if_pos rfl, hset]
          exact hYi (by rw [hd]; rfl)
        · have hjl : j < ops.size := by
            unfold dstOf at hk
            cases hj2 : ops[j]? with
            | none => rw [hj2] at hk; cases hk
            | some oj => exact (Array.getElem?_eq_some_iff.1 hj2).1
          have h2 := List.all_eq_true.1 hf.2 j (List.mem_range.2 hjl)
          simp only [Bool.or_eq_true, decide_eq_true_eq] at h2
          have hne : k ≠ k0 := by
            rcases h2 with h2 | h2
            · exact absurd h2 e
            · intro e2; subst e2; exact h2 hk
          unfold updV
          rw [if_neg hne]
          exact hold j k e hj hk
  · rintro lt a w ⟨hWw, hs, hA, vs, rfl, hY⟩ hall
    have e : lt.getD A false = decide (A < ops.size) := by
      by_cases h : A < ops.size
      · rw [hall A h, decide_eq_true h]
      · rw [decide_eq_false h]
        have : ¬ A < lt.size := by omega
        simp [Array.getD, this]
    rw [e] at hWw hY
    refine hend vs w hWw fun i k hk => hY i k (hall i ?_) hk
    unfold dstOf at hk
    cases hj2 : ops[i]? with
    | none => rw [hj2] at hk; cases hk
    | some oj => exact (Array.getElem?_eq_some_iff.1 hj2).1
  · have h0 : ∀ i, (Array.replicate ops.size false).getD i false = false := fun i => by
      by_cases h : i < ops.size
      · simp [Array.getD, h]
      · simp [Array.getD, h]
    refine ⟨by rw [h0]; exact hW, by simp, fun h => (by rw [h0] at h; cases h), fun k => a0.tmps.getD k undef, (putAll_self a0 slots).symm, fun i k hi _ => by rw [h0] at hi; cases hi⟩

/-- a region that draws its order, all of it -/
theorem wp_region_flow {id : Nat} {w0 : World} (hm : P.follows .mixedOrders = true) (slots : List Nat) (A : Nat) (W : Bool → World → Prop) (R RA : World → World → Prop) (Y : Bool → Nat → Value → World → Prop) (rs : List Nat)
    (hord : ordered .any ops = true) (hfl : flowB ops slots = true) (hrs : rs = List.range ops.size)
    (hR : ∀ b i v w w', W b w → R w w' → Y b i v w → Y b i v w') (hRA : ∀ i v w w', W false w → RA w w' → Y false i v w → Y true i v w') (hW : W false w0.drew) (hstep : ∀ i ∈ rs, StepF P .any ops Q a0 slots A W R RA Y i)
    (hend : ∀ vs w, W (decide (A < ops.size)) w → (∀ i k, dstOf ops i = some k → Y (decide (A < ops.size)) i (vs k) w) → Q .normal (putAll a0 vs slots) w) : (Code.region id ops true).wp P Q a0 w0 :=
  wp_region_any hm (wpAny_flow slots A W R RA Y rs hord hfl hrs hR hRA hW hstep hend)

/-- the first operations so; the last ones come one by one -/
theorem wp_region_flow_tail {id : Nat} {w0 : World} {l : List Oper} (n : Nat) (hm : P.follows .mixedOrders = true) (hB : tailB .any l n = true) (slots : List Nat) (A : Nat) (W : Bool → World → Prop) (R RA : World → World → Prop) (Y : Bool → Nat → Value → World → Prop) (rs : List Nat)
    (hord : ordered .any (l.take n).toArray = true) (hfl : flowB (l.take n).toArray slots = true) (hrs : rs = List.range n)
    (hR : ∀ b i v w w', W b w → R w w' → Y b i v w → Y b i v w') (hRA : ∀ i v w w', W false w → RA w w' → Y false i v w → Y true i v w') (hW : W false w0.drew) (hstep : ∀ i ∈ rs, StepF P .any (l.take n).toArray (behind P l.toArray (l.drop n) Q) a0 slots A W R RA Y i)
    (hend : ∀ vs w, W (decide (A < n)) w → (∀ i k, dstOf (l.take n).toArray i = some k → Y (decide (A < n)) i (vs k) w) → wpList P l.toArray Q (l.drop n) (putAll a0 vs slots) w) : (Code.region id l.toArray true).wp P Q a0 w0 := by
  have hn : n < l.length := by
    simp only [tailB, Bool.and_eq_true, decide_eq_true_eq] at hB
    exact hB.1.1.1.1
  refine wp_region_tail n hm hB ?_
  have e : (l.take n).toArray.size = n := by simp; omega
  have h := wpAny_flow (P := P) (md := .any) (ops := (l.take n).toArray) (Q := behind P l.toArray (l.drop n) Q) (a0 := a0) (w0 := w0.drew) slots A W R RA Y rs hord hfl (by rw [e]; exact hrs) hR hRA hW hstep (by rw [e]; exact hend)
  rw [e] at h
  exact h
end
end
theorem castK {K : Act → World → Prop} {a a' : Act} {w : World} (h : K a w) (e : a = a') : K a' w := e ▸ h
end Go.Proofs.YtefdopifebhgiaaGreatDoor
