/-
  A REGION THAT DRAWS ITS ORDER, BY AN INVARIANT: each operation is looked at once, whatever came up before it; so many free operations cost no more than they are.
-/
import Derived.Test.YtgfipifgijohhaaDoorKp
namespace Go.Proofs.YtgfipifgijohhaaDoor
open Go.RowKit

theorem filter_less {p p' : Nat → Bool} (himp : ∀ x, p' x = true → p x = true) : ∀ l : List Nat, (∃ i ∈ l, p i = true ∧ p' i = false) → (l.filter p').length < (l.filter p).length := by
  have hle : ∀ l : List Nat, (l.filter p').length ≤ (l.filter p).length := by
    intro l
    induction l with
    | nil => simp
    | cons x l ih =>
      by_cases h' : p' x = true
      · rw [List.filter_cons_of_pos h', List.filter_cons_of_pos (himp x h')]; simp; exact ih
      · rw [List.filter_cons_of_neg h']
        by_cases h : p x = true
        · rw [List.filter_cons_of_pos h]; simp; omega
        · rw [List.filter_cons_of_neg h]; exact ih
  intro l
  induction l with
  | nil => rintro ⟨i, hi, _⟩; cases hi
  | cons x l ih =>
    rintro ⟨i, hi, h1, h2⟩
    rcases List.mem_cons.1 hi with rfl | hi
    · rw [List.filter_cons_of_neg (by simp [h2]), List.filter_cons_of_pos h1]
      have := hle l
      simp; omega
    · have := ih ⟨i, hi, h1, h2⟩
      by_cases h' : p' x = true
      · rw [List.filter_cons_of_pos h', List.filter_cons_of_pos (himp x h')]; simp; exact this
      · rw [List.filter_cons_of_neg h']
        by_cases h : p x = true
        · rw [List.filter_cons_of_pos h]; simp; omega
        · rw [List.filter_cons_of_neg h]; exact this

section
variable {P : Program} {ops : Array Oper} {Q : Exit → Act → World → Prop} {md : Region.Mode}

/-- how many operations are still to come -/
def left (ops : Array Oper) (listed : Array Bool) : Nat := ((List.range ops.size).filter fun i => !listed.getD i true).length

theorem left_less {listed : Array Bool} {i : Nat} (hi : i ∈ Region.ready md ops listed) : left ops (listed.setIfInBounds i true) < left ops listed := by
  obtain ⟨h1, o, ho, _⟩ := mem_ready.1 hi
  have hlt : i < ops.size := (Array.getElem?_eq_some_iff.1 ho).1
  have hil : i < listed.size := by
    rcases Nat.lt_or_ge i listed.size with h | h
    · exact h
    · simp [Array.getElem?_eq_none h] at h1
  refine filter_less (fun x hx => ?_) _ ⟨i, List.mem_range.2 hlt, by simp only [h1]; rfl, ?_⟩
  · by_cases e : x = i
    · subst e; rw [h1]; rfl
    · rw [getD_set_ne true (Ne.symm e)] at hx; exact hx
  · simp [hil]

/-- all of them have come when none is ready, if each waits for elder ones only -/
theorem all_listed {listed : Array Bool} (hs : listed.size = ops.size) (hord : ∀ i o, ops[i]? = some o → ∀ e ∈ o.after, Region.binds md e = true → e.on < i) (hr : Region.ready md ops listed = []) :
    ∀ n i, i < n → i < ops.size → listed.getD i false = true := by
  intro n
  induction n with
  | zero => intro i h; omega
  | succ n ih =>
    intro i hi hlt
    by_cases h : i < n
    · exact ih i h hlt
    · obtain rfl : i = n := by omega
      cases hc : listed.getD i false with
      | true => rfl
      | false =>
        have ho : ops[i]? = some ops[i] := Array.getElem?_eq_getElem hlt
        have hm : i ∈ Region.ready md ops listed := mem_ready.2 ⟨by
          have h0 : i < listed.size := by omega
          simp [h0] at hc ⊢; exact hc, _, ho, fun e he hb => ih e.on (hord i _ ho e he hb) (by have := hord i _ ho e he hb; omega)⟩
        rw [hr] at hm
        cases hm

theorem wpAny_inv (Inv : Array Bool → Act → World → Prop) (hord : ∀ i o, ops[i]? = some o → ∀ e ∈ o.after, Region.binds md e = true → e.on < i)
    (hstep : ∀ listed a w i, Inv listed a w → i ∈ Region.ready md ops listed → wpOp P ops Q i (fun a' w' => Inv (listed.setIfInBounds i true) a' w') a w)
    (hend : ∀ listed a w, Inv listed a w → (∀ i, i < ops.size → listed.getD i false = true) → Q .normal a w) :
    ∀ (fuel : Nat) (listed : Array Bool) (a : Act) (w : World), listed.size = ops.size → left ops listed ≤ fuel → Inv listed a w → wpAny P md ops Q fuel listed a w := by
  intro fuel
  induction fuel with
  | zero =>
    intro listed a w hs hf hI
    have hr : Region.ready md ops listed = [] := by
      cases h : Region.ready md ops listed with
      | nil => rfl
      | cons i l =>
        have := left_less (md := md) (ops := ops) (listed := listed) (i := i) (by rw [h]; exact List.mem_cons_self ..)
        omega
    exact ⟨hr, hend _ _ _ hI fun i hi => all_listed hs hord hr (i + 1) i (by omega) hi⟩
  | succ fuel ih =>
    intro listed a w hs hf hI
    refine ⟨fun hr => hend _ _ _ hI fun i hi => all_listed hs hord hr (i + 1) i (by omega) hi, fun i hi => ?_⟩
    refine wpOp_mono (fun a' w' h => ih _ _ _ (by simpa using hs) (by have := left_less (md := md) (ops := ops) hi; omega) h) (hstep _ _ _ i hI hi)

theorem left_all (ops : Array Oper) : left ops (Array.replicate ops.size false) ≤ ops.size := by
  unfold left
  exact Nat.le_trans (List.length_filter_le _ _) (by simp)

/-- a region that draws, by an invariant -/
theorem wp_region_inv {id : Nat} {a : Act} {w : World} (hm : P.follows .mixedOrders = true) (Inv : Array Bool → Act → World → Prop)
    (hord : ∀ i o, ops[i]? = some o → ∀ e ∈ o.after, Region.binds .any e = true → e.on < i)
    (hstep : ∀ listed a w i, Inv listed a w → i ∈ Region.ready .any ops listed → wpOp P ops Q i (fun a' w' => Inv (listed.setIfInBounds i true) a' w') a w)
    (hend : ∀ listed a w, Inv listed a w → (∀ i, i < ops.size → listed.getD i false = true) → Q .normal a w)
    (h : Inv (Array.replicate ops.size false) a w.drew) : (Code.region id ops true).wp P Q a w :=
  wp_region_any hm (wpAny_inv Inv hord hstep hend _ _ _ _ (by simp) (left_all ops) h)
end
end Go.Proofs.YtgfipifgijohhaaDoor
