/-
  A REGION THAT DRAWS ITS ORDER, WHOSE LAST OPERATIONS COME ONE BY ONE BEHIND ALL THE OTHERS: the first ones are a smaller region, the last ones are walked as a list. Over any program.
-/
import Derived.StillTail
import Derived.RegionTactic
namespace Go.Proofs.YtefdopifebhgiaaGreatDoor

/-- what is to be shown behind the first operations -/
def behind (P : Program) (ops : Array Oper) (tail : List Oper) (Q : Exit → Act → World → Prop) : Exit → Act → World → Prop
  | .normal, a, w => wpList P ops Q tail a w
  | .exit i, a, w => Q (.exit i) a w
  | .goto i, a, w => Q (.goto i) a w
  | .ret, a, w => Q .ret a w
  | .panic c, a, w => Q (.panic c) a w
  | .outgrown, a, w => Q .outgrown a w

section
variable {P : Program} {md : Region.Mode} {Q : Exit → Act → World → Prop}

theorem wpAny_more {ops : Array Oper} : ∀ (f : Nat) (listed : Array Bool) (a : Act) (w : World), wpAny P md ops Q f listed a w → wpAny P md ops Q (f + 1) listed a w
  | 0, _, _, _, h => ⟨fun _ => h.2, fun i hi => by rw [h.1] at hi; cases hi⟩
  | f + 1, _, _, _, h => ⟨h.1, fun i hi => wpOp_mono (fun _ _ h' => wpAny_more f _ _ _ h') (h.2 i hi)⟩
theorem wpAny_mores {ops : Array Oper} {f : Nat} {listed : Array Bool} {a : Act} {w : World} (h : wpAny P md ops Q f listed a w) : ∀ d, wpAny P md ops Q (f + d) listed a w
  | 0 => h
  | d + 1 => wpAny_more _ _ _ _ (wpAny_mores h d)

/-- each of the first n waits for earlier ones alone, and is not guarded -/
def headB (md : Region.Mode) (l : List Oper) (n : Nat) : Bool :=
  (List.range n).all fun i => match l[i]? with
    | some o => o.guard.isNone && o.after.all fun e => !Region.binds md e || decide (e.on < i)
    | none => true
def canon (n g : Nat) : Array Bool := Array.replicate n true ++ Array.replicate g false
def tailB (md : Region.Mode) (l : List Oper) (n : Nat) : Bool :=
  decide (n < l.length) && Region.sinkB md l.toArray n && Region.chainB md l.toArray n && headB md l n && Region.seqB md l.toArray (l.length - n) n (canon n (l.length - n))

theorem headB_spec {l : List Oper} {n i : Nat} {o : Oper} (h : headB md l n = true) (hi : i < n) (ho : l[i]? = some o) : o.guard = none ∧ ∀ e ∈ o.after, Region.binds md e = true → e.on < i := by
  have h1 := List.all_eq_true.1 h i (List.mem_range.2 hi)
  rw [ho] at h1
  simp only [Bool.and_eq_true, Option.isNone_iff_eq_none] at h1
  refine ⟨h1.1, fun e he hb => ?_⟩
  have h2 := Array.all_eq_true_iff_forall_mem.1 h1.2 e he
  simp only [hb, Bool.not_true, Bool.false_or, decide_eq_true_eq] at h2
  exact h2

theorem getD_same {a b : Array Bool} {j : Nat} {x : Bool} (h : a[j]? = b[j]?) : a.getD j x = b.getD j x := by
  simp only [Array.getD_eq_getD_getElem?, h]

theorem wpAny_tail {l : List Oper} {n : Nat} (hn : n < l.length) (hs : Region.sinkB md l.toArray n = true) (hc : Region.chainB md l.toArray n = true) (hh : headB md l n = true)
    (hq : Region.seqB md l.toArray (l.length - n) n (canon n (l.length - n)) = true) :
    ∀ (fuel : Nat) (listedH listed : Array Bool) (a : Act) (w : World), HeadInv md l.toArray n listed → listedH.size = n → (∀ j, j < n → listedH[j]? = listed[j]?) →
      wpAny P md (l.take n).toArray (behind P l.toArray (l.drop n) Q) fuel listedH a w → wpAny P md l.toArray Q (fuel + (l.length - n)) listed a w := by
  intro fuel
  have hops : ∀ i, i < n → (l.take n).toArray[i]? = l[i]? := fun i hi => by simp [hi]
  have hnone : ∀ i, n ≤ i → (l.take n).toArray[i]? = none := fun i hi => by simp [List.getElem?_take, Nat.not_lt.2 hi]
  induction fuel with
  | zero =>
    intro listedH listed a w inv hsz hsame H
    by_cases hall : ∀ i, i < n → listed.getD i true = true
    · rw [Nat.zero_add]
      have hcan : listed = canon n (l.length - n) := by
        have hsl : listed.size = l.length := by simpa using inv.size
        apply Array.ext
        · simp [canon, hsl]; omega
        · intro i h1 h2
          by_cases hi : i < n
          · have h3 := hall i hi
            simp only [Array.getD, h1, dif_pos] at h3
            simp only [canon]
            rw [Array.getElem_append_left (by simpa using hi)]
            simpa using h3
          · have h3 := inv.tail i (by omega) (by simpa [hsl] using h1)
            simp only [Array.getD, h1, dif_pos] at h3
            simp only [canon]
            rw [Array.getElem_append_right (by simpa using hi)]
            simpa using h3
      have h1 := wpAny_of_seq (P := P) (md := md) (Q' := Q) (l.drop n) n listed a w (fun j => by simp [List.getElem?_drop]) (by rw [hcan]; simpa using hq) H.2
      simpa using h1
    · exfalso
      have hex : ∃ i, i < n ∧ listed.getD i true = false := by
        refine Classical.byContradiction fun hc => hall fun i hi => ?_
        cases hb : listed.getD i true with
        | true => rfl
        | false => exact absurd ⟨i, hi, hb⟩ hc
      obtain ⟨i, ⟨hi, hb⟩, hmin⟩ : ∃ i, (i < n ∧ listed.getD i true = false) ∧ ∀ j, j < i → ¬ (j < n ∧ listed.getD j true = false) := by
        obtain ⟨i, hi⟩ := hex
        induction i using Nat.strongRecOn with
        | _ i ih =>
          by_cases hm : ∃ j, j < i ∧ j < n ∧ listed.getD j true = false
          · obtain ⟨j, hj, h2⟩ := hm
            exact ih j hj h2
          · exact ⟨i, hi, fun j hj h2 => hm ⟨j, hj, h2⟩⟩
      have hr : i ∈ Region.ready md (l.take n).toArray listedH := by
        have hil : i < l.length := by omega
        refine mem_ready.2 ⟨by rw [getD_same (hsame i hi)]; exact hb, l[i], by rw [hops i hi]; exact List.getElem?_eq_getElem hil, fun e he hbd => ?_⟩
        have h1 := (headB_spec hh hi (List.getElem?_eq_getElem hil)).2 e he hbd
        rw [getD_same (hsame e.on (by omega))]
        have h2 := hmin e.on h1
        have h3 : listed.getD e.on true = true := by
          cases hx : listed.getD e.on true with
          | true => rfl
          | false => exact absurd ⟨by omega, hx⟩ h2
        have hlt : e.on < listed.size := by have := inv.size; simp at this; omega
        simp only [Array.getD, hlt, dif_pos] at h3 ⊢
        exact h3
      rw [H.1] at hr
      cases hr
  | succ fuel ih =>
    intro listedH listed a w inv hsz hsame H
    by_cases hall : ∀ i, i < n → listed.getD i true = true
    · have hnr : Region.ready md (l.take n).toArray listedH = [] := by
        refine List.eq_nil_iff_forall_not_mem.2 fun j hj => ?_
        obtain ⟨h1, o, ho, _⟩ := mem_ready.1 hj
        by_cases hjn : j < n
        · rw [getD_same (hsame j hjn), hall j hjn] at h1; cases h1
        · rw [hnone j (by omega)] at ho; cases ho
      have hcan : listed = canon n (l.length - n) := by
        have hsl : listed.size = l.length := by simpa using inv.size
        apply Array.ext
        · simp [canon, hsl]; omega
        · intro i h1 h2
          by_cases hi : i < n
          · have h3 := hall i hi
            simp only [Array.getD, h1, dif_pos] at h3
            simp only [canon]
            rw [Array.getElem_append_left (by simpa using hi)]
            simpa using h3
          · have h3 := inv.tail i (by omega) (by simpa [hsl] using h1)
            simp only [Array.getD, h1, dif_pos] at h3
            simp only [canon]
            rw [Array.getElem_append_right (by simpa using hi)]
            simpa using h3
      have h1 := wpAny_of_seq (P := P) (md := md) (Q' := Q) (l.drop n) n listed a w (fun j => by simp [List.getElem?_drop]) (by rw [hcan]; simpa using hq) (H.1 hnr)
      have h2 : wpAny P md l.toArray Q (l.length - n) listed a w := by simpa using h1
      rw [Nat.add_comm]
      exact wpAny_mores h2 _
    · have hex : ∃ i, i < n ∧ listed.getD i true = false := by
        refine Classical.byContradiction fun hc => hall fun i hi => ?_
        cases hb : listed.getD i true with
        | true => rfl
        | false => exact absurd ⟨i, hi, hb⟩ hc
      obtain ⟨i0, hi0, hb0⟩ := hex
      have hnl : n < l.toArray.size := by simpa using hn
      have htail := tail_waits hs hc hnl inv (n - i0) i0 rfl hi0 hb0
      have hsub : ∀ i, i ∈ Region.ready md l.toArray listed ↔ i ∈ Region.ready md (l.take n).toArray listedH := fun i => by
        constructor
        · intro h
          have hin : i < n := by
            rcases Nat.lt_or_ge i n with h' | h'
            · exact h'
            · exact absurd h (htail i h')
          obtain ⟨h1, o, ho, h2⟩ := mem_ready.1 h
          have ho' : l[i]? = some o := by simpa using ho
          refine mem_ready.2 ⟨by rw [getD_same (hsame i hin)]; exact h1, o, by rw [hops i hin]; exact ho', fun e he hb => ?_⟩
          have h3 := (headB_spec hh hin ho').2 e he hb
          rw [getD_same (hsame e.on (by omega))]
          exact h2 e he hb
        · intro h
          obtain ⟨h1, o, ho, h2⟩ := mem_ready.1 h
          have hin : i < n := by
            rcases Nat.lt_or_ge i n with h' | h'
            · exact h'
            · rw [hnone i h'] at ho; cases ho
          rw [hops i hin] at ho
          refine mem_ready.2 ⟨by rw [← getD_same (hsame i hin)]; exact h1, o, by simpa using ho, fun e he hb => ?_⟩
          have h3 := (headB_spec hh hin ho).2 e he hb
          rw [← getD_same (hsame e.on (by omega))]
          exact h2 e he hb
      rw [show fuel + 1 + (l.length - n) = (fuel + (l.length - n)) + 1 by omega]
      refine ⟨fun h0 => ?_, fun i hi => ?_⟩
      · exfalso
        have hnr : Region.ready md (l.take n).toArray listedH = [] := by
          refine List.eq_nil_iff_forall_not_mem.2 fun j hj => ?_
          have := (hsub j).2 hj
          rw [h0] at this; cases this
        -- the least that is not listed is ready
        obtain ⟨i, ⟨hi, hb⟩, hmin⟩ : ∃ i, (i < n ∧ listed.getD i true = false) ∧ ∀ j, j < i → ¬ (j < n ∧ listed.getD j true = false) := by
          have hex : ∃ i, i < n ∧ listed.getD i true = false := ⟨i0, hi0, hb0⟩
          obtain ⟨i, hi⟩ := hex
          induction i using Nat.strongRecOn with
          | _ i ih =>
            by_cases hm : ∃ j, j < i ∧ j < n ∧ listed.getD j true = false
            · obtain ⟨j, hj, h2⟩ := hm
              exact ih j hj h2
            · exact ⟨i, hi, fun j hj h2 => hm ⟨j, hj, h2⟩⟩
        have hil : i < l.length := by omega
        have hr : i ∈ Region.ready md l.toArray listed := by
          refine mem_ready.2 ⟨hb, l[i], by simp [hil], fun e he hbd => ?_⟩
          have h1 := (headB_spec hh hi (List.getElem?_eq_getElem hil)).2 e he hbd
          have h2 := hmin e.on h1
          have h3 : listed.getD e.on true = true := by
            cases hx : listed.getD e.on true with
            | true => rfl
            | false => exact absurd ⟨by omega, hx⟩ h2
          have hlt : e.on < listed.size := by have := inv.size; simp at this; omega
          simp only [Array.getD, hlt, dif_pos] at h3 ⊢
          exact h3
        rw [h0] at hr; cases hr
      · have hi' := (hsub i).1 hi
        have hin : i < n := by
          obtain ⟨_, o, ho, _⟩ := mem_ready.1 hi'
          rcases Nat.lt_or_ge i n with h' | h'
          · exact h'
          · rw [hnone i h'] at ho; cases ho
        have hil : i < l.length := by omega
        have ho : l[i]? = some l[i] := List.getElem?_eq_getElem hil
        have hg := (headB_spec hh hin ho).1
        have h1 := H.2 i hi'
        have hstep : ∀ a' w', wpAny P md (l.take n).toArray (behind P l.toArray (l.drop n) Q) fuel (listedH.setIfInBounds i true) a' w' → wpAny P md l.toArray Q (fuel + (l.length - n)) (listed.setIfInBounds i true) a' w' := fun a' w' h' =>
          ih _ _ a' w' (inv.set hi hin) (by simpa using hsz) (fun j hj => by
            rw [Array.getElem?_setIfInBounds, Array.getElem?_setIfInBounds, hsame j hj, hsz]
            have hls : listed.size = l.length := by simpa using inv.size
            by_cases e : i = j
            · subst e
              rw [if_pos rfl, if_pos rfl, if_pos hin, if_pos (by omega)]
            · rw [if_neg e, if_neg e]) h'
        unfold wpOp at h1 ⊢
        rw [hops i hin, ho] at h1
        have ho2 : l.toArray[i]? = some l[i] := by simp [hil]
        rw [ho2]
        have hw : ∀ y, Region.wanted l[i] y = true := fun y => by simp [Region.wanted, hg]
        simp only [hw, if_true] at h1 ⊢
        rcases h1 with h1 | h1
        · exact .inl (Oper.wp_mono hstep h1)
        · exact .inr h1

/-- THE LAW -/
theorem wp_region_tail {id : Nat} {a : Act} {w : World} {l : List Oper} (n : Nat) (hm : P.follows .mixedOrders = true) (hB : tailB .any l n = true)
    (h : wpAny P .any (l.take n).toArray (behind P l.toArray (l.drop n) Q) n (Array.replicate n false) a w.drew) : (Code.region id l.toArray true).wp P Q a w := by
  simp only [tailB, Bool.and_eq_true, decide_eq_true_eq] at hB
  obtain ⟨⟨⟨⟨hn, hs⟩, hc⟩, hh⟩, hq⟩ := hB
  refine wp_region_any hm ?_
  have inv0 : HeadInv .any l.toArray n (Array.replicate l.toArray.size false) :=
    ⟨by simp, fun j oj _ hl => (by rw [getD_replicate_false] at hl; cases hl), fun t _ ht => getD_in (by simpa using ht) (getD_replicate_false _ _)⟩
  have H := wpAny_tail (P := P) (Q := Q) hn hs hc hh hq n (Array.replicate n false) (Array.replicate l.toArray.size false) a w.drew inv0 (by simp) (fun j hj => by
    have : j < l.length := by omega
    simp [hj, this]) h
  have e : n + (l.length - n) = l.toArray.size := by simp; omega
  rw [e] at H
  exact H
end
end Go.Proofs.YtefdopifebhgiaaGreatDoor
