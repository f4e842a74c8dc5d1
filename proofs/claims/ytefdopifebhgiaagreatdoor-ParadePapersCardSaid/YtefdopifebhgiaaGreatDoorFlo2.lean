/-
  A REGION THAT DRAWS ITS ORDER: Flow's steps over a named state: no step looks at the slots of no concern.
-/
import Derived.Test.YtefdopifebhgiaaGreatDoorFlow
namespace Go.Proofs.YtefdopifebhgiaaGreatDoor
open Go.RowKit

theorem wp_named {P : Program} {c : Code} {Q : Exit → Act → World → Prop} {a : Act} {w : World} (h : ∀ a', a' = a → c.wp P Q a' w) : c.wp P Q a w := h a rfl

section
variable {P : Program} {ops : Array Oper} {a0 : Act} {vs : Nat → Value} {slots : List Nat} {o : Oper} {w : World} {K : Act → World → Prop} {Q : Exit → Act → World → Prop} {E : Prop}

theorem fl_in {k : Nat} (N : Nat) (hs : a0.tmps.size = N) (h : (slots.contains k && decide (k < N)) = true) : (putAll a0 vs slots).eval (.tmp k) = vs k := by
  simp only [Bool.and_eq_true, List.contains_iff_mem, decide_eq_true_eq] at h
  show (putAll a0 vs slots).tmps.getD k undef = vs k
  rw [Array.getD_eq_getD_getElem?, putAll_tmps, if_pos ⟨h.1, by omega⟩]
  rfl
theorem fl_out {k : Nat} (h : slots.contains k = false) : (putAll a0 vs slots).eval (.tmp k) = a0.eval (.tmp k) := by
  have h2 : ¬ k ∈ slots := fun hk => by rw [List.contains_iff_mem.2 hk] at h; cases h
  show (putAll a0 vs slots).tmps.getD k undef = a0.tmps.getD k undef
  rw [Array.getD_eq_getD_getElem?, putAll_tmps, if_neg (fun h => h2 h.1), Array.getD_eq_getD_getElem?]
theorem fl_want {y : Nat → Option Bool} (h : o.guard = none) : Region.wanted o y = true := by unfold Region.wanted; rw [h]
theorem fl_wantg {j k : Nat} {b : Bool} (N : Nat) (hs : a0.tmps.size = N) (h : o.guard = some (j, b)) (hd : dstOf ops j = some k) (hk : (slots.contains k && decide (k < N)) = true) (hv : vs k = .bool b) : Region.wanted o (yielded ops (putAll a0 vs slots).tmps) = true := by
  simp only [Bool.and_eq_true, List.contains_iff_mem, decide_eq_true_eq] at hk
  unfold Region.wanted yielded
  rw [h]
  unfold dstOf at hd
  cases hj : ops[j]? with
  | none => rw [hj] at hd; cases hd
  | some oj =>
    rw [hj] at hd
    simp only at hd
    simp [hj, hd, putAll_tmps, hk.1, hs, hk.2, hv]
end

section
variable {P : Program} {ops : Array Oper} {Q : Exit → Act → World → Prop} {md : Region.Mode} {a0 : Act} {slots : List Nat} {A : Nat} {W : Bool → World → Prop} {R RA : World → World → Prop} {Y : Bool → Nat → Value → World → Prop}
/-- an operation that yields a value -/
theorem StepF.val {i : Nat} {o : Oper} {rs : List Nat} (ho : ops.toList[i]? = some o) (hne : (i == A) = false)
    (h : ∀ (b : Bool) (vs : Nat → Value) (w : World), (awaits md ops A i = true → b = false) → W b w → (∀ j k, awaits md ops i j = true → dstOf ops j = some k → Y b j (vs k) w) →
      Region.wanted o (yielded ops (putAll a0 vs slots).tmps) = true ∧ ∀ ρ : Operand → Value, ρ = (putAll a0 vs slots).eval → ∃ v w', (execOp ρ o).run P w = .ok (.value v) w' ∧ W b w' ∧ R w w' ∧ Y b i v w')
    (hs : ∀ j ∈ rs, StepF P md ops Q a0 slots A W R RA Y j) : ∀ j ∈ i :: rs, StepF P md ops Q a0 slots A W R RA Y j :=
  StepF.cons ho hne (fun b vs w hb hW hY K hK => by
    obtain ⟨hg, hr⟩ := h b vs w hb hW hY
    obtain ⟨v, w', hr, h1, h2, h3⟩ := hr _ rfl
    rw [if_pos hg]
    unfold Oper.wp
    rw [hr]
    exact hK.out v w' h1 h2 (fun _ => h3)) hs
/-- operation A -/
theorem StepF.valA {i : Nat} {o : Oper} {rs : List Nat} (ho : ops.toList[i]? = some o) (he : i = A)
    (h : ∀ (vs : Nat → Value) (w : World), W false w → (∀ j k, awaits md ops i j = true → dstOf ops j = some k → Y false j (vs k) w) →
      Region.wanted o (yielded ops (putAll a0 vs slots).tmps) = true ∧ ∀ ρ : Operand → Value, ρ = (putAll a0 vs slots).eval → ∃ v w', (execOp ρ o).run P w = .ok (.value v) w' ∧ W true w' ∧ RA w w' ∧ Y true i v w')
    (hs : ∀ j ∈ rs, StepF P md ops Q a0 slots A W R RA Y j) : ∀ j ∈ i :: rs, StepF P md ops Q a0 slots A W R RA Y j :=
  StepF.app ho he (fun vs w hW hY K hK => by
    obtain ⟨hg, hr⟩ := h vs w hW hY
    obtain ⟨v, w', hr, h1, h2, h3⟩ := hr _ rfl
    rw [if_pos hg]
    unfold Oper.wp
    rw [hr]
    exact hK.out v w' h1 h2 (fun _ => h3)) hs
/-- an operation that calls a function -/
theorem StepF.call {i : Nat} {o : Oper} {rs : List Nat} (ho : ops.toList[i]? = some o) (hne : (i == A) = false)
    (h : ∀ (b : Bool) (vs : Nat → Value) (w : World), (awaits md ops A i = true → b = false) → W b w → (∀ j k, awaits md ops i j = true → dstOf ops j = some k → Y b j (vs k) w) →
      Region.wanted o (yielded ops (putAll a0 vs slots).tmps) = true ∧ ∀ ρ : Operand → Value, ρ = (putAll a0 vs slots).eval → ∃ f args, (execOp ρ o).run P w = .ok (.enter f args) w ∧ Calls P f args w fun e w' => ∃ v, e = .returned v ∧ W b w' ∧ R w w' ∧ Y b i v w')
    (hs : ∀ j ∈ rs, StepF P md ops Q a0 slots A W R RA Y j) : ∀ j ∈ i :: rs, StepF P md ops Q a0 slots A W R RA Y j :=
  StepF.cons ho hne (fun b vs w hb hW hY K hK => by
    obtain ⟨hg, hr⟩ := h b vs w hb hW hY
    obtain ⟨f, args, hr, hc⟩ := hr _ rfl
    rw [if_pos hg]
    unfold Oper.wp
    rw [hr]
    show Calls P f args w _
    refine hc.mono ?_
    rintro e w' ⟨v, rfl, h1, h2, h3⟩
    exact hK.out v w' h1 h2 (fun _ => h3)) hs
end
theorem ex_move {P : Program} {w : World} {ρ : Operand → Value} {o : Oper} {s : Operand} {v : Value} (ho : o.op = .move s) (h : ρ s = v) : (execOp ρ o).run P w = .ok (.value v) w := by
  unfold execOp
  rw [ho]
  show Result.ok (Next.value (ρ s)) w = _
  rw [h]
theorem ex_assign {P : Program} {w : World} {ρ : Operand → Value} {o : Oper} {s : Operand} {v : Value} (ho : o.op = .assign s) (h : ρ s = v) : (execOp ρ o).run P w = .ok (.value v) w := by
  unfold execOp
  rw [ho]
  show Result.ok (Next.value (ρ s)) w = _
  rw [h]
theorem ex_extract {P : Program} {w : World} {ρ : Operand → Value} {o : Oper} {s : Operand} {i : Nat} {vs : Array Value} {v : Value} (ho : o.op = .extract s i) (h : ρ s = .tuple vs) (hv : vs[i]? = some v) : (execOp ρ o).run P w = .ok (.value v) w := by
  unfold execOp
  simp [ho, h, Instr.extract, hv, go_sem]
theorem ex_call {P : Program} {w : World} {ρ : Operand → Value} {o : Oper} {f : FuncId} {fn : Func} {c : Code} {x : Operand} {args : Array Operand} {ts : Array TypeId} {vs : Array Value} (ho : o.op = .call { callee := .value x, args := args, argTypes := ts }) (hf : ρ x = .func (.func f) #[] #[]) (h : args.map ρ = vs)
    (hP : P.funcs[f]? = some fn) (hname : (fn.name == "runtime.NumGoroutine") = false) (hb : fn.body = some c) : (execOp ρ o).run P w = .ok (.enter f vs) w := by
  have h1 : fn.name ≠ "runtime.NumGoroutine" := by simpa using hname
  unfold execOp
  simp [ho, resolve, hf, h, Deferred.ofValue, invoke, callFunc, hP, h1, hb]
theorem ex_build {P : Program} {w w' : World} {ρ : Operand → Value} {o : Oper} {t : TypeId} {n : Nat} {parts : Array (Nat × Operand)} {ps : Array (Nat × Value)} {v : Value} (ho : o.op = .buildSlice t n parts) (h : parts.map (fun p => (p.1, ρ p.2)) = ps) (hr : (Instr.buildSlice t n ps).run P w = .ok v w') : (execOp ρ o).run P w = .ok (.value v) w' := by
  unfold execOp
  simp only [ho]
  have e : (parts.map fun (p : Nat × Operand) => match p with | (i, x) => (i, ρ x)) = ps := h
  rw [e]
  simp only [Sem.run_bind, Sem.run_pure, Result.andThen_ok, hr]
theorem ex_app {P : Program} {w w' : World} {ρ : Operand → Value} {o : Oper} {s x : Operand} {t : TypeId} {v vx v' : Value} (ho : o.op = .call { callee := .builtin .append, args := #[s, x], argTypes := #[t, t] }) (hs : ρ s = v) (hx : ρ x = vx) (hr : (Builtin.append_ #[t, t] o.type #[v, vx]).run P w = .ok v' w') : (execOp ρ o).run P w = .ok (.value v') w' := by
  unfold execOp
  simp only [ho, resolve, invoke, builtin, Sem.run_bind, Sem.run_pure, Result.andThen_ok, List.map_toArray, List.map_cons, List.map_nil, hs, hx, hr]
end Go.Proofs.YtefdopifebhgiaaGreatDoor
