/-
  LISTS OF PLANS in memory; WALKS: the reference's Plans.
  WALKS: the reference's Plan.
-/
import Derived.Test.YtgfipifgijohhaaDoorPln
import Derived.Test.YtgfipifgijohhaaDoorWk
import Derived.Deep.CutRange
import Derived.Deep.AppendLies
namespace Go.Proofs.YtgfipifgijohhaaDoor
open Go.RowKit

/-- a list of rows of numbers: the rows lie at base b1 and behind it, the list itself at b2 and behind it -/
structure RowsN (b1 b2 : Nat) (w : World) (v : Value) (vs : List Value) (rows : List (List Int)) : Prop where
  own : OwnSl b2 w v vs
  len : vs.length = rows.length
  row : ∀ (i : Nat) (u : Value) (r : List Int), vs[i]? = some u → rows[i]? = some r → OwnInts b1 w u r ∧ 0 < r.length ∧ u.ownBlock ≠ v.ownBlock
  nil : vs = [] → v = .slice none 0 0

theorem RowsN.empty (b1 b2 : Nat) (w : World) : RowsN b1 b2 w (.slice none 0 0) [] [] := ⟨World.ownsRow_nil _ _ _ _, rfl, fun i u r h => by simp at h, fun _ => rfl⟩
theorem RowsN.later {b1 b2 : Nat} {w w' : World} {v : Value} {vs : List Value} {rows : List (List Int)} (h : RowsN b1 b2 w v vs rows) (hb : Below w.heap.size w w') : RowsN b1 b2 w' v vs rows :=
  ⟨World.ownsRow.kept h.own (gb_below hb none) (by cases e : v.ownBlock <;> simp), h.len, fun i u r hu hr => ⟨OwnInts.later (h.row i u r hu hr).1 hb, (h.row i u r hu hr).2⟩, h.nil⟩
theorem RowsN.base {b1 b2 c1 c2 : Nat} {w : World} {v : Value} {vs : List Value} {rows : List (List Int)} (h : RowsN b1 b2 w v vs rows) (h1 : c1 ≤ b1) (h2 : c2 ≤ b2) : RowsN c1 c2 w v vs rows :=
  ⟨h.own.base' h2, h.len, fun i u r hu hr => ⟨OwnInts.base' (h.row i u r hu hr).1 h1, (h.row i u r hu hr).2⟩, h.nil⟩
theorem RowsN.form {b1 b2 : Nat} {w : World} {v : Value} {vs : List Value} {rows : List (List Int)} (h : RowsN b1 b2 w v vs rows) : ∀ x, x ∈ vs → ∃ a n c, x = .slice a n c := fun x hx => by
  obtain ⟨i, hi⟩ := List.getElem?_of_mem hx
  obtain ⟨r2, hr2⟩ : ∃ r2, rows[i]? = some r2 := ⟨rows[i]'(by have := (List.getElem?_eq_some_iff.1 hi).1; rw [h.len] at this; exact this), by simp⟩
  obtain ⟨a, c, e⟩ := (h.row i x r2 hi hr2).1.form
  exact ⟨a, _, c, e⟩

/-- a block of numbers is no block of slices -/
theorem int_ne_sl {b1 b2 : Nat} {w : World} {u v : Value} {r : List Int} {vs : List Value} (hu : OwnInts b1 w u r) (h0 : 0 < r.length) (hv : OwnSl b2 w v vs) (hvs : 0 < vs.length) (hform : ∀ x, x ∈ vs → ∃ a n c, x = .slice a n c) : u.ownBlock ≠ v.ownBlock := fun e => by
  obtain ⟨g, c, _, _, _, e1, hc1⟩ := hu.cell h0
  obtain ⟨g2, c2, _, _, _, _, _, e2, hc2⟩ := hv.cell hvs
  rw [e1, e2] at e
  cases e
  have q1 := hc1 0 h0
  have hz : vs[0]? = some (vs[0]'hvs) := List.getElem?_eq_getElem hvs
  have q2 := hc2 0 hvs _ hz
  rw [q1] at q2
  obtain ⟨a, n, c, e⟩ := hform _ (List.mem_of_getElem? hz)
  rw [e] at q2
  cases q2

/-- two lists joined -/
theorem RowsN.join {b1 b2 b3 : Nat} {w w' : World} {v v2 v' : Value} {vs vs2 : List Value} {rows rows2 : List (List Int)} (h : RowsN b1 b2 w v vs rows) (h2 : RowsN b1 b3 w v2 vs2 rows2) (hne : 0 < vs2.length)
    (hown : OwnSl b2 w' v' (vs ++ vs2)) (hg : w.grownBy w' v.ownBlock) : RowsN b1 b2 w' v' (vs ++ vs2) (rows ++ rows2) where
  own := hown
  len := by simp [h.len, h2.len]
  nil := fun e => by rw [List.append_eq_nil_iff] at e; rw [e.2] at hne; simp at hne
  row := by
    have hform : ∀ x, x ∈ vs ++ vs2 → ∃ a n c, x = .slice a n c := fun x hx => by
      rcases List.mem_append.1 hx with hx | hx
      · exact h.form x hx
      · exact h2.form x hx
    have key : ∀ (u : Value) (r : List Int), OwnInts b1 w u r → 0 < r.length → u.ownBlock ≠ v.ownBlock → OwnInts b1 w' u r ∧ 0 < r.length ∧ u.ownBlock ≠ v'.ownBlock := fun u r hu h0 hn => by
      have hk : OwnInts b1 w' u r := World.ownsRow.kept hu hg (.inr hn)
      exact ⟨hk, h0, int_ne_sl hk h0 hown (by simp; omega) hform⟩
    intro i u r hu hr
    by_cases hi : i < vs.length
    · rw [List.getElem?_append_left hi] at hu
      rw [List.getElem?_append_left (by rw [← h.len]; exact hi)] at hr
      obtain ⟨q1, q2, q3⟩ := h.row i u r hu hr
      exact key u r q1 q2 q3
    · rw [List.getElem?_append_right (by omega)] at hu
      rw [List.getElem?_append_right (by rw [← h.len]; omega), ← h.len] at hr
      obtain ⟨q1, q2, _⟩ := h2.row _ u r hu hr
      refine key u r q1 q2 ?_
      by_cases hv : 0 < vs.length
      · exact int_ne_sl q1 q2 h.own hv h.form
      · have e : vs = [] := List.eq_nil_of_length_eq_zero (by omega)
        rw [h.nil e]
        obtain ⟨g, c, _, _, _, e1, _⟩ := q1.cell q2
        rw [e1]
        intro e; cases e

theorem app_sls {ops : Array Oper} {rest : List Oper} {o : Oper} {a : Act} {Q : Exit → Act → World → Prop} {w : World} (hgd : o.guard = none) (s x : Operand)
    (ho : o.op = .call { callee := .builtin .append, args := #[s, x], argTypes := #[40, 40] })
    (base b2 : Nat) (xs ys : List Value) (vd v : Value) (hown : OwnSl base w vd xs) (hY : OwnSl b2 w v ys) (hform : ∀ y, y ∈ ys → ∃ a n c, y = .slice a n c) (hnil : ys = [] → v = .slice none 0 0)
    (hs : a.eval s = vd) (hx : a.eval x = v) (hn : xs.length + ys.length ≤ 1000000) (hbase : base ≤ w.heap.size)
    (h0 : ys = [] → wpList Tryd.prog ops Q rest (a.put o.dst vd) w)
    (h : ∀ v' w', 0 < ys.length → OwnSl base w' v' (xs ++ ys) → w.grownBy w' vd.ownBlock → wpList Tryd.prog ops Q rest (a.put o.dst v') w') :
    wpList Tryd.prog ops Q (o :: rest) a w := by
  obtain ⟨i0, hi, hz0, hz1, hz2⟩ := info_parts infoSl
  by_cases hl : 0 < ys.length
  · obtain ⟨g, c, rfl, _, hg2, _, hcm, _, hc⟩ := hY.cell hl
    refine wpList_append_own _ hgd s x 40 ho base 25 i0 (.slice none 0 0) 1 24 Tryd.underlying40 hi hz0 hz1 hz2 rfl (by decide) vd xs.length xs hs hown ⟨g, 0, none⟩ ys.length c ys hx (by simp) ?_
      (by intro u hu; obtain ⟨a, n, c, rfl⟩ := hform u hu; rfl) (by unfold maxLen; omega) (by omega) hbase ?_
    · intro j u hj
      have hjl := (List.getElem?_eq_some_iff.1 hj).1
      rw [addr_add, Nat.zero_add]
      exact hc j hjl u hj
    · intro v' w' hown' hg hnil'
      exact h v' w' hl (by unfold OwnSl; simpa using hown') hg
  · obtain rfl : ys = [] := List.eq_nil_of_length_eq_zero (by omega)
    rw [hnil rfl] at hx
    exact wpList_append_own_none hgd s x 40 ho base 25 i0 1 Tryd.underlying40 hi vd xs.length xs hs hown hx (h0 rfl)

/-- a row that is nil, appended at a step of a region that draws -/
theorem step_append_none {P : Program} {w : World} {ops : Array Oper} {o : Oper} {a : Act} {K : Act → World → Prop} {Q : Exit → Act → World → Prop} {E : Prop} (hgd : o.guard = none) (s x : Operand) (t : TypeId)
    (ho : o.op = .call { callee := .builtin .append, args := #[s, x], argTypes := #[t, t] })
    (base : Nat) (e : TypeId) (i : TypeInfo) (size : Nat) (ht : P.underlying t = some (.slice e)) (hi : P.info? e = some i)
    (v : Value) (n : Nat) (xs : List Value) (hs : a.eval s = v) (hown : w.ownsRow base e size v n xs) (hx : a.eval x = .slice none 0 0)
    (h : K (a.put o.dst v) w) : if Region.wanted o (yielded ops a.tmps) = true then Oper.wp P o a w K Q else E := by
  have hw : Region.wanted o (yielded ops a.tmps) = true := by simp [Region.wanted, hgd]
  rw [if_pos hw]
  have hrun := run_append_owned_none (P := P) (w := w) base t o.type e i size ht hi v n xs hown
  unfold Oper.wp
  simp [execOp, ho, resolve, invoke, builtin, hs, hx, hrun, Result.andThen]
  exact h

/-- a list of numbers copied into a list of the call's own that holds none -/
theorem step_app_ints {w : World} {ops : Array Oper} {o : Oper} {a : Act} {K : Act → World → Prop} {Q : Exit → Act → World → Prop} {E : Prop} (hgd : o.guard = none) (s x : Operand)
    (ho : o.op = .call { callee := .builtin .append, args := #[s, x], argTypes := #[25, 25] })
    (base : Nat) (xs : List Int) (vd v : Value) (hown : OwnInts base w vd []) (hX : IntsAt none w v xs) (hv : xs = [] → v = .slice none 0 0) (hs : a.eval s = vd) (hx : a.eval x = v)
    (hn : xs.length ≤ 1000000) (hbase : base ≤ w.heap.size)
    (h : ∀ c a1 w', OwnInts base w' (.slice a1 xs.length c) xs → Below base w w' → w.grownBy w' vd.ownBlock → K (a.put o.dst (.slice a1 xs.length c)) w') :
    if Region.wanted o (yielded ops a.tmps) = true then Oper.wp Tryd.prog o a w K Q else E := by
  obtain ⟨i0, hi, hz0, hz1, hz2⟩ := info_parts infoInt
  obtain ⟨ad, cap, rfl, hh⟩ := hX
  by_cases h0 : 0 < xs.length
  · obtain ⟨b, off, rfl, _, _, _, hb, hL⟩ := hh h0
    refine step_append_lies _ hgd s x 25 ho base 3 i0 (.int .i64 0) 1 8 Tryd.underlying25 hi hz0 hz1 hz2 rfl (by decide) vd 0 [] hs hown ⟨b, off, none⟩ xs.length cap (xs.map (Value.int .i64)) hx (by simp) ?_
      (by intro u hu; simp at hu; obtain ⟨z, _, rfl⟩ := hu; rfl) h0 (by unfold maxLen; omega) (by omega) hbase _ rfl ?_
    · intro j u hj
      rw [List.getElem?_map] at hj
      by_cases hjl : j < xs.length
      · rw [List.getElem?_eq_getElem hjl] at hj
        have := hL j hjl
        simp at hj
        subst hj
        rw [addr_add]
        simpa [nm, List.getD_eq_getElem?_getD, List.getElem?_eq_getElem hjl] using this
      · rw [List.getElem?_eq_none (by omega)] at hj; cases hj
    · intro g c w' hown' hg _ _
      rw [Nat.zero_add] at hown' ⊢
      exact h _ _ w' (by unfold OwnInts; simpa using hown') (below_of_own hown hg hbase) hg
  · obtain rfl : xs = [] := List.eq_nil_of_length_eq_zero (by omega)
    obtain ⟨ad2, cap2, rfl⟩ := hown.form
    rw [hv rfl] at hx
    exact step_append_none hgd s x 25 ho base 3 i0 1 Tryd.underlying25 hi _ 0 [] hs hown hx (h _ _ w hown (Below.refl _ _) (gb_refl _ _))

/-- one number more -/
theorem step_app_intL {w : World} {ops : Array Oper} {o : Oper} {a : Act} {K : Act → World → Prop} {Q : Exit → Act → World → Prop} {E : Prop} (hgd : o.guard = none) (s x : Operand)
    (ho : o.op = .call { callee := .builtin .append, args := #[s, x], argTypes := #[25, 25] })
    (base : Nat) (xs : List Int) (y : Int) (v : Value) (B c0 : Nat) (hown : OwnInts base w v xs) (hc : w.cell? ⟨B, 0, none⟩ = some (.int .i64 y)) (hs : a.eval s = v) (hx : a.eval x = .slice (some ⟨B, 0, none⟩) 1 c0)
    (hn : xs.length ≤ 1000000) (hbase : base ≤ w.heap.size)
    (h : ∀ c a1 w', OwnInts base w' (.slice a1 (xs.length + 1) c) (xs ++ [y]) → Below base w w' → K (a.put o.dst (.slice a1 (xs.length + 1) c)) w') :
    if Region.wanted o (yielded ops a.tmps) = true then Oper.wp Tryd.prog o a w K Q else E := by
  obtain ⟨i0, hi, hz0, hz1, hz2⟩ := info_parts infoInt
  refine step_append_lies _ hgd s x 25 ho base 3 i0 (.int .i64 0) 1 8 Tryd.underlying25 hi hz0 hz1 hz2 rfl (by decide) v xs.length (xs.map (Value.int .i64)) hs hown ⟨B, 0, none⟩ 1 c0 [.int .i64 y] hx rfl ?_
    (by intro u hu; simp at hu; subst hu; rfl) (by decide) (by unfold maxLen; omega) (by omega) hbase _ rfl ?_
  · intro j u hj
    cases j with
    | zero => simp at hj; subst hj; rw [addr_add]; exact hc
    | succ j => simp at hj
  · intro g c w' hown' hg _ _
    exact h _ _ w' (by unfold OwnInts; simpa using hown') (below_of_own hown hg hbase)

/-- a list of slices behind a list of the call's own -/
theorem step_app_sls {w : World} {ops : Array Oper} {o : Oper} {a : Act} {K : Act → World → Prop} {Q : Exit → Act → World → Prop} {E : Prop} (hgd : o.guard = none) (s x : Operand)
    (ho : o.op = .call { callee := .builtin .append, args := #[s, x], argTypes := #[40, 40] })
    (base b2 : Nat) (xs ys : List Value) (vd v : Value) (hown : OwnSl base w vd xs) (hY : OwnSl b2 w v ys) (hform : ∀ y, y ∈ ys → ∃ a n c, y = .slice a n c) (hnil : ys = [] → v = .slice none 0 0)
    (hs : a.eval s = vd) (hx : a.eval x = v) (hn : xs.length + ys.length ≤ 1000000) (hbase : base ≤ w.heap.size)
    (h : ∀ v' w', ((ys = [] ∧ v' = vd ∧ w' = w) ∨ (0 < ys.length ∧ OwnSl base w' v' (xs ++ ys) ∧ w.grownBy w' vd.ownBlock)) → K (a.put o.dst v') w') :
    if Region.wanted o (yielded ops a.tmps) = true then Oper.wp Tryd.prog o a w K Q else E := by
  obtain ⟨i0, hi, hz0, hz1, hz2⟩ := info_parts infoSl
  by_cases hl : 0 < ys.length
  · obtain ⟨g, c, rfl, _, hg2, _, hcm, _, hc⟩ := hY.cell hl
    refine step_append_lies _ hgd s x 40 ho base 25 i0 (.slice none 0 0) 1 24 Tryd.underlying40 hi hz0 hz1 hz2 rfl (by decide) vd xs.length xs hs hown ⟨g, 0, none⟩ ys.length c ys hx (by simp) ?_
      (by intro u hu; obtain ⟨a, n, c, rfl⟩ := hform u hu; rfl) hl (by unfold maxLen; omega) (by omega) hbase _ rfl ?_
    · intro j u hj
      have hjl := (List.getElem?_eq_some_iff.1 hj).1
      rw [addr_add, Nat.zero_add]
      exact hc j hjl u hj
    · intro g c w' hown' hg _ _
      exact h _ w' (.inr ⟨hl, by unfold OwnSl; simpa using hown', hg⟩)
  · obtain rfl : ys = [] := List.eq_nil_of_length_eq_zero (by omega)
    rw [hnil rfl] at hx
    exact step_append_none hgd s x 40 ho base 25 i0 1 Tryd.underlying40 hi vd xs.length xs hs hown hx (h _ w (.inl ⟨rfl, rfl, rfl⟩))

/-- the list that holds one plan alone -/
theorem RowsN.one {b1 : Nat} {w : World} {u : Value} {r : List Int} (hu : OwnInts b1 w u r) (h0 : 0 < r.length) : RowsN b1 w.heap.size (w.alloc (.cells #[u] 25)) (.slice (some ⟨w.heap.size, 0, none⟩) 1 1) [u] [r] where
  own := World.ownsRow_lit (e := 25) (size := 1) w #[u] 1 (Nat.le_refl _) (by unfold maxLen; omega) rfl
  len := rfl
  nil := fun e => by simp at e
  row := fun i u' r' hu' hr' => by
    cases i with
    | zero =>
      simp at hu' hr'
      subst hu' hr'
      refine ⟨World.ownsRow.alloc hu _, h0, fun e => ?_⟩
      obtain ⟨g, c, _, _, hg, e1, _⟩ := hu.cell h0
      rw [e1] at e
      cases e
      exact absurd hg (Nat.lt_irrefl _)
    | succ i => simp at hu'

theorem OwnInts.kept' {b : Nat} {w w' : World} {v : Value} {xs : List Int} (h : OwnInts b w v xs) (hb : Below w.heap.size w w') (_ : b ≤ w.heap.size) : OwnInts b w' v xs := OwnInts.later h hb

theorem own_emptyB {base : Nat} {w : World} {n : Nat} (hb : base ≤ w.heap.size) (hn : n = w.heap.size) : OwnInts base (w.alloc (.cells #[] 3)) (.slice (some ⟨n, 0, none⟩) 0 0) [] := by
  subst hn
  exact World.ownsRow_made (e := 3) (size := 1) w #[] 0 hb (by unfold maxLen; omega) rfl

theorem RowsN.join' {b1 b2 b3 : Nat} {w w' : World} {v v2 v' : Value} {vs vs2 : List Value} {rows rows2 : List (List Int)} (h : RowsN b1 b2 w v vs rows) (h2 : RowsN b1 b3 w v2 vs2 rows2)
    (hc : (vs2 = [] ∧ v' = v ∧ w' = w) ∨ (0 < vs2.length ∧ OwnSl b2 w' v' (vs ++ vs2) ∧ w.grownBy w' v.ownBlock)) : RowsN b1 b2 w' v' (vs ++ vs2) (rows ++ rows2) := by
  rcases hc with ⟨rfl, rfl, rfl⟩ | ⟨h0, ho, hg⟩
  · have : rows2 = [] := List.eq_nil_of_length_eq_zero (by rw [← h2.len]; rfl)
    subst this
    simpa using h
  · exact h.join h2 h0 ho hg
theorem app_below {b2 : Nat} {w w' : World} {v v' : Value} {vs vs2 : List Value} (h : OwnSl b2 w v vs) (hb : b2 ≤ w.heap.size)
    (hc : (vs2 = [] ∧ v' = v ∧ w' = w) ∨ (0 < vs2.length ∧ OwnSl b2 w' v' (vs ++ vs2) ∧ w.grownBy w' v.ownBlock)) : Below b2 w w' := by
  rcases hc with ⟨_, _, rfl⟩ | ⟨_, _, hg⟩
  · exact Below.refl _ _
  · exact below_of_own h hg hb

theorem Begun.bound {ws : List Wing} {b : List Int} (h : Begun ws b) : ∀ i, i < b.length → 0 ≤ nm b i ∧ nm b i ≤ 1000000 := fun i hi => by have := h.fine i hi; omega

theorem least_bound {ws : List Wing} {b : List Int} (hs : Small ws) (h : Begun ws b) (hl : b.length ≤ ws.length) : 0 ≤ leastOf ws b b.length ∧ leastOf ws b b.length ≤ 100000000 := by
  refine ⟨leastOf_nonneg hs hl (fun i hi => (h.fine i hi).1), ?_⟩
  cases hb : b.length with
  | zero => show (0 : Int) ≤ _; omega
  | succ k =>
    show passed (Ln ws) (nm b) (Lo ws) k (Ln ws k) ≤ _
    have hk := hs.n
    have hlk := hs.len k (by omega)
    have := passed_high (L := Ln ws) (S := nm b) (P := Lo ws) (k := k) (fun i hi => by have := hs.lo i (by omega); omega) (fun i hi => hs.len i (by omega)) (fun i hi => (h.bound i (by omega)).2) (x := Ln ws k) (by omega)
    omega

set_option maxHeartbeats 8000000 in
set_option maxRecDepth 100000 in
theorem rplans_any (ws : List Wing) (route : Int) (hs : Small ws) (h5 : ws.length ≤ 5) (hw0 : 0 < ws.length) : ∀ (r : Nat) (b : List Int) (vw vb : Value) (base : Nat) (w : World), WgAt none w vw ws → OwnInts base w vb b → (b = [] → vb = .slice none 0 0) → base ≤ w.heap.size → Begun ws b → b.length + r = ws.length →
    Calls Tryd.prog 64 #[.agg #[.int .i64 route, vw], vb] w
     fun e w' => ∃ v, e = .returned v ∧ (∃ vs, RowsN base w.heap.size w' v vs (plansR ws r b)) ∧ Below w.heap.size w w' := by
  intro r
  induction r with
  | zero =>
    intro b vw vb base w hW hB hBn hb0 hbg hl
    obtain ⟨aw, cap, rfl, _⟩ := hW
    have HB := hid hB
    obtain ⟨ab, cb, rfl⟩ := hB.form
    clear hB
    have K := hid ((HK.start w).box2 (.int .i64 route) (.slice aw ws.length cap) 24)
    have x1 := K.out.c (b := w.heap.size) (o := 1) (v := .slice aw ws.length cap) (by simp)
    obtain ⟨d1, d2⟩ := eq_bool (a := (b.length : Int)) (b := (ws.length : Int)) (by omega)
    have h1 : RowsN base w.heap.size ((w.alloc (.cells #[.int .i64 route, .slice aw ws.length cap] 24)).alloc (.cells #[.slice ab b.length cb] 25)) (.slice (some ⟨w.heap.size + 1, 0, none⟩) 1 1) [.slice ab b.length cb] [b] := by
      have e : (w.alloc (.cells #[.int .i64 route, .slice aw ws.length cap] 24)).heap.size = w.heap.size + 1 := by simp
      rw [← e]
      exact (RowsN.one (OwnInts.later HB.out (below_alloc w (.cells #[.int .i64 route, .slice aw ws.length cap] 24))) (by omega)).base (Nat.le_refl _) (c2 := w.heap.size) (by simp)
    have H1 := hid h1
    clear h1
    go_enter Tryd.func64, Tryd.ntmps64
    go_wp2
    go_ret
    exact ⟨_, rfl, ⟨_, H1.out⟩, (K.out.alloc _).below⟩
  | succ r ih =>
    intro b vw vb base w hW hB hBn hb0 hbg hl
    have hW2 := hid hW
    obtain ⟨aw, cap, rfl, _⟩ := hW
    have HB := hid hB
    obtain ⟨ab, cb, rfl⟩ := hB.form
    clear hB
    obtain ⟨nb, hnb⟩ : ∃ nb, b.length = nb := ⟨_, rfl⟩
    rw [hnb] at HB hBn ⊢
    have HNB := hid hnb
    have hBn' := hid hBn
    clear hBn
    have IH := hid ih
    clear ih
    have Hbg := hid hbg
    have hlb := least_bound hs hbg (by omega)
    have K := hid ((HK.start w).box2 (.int .i64 route) (.slice aw ws.length cap) 24)
    have x1 := K.out.c (b := w.heap.size) (o := 1) (v := .slice aw ws.length cap) (by simp)
    obtain ⟨d1, d2⟩ := ne_bool (a := (nb : Int)) (b := (ws.length : Int)) (by omega)
    rw [hnb] at hlb hl
    clear hbg
    obtain ⟨L, hL⟩ : ∃ L, leastOf ws b nb = L := ⟨_, rfl⟩
    rw [hL] at hlb
    have HL := hid hL
    clear hL
    have hwq := waitsOf_le b
    obtain ⟨Q, hQ⟩ : ∃ Q, waitsOf b = Q := ⟨_, rfl⟩
    rw [hQ] at hwq
    have HQ := hid hQ
    clear hQ
    have hnbl : nb < ws.length := by omega
    have Hl := hid hl
    clear hnb hl
    go_enter Tryd.func64, Tryd.ntmps64
    go_wp2_with fail
    go_loopw [5, 6] (fun vo i wr => ∃ (k : Nat) (v : Value) (vs : List Value), k ≤ Q ∧ vo = v ∧ i = .int .i64 k ∧ RowsN base (w.heap.size + 1) wr v vs (plansW ws (plansR ws r) b k) ∧ HK [(w.heap.size, 0, .int .i64 route), (w.heap.size, 1, .slice aw ws.length cap)] w wr)
      (fun _ i _ => Q - (intOf i).toNat)
    case atStart => exact ⟨0, _, [], by omega, rfl, rfl, RowsN.empty _ _ _, K.out⟩
    case round =>
      obtain ⟨k, v, vs, hk, rfl, rfl, hR, KK⟩ := hrel
      obtain ⟨av, cv, rfl⟩ := hR.own.form
      have HR := hid hR
      have K := hid KK
      clear hR KK x1
      obtain ⟨wo, rfl⟩ : ∃ wo : World, wo = wr := ⟨_, rfl⟩
      have x0 := K.out.c (b := w.heap.size) (o := 0) (v := .int .i64 route) (by simp)
      have x1 := K.out.c (b := w.heap.size) (o := 1) (v := .slice aw ws.length cap) (by simp)
      have hsz : w.heap.size + 1 ≤ wo.heap.size := K.out.clt (b := w.heap.size) (o := 0) (v := .int .i64 route) (by simp)
      by_cases hlt : k < Q
      · have hcond : (k : Int) ≤ 3 := by omega
        have z1 : IntKind.i64.wrap ((k : Int) + 1) = (k : Int) + 1 := IntWalk.i64_in _ (by omega)
        have z2 : IntKind.i64.wrap (L + (k : Int)) = L + (k : Int) := IntWalk.i64_in _ (by omega)
        have hbz : (nb = 0 ∧ k = 0) ∨ 0 < nb := by
          have h := HQ.out
          have h2 := HNB.out
          unfold waitsOf at h
          split at h <;> omega
        go_upto_region 5 with fail
        go_cut [26] from 16 to 25 (fun s wx => s = .bool true ∧ wx = wo)
        case first =>
          rcases hbz with ⟨rfl, e2⟩ | e1
          · obtain ⟨d5, d6⟩ := eq_bool (a := (k : Int)) (b := 0) (by omega)
            clear e2
            go_wp2_with fail
            go_meet
            exact ⟨rfl, rfl⟩
          · have d3 : (0 : Int) < (nb : Int) := by omega
            go_wp2_with fail
            go_meet
            exact ⟨rfl, rfl⟩
        case rest =>
          obtain ⟨rfl, rfl⟩ := hcut
          clear hbz d1 d2
          obtain ⟨wo, rfl⟩ : ∃ wo : World, wo = wc := ⟨_, rfl⟩
          go_wp2_with fail
          refine (rleastOf_any ws b (nb : Int) route _ _ _ (hW2.out.below K.out.below) (OwnInts.at (OwnInts.kept' HB.out K.out.below hb0) (by simp)) (by omega) hs (by rw [Int.toNat_natCast]; omega) (by rw [Int.toNat_natCast, HNB.out]; exact Nat.le_refl _) (by rw [Int.toNat_natCast, ← HNB.out]; exact Hbg.out.bound)).mono ?_
          rw [Int.toNat_natCast, HL.out]
          rintro e w1 ⟨rfl, hb1⟩
          have K := hid (K.out.later hb1)
          have HR := hid (HR.out.later hb1)
          have hsz := Nat.le_trans hsz hb1.size
          clear hb1 x0 x1
          have x0 := K.out.c (b := w.heap.size) (o := 0) (v := .int .i64 route) (by simp)
          have x1 := K.out.c (b := w.heap.size) (o := 1) (v := .slice aw ws.length cap) (by simp)
          by_cases hn : L + (k : Int) ≤ 20000
          · go_wp2_with fail
            have hbl : b.length ≤ 1000000 := by have := HNB.out; omega
            have hBn2 : b = [] → Value.slice ab nb cb = .slice none 0 0 := hBn'.out
            have O1 := hid (show OwnInts w1.heap.size ((w1.alloc (.cells #[] 3)).drew) (.slice (some ⟨w1.heap.size, 0, none⟩) 0 0) [] from own_emptyB (Nat.le_refl _) rfl)
            have O2 := hid (show OwnInts w1.heap.size (((w1.alloc (.cells #[] 3)).alloc (.cells #[.int .i64 (L + (k : Int))] 3)).drew) (.slice (some ⟨w1.heap.size, 0, none⟩) 0 0) [] from World.ownsRow.alloc (own_emptyB (Nat.le_refl _) rfl) _)
            have O3 := hid (show OwnInts w1.heap.size (((w1.alloc (.cells #[.int .i64 (L + (k : Int))] 3)).alloc (.cells #[] 3)).drew) (.slice (some ⟨w1.heap.size + 1, 0, none⟩) 0 0) [] from own_emptyB (by simp) (by simp))
            have B1 := hid (show Below w1.heap.size w1 ((w1.alloc (.cells #[] 3)).drew) from (below_alloc w1 _).drew)
            have B2 := hid (show Below w1.heap.size w1 (((w1.alloc (.cells #[] 3)).alloc (.cells #[.int .i64 (L + (k : Int))] 3)).drew) from ((below_alloc w1 _).alloc (by simp) _).drew)
            have B3 := hid (show Below w1.heap.size w1 (((w1.alloc (.cells #[.int .i64 (L + (k : Int))] 3)).alloc (.cells #[] 3)).drew) from ((below_alloc w1 _).alloc (by simp) _).drew)
            have C2 := hid (show (((w1.alloc (.cells #[] 3)).alloc (.cells #[.int .i64 (L + (k : Int))] 3)).drew).cell? ⟨w1.heap.size + 1, 0, none⟩ = some (.int .i64 (L + (k : Int))) from cell_at (by simp) rfl)
            have C3 := hid (show (((w1.alloc (.cells #[.int .i64 (L + (k : Int))] 3)).alloc (.cells #[] 3)).drew).cell? ⟨w1.heap.size, 0, none⟩ = some (.int .i64 (L + (k : Int))) from cell_up (cell_at rfl rfl))
            have HBX := hid (show ∀ W', Below w1.heap.size w1 W' → IntsAt none W' (.slice ab nb cb) b from fun W' hb => OwnInts.at (OwnInts.later HB.out (K.out.below.trans (hb.mono K.out.below.size))) (by simp))
            have HWX := hid (show ∀ W', Below w1.heap.size w1 W' → WgAt none W' (.slice aw ws.length cap) ws from fun W' hb => hW2.out.below (K.out.below.trans (hb.mono K.out.below.size)))
            have KS := hid (show ∀ W', Below w1.heap.size w1 W' → W'.cell? ⟨w.heap.size, 0, none⟩ = some (.int .i64 route) ∧ W'.cell? ⟨w.heap.size, 1, none⟩ = some (.slice aw ws.length cap) from fun W' hb => ⟨(K.out.later hb).c (by simp), (K.out.later hb).c (by simp)⟩)
            have hBg2 := hid (show Begun ws (b ++ [L + (k : Int)]) from by
              have h := Hbg.out.snoc hs (by have := HNB.out; omega) (n := k) (by rw [HNB.out, HL.out]; exact hn)
              rw [HNB.out, HL.out] at h
              exact h)
            have hr4 : 4 ^ r ≤ 4 ^ 5 := Nat.pow_le_pow_right (by omega) (by have := Hl.out; omega)
            have hvs : vs.length ≤ 5000 := by
              rw [HR.out.len]
              have h1 := plansW_length (ws := ws) (b := b) (plansR_length ws r) k
              have h2 := Nat.mul_le_mul (show k ≤ 4 from by omega) hr4
              omega
            have hbz1 : base ≤ w1.heap.size := Nat.le_trans hb0 (Nat.le_trans (Nat.le_succ _) hsz)
            clear x0 x1
            go_region_held3 (fun w' => w'.cell? ⟨w.heap.size, 0, none⟩ = some (.int .i64 route) ∧ w'.cell? ⟨w.heap.size, 1, none⟩ = some (.slice aw ws.length cap))
              (first | exact KS.out _ (Below.refl _ _).drew | exact KS.out _ (below_alloc _ _).drew | exact KS.out _ B2.out | exact KS.out _ B3.out | exact KS.out _ B4.out | exact KS.out _ BX.out | exact ⟨K5.out.c (by simp), K5.out.c (by simp)⟩ | exact KS.out _ (BX.out.trans ((below_alloc _ _).mono BX.out.size))) (first
              | (refine step_app_ints rfl _ _ rfl w1.heap.size b _ _ O1.out (HBX.out _ B1.out) hBn2 rfl rfl hbl B1.out.size ?_; intro c1 a1 w2 hown2 hb2 hg2; have H42 := hid hown2; have BX := hid (B1.out.trans hb2); clear hown2 hb2 hg2)
              | (refine step_app_ints rfl _ _ rfl w1.heap.size b _ _ O2.out (HBX.out _ B2.out) hBn2 rfl rfl hbl B2.out.size ?_; intro c1 a1 w2 hown2 hb2 hg2; have H42 := hid hown2; have BX := hid (B2.out.trans hb2); have CN := hid ((World.cell?_of_block (a := ⟨w1.heap.size + 1, 0, none⟩) (hg2.block (w1.heap.size + 1) (by simp) (by simp [Value.ownBlock]))).trans C2.out); clear hown2 hb2 hg2)
              | (refine step_app_ints rfl _ _ rfl w1.heap.size b _ _ O3.out (HBX.out _ B3.out) hBn2 rfl rfl hbl B3.out.size ?_; intro c1 a1 w2 hown2 hb2 hg2; have H42 := hid hown2; have BX := hid (B3.out.trans hb2); have CN := hid ((World.cell?_of_block (a := ⟨w1.heap.size, 0, none⟩) (hg2.block w1.heap.size (by simp; omega) (by simp [Value.ownBlock]))).trans C3.out); clear hown2 hb2 hg2)
              | (refine step_app_intL rfl _ _ rfl w1.heap.size b (L + (k : Int)) _ _ _ H42.out CN.out rfl rfl hbl BX.out.size ?_; intro c2 a2 w3 hown3 hb3; have H45 := hid hown3; have BX := hid (BX.out.trans hb3); clear hown3 hb3)
              | (refine step_app_intL rfl _ _ rfl w1.heap.size b (L + (k : Int)) _ _ _ (World.ownsRow.alloc H42.out _) (cell_at rfl rfl) rfl rfl hbl (Nat.le_trans BX.out.size (below_alloc _ _).size) ?_; intro c2 a2 w3 hown3 hb3; have H45 := hid hown3; have BX := hid ((BX.out.trans ((below_alloc _ _).mono BX.out.size)).trans hb3); clear hown3 hb3)
              | (go_at_call 64; refine (IH.out (b ++ [L + (k : Int)]) _ _ base _ (HWX.out _ BX.out) (OwnInts.base' H45.out hbz1) (fun e => by simp at e) (Nat.le_trans hbz1 BX.out.size) hBg2.out (by have := HNB.out; have := Hl.out; simp; omega)).mono ?_; rintro e w4 ⟨v2, rfl, ⟨vs2, hR2⟩, hb4⟩; have HR2 := hid hR2; have BX := hid (BX.out.trans (hb4.mono BX.out.size)); have HR4 := hid (HR.out.later BX.out); clear hR2 hb4)
              | (refine step_app_sls rfl _ _ rfl (w.heap.size + 1) _ _ vs2 _ _ HR4.out.own HR2.out.own HR2.out.form HR2.out.nil rfl rfl (by have h1 := plansR_length ws r (b ++ [L + (k : Int)]); rw [HR2.out.len]; omega) (Nat.le_trans hsz BX.out.size) ?_; intro v5 w5 hc5; have HR5 := hid (HR4.out.join' HR2.out hc5); have K5 := hid ((K.out.later BX.out).baseW (app_below HR4.out.own (Nat.le_trans hsz BX.out.size) hc5) (fun b' o' v' hm => by simp only [List.mem_cons, Prod.mk.injEq, List.not_mem_nil, or_false] at hm; omega) (Nat.le_succ _)); clear hc5))
            all_goals (
              go_wp2
              go_roundw
              case rel => exact ⟨k + 1, v5, vs ++ vs2, by omega, rfl, by go_num, by simp only [plansW]; rw [HNB.out, HL.out, if_pos hn]; exact HR5.out, K5.out⟩
              case measure => simp [intOf] <;> omega)
          · go_wp2
            go_roundw
            case rel => exact ⟨k + 1, _, vs, by omega, rfl, by go_num, by simp only [plansW]; rw [HNB.out, HL.out, if_neg (show ¬ (L + (k : Int) ≤ 20000) from by omega), List.append_nil]; exact HR.out, K.out⟩
            case measure => simp [intOf] <;> omega
      · obtain rfl : k = Q := by omega
        have hfin : RowsN base w.heap.size wo (.slice av vs.length cv) vs (plansR ws (r + 1) b) := by
          show RowsN base w.heap.size wo _ vs (plansW ws (plansR ws r) b (waitsOf b))
          rw [HQ.out]
          exact HR.out.base (Nat.le_refl _) (Nat.le_succ _)
        have Hfin := hid hfin
        clear hfin
        by_cases hbz : nb = 0
        · have hk1 : k = 1 := by have h := HQ.out; unfold waitsOf at h; rw [HNB.out, if_pos hbz] at h; omega
          subst hbz
          have hcond : (k : Int) ≤ 3 := by omega
          obtain ⟨d5, d6⟩ := ne_bool (a := (k : Int)) (b := 0) (by omega)
          clear hk1
          go_wp2
          go_ret
          exact ⟨_, rfl, ⟨vs, Hfin.out⟩, K.out.below⟩
        · have hk1 : k = 4 := by have h := HQ.out; unfold waitsOf at h; rw [HNB.out, if_neg hbz] at h; omega
          have hcond : ¬ (k : Int) ≤ 3 := by omega
          clear hk1
          go_wp2
          go_ret
          exact ⟨_, rfl, ⟨vs, Hfin.out⟩, K.out.below⟩
end Go.Proofs.YtgfipifgijohhaaDoor

namespace Go.Proofs.YtgfipifgijohhaaDoor
open Go.RowKit

theorem RowsN.at {b1 b2 : Nat} {w : World} {v : Value} {vs : List Value} {rows : List (List Int)} (h : RowsN b1 b2 w v vs rows) {i : Nat} (hi : i < rows.length) :
    ∃ g c a c2, v = .slice (some ⟨g, 0, none⟩) rows.length c ∧ g < w.heap.size ∧ w.cell? ⟨g, i, none⟩ = some (.slice a (rows[i]).length c2) ∧ OwnInts b1 w (.slice a (rows[i]).length c2) rows[i] := by
  have hl := h.len
  obtain ⟨g, c, e, hg1, hg2, _, _, _, hc⟩ := h.own.cell (by omega)
  have hvi : vs[i]? = some (vs[i]'(by omega)) := List.getElem?_eq_getElem (by omega)
  have hri : rows[i]? = some rows[i] := List.getElem?_eq_getElem hi
  obtain ⟨hr, _, _⟩ := h.row i _ _ hvi hri
  obtain ⟨a, c2, e2⟩ := hr.form
  refine ⟨g, c, a, c2, by rw [e, hl], hg2, ?_, by rw [← e2]; exact hr⟩
  rw [← e2]
  exact hc i (by omega) _ hvi

theorem keeps_sure {route : Int} {ws : List Wing} {a b : Int} {p : List Int} : keeps route ws a b p = true ↔ verdictOf a b (longOf route ws p (Hi ws)) (longOf route ws p (Lo ws)) = 1 := by
  unfold keeps verdictOf
  rw [Bool.and_eq_true, decide_eq_true_eq, decide_eq_true_eq]
  constructor
  · intro h; rw [if_pos h]
  · intro h
    split at h
    · assumption
    · split at h <;> omega

theorem bestP_take {route : Int} {ws : List Wing} {a b : Int} {bg : List Int × Int} {l : List (List Int)} {j : Nat} (h : j < l.length) : bestP route ws a b bg (l.take (j + 1)) = pickS route ws a b (bestP route ws a b bg (l.take j)) l[j] := by
  rw [List.take_succ_eq_append_getElem h, bestP_append, bestP_one]

set_option maxHeartbeats 8000000 in
set_option maxRecDepth 100000 in
theorem rPlan_any (ws : List Wing) (route a b c : Int) (vw : Value) (w : World) (hW : WgAt none w vw ws) (hn : ws.length ≤ 100) (hnm : ∀ i, i < ws.length → (wg ws i).name.size ≤ 1000000) :
    Calls Tryd.prog 63 #[.agg #[.int .i64 route, vw], .agg #[.int .i64 a, .int .i64 b, .int .i64 c]] w
     fun e w' => ∃ v, e = .returned (.tuple #[v, .int .i64 (planRes route ws a b c).2, .int .i64 (planErr route ws a b c)]) ∧ OwnInts w.heap.size w' v (planRes route ws a b c).1 ∧ Below w.heap.size w w' := by
  have hW2 := hid hW
  have H1 := hid (fun vw' W' g1 => rcheck_any ws route vw' none W' g1 hn hnm)
  obtain ⟨aw, cap, rfl, _⟩ := hW
  have K := hid (((HK.start w).box2 (.int .i64 route) (.slice aw ws.length cap) 24).box3n (n := w.heap.size + 1) (by simp) (.int .i64 a) (.int .i64 b) (.int .i64 c) 50)
  by_cases hc : check route ws = 0
  · by_cases h5 : 5 < ws.length
    · have hE : planErr route ws a b c = 5 := by unfold planErr; rw [if_pos hc, if_pos h5]
      have hR : planRes route ws a b c = ([], 0) := by unfold planRes; rw [hE, if_neg (by decide)]
      rw [hE, hR]
      rw [hc] at H1
      clear hE hR hc
      have h5' : (5 : Int) < (ws.length : Int) := by omega
      go_enter Tryd.func63, Tryd.ntmps63
      have x0 := K.out.c (b := w.heap.size) (o := 0) (v := .int .i64 route) (by simp)
      have x1 := K.out.c (b := w.heap.size) (o := 1) (v := .slice aw ws.length cap) (by simp)
      go_wp2_with (go_at_call 28; refine (H1.out _ _ (hW2.out.below K.out.below)).mono ?_; rintro e w1 ⟨rfl, hb1⟩; have K := hid (K.out.later hb1); clear hb1; have x0 := K.out.c (b := w.heap.size) (o := 0) (v := .int .i64 route) (by simp); have x1 := K.out.c (b := w.heap.size) (o := 1) (v := .slice aw ws.length cap) (by simp))
      refine bodyPost_ret (v := .tuple #[.slice none 0 0, .int .i64 0, .int .i64 5]) (by simp [results, Tryd.results63, go_sem]) rfl ⟨_, rfl, own_nil _ _, K.out.below⟩
    · by_cases hr : rulesErr a b c = 0
      · have h0 := (check_zero hc).2.2.1
        have hs := Small.of_check hc
        have Hrr := hid hr
        have Hc := hid hc
        have Hpl := hid (fun vw' (W' : World) g1 => rplans_any ws route hs (by omega) h0 ws.length [] vw' (.slice none 0 0) W'.heap.size W' g1 (own_nil _ _) (fun _ => rfl) (Nat.le_refl _) (Begun.nil ws) (by simp))
        have hE : planErr route ws a b c = if (bestP route ws a b ([], 0) (plansR ws ws.length [])).1 = [] then 7 else 0 := by unfold planErr; rw [if_pos hc, if_neg h5, if_pos hr]
        have hR : planRes route ws a b c = if planErr route ws a b c = 0 then bestP route ws a b ([], 0) (plansR ws ws.length []) else ([], 0) := rfl
        have hmem := fun p (hp : p ∈ plansR ws ws.length []) => plansR_mem hs (Begun.nil ws) (by simp) hp
        have hlen := plansR_length ws ws.length []
        have h4 : 4 ^ ws.length ≤ 4 ^ 5 := Nat.pow_le_pow_right (by omega) (by omega)
        obtain ⟨R, hRr⟩ : ∃ R, plansR ws ws.length [] = R := ⟨_, rfl⟩
        rw [hRr] at Hpl hE hR hmem hlen
        have HE := hid hE
        have HRs := hid hR
        have Hmem := hid (show ∀ p, p ∈ R → checkStarts route ws p = 0 ∧ p.length = ws.length from fun p hp => by
          obtain ⟨q1, q2⟩ := hmem p hp
          exact ⟨q1.whole hc q2, q2⟩)
        rw [hc] at H1
        clear hRr hE hR hmem hc hr
        have h5' : ¬ (5 : Int) < (ws.length : Int) := by omega
        go_enter Tryd.func63, Tryd.ntmps63
        have x0 := K.out.c (b := w.heap.size) (o := 0) (v := .int .i64 route) (by simp)
        have x1 := K.out.c (b := w.heap.size) (o := 1) (v := .slice aw ws.length cap) (by simp)
        have y0 := K.out.c (b := w.heap.size + 1) (o := 0) (v := .int .i64 a) (by simp)
        have y1 := K.out.c (b := w.heap.size + 1) (o := 1) (v := .int .i64 b) (by simp)
        have y2 := K.out.c (b := w.heap.size + 1) (o := 2) (v := .int .i64 c) (by simp)
        go_wp2_with (first
        | (go_at_call 28; refine (H1.out _ _ (hW2.out.below K.out.below)).mono ?_; rintro e w1 ⟨rfl, hb1⟩; have K := hid (K.out.later hb1); clear hb1; have x0 := K.out.c (b := w.heap.size) (o := 0) (v := .int .i64 route) (by simp); have x1 := K.out.c (b := w.heap.size) (o := 1) (v := .slice aw ws.length cap) (by simp); have y0 := K.out.c (b := w.heap.size + 1) (o := 0) (v := .int .i64 a) (by simp); have y1 := K.out.c (b := w.heap.size + 1) (o := 1) (v := .int .i64 b) (by simp); have y2 := K.out.c (b := w.heap.size + 1) (o := 2) (v := .int .i64 c) (by simp))
        | (go_at_call 80; refine (rrules_any a b c _).mono ?_; rw [Hrr.out]; rintro e w2 ⟨rfl, hb1⟩; have K := hid (K.out.later hb1); clear hb1; have x0 := K.out.c (b := w.heap.size) (o := 0) (v := .int .i64 route) (by simp); have x1 := K.out.c (b := w.heap.size) (o := 1) (v := .slice aw ws.length cap) (by simp); have y0 := K.out.c (b := w.heap.size + 1) (o := 0) (v := .int .i64 a) (by simp); have y1 := K.out.c (b := w.heap.size + 1) (o := 1) (v := .int .i64 b) (by simp); have y2 := K.out.c (b := w.heap.size + 1) (o := 2) (v := .int .i64 c) (by simp))
        | (go_at_call 64; have kz := K.out.below.size; refine (Hpl.out _ _ (hW2.out.below K.out.below)).mono ?_; rintro e w3 ⟨v3, rfl, ⟨vs3, hR3⟩, hb3⟩; have K := hid (K.out.later hb3); have HR3 := hid (hR3.base (c1 := w.heap.size) (c2 := w.heap.size) kz kz); clear hR3 hb3))
        have hfm := HR3.out.own.form
        rw [HR3.out.len] at hfm
        obtain ⟨ga, gc, rfl⟩ := hfm
        have KW := hid K.out
        go_loopw [9, 10, 12] (fun vb lg i wr => ∃ (j : Nat) (bl : List Int) (bg : Int), j ≤ R.length ∧ lg = .int .i64 bg ∧ i = .int .i64 j ∧ bestP route ws a b ([], 0) (R.take j) = (bl, bg) ∧ OwnInts w.heap.size wr vb bl ∧ Below w3.heap.size w3 wr)
          (fun _ _ i _ => R.length - (intOf i).toNat)
        case atStart => exact ⟨0, [], 0, by omega, rfl, rfl, rfl, own_nil _ _, Below.refl _ _⟩
        case round =>
          obtain ⟨j, bl, bg, hj, rfl, rfl, hbp, hob, hbw⟩ := hrel
          obtain ⟨ab, cb, rfl⟩ := hob.form
          have Hbp := hid hbp
          have Hob := hid hob
          have Hbw := hid hbw
          have K := hid (KW.out.later hbw)
          clear hbp hob hbw
          obtain ⟨wo, rfl⟩ : ∃ wo : World, wo = wr := ⟨_, rfl⟩
          obtain ⟨nb, hnb⟩ : ∃ nb, bl.length = nb := ⟨_, rfl⟩
          rw [hnb] at Hob ⊢
          have Hnb := hid hnb
          clear hnb
          by_cases hlt : j < R.length
          · obtain ⟨g, cg, ra', rc', eg, hg2, hcell, hrow⟩ := HR3.out.at hlt
            cases eg
            have Htk := hid (bestP_take (route := route) (ws := ws) (a := a) (b := b) (bg := ([], 0)) hlt)
            obtain ⟨hcs, hrl⟩ := Hmem.out _ (List.getElem_mem hlt)
            obtain ⟨r, hr⟩ : ∃ r, R[j] = r := ⟨_, rfl⟩
            rw [hr] at hcell hrow Htk hcs hrl
            rw [Hbp.out] at Htk
            have Hrow := hid hrow
            have Hcs := hid hcs
            have Hrl := hid hrl
            have hks := keeps_sure (route := route) (ws := ws) (a := a) (b := b) (p := r)
            have Hsp := hid (fun vw' vs' W' g1 g2 => rspans_any ws r route vw' vs' W' g1 g2 hcs)
            have Hmo := hid (fun vw' vs' W' g1 g2 => rmost_any ws r route vw' vs' W' g1 g2 hcs hn h0)
            obtain ⟨LH, hLH⟩ : ∃ x, longOf route ws r (Hi ws) = x := ⟨_, rfl⟩
            obtain ⟨LL, hLL⟩ : ∃ x, longOf route ws r (Lo ws) = x := ⟨_, rfl⟩
            rw [hLH, hLL] at Hsp hks
            have Hve := hid (fun W' => rverdict_any a b c LH LL W')
            obtain ⟨V, hV⟩ : ∃ V, verdictOf a b LH LL = V := ⟨_, rfl⟩
            rw [hV] at hks Hve
            obtain ⟨M1, M2, M3, hM⟩ : ∃ M1 M2 M3, mostN route ws r (ws.length - 1) = (M1, M2, M3) := ⟨_, _, _, rfl⟩
            rw [hM] at Hmo
            have Hpk := hid (show pickS route ws a b (bl, bg) r = if keeps route ws a b r = true ∧ (bl = [] ∨ M3 < bg) then (r, M3) else (bl, bg) from by unfold pickS; rw [hM])
            clear hr hrow hcs hrl hLH hLL hV hM
            have i6 : (j : Int) < (R.length : Int) := by omega
            have z1 : IntKind.i64.wrap ((j : Int) + 1) = (j : Int) + 1 := IntWalk.i64_in _ (by omega)
            by_cases hk : keeps route ws a b r = true
            · obtain ⟨v1, v2⟩ := eq_bool (hks.1 hk)
              have Hk := hid hk
              clear hks hk
              go_wp2_with fail
              have K := hid K.out.drew
              have Hbw := hid Hbw.out.drew
              have Hob := hid Hob.out.drew
              go_region_held3 (fun w' => w'.cell? ⟨w.heap.size + 1, 0, none⟩ = some (.int .i64 a) ∧ w'.cell? ⟨w.heap.size + 1, 1, none⟩ = some (.int .i64 b) ∧ w'.cell? ⟨w.heap.size + 1, 2, none⟩ = some (.int .i64 c) ∧ w'.cell? ⟨w.heap.size, 0, none⟩ = some (.int .i64 route) ∧ w'.cell? ⟨w.heap.size, 1, none⟩ = some (.slice aw ws.length cap) ∧ w'.cell? ⟨g, j, none⟩ = some (.slice ra' r.length rc'))
                (first | with_reducible exact ⟨K.out.c (by simp), K.out.c (by simp), K.out.c (by simp), K.out.c (by simp), K.out.c (by simp), cell_back Hbw.out hg2 hcell⟩) (first
                | (go_at_call 81; refine (Hsp.out _ _ _ (hW2.out.below K.out.below) (OwnInts.at (OwnInts.later Hrow.out Hbw.out) (by simp))).mono ?_; rintro e w4 ⟨rfl, hb⟩; have K := hid (K.out.later hb); have Hob := hid (Hob.out.later hb); have Hbw := hid (Hbw.out.trans (hb.mono Hbw.out.size)); clear hb)
                | (go_at_call 82; refine (Hve.out _).mono ?_; rintro e w4 ⟨rfl, hb⟩; have K := hid (K.out.later hb); have Hob := hid (Hob.out.later hb); have Hbw := hid (Hbw.out.trans (hb.mono Hbw.out.size)); clear hb))
              go_wp2_with fail
              have K := hid K.out.drew
              have Hbw := hid Hbw.out.drew
              have Hob := hid Hob.out.drew
              go_region_held3 (fun w' => w'.cell? ⟨w.heap.size, 0, none⟩ = some (.int .i64 route) ∧ w'.cell? ⟨w.heap.size, 1, none⟩ = some (.slice aw ws.length cap) ∧ w'.cell? ⟨g, j, none⟩ = some (.slice ra' r.length rc'))
                (first | with_reducible exact ⟨K.out.c (by simp), K.out.c (by simp), cell_back Hbw.out hg2 hcell⟩) (first
                | (go_at_call 104; refine (Hmo.out _ _ _ (hW2.out.below K.out.below) (OwnInts.at (OwnInts.later Hrow.out Hbw.out) (by simp))).mono ?_; rintro e w5 ⟨rfl, hb⟩; have K := hid (K.out.later hb); have Hob := hid (Hob.out.later hb); have Hbw := hid (Hbw.out.trans (hb.mono Hbw.out.size)); clear hb))
              have rcell := cell_back Hbw.out hg2 hcell
              by_cases hz : nb = 0
              · subst hz
                have hbl : bl = [] := List.eq_nil_of_length_eq_zero Hnb.out
                go_wp2
                go_roundw
                case rel => exact ⟨j + 1, r, M3, by omega, rfl, by go_num, by rw [Htk.out, Hpk.out]; exact if_pos ⟨Hk.out, .inl hbl⟩, OwnInts.later Hrow.out Hbw.out, Hbw.out⟩
                case measure => simp [intOf] <;> omega
              · obtain ⟨d1, d2⟩ := ne_bool (a := (nb : Int)) (b := 0) (by omega)
                have Hz := hid (show bl ≠ [] from fun e => by have := Hnb.out; rw [e] at this; simp at this; omega)
                clear hz
                by_cases hg : M3 < bg
                · go_wp2
                  go_roundw
                  case rel => exact ⟨j + 1, r, M3, by omega, rfl, by go_num, by rw [Htk.out, Hpk.out]; exact if_pos ⟨Hk.out, .inr hg⟩, OwnInts.later Hrow.out Hbw.out, Hbw.out⟩
                  case measure => simp [intOf] <;> omega
                · go_wp2
                  go_roundw
                  case rel => exact ⟨j + 1, bl, bg, by omega, rfl, by go_num, by rw [Htk.out, Hpk.out]; exact if_neg (fun h => h.2.elim Hz.out (fun h => by omega)), Hob.out, Hbw.out⟩
                  case measure => simp [intOf] <;> omega
            · obtain ⟨v1, v2⟩ := ne_bool (fun h => hk (hks.2 h))
              have Hk := hid hk
              clear hks hk
              go_wp2_with fail
              have K := hid K.out.drew
              have Hbw := hid Hbw.out.drew
              have Hob := hid Hob.out.drew
              go_region_held3 (fun w' => w'.cell? ⟨w.heap.size + 1, 0, none⟩ = some (.int .i64 a) ∧ w'.cell? ⟨w.heap.size + 1, 1, none⟩ = some (.int .i64 b) ∧ w'.cell? ⟨w.heap.size + 1, 2, none⟩ = some (.int .i64 c) ∧ w'.cell? ⟨w.heap.size, 0, none⟩ = some (.int .i64 route) ∧ w'.cell? ⟨w.heap.size, 1, none⟩ = some (.slice aw ws.length cap) ∧ w'.cell? ⟨g, j, none⟩ = some (.slice ra' r.length rc'))
                (first | with_reducible exact ⟨K.out.c (by simp), K.out.c (by simp), K.out.c (by simp), K.out.c (by simp), K.out.c (by simp), cell_back Hbw.out hg2 hcell⟩) (first
                | (go_at_call 81; refine (Hsp.out _ _ _ (hW2.out.below K.out.below) (OwnInts.at (OwnInts.later Hrow.out Hbw.out) (by simp))).mono ?_; rintro e w4 ⟨rfl, hb⟩; have K := hid (K.out.later hb); have Hob := hid (Hob.out.later hb); have Hbw := hid (Hbw.out.trans (hb.mono Hbw.out.size)); clear hb)
                | (go_at_call 82; refine (Hve.out _).mono ?_; rintro e w4 ⟨rfl, hb⟩; have K := hid (K.out.later hb); have Hob := hid (Hob.out.later hb); have Hbw := hid (Hbw.out.trans (hb.mono Hbw.out.size)); clear hb))
              all_goals (
                go_wp2
                go_roundw
                case rel => exact ⟨j + 1, bl, bg, by omega, rfl, by go_num, by rw [Htk.out, Hpk.out]; exact if_neg (fun h => Hk.out h.1), Hob.out, Hbw.out⟩
                case measure => simp [intOf] <;> omega)
          · obtain rfl : j = R.length := by omega
            rw [List.take_length] at Hbp
            have Hbp := hid Hbp.out
            have HE2 := hid HE.out
            rw [Hbp.out] at HE2
            by_cases hz : nb = 0
            · have hbl : bl = [] := List.eq_nil_of_length_eq_zero (by rw [Hnb.out]; exact hz)
              have hE3 : planErr route ws a b c = 7 := by rw [HE2.out]; exact if_pos hbl
              have hR3 : planRes route ws a b c = ([], 0) := by rw [HRs.out, hE3]; rfl
              have HE3 := hid hE3
              have HR4 := hid hR3
              clear hE3 hR3 hbl
              subst hz
              go_wp2
              refine bodyPost_ret (v := .tuple #[.slice none 0 0, .int .i64 0, .int .i64 7]) (by simp [results, Tryd.results63, go_sem]) rfl ⟨_, by rw [HE3.out, HR4.out], by rw [HR4.out]; exact own_nil _ _, K.out.below⟩
            · obtain ⟨d1, d2⟩ := ne_bool (a := (nb : Int)) (b := 0) (by omega)
              have hbl : ¬ bl = [] := fun e => by have := Hnb.out; rw [e] at this; simp at this; omega
              have hE3 : planErr route ws a b c = 0 := by rw [HE2.out]; exact if_neg hbl
              have hR3 : planRes route ws a b c = (bl, bg) := by rw [HRs.out, hE3, if_pos rfl, Hbp.out]
              have HE3 := hid hE3
              have HR4 := hid hR3
              clear hE3 hR3 hbl hz
              go_wp2
              refine bodyPost_ret (v := .tuple #[.slice ab nb cb, .int .i64 bg, .int .i64 0]) (by simp [results, Tryd.results63, go_sem]) rfl ⟨_, by rw [HE3.out, HR4.out], by rw [HR4.out]; exact Hob.out, K.out.below⟩
      · have hE : planErr route ws a b c = rulesErr a b c := by unfold planErr; rw [if_pos hc, if_neg h5, if_neg hr]
        have hR : planRes route ws a b c = ([], 0) := by unfold planRes; rw [hE, if_neg hr]
        obtain ⟨c1, c2⟩ := ne_bool hr
        rw [hE, hR]
        rw [hc] at H1
        clear hE hR hc hr
        have h5' : ¬ (5 : Int) < (ws.length : Int) := by omega
        go_enter Tryd.func63, Tryd.ntmps63
        have x0 := K.out.c (b := w.heap.size) (o := 0) (v := .int .i64 route) (by simp)
        have x1 := K.out.c (b := w.heap.size) (o := 1) (v := .slice aw ws.length cap) (by simp)
        have y0 := K.out.c (b := w.heap.size + 1) (o := 0) (v := .int .i64 a) (by simp)
        have y1 := K.out.c (b := w.heap.size + 1) (o := 1) (v := .int .i64 b) (by simp)
        have y2 := K.out.c (b := w.heap.size + 1) (o := 2) (v := .int .i64 c) (by simp)
        go_wp2_with (first
          | (go_at_call 28; refine (H1.out _ _ (hW2.out.below K.out.below)).mono ?_; rintro e w1 ⟨rfl, hb1⟩; have K := hid (K.out.later hb1); clear hb1; have x0 := K.out.c (b := w.heap.size) (o := 0) (v := .int .i64 route) (by simp); have x1 := K.out.c (b := w.heap.size) (o := 1) (v := .slice aw ws.length cap) (by simp); have y0 := K.out.c (b := w.heap.size + 1) (o := 0) (v := .int .i64 a) (by simp); have y1 := K.out.c (b := w.heap.size + 1) (o := 1) (v := .int .i64 b) (by simp); have y2 := K.out.c (b := w.heap.size + 1) (o := 2) (v := .int .i64 c) (by simp))
          | (go_at_call 80; refine (rrules_any a b c _).mono ?_; rintro e w2 ⟨rfl, hb1⟩; have K := hid (K.out.later hb1); clear hb1))
        refine bodyPost_ret (v := .tuple #[.slice none 0 0, .int .i64 0, .int .i64 (rulesErr a b c)]) (by simp [results, Tryd.results63, go_sem]) rfl ⟨_, rfl, own_nil _ _, K.out.below⟩
  · have hE : planErr route ws a b c = check route ws := by unfold planErr; rw [if_neg hc]
    have hR : planRes route ws a b c = ([], 0) := by unfold planRes; rw [hE, if_neg hc]
    obtain ⟨c1, c2⟩ := ne_bool hc
    rw [hE, hR]
    clear hE hR hc
    go_enter Tryd.func63, Tryd.ntmps63
    have x0 := K.out.c (b := w.heap.size) (o := 0) (v := .int .i64 route) (by simp)
    have x1 := K.out.c (b := w.heap.size) (o := 1) (v := .slice aw ws.length cap) (by simp)
    go_wp2_with (go_at_call 28; refine (H1.out _ _ (hW2.out.below K.out.below)).mono ?_; rintro e w1 ⟨rfl, hb1⟩; have K := hid (K.out.later hb1); clear hb1)
    refine bodyPost_ret (v := .tuple #[.slice none 0 0, .int .i64 0, .int .i64 (check route ws)]) (by simp [results, Tryd.results63, go_sem]) rfl ⟨_, rfl, own_nil _ _, K.out.below⟩
end Go.Proofs.YtgfipifgijohhaaDoor
