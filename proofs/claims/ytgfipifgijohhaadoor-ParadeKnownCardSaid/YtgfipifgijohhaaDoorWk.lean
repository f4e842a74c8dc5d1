/-
  WALKS: walk: the places of all fronts, second by second.
-/
import Derived.Test.YtgfipifgijohhaaDoorAw
namespace Go.Proofs.YtgfipifgijohhaaDoor
open Go.RowKit

/-- a list of the call's own: slices of numbers -/
def OwnSl (base : Nat) (w : World) (v : Value) (vs : List Value) : Prop := w.ownsRow base 25 1 v vs.length vs

theorem infoSl : (Tryd.prog.info? 25).map (fun i => (i.zero, i.size, i.bytes)) = some (some (.slice none 0 0), 1, 24) := by kernel_rfl

theorem app_sl {ops : Array Oper} {rest : List Oper} {o : Oper} {a : Act} {Q : Exit → Act → World → Prop} {w : World} (hgd : o.guard = none) (s x : Operand)
    (ho : o.op = .call { callee := .builtin .append, args := #[s, x], argTypes := #[40, 40] })
    (base : Nat) (xs : List Value) (y v : Value) (hy : y.oneCell' = true) (hown : OwnSl base w v xs) (hs : a.eval s = v) (hx : a.eval x = .slice (some ⟨w.heap.size, 0, none⟩) 1 1)
    (hn : xs.length ≤ 1000000) (hbase : base ≤ w.heap.size)
    (h : ∀ v' w', OwnSl base w' v' (xs ++ [y]) → w.grownBy w' v.ownBlock → wpList Tryd.prog ops Q rest (a.put o.dst v') w') :
    wpList Tryd.prog ops Q (o :: rest) a (w.alloc (.cells #[y] 25)) := by
  obtain ⟨i0, hi, hz0, hz1, hz2⟩ := info_parts infoSl
  refine wpList_append_own _ hgd s x 40 ho base 25 i0 (.slice none 0 0) 1 24 Tryd.underlying40 hi hz0 hz1 hz2 rfl (by decide) v xs.length xs hs (World.ownsRow.alloc hown _) ⟨w.heap.size, 0, none⟩ 1 1 [y] hx rfl (cell_one_new _ _ _)
    (by intro u hu; simp at hu; subst hu; exact hy) (by unfold maxLen; omega) (by omega) (by simp; omega) ?_
  intro v' w' hown' hg hnil
  exact h v' w' (by unfold OwnSl; simpa using hown') (gb_trans (World.grownBy_alloc w _ _) hg)

theorem OwnSl.form {base : Nat} {w : World} {v : Value} {xs : List Value} (h : OwnSl base w v xs) : ∃ a c, v = .slice a xs.length c := by
  obtain ⟨_, h2⟩ := h
  rcases h2 with ⟨rfl, h0⟩ | ⟨g, cap, cur, rfl, hb, hh, h1, hm, hs, ht⟩
  · exact ⟨none, 0, by rw [h0]⟩
  · exact ⟨_, _, rfl⟩

theorem OwnSl.cell {base : Nat} {w : World} {v : Value} {xs : List Value} (h : OwnSl base w v xs) (h0 : 0 < xs.length) :
    ∃ g c, v = .slice (some ⟨g, 0, none⟩) xs.length c ∧ base ≤ g ∧ g < w.heap.size ∧ xs.length ≤ c ∧ c ≤ maxLen ∧ v.ownBlock = some g ∧ ∀ i, i < xs.length → ∀ u, xs[i]? = some u → w.cell? ⟨g, i, none⟩ = some u := by
  obtain ⟨_, h2⟩ := h
  rcases h2 with ⟨rfl, h0'⟩ | ⟨g, cap, cur, rfl, hb, hh, h1, hm, hs, ht⟩
  · omega
  · refine ⟨g, cap, rfl, hb, (Array.getElem?_eq_some_iff.1 hh).1, h1, hm, rfl, fun i hi u hu => ?_⟩
    simp only [World.cell?, hh]
    rw [← ht, List.getElem?_take, if_pos (by omega), Array.getElem?_toList] at hu
    simpa using hu

theorem OwnInts.cell {base : Nat} {w : World} {v : Value} {xs : List Int} (h : OwnInts base w v xs) (h0 : 0 < xs.length) :
    ∃ g c, v = .slice (some ⟨g, 0, none⟩) xs.length c ∧ base ≤ g ∧ g < w.heap.size ∧ v.ownBlock = some g ∧ ∀ i, i < xs.length → w.cell? ⟨g, i, none⟩ = some (.int .i64 (nm xs i)) := by
  obtain ⟨_, h2⟩ := h
  rcases h2 with ⟨rfl, h0'⟩ | ⟨g, cap, cur, rfl, hb, hh, h1, hm, hs, ht⟩
  · omega
  · refine ⟨g, cap, rfl, hb, (Array.getElem?_eq_some_iff.1 hh).1, rfl, fun i hi => ?_⟩
    simp only [World.cell?, hh]
    have : (cur.toList.take (xs.length * 1))[i]? = (xs.map (Value.int .i64))[i]? := by rw [ht]
    rw [List.getElem?_take, if_pos (by omega), List.getElem?_map, List.getElem?_eq_getElem hi] at this
    simp only [Option.isSome_none, Bool.false_eq_true, if_false]
    rw [← Array.getElem?_toList, this]
    simp [nm, List.getD_eq_getElem?_getD, List.getElem?_eq_getElem hi]

/-- a list of rows of numbers, all of the call's own -/
structure Rows2 (base : Nat) (w : World) (v : Value) (vs : List Value) (rows : List (List Int)) : Prop where
  own : OwnSl base w v vs
  len : vs.length = rows.length
  row : ∀ (i : Nat) (u : Value) (r : List Int), vs[i]? = some u → rows[i]? = some r → OwnInts base w u r ∧ 0 < r.length ∧ u.ownBlock ≠ v.ownBlock

theorem Rows2.nil (base : Nat) (w : World) : Rows2 base w (.slice none 0 0) [] [] := ⟨World.ownsRow_nil _ _ _ _, rfl, fun i u r h => by simp at h⟩

/-- behind a step that grows and leaves these lists alone -/
theorem Rows2.kept {base : Nat} {w w' : World} {v : Value} {vs : List Value} {rows : List (List Int)} {d : Option Nat} (h : Rows2 base w v vs rows) (hg : w.grownBy w' d) (hd : ∀ k, d = some k → k < base ∨ w.heap.size ≤ k) : Rows2 base w' v vs rows where
  own := World.ownsRow.kept h.own hg (by
    cases e : v.ownBlock with
    | none => exact .inl rfl
    | some j => exact .inr (fun e2 => by have := World.ownsRow.lt h.own j e; have := hd j e2.symm; omega))
  len := h.len
  row := fun i u r hu hr => by
    obtain ⟨h1, h2, h3⟩ := h.row i u r hu hr
    exact ⟨World.ownsRow.kept h1 hg (by
      cases e : u.ownBlock with
      | none => exact .inl rfl
      | some j => exact .inr (fun e2 => by have := World.ownsRow.lt h1 j e; have := hd j e2.symm; omega)), h2, h3⟩

theorem OwnSl.base' {b b' : Nat} {w : World} {v : Value} {xs : List Value} (h : OwnSl b w v xs) (hb : b' ≤ b) : OwnSl b' w v xs := by
  obtain ⟨h1, h2⟩ := h
  refine ⟨h1, ?_⟩
  rcases h2 with h2 | ⟨g, cap, cur, e, hg, hh⟩
  · exact .inl h2
  · exact .inr ⟨g, cap, cur, e, by omega, hh⟩
theorem Rows2.base' {b b' : Nat} {w : World} {v : Value} {vs : List Value} {rows : List (List Int)} (h : Rows2 b w v vs rows) (hb : b' ≤ b) : Rows2 b' w v vs rows :=
  ⟨h.own.base' hb, h.len, fun i u r hu hr => ⟨OwnInts.base' (h.row i u r hu hr).1 hb, (h.row i u r hu hr).2⟩⟩

/-- one row more -/
theorem Rows2.snoc {base : Nat} {w w' : World} {v v' : Value} {vs : List Value} {rows : List (List Int)} {u : Value} {r : List Int} (h : Rows2 base w v vs rows) (hu : OwnInts base w u r) (h0 : 0 < r.length) (hne : u.ownBlock ≠ v.ownBlock)
    (hown : OwnSl base w' v' (vs ++ [u])) (hg : w.grownBy w' v.ownBlock) : Rows2 base w' v' (vs ++ [u]) (rows ++ [r]) where
  own := hown
  len := by simp [h.len]
  row := by
    have key : ∀ (u' : Value) (r' : List Int), OwnInts base w u' r' → 0 < r'.length → u'.ownBlock ≠ v.ownBlock → OwnInts base w' u' r' ∧ 0 < r'.length ∧ u'.ownBlock ≠ v'.ownBlock := fun u' r' hu' h0' hne' => by
      have hk : OwnInts base w' u' r' := World.ownsRow.kept hu' hg (.inr hne')
      refine ⟨hk, h0', fun e => ?_⟩
      obtain ⟨g, c, _, _, _, e1, hc1⟩ := hk.cell h0'
      obtain ⟨g2, c2, _, _, _, _, _, e2, hc2⟩ := hown.cell (by simp)
      rw [e1, e2] at e
      cases e
      have q1 := hc1 0 h0'
      obtain ⟨z, hz⟩ : ∃ z, (vs ++ [u])[0]? = some z := ⟨(vs ++ [u])[0]'(by simp), by simp⟩
      have q2 := hc2 0 (by simp) z hz
      rw [q1] at q2
      cases q2
      -- the first element of the list of slices is a slice
      have hform : ∀ (x : Value), x ∈ vs ++ [u] → ∃ a n c, x = .slice a n c := fun x hx => by
        rcases List.mem_append.1 hx with hx | hx
        · obtain ⟨i, hi⟩ := List.getElem?_of_mem hx
          obtain ⟨r2, hr2⟩ : ∃ r2, rows[i]? = some r2 := ⟨rows[i]'(by have := (List.getElem?_eq_some_iff.1 hi).1; rw [h.len] at this; exact this), by simp⟩
          obtain ⟨a, c, e⟩ := (h.row i x r2 hi hr2).1.form
          exact ⟨a, _, c, e⟩
        · simp at hx; subst hx
          obtain ⟨a, c, e⟩ := hu.form
          exact ⟨a, _, c, e⟩
      obtain ⟨a, n, c, e⟩ := hform _ (List.mem_of_getElem? hz)
      cases e
    intro i u' r' hu' hr'
    by_cases hi : i < vs.length
    · rw [List.getElem?_append_left hi] at hu'
      rw [List.getElem?_append_left (by rw [← h.len]; exact hi)] at hr'
      obtain ⟨h1, h2, h3⟩ := h.row i u' r' hu' hr'
      exact key u' r' h1 h2 h3
    · rw [List.getElem?_append_right (by omega)] at hu'
      rw [List.getElem?_append_right (by rw [← h.len]; omega)] at hr'
      have hi0 : i - vs.length = 0 := by
        have := (List.getElem?_eq_some_iff.1 hu').1; simp at this; omega
      rw [hi0] at hu'
      rw [← h.len, hi0] at hr'
      simp at hu' hr'
      subst hu' hr'
      exact key u r hu h0 hne

/-- the places of the first wings in a second -/
def rowN (ws : List Wing) (st ps : List Int) (t : Int) : Nat → List Int
  | 0 => []
  | k + 1 => rowN ws st ps t k ++ [if t < nm st k then -1 else if k = 0 then nm ps k * (t - nm st k) else min (nm ps k * (t - nm st k)) (nm (rowN ws st ps t k) (k - 1) - Ln ws (k - 1))]

theorem rowN_length (ws : List Wing) (st ps : List Int) (t : Int) (k : Nat) : (rowN ws st ps t k).length = k := by
  induction k with
  | zero => rfl
  | succ k ih => simp [rowN, ih]

/-- all seconds' rows -/
def rowsN (ws : List Wing) (st ps : List Int) (n : Nat) : List (List Int) := (List.range n).map fun (t : Nat) => rowN ws st ps (t : Int) ws.length

theorem rowsN_succ (ws : List Wing) (st ps : List Int) (n : Nat) : rowsN ws st ps (n + 1) = rowsN ws st ps n ++ [rowN ws st ps n ws.length] := by
  simp [rowsN, List.range_succ]
theorem rowsN_length (ws : List Wing) (st ps : List Int) (n : Nat) : (rowsN ws st ps n).length = n := by simp [rowsN]

theorem rowN_bound {ws : List Wing} {st ps : List Int} {t : Int} {k : Nat} (hL : ∀ i, i < k → 0 ≤ Ln ws i ∧ Ln ws i ≤ 100000) (hp : ∀ i, i < k → 0 ≤ nm ps i ∧ nm ps i ≤ 10000) (hst : ∀ i, i < k → 0 ≤ nm st i) (ht2 : t ≤ 10000000) :
    ∀ i, i < k → -1 - 100000 * (i : Int) ≤ nm (rowN ws st ps t k) i ∧ nm (rowN ws st ps t k) i ≤ 100000000000 := by
  induction k with
  | zero => intro i hi; omega
  | succ k ih =>
    have ih' := ih (fun i hi => hL i (by omega)) (fun i hi => hp i (by omega)) (fun i hi => hst i (by omega))
    intro i hi
    simp only [rowN]
    rw [nm_snoc, rowN_length]
    by_cases hik : i < k
    · rw [if_pos hik]; exact ih' i hik
    · obtain rfl : i = k := by omega
      rw [if_neg hik, if_pos rfl]
      have hpi := hp i (by omega)
      have hsi := hst i (by omega)
      by_cases h1 : t < nm st i
      · rw [if_pos h1]; omega
      · rw [if_neg h1]
        have m1 : 0 ≤ nm ps i * (t - nm st i) := Int.mul_nonneg hpi.1 (by omega)
        have m2 : nm ps i * (t - nm st i) ≤ 10000 * 10000000 := Int.mul_le_mul hpi.2 (by omega) (by omega) (by omega)
        by_cases h2 : i = 0
        · rw [if_pos h2]; omega
        · rw [if_neg h2]
          have hl := hL (i - 1) (by omega)
          have hr := ih' (i - 1) (by omega)
          omega

set_option maxHeartbeats 4000000 in
set_option maxRecDepth 100000 in
theorem walk_any (ws : List Wing) (st ps : List Int) (route : Int) (last : Nat) (vw vs vp : Value) (w : World) (hW : WgAt none w vw ws) (hS : IntsAt none w vs st) (hP : IntsAt none w vp ps)
    (h0 : 0 < ws.length) (hn : ws.length ≤ 100) (hls : st.length = ws.length) (hlp : ps.length = ws.length) (hL : ∀ i, i < ws.length → 0 ≤ Ln ws i ∧ Ln ws i ≤ 100000) (hp : ∀ i, i < ws.length → 0 ≤ nm ps i ∧ nm ps i ≤ 10000)
    (hst : ∀ i, i < ws.length → 0 ≤ nm st i ∧ nm st i ≤ 1000000) (hlast : last ≤ 900000) :
    Calls Tryd.prog 39 #[.agg #[.int .i64 route, vw], vs, vp, .int .i64 last] w
     fun e w' => ∃ v us, e = .returned v ∧ Rows2 w.heap.size w' v us (rowsN ws st ps (last + 1)) ∧ Below w.heap.size w w' := by
  obtain ⟨aw, cap, rfl, hh⟩ := hW
  obtain ⟨b, off, rfl, _, _, _, hb, hWc⟩ := hh h0
  obtain ⟨ags, caps, rfl, hh2⟩ := hS
  obtain ⟨bs, offs, rfl, _, _, _, hbs, hSc⟩ := hh2 (by omega)
  obtain ⟨agp, capp, rfl, hh3⟩ := hP
  obtain ⟨bp, offp, rfl, _, _, _, hbp, hPc⟩ := hh3 (by omega)
  clear hh hh2 hh3
  have HW := hid hWc
  have HS := hid hSc
  have HP := hid hPc
  have HL := hid hL
  have Hp := hid hp
  have Hst := hid hst
  have Hls := hid hls
  have Hlp := hid hlp
  have Hus := hid (show (0 : Int) < st.length by omega)
  clear hWc hSc hPc hL hp hst hls hlp
  have hb0 := hid (Below.refl (w.heap.size + 1) (w.alloc (.cells #[.int .i64 route, .slice (some ⟨b, off, none⟩) ws.length cap] 24)))
  go_enter Tryd.func39, Tryd.ntmps39
  go_wp2
  go_loopw [9, 10] (fun vo t wr => ∃ (n : Nat) (v : Value) (us : List Value), n ≤ last + 1 ∧ vo = v ∧ t = .int .i64 n ∧ Rows2 (w.heap.size + 1) wr v us (rowsN ws st ps n) ∧
      Below (w.heap.size + 1) (w.alloc (.cells #[.int .i64 route, .slice (some ⟨b, off, none⟩) ws.length cap] 24)) wr)
    (fun _ t _ => last + 1 - (intOf t).toNat)
  case atStart => exact ⟨0, _, [], by omega, rfl, rfl, Rows2.nil _ _, hb0.out⟩
  case round =>
    obtain ⟨n, v, us, hn1, rfl, rfl, hR, hkr⟩ := hrel
    obtain ⟨a1, c1, rfl⟩ := hR.own.form
    have hR := hid hR
    have hul : us.length ≤ 1000000 := by rw [hR.out.len, rowsN_length]; omega
    by_cases hlt : n ≤ last
    · obtain ⟨r0, r1, r2, r3⟩ := boxed2 hkr
      have Hkr := hid hkr
      clear hkr r0
      obtain ⟨wo, rfl⟩ : ∃ wo : World, wo = wr := ⟨_, rfl⟩
      go_wp2
      go_loopw [11, 12] (fun vr i wi => ∃ (k : Nat) (u : Value), k ≤ ws.length ∧ vr = u ∧ i = .int .i64 k ∧ OwnInts wo.heap.size wi u (rowN ws st ps n k) ∧ Below wo.heap.size wo wi)
        (fun _ i _ => ws.length - (intOf i).toNat)
      case atStart => exact ⟨0, _, by omega, rfl, rfl, World.ownsRow_nil _ _ _ _, Below.refl _ _⟩
      case round =>
        obtain ⟨k, u, hk, rfl, rfl, hu, hbi⟩ := hrel
        obtain ⟨a2, c2, rfl⟩ := hu.form
        rw [rowN_length] at *
        have q1 := cell_back hbi (by omega) r1
        have Hbi := hid hbi
        have Hu := hid hu
        clear hbi hu
        by_cases hkl : k < ws.length
        · have ks : k < st.length := (by have := Hls.out; omega)
          have kp : k < ps.length := (by have := Hlp.out; omega)
          have sc := cell_back Hbi.out (by omega) (cell_back r2 hbs (HS.out k (by omega)))
          have pc := cell_back Hbi.out (by omega) (cell_back r2 hbp (HP.out k (by omega)))
          have g1 := Hst.out k hkl
          have g2 := Hp.out k hkl
          by_cases ht : (n : Int) < nm st k
          · go_wp2_with (at_builtin; refine app_int rfl _ _ rfl wo.heap.size (rowN ws st ps n k) (-1) _ Hu.out rfl rfl (by rw [rowN_length]; omega) Hbi.out.size ?_; intro v5 w5 hown5 hb5 _ _)
            go_roundw
            case rel => exact ⟨k + 1, _, by omega, rfl, by go_num, by simp only [rowN]; rw [if_pos ht]; exact hown5, Hbi.out.trans hb5⟩
            case measure => simp [intOf] <;> omega
          · by_cases hk0 : k = 0
            · subst hk0
              rw [Nat.add_zero] at sc pc
              have hm := mul_bound (p := nm ps 0) (q := (n : Int) - nm st 0) (by omega) (by omega) (by omega) (by omega)
              go_wp2
              go_quiet (fail)
              go_wp2_with (at_builtin; refine app_int rfl _ _ rfl wo.heap.size (rowN ws st ps n 0) (nm ps 0 * ((n : Int) - nm st 0)) _ Hu.out rfl rfl (by rw [rowN_length]; omega) Hbi.out.size ?_; intro v5 w5 hown5 hb5 _ _)
              go_roundw
              case rel => exact ⟨1, _, by omega, rfl, by go_num, by simp only [rowN]; rw [if_neg (by omega), if_pos trivial]; exact hown5, (below_drewN Hbi.out _).trans hb5⟩
              case measure => simp [intOf] <;> omega
            · obtain ⟨m, rfl⟩ : ∃ m, k = m + 1 := ⟨k - 1, by omega⟩
              have hm := mul_bound (p := nm ps (m + 1)) (q := (n : Int) - nm st (m + 1)) (by omega) (by omega) (by omega) (by omega)
              have lc := cell_back Hbi.out (by omega) (cell_back r2 hb (HW.out m (by omega)).2.1)
              have hlm : 0 ≤ (wg ws m).len ∧ (wg ws m).len ≤ 100000 := HL.out m (by omega)
              obtain ⟨gu, cu, eu, _, _, _, hcu⟩ := Hu.out.cell (by rw [rowN_length]; omega)
              rw [rowN_length] at eu hcu
              cases eu
              have uc := hcu m (by omega)
              clear hcu
              have hrb := rowN_bound (t := (n : Int)) (k := m + 1) (fun i hi => HL.out i (by omega)) (fun i hi => Hp.out i (by omega)) (fun i hi => (Hst.out i (by omega)).1) (by omega) m (by omega)
              obtain ⟨x, hx⟩ : ∃ x, nm (rowN ws st ps (n : Int) (m + 1)) m = x := ⟨_, rfl⟩
              rw [hx] at uc hrb
              have Hx := hid hx
              clear hx
              have e0 : ((((m : Int) + 1)) == 0) = false := beq_eq_false_iff_ne.2 (by omega)
              have em : IntKind.i64.wrap ((m : Int) + 1 - 1) = (m : Int) := by rw [IntWalk.i64_in _ (by omega)]; omega
              go_wp2
              go_quiet (fail)
              go_wp2
              go_quiet (fail)
              go_wp2_with (at_builtin; refine app_int rfl _ _ rfl wo.heap.size (rowN ws st ps n (m + 1)) (min (nm ps (m + 1) * ((n : Int) - nm st (m + 1))) (x - (wg ws m).len)) _ Hu.out rfl rfl (by rw [rowN_length]; omega) Hbi.out.size ?_; intro v5 w5 hown5 hb5 _ _)
              go_roundw
              case rel => exact ⟨m + 2, _, by omega, rfl, by go_num, by rw [rowN, if_neg (by omega), if_neg (by omega), Nat.add_sub_cancel, Hx.out]; exact hown5, (below_drewN Hbi.out _).trans hb5⟩
              case measure => simp [intOf] <;> omega
        · obtain rfl : k = ws.length := by omega
          go_wp2_with (at_builtin; refine app_sl rfl _ _ rfl (w.heap.size + 1) us _ _ rfl (hR.out.kept (gb_below Hbi.out none) (by simp)).own rfl rfl (by omega) (by have := Hbi.out.size; omega) ?_; intro v5 w5 hown5 hg5)
          go_roundw
          case rel =>
            refine ⟨n + 1, _, us ++ [.slice a2 ws.length c2], by omega, rfl, by go_num, ?_, ?_⟩
            · rw [rowsN_succ]
              refine (hR.out.kept (gb_below Hbi.out none) (by simp)).snoc (OwnInts.base' Hu.out r3) (by rw [rowN_length]; exact h0) ?_ hown5 hg5
              intro e
              obtain ⟨gu, cu, eu, hgu, _, eb, _⟩ := Hu.out.cell (by rw [rowN_length]; omega)
              rw [eb] at e
              have := (World.ownsRow.lt hR.out.own gu e.symm).2
              omega
            · exact below_of_own (hR.out.kept (gb_below Hbi.out none) (by simp)).own hg5 (by have := Hbi.out.size; omega) |> fun h => Below.trans (Below.trans Hkr.out (Hbi.out.mono r3)) h
          case measure => simp [intOf] <;> omega
    · go_wp2
      go_ret
      obtain rfl : n = last + 1 := by omega
      exact ⟨_, us, rfl, hR.out.base' (by omega), (boxed2 hkr).2.2.1⟩
end Go.Proofs.YtgfipifgijohhaaDoor
