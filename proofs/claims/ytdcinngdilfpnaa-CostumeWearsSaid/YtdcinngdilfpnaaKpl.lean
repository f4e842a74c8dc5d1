/-
  WALKS: copies of the kit's: Ints, Spans, OwnItems; Inside.
  A COPY OF A PLOT: its lists are the call's own, in blocks of different kinds. No function is walked here.
  WALK: Lists, the copy of a list of lists.
  WALK: OwnPlot, the copy of a plot: all its lists are the call's own.
-/
import Derived.Test.YtdcinngdilfpnaaCpo
import Derived.Test.YtdcinngdilfpnaaCwd
import Derived.Test.YtdcinngdilfpnaaFlow
namespace Go.Proofs.Ytdcinngdilfpnaa
open Go.RowKit

set_option maxHeartbeats 1000000 in
set_option maxRecDepth 100000 in
theorem copyInts_any (xs : List Int) (v : Value) (d : Option Nat) (w : World) (hX : IntsAt d w v xs) (hs : Sound0 v) (hn : xs.length ≤ 1000000) :
    Calls Try.prog 34 #[v] w fun e w' => ∃ v', e = .returned v' ∧ OwnInts w.heap.size w' v' xs ∧ Below w.heap.size w w' := by
  have HX := hid (Src.ints (hX.below (below_alloc w (.cells #[] 3))) hs)
  obtain ⟨a, c, rfl, _⟩ := hX
  go_enter Try.func34, Try.ntmps34
  go_wp2_with (at_builtin; refine wpList_app encInt Try.underlying22 infoInt' (by decide) (by decide) (fun _ => rfl) rfl _ _ rfl w.heap.size [] xs (fun y _ => encInt_one y) _ _ rfl rfl (OwnR.empty encInt 1 3 (Nat.le_refl _)) HX.out (by simpa using hn) (by simp) ?_; intro v' w2 hown' hg2 _ _; rw [List.nil_append] at hown'; have hb2 : Below w.heap.size w w2 := ((below_alloc w _).grown hg2 (by simp) (fun g e => by cases e; exact Nat.le_refl _)))
  go_ret
  exact ⟨_, rfl, own_int.1 hown', hb2⟩

set_option maxHeartbeats 1000000 in
set_option maxRecDepth 100000 in
theorem copySpans_any (xs : List (Int × Int)) (v : Value) (d : Option Nat) (w : World) (hX : SpansAt d w v xs) (hs : Sound0 v) (hn : xs.length ≤ 1000000) :
    Calls Try.prog 62 #[v] w fun e w' => ∃ v', e = .returned v' ∧ OwnR encSpan 2 40 w.heap.size w' v' xs ∧ Below w.heap.size w w' := by
  have HX := hid (Src.spans (RecAt.below hX (below_alloc w (.cells #[] 40))) hs)
  obtain ⟨a, c, rfl, _⟩ := hX
  go_enter Try.func62, Try.ntmps62
  go_wp2_with (at_builtin; refine wpList_app encSpan Try.underlying25 infoSpan (by decide) (by decide) (fun _ => rfl) rfl _ _ rfl w.heap.size [] xs (fun y _ => encSpan_one y) _ _ rfl rfl (OwnR.empty encSpan 2 40 (Nat.le_refl _)) HX.out (by simpa using hn) (by simp) ?_; intro v' w2 hown' hg2 _ _; rw [List.nil_append] at hown'; have hb2 : Below w.heap.size w w2 := ((below_alloc w _).grown hg2 (by simp) (fun g e => by cases e; exact Nat.le_refl _)))
  go_ret
  exact ⟨_, rfl, hown', hb2⟩

set_option maxHeartbeats 1000000 in
set_option maxRecDepth 100000 in
theorem ownItems_any (xs : List Item) (v : Value) (d : Option Nat) (w : World) (hX : ItemsAt d w v xs) (hs : Sound0 v) (hn : xs.length ≤ 1000000) :
    Calls Try.prog 37 #[v] w fun e w' => ∃ v', e = .returned v' ∧ OwnR encItem 5 42 w.heap.size w' v' xs ∧ Below w.heap.size w w' := by
  have HX := hid (Src.items (hX.below (below_alloc w (.cells #[] 42))) hs)
  obtain ⟨a, c, rfl⟩ := ItemsAt.form hX
  go_enter Try.func37, Try.ntmps37
  go_wp2_with (at_builtin; refine wpList_app encItem Try.underlying31 infoItem (by decide) (by decide) (fun _ => rfl) rfl _ _ rfl w.heap.size [] xs (fun y _ => encItem_one y) _ _ rfl rfl (OwnR.empty encItem 5 42 (Nat.le_refl _)) HX.out (by simpa using hn) (by simp) ?_; intro v' w2 hown' hg2 _ _; rw [List.nil_append] at hown'; have hb2 : Below w.heap.size w w2 := ((below_alloc w _).grown hg2 (by simp) (fun g e => by cases e; exact Nat.le_refl _)))
  go_ret
  exact ⟨_, rfl, hown', hb2⟩

set_option maxHeartbeats 1000000 in
theorem insideC_any (a b c d : Int) (w : World) :
    Calls Try.prog 35 #[.agg #[.int .i64 a, .int .i64 b], .agg #[.int .i64 c, .int .i64 d]] w fun e w' => e = .returned (.bool (decide (c ≤ a ∧ b ≤ d))) ∧ Below w.heap.size w w' := by
  have hb := hid (show Below w.heap.size w ((w.alloc (.cells #[.int .i64 a, .int .i64 b] 40)).alloc (.cells #[.int .i64 c, .int .i64 d] 40)) from below_trans (below_alloc w _) (below_alloc _ _))
  obtain ⟨r, hr⟩ : ∃ r, decide (c ≤ a ∧ b ≤ d) = r := ⟨_, rfl⟩
  rw [hr]
  by_cases h1 : c ≤ a
  · by_cases h2 : b ≤ d
    · obtain rfl : r = true := hr.symm.trans (decide_eq_true ⟨h1, h2⟩)
      clear hr
      go_enter Try.func35, Try.ntmps35
      go_wp2_with fail
      go_ret
      exact ⟨rfl, hb.out⟩
    · obtain rfl : r = false := hr.symm.trans (decide_eq_false (fun h => h2 h.2))
      clear hr
      go_enter Try.func35, Try.ntmps35
      go_wp2_with fail
      go_ret
      exact ⟨rfl, hb.out⟩
  · obtain rfl : r = false := hr.symm.trans (decide_eq_false (fun h => h1 h.1))
    clear hr
    go_enter Try.func35, Try.ntmps35
    go_wp2_with fail
    go_ret
    exact ⟨rfl, hb.out⟩
end Go.Proofs.Ytdcinngdilfpnaa

namespace Go.Proofs.Ytdcinngdilfpnaa
open Go.RowKit

/-- blocks of different types are different blocks -/
theorem OwnR.apart {α β : Type} {enc : α → List Value} {enc' : β → List Value} {k k' : Nat} {e e' : TypeId} {base base' : Nat} {w : World} {v v' : Value} {xs : List α} {ys : List β}
    (h : OwnR enc k e base w v xs) (h' : OwnR enc' k' e' base' w v' ys) (hne : e ≠ e') : v.ownBlock = none ∨ v.ownBlock ≠ v'.ownBlock := by
  rcases h.2 with ⟨rfl, _⟩ | ⟨g, cap, cur, rfl, _, hg, _⟩
  · exact .inl rfl
  · right
    rcases h'.2 with ⟨rfl, _⟩ | ⟨g', cap', cur', rfl, _, hg', _⟩
    · intro h; cases h
    · intro h
      have hgg : g = g' := Option.some.inj h
      subst hgg
      rw [hg] at hg'
      have hcc := Option.some.inj hg'
      injection hcc with h1 h2
      exact hne h2

/-- a list of rows, all of the call's own -/
structure RowsO (base : Nat) (w : World) (v : Value) (vs : List Value) (rs : List (List Int)) : Prop where
  own : OwnR encV 1 22 base w v vs
  len : vs.length = rs.length
  row : ∀ j, j < rs.length → OwnR encInt 1 3 base w (vs.getD j undef) (lst rs j)
theorem RowsO.nil (base : Nat) (w : World) : RowsO base w (.slice none 0 0) [] [] := ⟨OwnR.nil _ _ _ _ _, rfl, fun j hj => by simp at hj⟩
theorem RowsO.later {base : Nat} {w w' : World} {v : Value} {vs : List Value} {rs : List (List Int)} (h : RowsO base w v vs rs) (hb : Below w.heap.size w w') : RowsO base w' v vs rs := ⟨h.own.later hb, h.len, fun j hj => (h.row j hj).later hb⟩
theorem RowsO.go {base d : Nat} {w w' : World} {v : Value} {vs : List Value} {rs : List (List Int)} (h : RowsO base w v vs rs) (hd : d < base) (hg : w.grownBy w' (some d)) : RowsO base w' v vs rs := ⟨h.own.go hd hg, h.len, fun j hj => (h.row j hj).go hd hg⟩
theorem RowsO.base {base b' : Nat} {w : World} {v : Value} {vs : List Value} {rs : List (List Int)} (h : RowsO base w v vs rs) (hb : b' ≤ base) : RowsO b' w v vs rs := ⟨h.own.base' hb, h.len, fun j hj => (h.row j hj).base' hb⟩
/-- a block of another type changes -/
theorem RowsO.other {β : Type} {enc : β → List Value} {k : Nat} {e : TypeId} {base base' : Nat} {w w' : World} {v u : Value} {vs : List Value} {rs : List (List Int)} {ys : List β} (h : RowsO base w v vs rs) (hu : OwnR enc k e base' w u ys) (h1 : 22 ≠ e) (h2 : 3 ≠ e) (hg : w.grownBy w' u.ownBlock) : RowsO base w' v vs rs :=
  ⟨h.own.kept hg (h.own.apart hu h1), h.len, fun j hj => (h.row j hj).kept hg ((h.row j hj).apart hu h2)⟩
theorem RowsO.snoc {base : Nat} {w w' : World} {v v' u : Value} {vs : List Value} {rs : List (List Int)} {r : List Int} (h : RowsO base w v vs rs) (hr : OwnR encInt 1 3 base w u r)
    (hown : OwnR encV 1 22 base w' v' (vs ++ [u])) (hg : w.grownBy w' v.ownBlock) : RowsO base w' v' (vs ++ [u]) (rs ++ [r]) := by
  refine ⟨hown, by simp [h.len], fun j hj => ?_⟩
  rw [List.length_append, List.length_singleton] at hj
  by_cases e : j < rs.length
  · rw [getD_snoc_old (by rw [h.len]; exact e), lst_snoc_old e]
    exact (h.row j e).kept hg ((h.row j e).apart h.own (by decide))
  · obtain rfl : j = rs.length := by omega
    rw [lst_snoc_new, ← h.len, getD_snoc_new]
    exact hr.kept hg (hr.apart h.own (by decide))
theorem RowsO.lists {base : Nat} {w : World} {v : Value} {vs : List Value} {rs : List (List Int)} (h : RowsO base w v vs rs) {d : Option Nat} (hd : ∀ j, d = some j → j < base) : ListsAt d w v rs := by
  have := h.own.recs (d := d) undef (fun x _ => x) (fun _ => rfl) (fun x j hj => by obtain rfl : j = 0 := (by omega); rfl) hd
  rw [h.len] at this
  exact ⟨fun i => vs.getD i undef, this, fun i hi => OwnInts.at (own_int.1 (h.row i hi)) hd⟩

/-- a plot whose lists are all the call's own -/
structure OwnP (base : Nat) (w : World) (vp vw vd vq : Value) (p : Plot) : Prop where
  persons : OwnR encSpan 2 40 base w vp p.persons
  walk : ∃ vs, RowsO base w vw vs p.walk
  dress : OwnR encInt 1 3 base w vd p.dress
  parts : OwnR encPart 5 38 base w vq p.parts
theorem OwnP.later {base : Nat} {w w' : World} {vp vw vd vq : Value} {p : Plot} (h : OwnP base w vp vw vd vq p) (hb : Below w.heap.size w w') : OwnP base w' vp vw vd vq p :=
  ⟨h.persons.later hb, (by obtain ⟨vs, hv⟩ := h.walk; exact ⟨vs, hv.later hb⟩), h.dress.later hb, h.parts.later hb⟩
theorem OwnP.go {base d : Nat} {w w' : World} {vp vw vd vq : Value} {p : Plot} (h : OwnP base w vp vw vd vq p) (hd : d < base) (hg : w.grownBy w' (some d)) : OwnP base w' vp vw vd vq p :=
  ⟨h.persons.go hd hg, (by obtain ⟨vs, hv⟩ := h.walk; exact ⟨vs, hv.go hd hg⟩), h.dress.go hd hg, h.parts.go hd hg⟩
theorem OwnP.base {base b' : Nat} {w : World} {vp vw vd vq : Value} {p : Plot} (h : OwnP base w vp vw vd vq p) (hb : b' ≤ base) : OwnP b' w vp vw vd vq p :=
  ⟨h.persons.base' hb, (by obtain ⟨vs, hv⟩ := h.walk; exact ⟨vs, hv.base hb⟩), h.dress.base' hb, h.parts.base' hb⟩
/-- other parts -/
theorem OwnP.turn {base : Nat} {w w' : World} {vp vw vd vq vq' : Value} {p : Plot} {ps : List Part} (h : OwnP base w vp vw vd vq p) (hq : OwnR encPart 5 38 base w' vq' ps) (hg : w.grownBy w' vq.ownBlock) : OwnP base w' vp vw vd vq' { p with parts := ps } :=
  ⟨h.persons.kept hg (h.persons.apart h.parts (by decide)), (by obtain ⟨vs, hv⟩ := h.walk; exact ⟨vs, hv.other h.parts (by decide) (by decide) hg⟩), h.dress.kept hg (h.dress.apart h.parts (by decide)), hq⟩
theorem OwnP.at {base : Nat} {w : World} {vp vw vd vq : Value} {p : Plot} (h : OwnP base w vp vw vd vq p) {d : Option Nat} (hd : ∀ j, d = some j → j < base) : PlotAt d w vp vw vd vq p := by
  obtain ⟨vs, hv⟩ := h.walk
  exact ⟨h.persons.spans hd, hv.lists hd, OwnInts.at (own_int.1 h.dress) hd, h.parts.parts hd⟩
theorem OwnR.offB {α : Type} {enc : α → List Value} {k : Nat} {e : TypeId} {base : Nat} {w : World} {v : Value} {xs : List α} (h : OwnR enc k e base w v xs) {Z : Nat} {cs : Array Value} {e' : TypeId} {x : Nat × Nat} (hz : w.heap[Z]? = some (.cells cs e' x)) (hne : e ≠ e') : v.ownBlock = none ∨ v.ownBlock ≠ some Z := by
  rcases h.2 with ⟨rfl, _⟩ | ⟨g, cap, cur, rfl, _, hg, _⟩
  · exact .inl rfl
  · right
    intro h
    have hgg : g = Z := Option.some.inj h
    subst hgg
    rw [hg] at hz
    have hcc := Option.some.inj hz
    injection hcc with h1 h2
    exact hne h2
theorem OwnP.wform {base : Nat} {w : World} {vp vw vd vq : Value} {p : Plot} (h : OwnP base w vp vw vd vq p) : ∃ a c, vw = .slice a p.walk.length c := by
  obtain ⟨us, h⟩ := h.walk
  obtain ⟨a, c, e⟩ := h.own.form
  rw [h.len] at e
  exact ⟨a, c, e⟩
theorem OwnP.off {base : Nat} {w w' : World} {vp vw vd vq : Value} {p : Plot} (h : OwnP base w vp vw vd vq p) {Z : Nat} {cs : Array Value} {x : Nat × Nat} (hz : w.heap[Z]? = some (.cells cs 29 x)) (hg : w.grownBy w' (some Z)) : OwnP base w' vp vw vd vq p := by
  obtain ⟨us, hv⟩ := h.walk
  exact ⟨h.persons.kept hg (h.persons.offB hz (by decide)), ⟨us, hv.own.kept hg (hv.own.offB hz (by decide)), hv.len, fun j hj => (hv.row j hj).kept hg ((hv.row j hj).offB hz (by decide))⟩, h.dress.kept hg (h.dress.offB hz (by decide)), h.parts.kept hg (h.parts.offB hz (by decide))⟩
theorem cell_row {w w' : World} {r : Option Nat} (hg : w.grownBy w' r) {b o : Nat} {u : Value} (hb : some b ≠ r) (h : w.cell? ⟨b, o, none⟩ = some u) : w'.cell? ⟨b, o, none⟩ = some u :=
  (World.cell?_of_block (a := ⟨b, o, none⟩) (hg.block b (World.block_lt_of_cell? w ⟨b, o, none⟩ h) hb)).trans h
/-- a list of lists, each slice of it without a hidden room -/
def ListsS (d : Option Nat) (w : World) (v : Value) (xs : List (List Int)) : Prop := ∃ f : Nat → Value, RecAt d w v xs.length 1 (fun i _ => f i) ∧ ∀ i, i < xs.length → IntsAt d w (f i) (lst xs i) ∧ Sound0 (f i)
theorem ListsS.kept {d : Option Nat} {w w' : World} {v : Value} {xs : List (List Int)} (h : ListsS d w v xs) (hg : w.grownBy w' d) : ListsS d w' v xs := by
  obtain ⟨f, h1, h2⟩ := h
  exact ⟨f, h1.kept hg, fun i hi => ⟨(h2 i hi).1.kept hg, (h2 i hi).2⟩⟩
theorem ListsS.at {d : Option Nat} {w : World} {v : Value} {xs : List (List Int)} (h : ListsS d w v xs) : ListsAt d w v xs := by
  obtain ⟨f, h1, h2⟩ := h
  exact ⟨f, h1, fun i hi => (h2 i hi).1⟩
theorem ListsS.form {d : Option Nat} {w : World} {v : Value} {xs : List (List Int)} (h : ListsS d w v xs) : ∃ a c, v = .slice a xs.length c := by
  obtain ⟨f, ⟨a, c, rfl, _⟩, _⟩ := h
  exact ⟨a, c, rfl⟩
/-- a plot, no slice of which has a hidden room -/
structure PlotS (d : Option Nat) (w : World) (vp vw vd vq : Value) (p : Plot) : Prop where
  persons : SpansAt d w vp p.persons ∧ Sound0 vp
  walk : ListsS d w vw p.walk
  dress : IntsAt d w vd p.dress ∧ Sound0 vd
  parts : PartsAt d w vq p.parts ∧ Sound0 vq
theorem PlotS.kept {d : Option Nat} {w w' : World} {vp vw vd vq : Value} {p : Plot} (h : PlotS d w vp vw vd vq p) (hg : w.grownBy w' d) : PlotS d w' vp vw vd vq p :=
  ⟨⟨RecAt.kept h.persons.1 hg, h.persons.2⟩, h.walk.kept hg, ⟨h.dress.1.kept hg, h.dress.2⟩, ⟨RecAt.kept h.parts.1 hg, h.parts.2⟩⟩
theorem PlotS.below {d : Option Nat} {w w' : World} {vp vw vd vq : Value} {p : Plot} (h : PlotS d w vp vw vd vq p) (hb : Below w.heap.size w w') : PlotS d w' vp vw vd vq p := h.kept (gb_below hb d)
theorem PlotS.at {d : Option Nat} {w : World} {vp vw vd vq : Value} {p : Plot} (h : PlotS d w vp vw vd vq p) : PlotAt d w vp vw vd vq p := ⟨h.persons.1, h.walk.at, h.dress.1, h.parts.1⟩
theorem PlotS.ofValid {d : Option Nat} {w : World} {vp vw vd vq : Value} {p : Plot} (h : PlotAt d w vp vw vd vq p) (v : Valid p) (hs : Sound0 vq) : PlotS d w vp vw vd vq p := by
  obtain ⟨f, h1, h2⟩ := h.walk
  refine ⟨⟨h.persons, RecAt.sound h.persons (by have := v.persons; omega)⟩, ⟨f, h1, fun i hi => ⟨h2 i hi, (h2 i hi).soundI ?_⟩⟩, ⟨h.dress, h.dress.soundI (by have := v.dress; omega)⟩, ⟨h.parts, hs⟩⟩
  have := (rowE_zero (v.rows i hi)).1
  omega
theorem OwnP.sound {base : Nat} {w : World} {vp vw vd vq : Value} {p : Plot} (h : OwnP base w vp vw vd vq p) {d : Option Nat} (hd : ∀ j, d = some j → j < base) : PlotS d w vp vw vd vq p := by
  obtain ⟨vs, hv⟩ := h.walk
  have := hv.own.recs (d := d) undef (fun x _ => x) (fun _ => rfl) (fun x j hj => by obtain rfl : j = 0 := (by omega); rfl) hd
  rw [hv.len] at this
  exact ⟨⟨h.persons.spans hd, h.persons.sound⟩, ⟨fun i => vs.getD i undef, this, fun i hi => ⟨OwnInts.at (own_int.1 (hv.row i hi)) hd, (hv.row i hi).sound⟩⟩, ⟨OwnInts.at (own_int.1 h.dress) hd, h.dress.sound⟩, ⟨h.parts.parts hd, h.parts.sound⟩⟩
end Go.Proofs.Ytdcinngdilfpnaa

namespace Go.Proofs.Ytdcinngdilfpnaa
open Go.RowKit

theorem lst_take {rs : List (List Int)} {k : Nat} (h : k < rs.length) : rs.take (k + 1) = rs.take k ++ [lst rs k] := by
  rw [List.take_succ_eq_append_getElem h]
  congr 1
  unfold lst
  rw [List.getD_eq_getElem?_getD, List.getElem?_eq_getElem h]
  rfl
set_option maxHeartbeats 4000000 in
set_option maxRecDepth 100000 in
theorem lists_any (rs : List (List Int)) (v : Value) (d : Option Nat) (w : World) (hX : ListsS d w v rs) (hn : rs.length ≤ 1000) (hr : ∀ i, i < rs.length → (lst rs i).length ≤ 1000000) :
    Calls Try.prog 63 #[v] w fun e w' => ∃ v' vs, e = .returned v' ∧ RowsO w.heap.size w' v' vs rs ∧ Below w.heap.size w w' := by
  have HX := hid hX
  have HR := hid hr
  obtain ⟨a, c, rfl⟩ := hX.form
  clear hX hr
  go_enter Try.func63, Try.ntmps63
  go_wp2_with fail
  go_loopw [3, 4] (fun s i wr => ∃ (k : Nat) (vs : List Value), k ≤ rs.length ∧ i = .int .i64 k ∧ RowsO w.heap.size wr s vs (rs.take k) ∧ Below w.heap.size w wr)
    (fun _ i _ => rs.length - (intOf i).toNat)
  case atStart => exact ⟨0, [], by omega, rfl, by simpa using RowsO.nil _ _, Below.refl _ _⟩
  case round =>
    obtain ⟨k, vs, hk, rfl, hro, hb⟩ := hrel
    obtain ⟨wo, rfl⟩ : ∃ wo : World, wo = wr := ⟨_, rfl⟩
    have RO := hid hro
    have HB := hid hb
    have HB0 := hid hb.size
    obtain ⟨sa, sc, es⟩ := hro.own.form
    have hvl : vs.length = k := by rw [hro.len, List.length_take]; omega
    rw [hvl] at es
    subst es
    clear hro hb
    by_cases hlt : k < rs.length
    rotate_left
    · obtain rfl : k = rs.length := by omega
      go_wp2_with fail
      go_ret
      have := RO.out
      rw [List.take_length] at this
      exact ⟨_, vs, rfl, this, HB.out⟩
    have hxk := HX.out.kept (gb_below HB.out d)
    obtain ⟨f, hf1, hf2⟩ := hxk
    have hrow := (ListsAt.row (show ListsAt d wo (.slice a rs.length c) rs from ⟨f, hf1, fun i hi => (hf2 i hi).1⟩) hlt)
    obtain ⟨b, o, u, e, _, x1, h1⟩ := hrow
    cases e
    have hfk : f k = u := by
      obtain ⟨a', c', e', hh⟩ := hf1
      cases e'
      obtain ⟨b', o', e2, _, _, _, _, h5⟩ := hh (by omega)
      cases e2
      have := h5 k hlt 0 (by omega)
      rw [Nat.mul_one, Nat.add_zero, x1] at this
      exact (Option.some.inj this).symm
    have hsu := (hf2 k hlt).2
    rw [hfk] at hsu
    have HU := hid h1
    have HSu := hid hsu
    have hrk := HR.out k hlt
    obtain ⟨ua, uc, eu, _⟩ := h1
    subst eu
    have i1 : (k : Int) < (rs.length : Int) := by omega
    have z1 : IntKind.i64.wrap ((k : Int) + 1) = (k : Int) + 1 := IntWalk.i64_in _ (by omega)
    clear hf1 hf2 hfk hsu
    go_wp2_with (first
      | (go_at_call 34; refine (copyInts_any _ _ _ _ HU.out HSu.out hrk).mono ?_; rintro e w2 ⟨v2, rfl, ho2, hb2⟩; have RO := hid (RO.out.later hb2); have HB := hid (HB.out.trans (hb2.mono HB.out.size)); have HO2 := hid (own_int.2 ho2); obtain ⟨a2, c2, rfl⟩ := HO2.out.form; have HO2 := hid (HO2.out.base' HB0.out); clear ho2 hb2)
      | (at_builtin; refine wpList_app encV Try.underlying26 infoSl' (by decide) (by decide) (fun _ => rfl) rfl _ _ rfl w.heap.size vs [.slice a2 (lst rs k).length c2] (fun y hy u hu => by rw [List.mem_singleton.1 hy] at hu; rw [List.mem_singleton.1 hu]; rfl) _ _ rfl rfl (RO.out.own.later (below_alloc _ _)) (Src.lit encV w2 (.slice a2 (lst rs k).length c2) _ 1 rfl) (by simp; omega) (by have := HB.out.size; simp; omega) ?_; intro v' w' hown' hg hnil hat; obtain ⟨a', c', e⟩ := hown'.form; rw [List.length_append, List.length_singleton, hvl] at e; subst e; have HOn := hid hown'; have HGr : Hid ((w2.alloc (.cells (encV (.slice a2 (lst rs k).length c2)).toArray 22)).grownBy w' (Value.slice sa k sc).ownBlock) := hid hg; clear hown' hg hnil hat))
    have HBa := hid (OwnR.below (RO.out.own.later (below_alloc w2 (.cells (encV (.slice a2 (lst rs k).length c2)).toArray 22))) HGr.out (by have := HB.out.size; simp; omega))
    have RO2 := hid ((RO.out.later (below_alloc w2 (.cells (encV (.slice a2 (lst rs k).length c2)).toArray 22))).snoc (HO2.out.later (below_alloc w2 _)) HOn.out HGr.out)
    go_roundw
    case rel => exact ⟨k + 1, _, by omega, by go_num, by rw [lst_take hlt]; exact RO2.out, (HB.out.trans ((below_alloc w2 _).mono HB.out.size)).trans HBa.out⟩
    case measure => simp [intOf] <;> omega
end Go.Proofs.Ytdcinngdilfpnaa

namespace Go.Proofs.Ytdcinngdilfpnaa
open Go.RowKit

/-- what OwnPlot wants of the plot that it copies: no hidden room, and no more than a million of anything -/
structure PlotN (p : Plot) : Prop where
  persons : p.persons.length ≤ 1000
  walk : p.walk.length ≤ 1000
  rows : ∀ i, i < p.walk.length → (lst p.walk i).length ≤ 1000
  dress : p.dress.length ≤ 1000
  parts : p.parts.length ≤ 1000
theorem PlotN.ofValid {p : Plot} (v : Valid p) : PlotN p :=
  ⟨by have := v.persons; omega, by have := v.walk; omega, fun i hi => by have := (rowE_zero (v.rows i hi)).1; have := v.walk; omega, by have := v.dress; omega, by have := v.few; omega⟩

theorem put4_cells {w : World} {R : Nat} {a b c d a0 b0 c0 d0 : Value} (h0 : w.cell? ⟨R, 0, none⟩ = some a0) (h1 : w.cell? ⟨R, 1, none⟩ = some b0) (h2 : w.cell? ⟨R, 2, none⟩ = some c0) (h3 : w.cell? ⟨R, 3, none⟩ = some d0) :
    ((((w.setCell ⟨R, 0, none⟩ a).setCell ⟨R, 1, none⟩ b).setCell ⟨R, 2, none⟩ c).setCell ⟨R, 3, none⟩ d).cell? ⟨R, 0, none⟩ = some a ∧ ((((w.setCell ⟨R, 0, none⟩ a).setCell ⟨R, 1, none⟩ b).setCell ⟨R, 2, none⟩ c).setCell ⟨R, 3, none⟩ d).cell? ⟨R, 1, none⟩ = some b ∧
    ((((w.setCell ⟨R, 0, none⟩ a).setCell ⟨R, 1, none⟩ b).setCell ⟨R, 2, none⟩ c).setCell ⟨R, 3, none⟩ d).cell? ⟨R, 2, none⟩ = some c ∧ ((((w.setCell ⟨R, 0, none⟩ a).setCell ⟨R, 1, none⟩ b).setCell ⟨R, 2, none⟩ c).setCell ⟨R, 3, none⟩ d).cell? ⟨R, 3, none⟩ = some d := by
  have go : ∀ (w : World) (i j : Nat) (x y : Value), i ≠ j → w.cell? ⟨R, j, none⟩ = some y → (w.setCell ⟨R, i, none⟩ x).cell? ⟨R, j, none⟩ = some y := fun w i j x y hij h =>
    (World.cell?_setCell_other _ _ _ _ (by intro e; cases e; exact hij rfl)).trans h
  refine ⟨?_, ?_, ?_, ?_⟩
  · exact go _ 3 0 _ _ (by decide) (go _ 2 0 _ _ (by decide) (go _ 1 0 _ _ (by decide) (World.cell?_setCell_same _ _ _ h0)))
  · exact go _ 3 1 _ _ (by decide) (go _ 2 1 _ _ (by decide) (World.cell?_setCell_same _ _ _ (go _ 0 1 _ _ (by decide) h1)))
  · exact go _ 3 2 _ _ (by decide) (World.cell?_setCell_same _ _ _ (go _ 1 2 _ _ (by decide) (go _ 0 2 _ _ (by decide) h2)))
  · exact World.cell?_setCell_same _ _ _ (go _ 2 3 _ _ (by decide) (go _ 1 3 _ _ (by decide) (go _ 0 3 _ _ (by decide) h3)))

set_option maxHeartbeats 8000000 in
set_option maxRecDepth 100000 in
theorem ownPlot_any (p : Plot) (vp vw vd vq : Value) (d : Option Nat) (w : World) (hX : PlotS d w vp vw vd vq p) (hn : PlotN p) :
    Calls Try.prog 21 #[plotV vp vw vd vq] w fun e w' => ∃ vp' vw' vd' vq', e = .returned (plotV vp' vw' vd' vq') ∧ OwnP w.heap.size w' vp' vw' vd' vq' p ∧ Below w.heap.size w w' := by
  have HX := hid hX
  have HN := hid hn
  obtain ⟨ap, cp, rfl⟩ := hX.persons.1.form
  obtain ⟨aw, cw, rfl⟩ := hX.walk.form
  obtain ⟨ad, cd, ed, _⟩ := hX.dress.1
  subst ed
  obtain ⟨aq, cq, rfl⟩ := hX.parts.1.form
  clear hX hn
  go_enter Try.func21, Try.ntmps21
  go_upto_region 1 with fail
  obtain ⟨P, hP⟩ : ∃ P, w.heap.size = P := ⟨_, rfl⟩
  have hb1 : Below w.heap.size w ((w.alloc (.cells #[.slice ap p.persons.length cp, .slice aw p.walk.length cw, .slice ad p.dress.length cd, .slice aq p.parts.length cq] 29)).alloc (.cells #[.slice none 0 0, .slice none 0 0, .slice none 0 0, .slice none 0 0] 29)) := below_trans (below_alloc _ _) (below_alloc _ _)
  have c0 : ((w.alloc (.cells #[.slice ap p.persons.length cp, .slice aw p.walk.length cw, .slice ad p.dress.length cd, .slice aq p.parts.length cq] 29)).alloc (.cells #[.slice none 0 0, .slice none 0 0, .slice none 0 0, .slice none 0 0] 29)).cell? ⟨P, 0, none⟩ = some (.slice ap p.persons.length cp) := cell_up (cell_at hP.symm rfl)
  have c1 : ((w.alloc (.cells #[.slice ap p.persons.length cp, .slice aw p.walk.length cw, .slice ad p.dress.length cd, .slice aq p.parts.length cq] 29)).alloc (.cells #[.slice none 0 0, .slice none 0 0, .slice none 0 0, .slice none 0 0] 29)).cell? ⟨P, 1, none⟩ = some (.slice aw p.walk.length cw) := cell_up (cell_at hP.symm rfl)
  have c2 : ((w.alloc (.cells #[.slice ap p.persons.length cp, .slice aw p.walk.length cw, .slice ad p.dress.length cd, .slice aq p.parts.length cq] 29)).alloc (.cells #[.slice none 0 0, .slice none 0 0, .slice none 0 0, .slice none 0 0] 29)).cell? ⟨P, 2, none⟩ = some (.slice ad p.dress.length cd) := cell_up (cell_at hP.symm rfl)
  have c3 : ((w.alloc (.cells #[.slice ap p.persons.length cp, .slice aw p.walk.length cw, .slice ad p.dress.length cd, .slice aq p.parts.length cq] 29)).alloc (.cells #[.slice none 0 0, .slice none 0 0, .slice none 0 0, .slice none 0 0] 29)).cell? ⟨P, 3, none⟩ = some (.slice aq p.parts.length cq) := cell_up (cell_at hP.symm rfl)
  have r0 : ∀ o, o < 4 → ((w.alloc (.cells #[.slice ap p.persons.length cp, .slice aw p.walk.length cw, .slice ad p.dress.length cd, .slice aq p.parts.length cq] 29)).alloc (.cells #[.slice none 0 0, .slice none 0 0, .slice none 0 0, .slice none 0 0] 29)).cell? ⟨P + 1, o, none⟩ = some (.slice none 0 0) := fun o ho => by
    rcases (by omega : o = 0 ∨ o = 1 ∨ o = 2 ∨ o = 3) with rfl | rfl | rfl | rfl <;> exact cell_at (by rw [← hP]; simp) rfl
  have f0 : ∀ o, ((w.alloc (.cells #[.slice ap p.persons.length cp, .slice aw p.walk.length cw, .slice ad p.dress.length cd, .slice aq p.parts.length cq] 29)).alloc (.cells #[.slice none 0 0, .slice none 0 0, .slice none 0 0, .slice none 0 0] 29)).frozen? ⟨P, o, none⟩ = false := fun o => frozen_up (by simp; omega) (frozen_at hP.symm)
  have f1 : ∀ o, ((w.alloc (.cells #[.slice ap p.persons.length cp, .slice aw p.walk.length cw, .slice ad p.dress.length cd, .slice aq p.parts.length cq] 29)).alloc (.cells #[.slice none 0 0, .slice none 0 0, .slice none 0 0, .slice none 0 0] 29)).frozen? ⟨P + 1, o, none⟩ = false := fun o => frozen_at (by rw [← hP]; simp)
  have hsz : ((w.alloc (.cells #[.slice ap p.persons.length cp, .slice aw p.walk.length cw, .slice ad p.dress.length cd, .slice aq p.parts.length cq] 29)).alloc (.cells #[.slice none 0 0, .slice none 0 0, .slice none 0 0, .slice none 0 0] 29)).heap.size = P + 2 := by rw [← hP]; simp
  rw [hP] at hb1 ⊢
  obtain ⟨w1, hw1⟩ : ∃ w1, ((w.alloc (.cells #[.slice ap p.persons.length cp, .slice aw p.walk.length cw, .slice ad p.dress.length cd, .slice aq p.parts.length cq] 29)).alloc (.cells #[.slice none 0 0, .slice none 0 0, .slice none 0 0, .slice none 0 0] 29)) = w1 := ⟨_, rfl⟩
  rw [hw1] at hb1 c0 c1 c2 c3 r0 f0 f1 hsz ⊢
  have HX1 := hid (show PlotS d w1 _ _ _ _ p from HX.out.below (by rw [hP]; exact hb1))
  have HB1 := hid hb1
  have HR0 := hid r0
  have HF0 := hid f0
  have HF1 := hid f1
  have HC := hid (fun W' (hb : Below (P + 2) w1 W') => (⟨cell_back hb (by omega) c0, cell_back hb (by omega) c1, cell_back hb (by omega) c2, cell_back hb (by omega) c3⟩ :
    W'.cell? ⟨P, 0, none⟩ = some (.slice ap p.persons.length cp) ∧ W'.cell? ⟨P, 1, none⟩ = some (.slice aw p.walk.length cw) ∧ W'.cell? ⟨P, 2, none⟩ = some (.slice ad p.dress.length cd) ∧ W'.cell? ⟨P, 3, none⟩ = some (.slice aq p.parts.length cq)))
  have HSz := hid hsz
  have HXW := hid (fun W' (hb : Below (P + 2) w1 W') => (show PlotS d W' _ _ _ _ p from HX1.out.below (by rw [HSz.out]; exact hb)))
  have HPw := hid hP
  clear hw1 hb1 r0 f0 f1 c0 c1 c2 c3 HX hsz hP
  refine wp_region_flow_tail 14 (by kernel_rfl) (by kernel_rfl) [3, 4, 5, 6, 7, 8, 9, 10, 11, 12, 13, 14, 15, 16] 12
    (fun _ w' => Below (P + 2) w1 w') (fun a b => Below a.heap.size a b) (fun a b => ∃ E, a.grownBy b (some E) ∧ a.heap[E]? = some (.cells #[] 38 (0, 0)))
    (fun b i v w' => match i, b with
      | 0, _ => v = .pointer (some ⟨P, 0, none⟩)
      | 1, _ => v = .slice ap p.persons.length cp
      | 2, _ => OwnR encSpan 2 40 (P + 2) w' v p.persons
      | 3, _ => v = .pointer (some ⟨P, 1, none⟩)
      | 4, _ => v = .slice aw p.walk.length cw
      | 5, _ => ∃ us, RowsO (P + 2) w' v us p.walk
      | 6, _ => v = .pointer (some ⟨P, 2, none⟩)
      | 7, _ => v = .slice ad p.dress.length cd
      | 8, _ => OwnR encInt 1 3 (P + 2) w' v p.dress
      | 9, false => ∃ E, v = .slice (some ⟨E, 0, none⟩) 0 0 ∧ P + 2 ≤ E ∧ w'.heap[E]? = some (.cells #[] 38 (0, 0))
      | 10, _ => v = .pointer (some ⟨P, 3, none⟩)
      | 11, _ => v = .slice aq p.parts.length cq
      | 12, false => False
      | 12, true => OwnR encPart 5 38 (P + 2) w' v p.parts
      | 13, _ => v = .pointer (some ⟨P, 0, none⟩)
      | _, _ => True)
    [0, 1, 2, 3, 4, 5, 6, 7, 8, 9, 10, 11, 12, 13] (by kernel_rfl) (by kernel_rfl) rfl ?_ ?_ ?_ ?_ ?_
  · intro b i v w2 w3 hW hg hy
    match i, b with
    | 0, _ => exact hy
    | 1, _ => exact hy
    | 2, _ => exact OwnR.later hy hg
    | 3, _ => exact hy
    | 4, _ => exact hy
    | 5, _ => obtain ⟨us, h⟩ := hy; exact ⟨us, h.later hg⟩
    | 6, _ => exact hy
    | 7, _ => exact hy
    | 8, _ => exact OwnR.later hy hg
    | 9, false => obtain ⟨E, h, h2, h3⟩ := hy; exact ⟨E, h, h2, (hg.block E (Array.getElem?_eq_some_iff.1 h3).1).trans h3⟩
    | 10, _ => exact hy
    | 11, _ => exact hy
    | 12, false => exact hy
    | 12, true => exact OwnR.later hy hg
    | 13, _ => exact hy
    | 9, true => exact trivial
    | n + 14, _ => exact trivial
  · rintro i v w2 w3 _ ⟨E, hg, hE⟩ hy
    match i with
    | 0 => exact hy
    | 1 => exact hy
    | 2 => exact OwnR.kept hy hg (OwnR.apart hy (OwnR.made encPart 5 (Nat.zero_le E) hE) (by decide))
    | 3 => exact hy
    | 4 => exact hy
    | 5 => obtain ⟨us, h⟩ := hy; exact ⟨us, h.other (OwnR.made encPart 5 (Nat.zero_le E) hE) (by decide) (by decide) hg⟩
    | 6 => exact hy
    | 7 => exact hy
    | 8 => exact OwnR.kept hy hg (OwnR.apart hy (OwnR.made encPart 5 (Nat.zero_le E) hE) (by decide))
    | 9 => exact trivial
    | 10 => exact hy
    | 11 => exact hy
    | 12 => exact hy.elim
    | 13 => exact hy
    | n + 14 => exact trivial
  · exact (Below.refl _ _).drew
  · skip
    refine StepF.cons (i := 0) (o := _) rfl (by decide) (fun b vs wx hb hW hY K hK => ?_) ?_
    · simp only [putAll, Act.put, List.setIfInBounds_toArray, List.set_cons_zero, List.set_cons_succ]
      go_simp
      have hk := hK.out (.pointer (some ⟨P, 0, none⟩)) _ hW (Below.refl _ _) (fun _ => rfl)
      simp only [putAll, Act.put, List.setIfInBounds_toArray, List.set_cons_zero, List.set_cons_succ] at hk
      exact hk
    refine StepF.cons (i := 1) (o := _) rfl (by decide) (fun b vs wx hb hW hY K hK => ?_) ?_
    · have y0 : vs 3 = .pointer (some ⟨P, 0, none⟩) := hY 0 3 (by kernel_rfl) (by kernel_rfl)
      have q0 := (HC.out _ hW).1
      simp only [putAll, Act.put, List.setIfInBounds_toArray, List.set_cons_zero, List.set_cons_succ]
      simp only [y0]
      go_simp
      have hk := hK.out (.slice ap p.persons.length cp) _ hW (Below.refl _ _) (fun _ => rfl)
      simp only [putAll, Act.put, List.setIfInBounds_toArray, List.set_cons_zero, List.set_cons_succ, y0] at hk
      exact hk
    refine StepF.cons (i := 2) (o := _) rfl (by decide) (fun b vs wx hb hW hY K hK => ?_) ?_
    · have y1 : vs 4 = .slice ap p.persons.length cp := hY 1 4 (by kernel_rfl) (by kernel_rfl)
      simp only [putAll, Act.put, List.setIfInBounds_toArray, List.set_cons_zero, List.set_cons_succ]
      simp only [y1]
      go_simp
      go_at_call 62
      refine (copySpans_any _ _ _ _ (HXW.out _ hW).persons.1 (HXW.out _ hW).persons.2 (by have := HN.out.persons; omega)).mono ?_
      rintro e wy ⟨v2, rfl, ho, hb2⟩
      have hk := hK.out (_) _ (hW.trans (hb2.mono (by have := hW.size; rw [HSz.out] at this; exact this))) hb2 (fun _ => ho.base' (by have := hW.size; rw [HSz.out] at this; exact this))
      simp only [putAll, Act.put, List.setIfInBounds_toArray, List.set_cons_zero, List.set_cons_succ, y1] at hk
      exact hk
    refine StepF.cons (i := 3) (o := _) rfl (by decide) (fun b vs wx hb hW hY K hK => ?_) ?_
    · simp only [putAll, Act.put, List.setIfInBounds_toArray, List.set_cons_zero, List.set_cons_succ]
      go_simp
      have hk := hK.out (.pointer (some ⟨P, 1, none⟩)) _ hW (Below.refl _ _) (fun _ => rfl)
      simp only [putAll, Act.put, List.setIfInBounds_toArray, List.set_cons_zero, List.set_cons_succ] at hk
      exact hk
    refine StepF.cons (i := 4) (o := _) rfl (by decide) (fun b vs wx hb hW hY K hK => ?_) ?_
    · have y3 : vs 6 = .pointer (some ⟨P, 1, none⟩) := hY 3 6 (by kernel_rfl) (by kernel_rfl)
      have q0 := (HC.out _ hW).2.1
      simp only [putAll, Act.put, List.setIfInBounds_toArray, List.set_cons_zero, List.set_cons_succ]
      simp only [y3]
      go_simp
      have hk := hK.out (.slice aw p.walk.length cw) _ hW (Below.refl _ _) (fun _ => rfl)
      simp only [putAll, Act.put, List.setIfInBounds_toArray, List.set_cons_zero, List.set_cons_succ, y3] at hk
      exact hk
    refine StepF.cons (i := 5) (o := _) rfl (by decide) (fun b vs wx hb hW hY K hK => ?_) ?_
    · have y4 : vs 7 = .slice aw p.walk.length cw := hY 4 7 (by kernel_rfl) (by kernel_rfl)
      simp only [putAll, Act.put, List.setIfInBounds_toArray, List.set_cons_zero, List.set_cons_succ]
      simp only [y4]
      go_simp
      go_at_call 63
      refine (lists_any _ _ _ _ (HXW.out _ hW).walk (by have := HN.out.walk; omega) (fun i hi => by have := HN.out.rows i hi; omega)).mono ?_
      rintro e wy ⟨v2, vs2, rfl, ho, hb2⟩
      have hk := hK.out (_) _ (hW.trans (hb2.mono (by have := hW.size; rw [HSz.out] at this; exact this))) hb2 (fun _ => ⟨vs2, ho.base (by have := hW.size; rw [HSz.out] at this; exact this)⟩)
      simp only [putAll, Act.put, List.setIfInBounds_toArray, List.set_cons_zero, List.set_cons_succ, y4] at hk
      exact hk
    refine StepF.cons (i := 6) (o := _) rfl (by decide) (fun b vs wx hb hW hY K hK => ?_) ?_
    · simp only [putAll, Act.put, List.setIfInBounds_toArray, List.set_cons_zero, List.set_cons_succ]
      go_simp
      have hk := hK.out (.pointer (some ⟨P, 2, none⟩)) _ hW (Below.refl _ _) (fun _ => rfl)
      simp only [putAll, Act.put, List.setIfInBounds_toArray, List.set_cons_zero, List.set_cons_succ] at hk
      exact hk
    refine StepF.cons (i := 7) (o := _) rfl (by decide) (fun b vs wx hb hW hY K hK => ?_) ?_
    · have y6 : vs 9 = .pointer (some ⟨P, 2, none⟩) := hY 6 9 (by kernel_rfl) (by kernel_rfl)
      have q0 := (HC.out _ hW).2.2.1
      simp only [putAll, Act.put, List.setIfInBounds_toArray, List.set_cons_zero, List.set_cons_succ]
      simp only [y6]
      go_simp
      have hk := hK.out (.slice ad p.dress.length cd) _ hW (Below.refl _ _) (fun _ => rfl)
      simp only [putAll, Act.put, List.setIfInBounds_toArray, List.set_cons_zero, List.set_cons_succ, y6] at hk
      exact hk
    refine StepF.cons (i := 8) (o := _) rfl (by decide) (fun b vs wx hb hW hY K hK => ?_) ?_
    · have y7 : vs 10 = .slice ad p.dress.length cd := hY 7 10 (by kernel_rfl) (by kernel_rfl)
      simp only [putAll, Act.put, List.setIfInBounds_toArray, List.set_cons_zero, List.set_cons_succ]
      simp only [y7]
      go_simp
      go_at_call 34
      refine (copyInts_any _ _ _ _ (HXW.out _ hW).dress.1 (HXW.out _ hW).dress.2 (by have := HN.out.dress; omega)).mono ?_
      rintro e wy ⟨v2, rfl, ho, hb2⟩
      have hk := hK.out (_) _ (hW.trans (hb2.mono (by have := hW.size; rw [HSz.out] at this; exact this))) hb2 (fun _ => (own_int.2 ho).base' (by have := hW.size; rw [HSz.out] at this; exact this))
      simp only [putAll, Act.put, List.setIfInBounds_toArray, List.set_cons_zero, List.set_cons_succ, y7] at hk
      exact hk
    refine StepF.cons (i := 9) (o := _) rfl (by decide) (fun b vs wx hb hW hY K hK => ?_) ?_
    · simp only [putAll, Act.put, List.setIfInBounds_toArray, List.set_cons_zero, List.set_cons_succ]
      go_simp
      obtain ⟨wy, hwy⟩ : ∃ wy, wx.alloc (.cells #[] 38) = wy := ⟨_, rfl⟩
      have hb2 : Below wx.heap.size wx wy := by rw [← hwy]; exact below_alloc _ _
      have hE : wy.heap[wx.heap.size]? = some (.cells #[] 38 (0, 0)) := by rw [← hwy]; exact Array.getElem?_push_size
      rw [hwy]
      have hk := hK.out (.slice (some ⟨wx.heap.size, 0, none⟩) 0 0) _ (hW.trans (hb2.mono (by have := hW.size; rw [HSz.out] at this; exact this))) hb2 (fun _ => (by cases b with | true => exact absurd (hb (by kernel_rfl)) Bool.noConfusion | false => exact ⟨_, rfl, (by have := hW.size; rw [HSz.out] at this; exact this), hE⟩))
      simp only [putAll, Act.put, List.setIfInBounds_toArray, List.set_cons_zero, List.set_cons_succ] at hk
      exact hk
    refine StepF.cons (i := 10) (o := _) rfl (by decide) (fun b vs wx hb hW hY K hK => ?_) ?_
    · simp only [putAll, Act.put, List.setIfInBounds_toArray, List.set_cons_zero, List.set_cons_succ]
      go_simp
      have hk := hK.out (.pointer (some ⟨P, 3, none⟩)) _ hW (Below.refl _ _) (fun _ => rfl)
      simp only [putAll, Act.put, List.setIfInBounds_toArray, List.set_cons_zero, List.set_cons_succ] at hk
      exact hk
    refine StepF.cons (i := 11) (o := _) rfl (by decide) (fun b vs wx hb hW hY K hK => ?_) ?_
    · have y10 : vs 13 = .pointer (some ⟨P, 3, none⟩) := hY 10 13 (by kernel_rfl) (by kernel_rfl)
      have q0 := (HC.out _ hW).2.2.2
      simp only [putAll, Act.put, List.setIfInBounds_toArray, List.set_cons_zero, List.set_cons_succ]
      simp only [y10]
      go_simp
      have hk := hK.out (.slice aq p.parts.length cq) _ hW (Below.refl _ _) (fun _ => rfl)
      simp only [putAll, Act.put, List.setIfInBounds_toArray, List.set_cons_zero, List.set_cons_succ, y10] at hk
      exact hk
    refine StepF.app (i := 12) (o := _) rfl rfl (fun vs wx hW hY K hK => ?_) ?_
    · have y9 : ∃ E, vs 12 = .slice (some ⟨E, 0, none⟩) 0 0 ∧ P + 2 ≤ E ∧ wx.heap[E]? = some (.cells #[] 38 (0, 0)) := hY 9 12 (by kernel_rfl) (by kernel_rfl)
      have y11 : vs 14 = .slice aq p.parts.length cq := hY 11 14 (by kernel_rfl) (by kernel_rfl)
      obtain ⟨E, e0, hE, hE2⟩ := y9
      have hsx : P + 2 ≤ wx.heap.size := by have := hW.size; rw [HSz.out] at this; exact this
      rw [if_pos (by simp [Region.wanted])]
      refine wp_app encPart Try.underlying27 infoPart' (by decide) (by decide) (fun _ => rfl) _ _ rfl (P + 2) [] p.parts (fun y _ => encPart_one y) (.slice (some ⟨E, 0, none⟩) 0 0) (.slice aq p.parts.length cq) ((show _ = vs 12 from by kernel_rfl).trans e0) ((show _ = vs 14 from by kernel_rfl).trans y11) (OwnR.made encPart 5 hE hE2) (Src.parts (HXW.out _ hW).parts.1 (HXW.out _ hW).parts.2) (by have := HN.out.parts; simp; omega) hsx ?_
      intro v' w' hown' hg hnil hat
      have hbl := (OwnR.made encPart 5 hE hE2).below hg hsx
      exact hK.out v' w' (hW.trans hbl) ⟨E, hg, hE2⟩ (fun _ => hown')
    refine StepF.cons (i := 13) (o := _) rfl (by decide) (fun b vs wx hb hW hY K hK => ?_) ?_
    · simp only [putAll, Act.put, List.setIfInBounds_toArray, List.set_cons_zero, List.set_cons_succ]
      go_simp
      have hk := hK.out (.pointer (some ⟨P, 0, none⟩)) _ hW (Below.refl _ _) (fun _ => rfl)
      simp only [putAll, Act.put, List.setIfInBounds_toArray, List.set_cons_zero, List.set_cons_succ] at hk
      exact hk
    exact StepF.nil
  · intro vs wx hW hY
    have y2 : OwnR encSpan 2 40 (P + 2) wx (vs 5) p.persons := hY 2 5 (by kernel_rfl)
    have y5 : ∃ us, RowsO (P + 2) wx (vs 8) us p.walk := hY 5 8 (by kernel_rfl)
    have y8 : OwnR encInt 1 3 (P + 2) wx (vs 11) p.dress := hY 8 11 (by kernel_rfl)
    have y12 : OwnR encPart 5 38 (P + 2) wx (vs 15) p.parts := hY 12 15 (by kernel_rfl)
    have y13 : vs 16 = .pointer (some ⟨P, 0, none⟩) := hY 13 16 (by kernel_rfl)
    have H16 := hid y13
    have Y1 := hid (show OwnP (P + 2) wx (vs 5) (vs 8) (vs 11) (vs 15) p from ⟨y2, y5, y8, y12⟩)
    have HW2 := hid (show Below (P + 2) w1 wx from hW)
    obtain ⟨sp5, cp5, e5⟩ := y2.form
    obtain ⟨sp8, cp8, e8⟩ : ∃ a c, vs 8 = .slice a p.walk.length c := by
      obtain ⟨us, h⟩ := y5
      obtain ⟨a, c, e⟩ := h.own.form
      rw [h.len] at e
      exact ⟨a, c, e⟩
    obtain ⟨sp11, cp11, e11⟩ := y8.form
    obtain ⟨sp15, cp15, e15⟩ := y12.form
    rw [e5, e8, e11, e15] at Y1
    have H5 := hid e5
    have H8 := hid e8
    have H11 := hid e11
    have H15 := hid e15
    clear hY y2 y5 y8 y12 y13 hW e5 e8 e11 e15
    simp only [putAll, Act.put, List.setIfInBounds_toArray, List.set_cons_zero, List.set_cons_succ, List.drop_succ_cons, List.drop_zero]
    rw [H5.out, H8.out, H11.out, H15.out, H16.out]
    obtain ⟨q0, q1, q2, q3⟩ := HC.out wx HW2.out
    have g0 : wx.frozen? ⟨P, 0, none⟩ = false := (HW2.out.frozen (p := ⟨P, 0, none⟩) (by show P < P + 2; omega)).trans (HF0.out 0)
    have g1 : wx.frozen? ⟨P, 1, none⟩ = false := (HW2.out.frozen (p := ⟨P, 1, none⟩) (by show P < P + 2; omega)).trans (HF0.out 1)
    have g2 : wx.frozen? ⟨P, 2, none⟩ = false := (HW2.out.frozen (p := ⟨P, 2, none⟩) (by show P < P + 2; omega)).trans (HF0.out 2)
    have g3 : wx.frozen? ⟨P, 3, none⟩ = false := (HW2.out.frozen (p := ⟨P, 3, none⟩) (by show P < P + 2; omega)).trans (HF0.out 3)
    have t0 := cell_back HW2.out (by omega) (HR0.out 0 (by decide))
    have t1 := cell_back HW2.out (by omega) (HR0.out 1 (by decide))
    have t2 := cell_back HW2.out (by omega) (HR0.out 2 (by decide))
    have t3 := cell_back HW2.out (by omega) (HR0.out 3 (by decide))
    have k0 : wx.frozen? ⟨P + 1, 0, none⟩ = false := (HW2.out.frozen (p := ⟨P + 1, 0, none⟩) (by show P + 1 < P + 2; omega)).trans (HF1.out 0)
    have k1 : wx.frozen? ⟨P + 1, 1, none⟩ = false := (HW2.out.frozen (p := ⟨P + 1, 1, none⟩) (by show P + 1 < P + 2; omega)).trans (HF1.out 1)
    have k2 : wx.frozen? ⟨P + 1, 2, none⟩ = false := (HW2.out.frozen (p := ⟨P + 1, 2, none⟩) (by show P + 1 < P + 2; omega)).trans (HF1.out 2)
    have k3 : wx.frozen? ⟨P + 1, 3, none⟩ = false := (HW2.out.frozen (p := ⟨P + 1, 3, none⟩) (by show P + 1 < P + 2; omega)).trans (HF1.out 3)
    go_wp2_with fail
    obtain ⟨wy, hwy⟩ : ∃ wy, (((wx.setCell ⟨P, 0, none⟩ (.slice sp5 p.persons.length cp5)).setCell ⟨P, 1, none⟩ (.slice sp8 p.walk.length cp8)).setCell ⟨P, 2, none⟩ (.slice sp11 p.dress.length cp11)).setCell ⟨P, 3, none⟩ (.slice sp15 p.parts.length cp15) = wy := ⟨_, rfl⟩
    have hgP : wx.grownBy wy (some P) := by rw [← hwy]; exact gb_trans (gb_trans (gb_trans (gb_put _ P _ _) (gb_put _ P _ _)) (gb_put _ P _ _)) (gb_put _ P _ _)
    rw [hwy]
    obtain ⟨l0, l1, l2, l3⟩ := put4_cells (R := P + 1) (w := wy) (a := .slice sp5 p.persons.length cp5) (b := .slice sp8 p.walk.length cp8) (c := .slice sp11 p.dress.length cp11) (d := .slice sp15 p.parts.length cp15) (cell_gb hgP (by omega) t0) (cell_gb hgP (by omega) t1) (cell_gb hgP (by omega) t2) (cell_gb hgP (by omega) t3)
    have hgQ : wy.grownBy ((((wy.setCell ⟨P + 1, 0, none⟩ (.slice sp5 p.persons.length cp5)).setCell ⟨P + 1, 1, none⟩ (.slice sp8 p.walk.length cp8)).setCell ⟨P + 1, 2, none⟩ (.slice sp11 p.dress.length cp11)).setCell ⟨P + 1, 3, none⟩ (.slice sp15 p.parts.length cp15)) (some (P + 1)) := gb_trans (gb_trans (gb_trans (gb_put _ _ _ _) (gb_put _ _ _ _)) (gb_put _ _ _ _)) (gb_put _ _ _ _)
    have hsx : P + 2 ≤ wx.heap.size := by have := HW2.out.size; rw [HSz.out] at this; exact this
    obtain ⟨wz, hwz⟩ : ∃ wz, ((((wy.setCell ⟨P + 1, 0, none⟩ (.slice sp5 p.persons.length cp5)).setCell ⟨P + 1, 1, none⟩ (.slice sp8 p.walk.length cp8)).setCell ⟨P + 1, 2, none⟩ (.slice sp11 p.dress.length cp11)).setCell ⟨P + 1, 3, none⟩ (.slice sp15 p.parts.length cp15)) = wz := ⟨_, rfl⟩
    rw [hwz] at l0 l1 l2 l3 hgQ ⊢
    refine bodyPost_ret (v := plotV (.slice sp5 p.persons.length cp5) (.slice sp8 p.walk.length cp8) (.slice sp11 p.dress.length cp11) (.slice sp15 p.parts.length cp15)) (by simp [results, Try.results21, go_sem, l0, l1, l2, l3]) rfl ?_
    have hPw : w.heap.size = P := HPw.out
    refine ⟨_, _, _, _, rfl, ?_, ?_⟩
    · exact ((Y1.out.go (by omega) hgP).go (by omega) hgQ).base (by omega)
    · have h1 : Below P w wx := by have := HB1.out; exact this.trans (HW2.out.mono (by omega))
      rw [hPw]
      exact (h1.grown hgP (by omega) (fun g e => by cases e; exact Nat.le_refl _)).grown hgQ (by have := hgP.size; omega) (fun g e => by cases e; omega)
end Go.Proofs.Ytdcinngdilfpnaa
