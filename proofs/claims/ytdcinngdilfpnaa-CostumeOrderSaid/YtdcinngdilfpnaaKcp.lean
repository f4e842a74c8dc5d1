/-
  WALKS: copies of the kit's: Ints, Spans, OwnItems; Inside.
-/
import Derived.Test.YtdcinngdilfpnaaCpo
import Derived.Test.YtdcinngdilfpnaaCwd
namespace Go.Proofs.Ytdcinngdilfpnaa
open Go.RowKit

set_option maxHeartbeats 1000000 in
set_option maxRecDepth 100000 in
theorem copyInts_any (xs : List Int) (v : Value) (d : Option Nat) (w : World) (hX : IntsAt d w v xs) (hs : Sound0 v) (hn : xs.length ≤ 1000000) :
    Calls Try.prog 34 #[v] w fun e w' => ∃ v', e = .returned v' ∧ OwnInts w.heap.size w' v' xs ∧ Below w.heap.size w w' := by
  have HX := hid (Src.ints (hX.below (below_alloc w (.cells #[] 3))) hs)
  obtain ⟨a, c, rfl, _⟩ := hX
  go_enter Try.func34, Try.ntmps34
  go_wp2_with (at_builtin; refine wpList_app encInt Try.underlying22 infoInt' (by decide) (by decide) (fun _ => rfl) rfl _ _ rfl w.heap.size [] xs (fun y _ => encInt_one y) _ _ rfl rfl (OwnR.empty encInt 1 3 (Nat.le_refl _)) HX.out (by simpa using hn) (by simp) ?_; intro v' w2 hown' hg2 _ _; rw [List.nil_append] at hown'; have hb2 : Below w.heap.size w w2 := ((below_alloc w _).grown hg2 (by simp) (fun g e => by cases e; exact Nat.le_refl _)))
  go_ret
  exact ⟨_, rfl, own_int.1 hown', hb2⟩

set_option maxHeartbeats 1000000 in
set_option maxRecDepth 100000 in
theorem copySpans_any (xs : List (Int × Int)) (v : Value) (d : Option Nat) (w : World) (hX : SpansAt d w v xs) (hs : Sound0 v) (hn : xs.length ≤ 1000000) :
    Calls Try.prog 62 #[v] w fun e w' => ∃ v', e = .returned v' ∧ OwnR encSpan 2 40 w.heap.size w' v' xs ∧ Below w.heap.size w w' := by
  have HX := hid (Src.spans (RecAt.below hX (below_alloc w (.cells #[] 40))) hs)
  obtain ⟨a, c, rfl, _⟩ := hX
  go_enter Try.func62, Try.ntmps62
  go_wp2_with (at_builtin; refine wpList_app encSpan Try.underlying25 infoSpan (by decide) (by decide) (fun _ => rfl) rfl _ _ rfl w.heap.size [] xs (fun y _ => encSpan_one y) _ _ rfl rfl (OwnR.empty encSpan 2 40 (Nat.le_refl _)) HX.out (by simpa using hn) (by simp) ?_; intro v' w2 hown' hg2 _ _; rw [List.nil_append] at hown'; have hb2 : Below w.heap.size w w2 := ((below_alloc w _).grown hg2 (by simp) (fun g e => by cases e; exact Nat.le_refl _)))
  go_ret
  exact ⟨_, rfl, hown', hb2⟩

set_option maxHeartbeats 1000000 in
set_option maxRecDepth 100000 in
theorem ownItems_any (xs : List Item) (v : Value) (d : Option Nat) (w : World) (hX : ItemsAt d w v xs) (hs : Sound0 v) (hn : xs.length ≤ 1000000) :
    Calls Try.prog 37 #[v] w fun e w' => ∃ v', e = .returned v' ∧ OwnR encItem 5 42 w.heap.size w' v' xs ∧ Below w.heap.size w w' := by
  have HX := hid (Src.items (hX.below (below_alloc w (.cells #[] 42))) hs)
  obtain ⟨a, c, rfl⟩ := ItemsAt.form hX
  go_enter Try.func37, Try.ntmps37
  go_wp2_with (at_builtin; refine wpList_app encItem Try.underlying31 infoItem (by decide) (by decide) (fun _ => rfl) rfl _ _ rfl w.heap.size [] xs (fun y _ => encItem_one y) _ _ rfl rfl (OwnR.empty encItem 5 42 (Nat.le_refl _)) HX.out (by simpa using hn) (by simp) ?_; intro v' w2 hown' hg2 _ _; rw [List.nil_append] at hown'; have hb2 : Below w.heap.size w w2 := ((below_alloc w _).grown hg2 (by simp) (fun g e => by cases e; exact Nat.le_refl _)))
  go_ret
  exact ⟨_, rfl, hown', hb2⟩

set_option maxHeartbeats 1000000 in
theorem insideC_any (a b c d : Int) (w : World) :
    Calls Try.prog 35 #[.agg #[.int .i64 a, .int .i64 b], .agg #[.int .i64 c, .int .i64 d]] w fun e w' => e = .returned (.bool (decide (c ≤ a ∧ b ≤ d))) ∧ Below w.heap.size w w' := by
  have hb := hid (show Below w.heap.size w ((w.alloc (.cells #[.int .i64 a, .int .i64 b] 40)).alloc (.cells #[.int .i64 c, .int .i64 d] 40)) from below_trans (below_alloc w _) (below_alloc _ _))
  obtain ⟨r, hr⟩ : ∃ r, decide (c ≤ a ∧ b ≤ d) = r := ⟨_, rfl⟩
  rw [hr]
  by_cases h1 : c ≤ a
  · by_cases h2 : b ≤ d
    · obtain rfl : r = true := hr.symm.trans (decide_eq_true ⟨h1, h2⟩)
      clear hr
      go_enter Try.func35, Try.ntmps35
      go_wp2_with fail
      go_ret
      exact ⟨rfl, hb.out⟩
    · obtain rfl : r = false := hr.symm.trans (decide_eq_false (fun h => h2 h.2))
      clear hr
      go_enter Try.func35, Try.ntmps35
      go_wp2_with fail
      go_ret
      exact ⟨rfl, hb.out⟩
  · obtain rfl : r = false := hr.symm.trans (decide_eq_false (fun h => h1 h.1))
    clear hr
    go_enter Try.func35, Try.ntmps35
    go_wp2_with fail
    go_ret
    exact ⟨rfl, hb.out⟩
end Go.Proofs.Ytdcinngdilfpnaa
