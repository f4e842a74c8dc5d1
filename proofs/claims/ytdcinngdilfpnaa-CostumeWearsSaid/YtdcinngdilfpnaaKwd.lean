/-
  WALK: wide, whether a plot and items have more than the statements go through.
-/
import Derived.Test.YtdcinngdilfpnaaKpl
namespace Go.Proofs.Ytdcinngdilfpnaa
open Go.RowKit

def WidePost (p : Plot) (items : List Item) (w : World) (e : Ending) (w' : World) : Prop := ∃ b : Bool, e = .returned (.bool b) ∧ (b = false → PlotN p ∧ p.parts.length ≤ 40 ∧ items.length ≤ 40) ∧ Below w.heap.size w w'

set_option maxHeartbeats 4000000 in
set_option maxRecDepth 100000 in
theorem wide_any (p : Plot) (items : List Item) (vp vw vd vq vi : Value) (w : World) (h : PlotAt none w vp vw vd vq p) (hI : ItemsAt none w vi items) :
    Calls Try.prog 20 #[plotV vp vw vd vq, vi] w (WidePost p items w) := by
  have H := hid h
  obtain ⟨ap, cp, rfl⟩ := h.persons.form
  obtain ⟨aw, cw, rfl⟩ := h.walk.form
  obtain ⟨ad, cd, ed, _⟩ := h.dress
  subst ed
  obtain ⟨aq, cq, rfl⟩ := h.parts.form
  obtain ⟨ai, ci, rfl⟩ := hI.form
  have K := hid ((HK.start w).box4m (n := w.heap.size) rfl (.slice ap p.persons.length cp) (.slice aw p.walk.length cw) (.slice ad p.dress.length cd) (.slice aq p.parts.length cq) 29)
  clear h hI
  go_enter Try.func20, Try.ntmps20
  go_wp2_with fail
  obtain ⟨w1, hw1, K1⟩ := K.out.name
  rw [hw1]
  have K := hid K1
  clear hw1 K1
  go_loopw [5] (fun i wr => ∃ k : Nat, k ≤ p.walk.length ∧ i = .int .i64 k ∧ wr = w1 ∧ ∀ j, j < k → (lst p.walk j).length ≤ 15) (fun i _ => p.walk.length - (intOf i).toNat)
  case atStart => exact ⟨0, by omega, rfl, rfl, fun j hj => by omega⟩
  case round =>
    obtain ⟨k, hk, rfl, rfl, hr⟩ := hrel
    obtain ⟨wo, rfl⟩ : ∃ wo : World, wo = wr := ⟨_, rfl⟩
    have HR := hid hr
    clear hr
    have y0 := K.out.c (b := w.heap.size) (o := 0) (v := .slice ap p.persons.length cp) (by simp)
    have y1 := K.out.c (b := w.heap.size) (o := 1) (v := .slice aw p.walk.length cw) (by simp)
    have y2 := K.out.c (b := w.heap.size) (o := 2) (v := .slice ad p.dress.length cd) (by simp)
    have y3 := K.out.c (b := w.heap.size) (o := 3) (v := .slice aq p.parts.length cq) (by simp)
    by_cases hlt : k < p.walk.length
    · have hrw := ListsAt.row (H.out.below K.out.below).walk hlt
      obtain ⟨bw, ow, uu, e, hbw, cu, hu⟩ := hrw
      cases e
      obtain ⟨au, cuu, rfl, _⟩ := hu
      have i1 : (k : Int) < (p.walk.length : Int) := by omega
      by_cases h15 : (lst p.walk k).length ≤ 15
      · have n1 : ¬ ((lst p.walk k).length : Int) > 15 := by omega
        have z1 : (p.walk.length : Int) ≤ 9000000000000000000 ∨ ¬ (p.walk.length : Int) ≤ 9000000000000000000 := by omega
        have hml : (k : Int) + 1 ≤ 9223372036854775807 := by
          obtain ⟨f, ⟨a', c', e', hh⟩, _⟩ := H.out.walk
          cases e'
          obtain ⟨b', o', _, g1, g2, _⟩ := hh (by omega)
          have : maxLen = 9223372036854775807 := rfl
          omega
        have z2 : IntKind.i64.wrap ((k : Int) + 1) = (k : Int) + 1 := IntWalk.i64_in _ (by omega)
        clear z1 hml
        go_wp2_with fail
        go_roundw
        case rel => exact ⟨k + 1, by omega, by go_num, (by trivial), fun j hj => by
          by_cases e : j = k
          · subst e; exact h15
          · exact HR.out j (by omega)⟩
        case measure => simp [intOf] <;> omega
      · have n1 : ((lst p.walk k).length : Int) > 15 := by omega
        go_wp2_with fail
        go_ret
        exact ⟨true, rfl, (fun h => by cases h), K.out.below⟩
    obtain rfl : k = p.walk.length := by omega
    by_cases h1 : p.persons.length ≤ 20
    rotate_left
    · have n1 : (p.persons.length : Int) > 20 := by omega
      go_wp2_with fail
      refine bodyPost_ret (v := .bool true) (by simp [results, Try.results20, go_sem]) rfl ?_
      exact ⟨true, rfl, (fun h => by cases h), K.out.below⟩
    have n1 : ¬ (p.persons.length : Int) > 20 := by omega
    by_cases h2 : p.walk.length ≤ 12
    rotate_left
    · have n2 : (p.walk.length : Int) > 12 := by omega
      go_wp2_with fail
      refine bodyPost_ret (v := .bool true) (by simp [results, Try.results20, go_sem]) rfl ?_
      exact ⟨true, rfl, (fun h => by cases h), K.out.below⟩
    have n2 : ¬ (p.walk.length : Int) > 12 := by omega
    by_cases h3 : p.dress.length ≤ 12
    rotate_left
    · have n3 : (p.dress.length : Int) > 12 := by omega
      go_wp2_with fail
      refine bodyPost_ret (v := .bool true) (by simp [results, Try.results20, go_sem]) rfl ?_
      exact ⟨true, rfl, (fun h => by cases h), K.out.below⟩
    have n3 : ¬ (p.dress.length : Int) > 12 := by omega
    by_cases h4 : p.parts.length ≤ 40
    rotate_left
    · have n4 : (p.parts.length : Int) > 40 := by omega
      go_wp2_with fail
      refine bodyPost_ret (v := .bool true) (by simp [results, Try.results20, go_sem]) rfl ?_
      exact ⟨true, rfl, (fun h => by cases h), K.out.below⟩
    have n4 : ¬ (p.parts.length : Int) > 40 := by omega
    by_cases h5 : items.length ≤ 40
    · have n5 : ¬ (items.length : Int) > 40 := by omega
      go_wp2_with fail
      refine bodyPost_ret (v := .bool false) (by simp [results, Try.results20, go_sem]) rfl ?_
      exact ⟨false, rfl, fun _ => ⟨⟨by omega, by omega, fun j hj => by have := HR.out j hj; omega, by omega, by omega⟩, h4, h5⟩, K.out.below⟩
    · have n5 : (items.length : Int) > 40 := by omega
      go_wp2_with fail
      refine bodyPost_ret (v := .bool true) (by simp [results, Try.results20, go_sem]) rfl ?_
      exact ⟨true, rfl, (fun h => by cases h), K.out.below⟩
end Go.Proofs.Ytdcinngdilfpnaa
