/-
  PLAIN: starts that are put off, one behind the other. No program in sight.
  WALKS: dressAwake.
  FRAMES for TopDressed: a plot that is being made.
-/
import Derived.Test.YtgfipifgijohhaaDoorMad
import Derived.Test.YtgfipifgijohhaaDoorCpl
import Derived.Test.YtgfipifgijohhaaDoorCwd
import Derived.Test.YtgfipifgijohhaaDoorLca
namespace Go.Proofs.YtgfipifgijohhaaDoor

theorem passed_shift {L S S' P : Nat → Int} {A : Int} (hA : 0 ≤ A) {k : Nat} (h : ∀ i, i ≤ k → S' i = S i + (i : Int) * A) : ∀ x, passed L S' P k x ≤ passed L S P k x + (k : Int) * A := by
  induction k with
  | zero =>
    intro x
    have := h 0 (Nat.le_refl _)
    simp only [passed, this]
    simp
  | succ k ih =>
    intro x
    have h1 := h (k + 1) (Nat.le_refl _)
    have h2 := ih (fun i hi => h i (by omega)) (x + L k)
    have h3 : ((k + 1 : Nat) : Int) * A = (k : Int) * A + A := by push_cast; rw [Int.add_mul, Int.one_mul]
    simp only [passed]
    omega

/-- starts, each put off by so much more than the one before it -/
def Shifted (A : Int) (st st' : List Int) : Prop := st'.length = st.length ∧ ∀ i, i < st.length → nm st' i = nm st i + (i : Int) * A

theorem shifted_least {ws : List Wing} {st st' : List Int} {A : Int} (hA : 0 ≤ A) (h : Shifted A st st') : ∀ i, i < st.length → leastOf ws st' i ≤ leastOf ws st i + (i : Int) * A := by
  intro i hi
  cases i with
  | zero => show (0 : Int) ≤ 0 + _; simp
  | succ k =>
    have h1 := passed_shift (L := Ln ws) (P := Lo ws) hA (k := k) (fun i hk => h.2 i (by omega)) (Ln ws k)
    have h3 : ((k + 1 : Nat) : Int) * A = (k : Int) * A + A := by push_cast; rw [Int.add_mul, Int.one_mul]
    show passed (Ln ws) (nm st') (Lo ws) k (Ln ws k) ≤ passed (Ln ws) (nm st) (Lo ws) k (Ln ws k) + _
    omega

theorem shifted_starts {route : Int} {ws : List Wing} {st st' : List Int} {A : Int} (hc : check route ws = 0) (hl : st.length = ws.length) (h4 : ws.length ≤ 4) (h : MadeS ws st) (hA : 0 ≤ A) (hA2 : A ≤ 900) (hs : Shifted A st st') : checkStarts route ws st' = 0 := by
  refine starts_ok hc (hs.1.trans hl) (fun i hi => ?_)
  rw [hs.1] at hi
  have h1 := h i hi
  have h2 := shifted_least (ws := ws) hA hs i hi
  have h3 := hs.2 i hi
  have h5 : (i : Int) * A ≤ 3 * 900 := Int.mul_le_mul (by omega) hA2 hA (by omega)
  have h6 : 0 ≤ (i : Int) * A := Int.mul_nonneg (by omega) hA
  unfold startErr
  rw [if_neg (by rw [inB_true.2 ⟨by omega, by omega⟩]; simp), if_neg (by omega)]

theorem lst_one {j : Nat} (h : j < 1) : nm (lst [[0]] j) j = 0 := by
  have : j = 0 := by omega
  subst this; rfl

theorem twoE_zero {p : Plot} {y x : Part} (h : twoE p y x = 0) (hp : y.person = x.person) : 0 ≤ betweenP y x ∧ wayP p y x (decide (y.kind ≠ x.kind)) ≤ betweenP y x := by
  unfold twoE at h
  rw [if_pos hp] at h
  by_cases h1 : betweenP y x < 0
  · rw [if_pos h1] at h; cases h
  · rw [if_neg h1] at h
    by_cases h2 : betweenP y x < wayP p y x (decide (y.kind ≠ x.kind))
    · rw [if_pos h2] at h; cases h
    · omega

/-- what a valid plot says of two parts of a person -/
theorem dressed_plain {p : Plot} (v : Valid p) (hw : p.walk = [[0]]) {i k : Nat} (hi : i < p.parts.length) (hk : k < p.parts.length) (hne : i ≠ k) {s t hI e : Int}
    (h1 : (pt p.parts i).start = s / 60) (h2 : (pt p.parts i).stop = hI / 60 + 1) (h3 : (pt p.parts k).start = t / 60) (hst : s ≤ t) (he : e ≤ hI) (hp : (pt p.parts i).person = (pt p.parts k).person) :
    (if (pt p.parts i).kind = (pt p.parts k).kind then 0 else 60 * nm p.dress (pt p.parts k).kind.toNat) ≤ t - e := by
  obtain ⟨_, ⟨a1, a2⟩, ⟨a3, a4⟩, _, _, a5⟩ := aloneE_zero (v.parts i hi)
  obtain ⟨_, ⟨b1, b2⟩, ⟨b3, b4⟩, _, _, b5⟩ := aloneE_zero (v.parts k hk)
  rw [hw] at a2 b2
  have ea : (pt p.parts i).place = 0 := by simp at a2; omega
  have eb : (pt p.parts k).place = 0 := by simp at b2; omega
  have hwalk : nm (lst p.walk 0) 0 = 0 := by rw [hw]; rfl
  obtain ⟨D, hD⟩ : ∃ D, nm p.dress (pt p.parts k).kind.toNat = D := ⟨_, rfl⟩
  rw [hD]
  rcases Nat.lt_or_ge i k with hik | hik
  · obtain ⟨q1, q2⟩ := twoE_zero (v.twos k hk i hik) hp
    have eT : inTime (pt p.parts i) (pt p.parts k) = (pt p.parts i, pt p.parts k) := by unfold inTime; rw [if_neg (by omega)]
    unfold betweenP at q1 q2
    unfold wayP at q2
    rw [eT] at q1 q2
    dsimp only at q1 q2
    rw [ea, eb] at q2
    simp only [Int.toNat_zero, hwalk, hD] at q2
    rw [h2, h3] at q1 q2
    by_cases hkd : (pt p.parts i).kind = (pt p.parts k).kind
    · rw [if_pos hkd]; omega
    · rw [if_neg hkd]
      rw [if_pos (by simp [hkd])] at q2
      omega
  · have hki : k < i := by omega
    obtain ⟨q1, q2⟩ := twoE_zero (v.twos i hi k hki) hp.symm
    unfold betweenP at q1 q2
    unfold wayP at q2
    by_cases hlt : (pt p.parts i).start < (pt p.parts k).start
    · have eT : inTime (pt p.parts k) (pt p.parts i) = (pt p.parts i, pt p.parts k) := by unfold inTime; rw [if_pos hlt]
      rw [eT] at q1 q2
      dsimp only at q1 q2
      rw [ea, eb] at q2
      simp only [Int.toNat_zero, hwalk, hD] at q2
      rw [h2, h3] at q1 q2
      by_cases hkd : (pt p.parts i).kind = (pt p.parts k).kind
      · rw [if_pos hkd]; omega
      · rw [if_neg hkd]
        rw [if_pos (by simp [Ne.symm hkd])] at q2
        omega
    · have eT : inTime (pt p.parts k) (pt p.parts i) = (pt p.parts k, pt p.parts i) := by unfold inTime; rw [if_neg hlt]
      rw [eT] at q1
      dsimp only at q1
      omega
end Go.Proofs.YtgfipifgijohhaaDoor

namespace Go.Proofs.YtgfipifgijohhaaDoor
open Go.RowKit

def twoW : List Wing := [⟨kitName 0, 100, 40, 50⟩, ⟨kitName 1, 200, 50, 60⟩]
theorem two_least : leastErr 1000 twoW = 0 ∧ leastRes 1000 twoW = [0, 3] := by decide +kernel
theorem two_names : ∀ i, i < twoW.length → (wg twoW i).name.size ≤ 1000000 := by decide
def dressP : Plot := ⟨[(40, 42)], [[0]], [10], [⟨0, 0, 0, 100, 120⟩]⟩
theorem dressP_ok : plotErr dressP = 0 := by decide +kernel
theorem dressP_at : firstAt (fun i => hitP 0 119 (pt dressP.parts i)) dressP.parts.length = 0 := by decide +kernel

theorem ints_lit (w : World) (xs : List Int) (n : Nat) (hn : n = w.heap.size) (hl : xs.length ≤ 1000) : IntsAt none (w.alloc (.cells (xs.map (Value.int .i64)).toArray 3)) (.slice (some ⟨n, 0, none⟩) xs.length xs.length) xs := by
  subst hn
  refine ⟨_, _, rfl, fun _ => ⟨_, _, rfl, Nat.le_refl _, by unfold maxLen; omega, by simp, by simp, fun i hi => cell_at rfl ?_⟩⟩
  simp [nm, List.getD_eq_getElem?_getD, List.getElem?_eq_getElem hi]
theorem rec_lit (w : World) (vs : List Value) (t : TypeId) (n c k : Nat) (f : Nat → Nat → Value) (B : Nat) (hB : B = w.heap.size) (hc : n ≤ c) (hm : c ≤ 1000) (h : ∀ i, i < n → ∀ j, j < k → vs[i * k + j]? = some (f i j)) : RecAt none (w.alloc (.cells vs.toArray t)) (.slice (some ⟨B, 0, none⟩) n c) n k f := by
  subst hB
  refine ⟨_, _, rfl, fun _ => ⟨_, _, rfl, hc, by unfold maxLen; omega, by simp, by simp, fun i hi j hj => cell_at rfl ?_⟩⟩
  rw [Nat.zero_add]
  simpa using h i hi j hj

theorem twoW_at (w : World) : WgAt none (w.alloc (.cells #[.string ⟨#[102, 114, 111, 110, 116]⟩, .int .i64 100, .int .i64 40, .int .i64 50, .string ⟨#[100, 114, 117, 109, 115]⟩, .int .i64 200, .int .i64 50, .int .i64 60] 29)) (.slice (some ⟨w.heap.size, 0, none⟩) 2 2) twoW := by
  refine ⟨_, 2, rfl, fun _ => ⟨w.heap.size, 0, rfl, by decide, by decide, by simp, by simp, fun i hi => ?_⟩⟩
  match i, hi with
  | 0, _ => exact ⟨cell_at (by simp) rfl, cell_at (by simp) rfl, cell_at (by simp) rfl, cell_at (by simp) rfl⟩
  | 1, _ => exact ⟨cell_at (by simp) rfl, cell_at (by simp) rfl, cell_at (by simp) rfl, cell_at (by simp) rfl⟩

set_option maxHeartbeats 2000000 in
set_option maxRecDepth 100000 in
theorem dawake_any (w : World) : Calls Tryd.prog 42 #[] w fun e w' => e = .returned (.bool true) ∧ Below w.heap.size w w' := by
  have hat := hid dressP_at
  go_enter Tryd.func42, Tryd.ntmps42
  go_wp2_with fail
  have K := hid ((Below.refl w.heap.size w).alloc (Nat.le_refl _) (.cells #[.string ⟨#[102, 114, 111, 110, 116]⟩, .int .i64 100, .int .i64 40, .int .i64 50, .string ⟨#[100, 114, 117, 109, 115]⟩, .int .i64 200, .int .i64 50, .int .i64 60] 29) |>.alloc (by simp) (.cells #[.int .i64 1000, .slice (some ⟨w.heap.size, 0, none⟩) 2 2] 24))
  refine (pleasts_any twoW 1000 _ _ ((twoW_at w).below (below_alloc _ _)) (by decide) two_names).mono ?_
  rintro e w2 ⟨vl, rfl, hl, hb2⟩
  rw [two_least.1]
  rw [two_least.2] at hl
  have L := hid (OwnInts.at hl (d := none) (by simp))
  obtain ⟨la, lc, rfl⟩ := hl.form
  have K := hid (K.out.trans (hb2.mono K.out.size))
  clear hb2 hl
  go_wp2_with fail
  have hP : PlotAt none ((((((w2.alloc (.cells #[.int .i64 40, .int .i64 42] 27)).alloc (.cells #[.int .i64 0] 3)).alloc (.cells #[.slice (some ⟨w2.heap.size + 1, 0, none⟩) 1 1] 25)).alloc (.cells #[.int .i64 10] 3)).alloc (.cells #[.int .i64 0, .int .i64 0, .int .i64 0, .int .i64 100, .int .i64 120] 68)).alloc
      (.cells #[.slice (some ⟨w2.heap.size, 0, none⟩) 1 1, .slice (some ⟨w2.heap.size + 1 + 1, 0, none⟩) 1 1, .slice (some ⟨w2.heap.size + 1 + 1 + 1, 0, none⟩) 1 1, .slice (some ⟨w2.heap.size + 1 + 1 + 1 + 1, 0, none⟩) 1 1] 64))
      (.slice (some ⟨w2.heap.size, 0, none⟩) 1 1) (.slice (some ⟨w2.heap.size + 1 + 1, 0, none⟩) 1 1) (.slice (some ⟨w2.heap.size + 1 + 1 + 1, 0, none⟩) 1 1) (.slice (some ⟨w2.heap.size + 1 + 1 + 1 + 1, 0, none⟩) 1 1) dressP := by
    refine ⟨?_, ⟨fun _ => .slice (some ⟨w2.heap.size + 1, 0, none⟩) 1 1, ?_, ?_⟩, ?_, ?_⟩
    · refine RecAt.below (RecAt.below (RecAt.below (RecAt.below (RecAt.below (rec_lit w2 [.int .i64 40, .int .i64 42] _ 1 1 2 _ _ rfl (Nat.le_refl _) (by decide) ?_) (below_alloc _ _)) (below_alloc _ _)) (below_alloc _ _)) (below_alloc _ _)) (below_alloc _ _)
      intro i hi j hj
      obtain rfl : i = 0 := by omega
      rcases (by omega : j = 0 ∨ j = 1) with rfl | rfl <;> rfl
    · refine RecAt.below (RecAt.below (RecAt.below (rec_lit _ [.slice (some ⟨w2.heap.size + 1, 0, none⟩) 1 1] _ 1 1 1 _ _ (by simp) (Nat.le_refl _) (by decide) ?_) (below_alloc _ _)) (below_alloc _ _)) (below_alloc _ _)
      intro i hi j hj
      obtain rfl : i = 0 := by omega
      obtain rfl : j = 0 := by omega
      rfl
    · intro i hi
      obtain rfl : i = 0 := by simp [dressP] at hi; omega
      exact IntsAt.below (IntsAt.below (IntsAt.below (IntsAt.below (ints_lit _ [0] _ (by simp) (by decide)) (below_alloc _ _)) (below_alloc _ _)) (below_alloc _ _)) (below_alloc _ _)
    · exact IntsAt.below (IntsAt.below (ints_lit _ [10] _ (by simp) (by decide)) (below_alloc _ _)) (below_alloc _ _)
    · refine RecAt.below (rec_lit _ [.int .i64 0, .int .i64 0, .int .i64 0, .int .i64 100, .int .i64 120] _ 1 1 5 _ _ (by simp) (Nat.le_refl _) (by decide) ?_) (below_alloc _ _)
      intro i hi j hj
      obtain rfl : i = 0 := by omega
      rcases (by omega : j = 0 ∨ j = 1 ∨ j = 2 ∨ j = 3 ∨ j = 4) with rfl | rfl | rfl | rfl | rfl <;> rfl
  have HP := hid hP
  clear hP
  have BK := hid (below_alloc w2 (.cells #[.int .i64 40, .int .i64 42] 27) |>.alloc (by simp) (.cells #[.int .i64 0] 3) |>.alloc (by simp; omega) (.cells #[.slice (some ⟨w2.heap.size + 1, 0, none⟩) 1 1] 25) |>.alloc (by simp; omega) (.cells #[.int .i64 10] 3) |>.alloc (by simp; omega) (.cells #[.int .i64 0, .int .i64 0, .int .i64 0, .int .i64 100, .int .i64 120] 68) |>.alloc (by simp; omega)
      (.cells #[.slice (some ⟨w2.heap.size, 0, none⟩) 1 1, .slice (some ⟨w2.heap.size + 1 + 1, 0, none⟩) 1 1, .slice (some ⟨w2.heap.size + 1 + 1 + 1, 0, none⟩) 1 1, .slice (some ⟨w2.heap.size + 1 + 1 + 1 + 1, 0, none⟩) 1 1] 64))
  refine (at_fine dressP 0 119 _ _ _ _ _ HP.out dressP_ok (by decide) (by decide)).mono ?_
  rw [hat.out]
  rintro e w4 ⟨rfl, hb4⟩
  have BK := hid (BK.out.trans (hb4.mono BK.out.size))
  have L := hid (L.out.below BK.out)
  have K := hid (K.out.trans (BK.out.mono K.out.size))
  clear hb4 BK HP
  go_wp2_with (go_at_call 31; refine (eqInts_same [0, 3] _ _ none none _ (L.out.below (below_alloc _ _)) (ints_lit w4 [0, 3] _ rfl (by decide)) (by decide)).mono ?_; rintro e w5 ⟨rfl, hb5⟩; have K := hid ((K.out.alloc K.out.size (.cells #[.int .i64 0, .int .i64 3] 3)).trans (hb5.mono (Nat.le_trans K.out.size (below_alloc _ _).size))))
  go_ret
  exact ⟨rfl, K.out⟩
end Go.Proofs.YtgfipifgijohhaaDoor

namespace Go.Proofs.YtgfipifgijohhaaDoor
open Go.RowKit

/-- what is known below block N (block d alone may change) -/
structure Un (N d : Nat) (w w' : World) : Prop where
  size : N ≤ w'.heap.size
  block : ∀ i, i < N → i ≠ d → w'.heap[i]? = w.heap[i]?

theorem Un.start {N d : Nat} {w : World} (h : N ≤ w.heap.size) : Un N d w w := ⟨h, fun _ _ _ => rfl⟩
theorem Un.go {N d : Nat} {w w1 w2 : World} (h : Un N d w w1) (hg : w1.grownBy w2 (some d)) : Un N d w w2 :=
  ⟨Nat.le_trans h.size hg.size, fun i hi hd => (hg.block i (Nat.lt_of_lt_of_le hi h.size) (by intro e; exact hd (Option.some.inj e))).trans (h.block i hi hd)⟩
theorem Un.later {N d : Nat} {w w1 w2 : World} (h : Un N d w w1) (hb : Below w1.heap.size w1 w2) : Un N d w w2 := h.go (gb_below hb _)
theorem Un.base {N d : Nat} {w w1 w2 : World} (h : Un N d w w1) (hb : Below N w1 w2) : Un N d w w2 :=
  ⟨Nat.le_trans h.size hb.size, fun i hi hd => (hb.block i hi).trans (h.block i hi hd)⟩
theorem Un.recs {N d : Nat} {w w' : World} (h : Un N d w w') {v : Value} {n k : Nat} {f : Nat → Nat → Value} (hr : RecAt (some d) w v n k f) (hN : w.heap.size ≤ N) : RecAt none w' v n k f := by
  obtain ⟨a, cap, rfl, hh⟩ := hr
  refine ⟨a, cap, rfl, fun h0 => ?_⟩
  obtain ⟨b, off, rfl, h1, h2, h3, h4, h5⟩ := hh h0
  exact ⟨b, off, rfl, h1, h2, by simp, Nat.lt_of_lt_of_le (Nat.lt_of_lt_of_le h4 hN) h.size, fun i hi j hj => (World.cell?_of_block (a := ⟨b, off + i * k + j, none⟩) (h.block b (Nat.lt_of_lt_of_le h4 hN) (fun e => h3 (by rw [e])))).trans (h5 i hi j hj)⟩
theorem Un.ints {N d : Nat} {w w' : World} (h : Un N d w w') {v : Value} {xs : List Int} (hr : IntsAt (some d) w v xs) (hN : w.heap.size ≤ N) : IntsAt none w' v xs := by
  obtain ⟨a, cap, rfl, hh⟩ := hr
  refine ⟨a, cap, rfl, fun h0 => ?_⟩
  obtain ⟨b, off, rfl, h1, h2, h3, h4, h5⟩ := hh h0
  exact ⟨b, off, rfl, h1, h2, by simp, Nat.lt_of_lt_of_le (Nat.lt_of_lt_of_le h4 hN) h.size, fun i hi => (World.cell?_of_block (a := ⟨b, off + i, none⟩) (h.block b (Nat.lt_of_lt_of_le h4 hN) (fun e => h3 (by rw [e])))).trans (h5 i hi)⟩
theorem Un.lists {N d : Nat} {w w' : World} (h : Un N d w w') {v : Value} {xs : List (List Int)} (hr : ListsAt (some d) w v xs) (hN : w.heap.size ≤ N) : ListsAt none w' v xs := by
  obtain ⟨f, h1, h2⟩ := hr
  exact ⟨f, h.recs h1 hN, fun i hi => h.ints (h2 i hi) hN⟩

theorem recD_lit (D : Nat) (w : World) (vs : List Value) (t : TypeId) (n c k : Nat) (f : Nat → Nat → Value) (B : Nat) (hB : B = w.heap.size) (hD : D < w.heap.size) (hc : n ≤ c) (hm : c ≤ 1000) (h : ∀ i, i < n → ∀ j, j < k → vs[i * k + j]? = some (f i j)) : RecAt (some D) (w.alloc (.cells vs.toArray t)) (.slice (some ⟨B, 0, none⟩) n c) n k f := by
  subst hB
  refine ⟨_, _, rfl, fun _ => ⟨_, _, rfl, hc, by unfold maxLen; omega, by intro e; have := Option.some.inj e; omega, by simp, fun i hi j hj => cell_at rfl ?_⟩⟩
  rw [Nat.zero_add]
  simpa using h i hi j hj
theorem intsD_lit (D : Nat) (w : World) (xs : List Int) (n : Nat) (hn : n = w.heap.size) (hD : D < w.heap.size) (hl : xs.length ≤ 1000) : IntsAt (some D) (w.alloc (.cells (xs.map (Value.int .i64)).toArray 3)) (.slice (some ⟨n, 0, none⟩) xs.length xs.length) xs := by
  subst hn
  refine ⟨_, _, rfl, fun _ => ⟨_, _, rfl, Nat.le_refl _, by unfold maxLen; omega, by intro e; have := Option.some.inj e; omega, by simp, fun i hi => cell_at rfl ?_⟩⟩
  simp [nm, List.getD_eq_getElem?_getD, List.getElem?_eq_getElem hi]

def partCells (x : Part) : List Value := [.int .i64 x.person, .int .i64 x.place, .int .i64 x.kind, .int .i64 x.start, .int .i64 x.stop]
/-- a list of parts of the call's own -/
def OwnPt (base : Nat) (w : World) (v : Value) (xs : List Part) : Prop := w.ownsRow base 68 5 v xs.length (xs.flatMap partCells)
theorem own_nilP (base : Nat) (w : World) : OwnPt base w (.slice none 0 0) [] := World.ownsRow_nil _ _ _ _
theorem partCells_at (xs : List Part) : ∀ i, i < xs.length → ∀ j, j < 5 → (xs.flatMap partCells)[i * 5 + j]? = some (partCell (pt xs i) j) := by
  induction xs with
  | nil => intro i hi; simp at hi
  | cons x xs ih =>
    intro i hi j hj
    cases i with
    | zero =>
      rcases (by omega : j = 0 ∨ j = 1 ∨ j = 2 ∨ j = 3 ∨ j = 4) with rfl | rfl | rfl | rfl | rfl <;> rfl
    | succ i =>
      have h := ih i (by simpa using hi) j hj
      have e : (i + 1) * 5 + j = (i * 5 + j) + 5 := by omega
      rw [e]
      simpa [List.flatMap_cons, partCells, pt] using h

theorem infoPart : (Tryd.prog.info? 68).map (fun i => (i.zero.map (·.cells.size), i.size, i.bytes)) = some (some 5, 5, 40) := by kernel_rfl

theorem app_part {ops : Array Oper} {rest : List Oper} {o : Oper} {a : Act} {Q : Exit → Act → World → Prop} {w : World} (hgd : o.guard = none) (s x : Operand)
    (ho : o.op = .call { callee := .builtin .append, args := #[s, x], argTypes := #[62, 62] })
    (base : Nat) (xs : List Part) (y : Part) (v : Value) (B c0 : Nat) (hown : OwnPt base w v xs) (hc : ∀ j, j < 5 → w.cell? ⟨B, j, none⟩ = some (partCell y j)) (hs : a.eval s = v) (hx : a.eval x = .slice (some ⟨B, 0, none⟩) 1 c0)
    (hn : xs.length ≤ 1000) (hbase : base ≤ w.heap.size)
    (h : ∀ v' w', OwnPt base w' v' (xs ++ [y]) → Below base w w' → wpList Tryd.prog ops Q rest (a.put o.dst v') w') :
    wpList Tryd.prog ops Q (o :: rest) a w := by
  obtain ⟨i0, hi, hz0⟩ : ∃ i0, Tryd.prog.info? 68 = some i0 ∧ (i0.zero.map (·.cells.size), i0.size, i0.bytes) = (some 5, 5, 40) := by
    have := infoPart
    cases h : Tryd.prog.info? 68 with
    | none => rw [h] at this; simp at this
    | some i => rw [h] at this; exact ⟨i, rfl, by simpa using this⟩
  simp only [Prod.mk.injEq, Option.map_eq_some_iff] at hz0
  obtain ⟨⟨z, hz, hzs⟩, hsz, hby⟩ := hz0
  refine wpList_append_own _ hgd s x 62 ho base 68 i0 z 5 40 Tryd.underlying62 hi hz hsz hby hzs (by decide) v xs.length (xs.flatMap partCells) hs hown ⟨B, 0, none⟩ 1 c0 (partCells y) hx rfl ?_
    (by intro u hu; simp [partCells] at hu; rcases hu with rfl | rfl | rfl | rfl | rfl <;> rfl) (by unfold maxLen; omega) (by omega) hbase ?_
  · intro j u hj
    have hjl : j < 5 := (List.getElem?_eq_some_iff.1 hj).1
    have h1 := hc j hjl
    rw [addr_add, Nat.zero_add]
    rw [h1]
    rcases (by omega : j = 0 ∨ j = 1 ∨ j = 2 ∨ j = 3 ∨ j = 4) with rfl | rfl | rfl | rfl | rfl <;> (simp [partCells] at hj; subst hj; rfl)
  · intro v' w' hown' hg hnil'
    exact h v' w' (by unfold OwnPt; simpa [List.flatMap_append] using hown') (below_of_own hown hg hbase)

theorem OwnPt.recs {base : Nat} {w : World} {v : Value} {xs : List Part} (h : OwnPt base w v xs) : PartsAt none w v xs := by
  obtain ⟨_, h2⟩ := h
  rcases h2 with ⟨rfl, h0⟩ | ⟨g, cap, cur, rfl, hb, hh, h1, hm, hs, ht⟩
  · exact ⟨none, 0, by rw [h0], fun h => by omega⟩
  · refine ⟨some ⟨g, 0, none⟩, cap, rfl, fun _ => ⟨g, 0, rfl, h1, hm, by simp, (Array.getElem?_eq_some_iff.1 hh).1, fun i hi j hj => ?_⟩⟩
    have hu := partCells_at xs i hi j hj
    rw [← ht, List.getElem?_take, if_pos (by omega), Array.getElem?_toList] at hu
    simp only [World.cell?, hh, Nat.zero_add]
    simpa using hu
theorem OwnPt.later {b : Nat} {w w' : World} {v : Value} {xs : List Part} (h : OwnPt b w v xs) (hb : Below w.heap.size w w') : OwnPt b w' v xs :=
  World.ownsRow.kept h (gb_below hb none) (by cases e : v.ownBlock <;> simp)
theorem OwnPt.go {b d : Nat} {w w' : World} {v : Value} {xs : List Part} (h : OwnPt b w v xs) (hd : d < b) (hg : w.grownBy w' (some d)) : OwnPt b w' v xs := by
  refine World.ownsRow.kept h hg ?_
  cases e : v.ownBlock with
  | none => simp
  | some g => exact .inr (fun e2 => by have := (World.ownsRow.lt h g e).1; have := Option.some.inj e2; omega)
theorem OwnPt.form {b : Nat} {w : World} {v : Value} {xs : List Part} (h : OwnPt b w v xs) : ∃ a c, v = .slice a xs.length c := by obtain ⟨a, c, e, _⟩ := h.recs; exact ⟨a, c, e⟩
theorem OwnPt.put {b Z o : Nat} {w : World} {v u : Value} {xs : List Part} (h : OwnPt b w v xs) (hZ : Z < b) : OwnPt b (w.setCell ⟨Z, o, none⟩ u) v xs := by
  have hg := gb_put w Z o u
  exact h.go hZ hg

/-- the cells of a plot that is being made, and of all that was there ahead of it -/
structure TK (P d : Nat) (c0 c1 c2 c3 : Value) (wP w : World) : Prop where
  un : Un P d wP w
  d : d < P
  cell : w.cell? ⟨P, 0, none⟩ = some c0 ∧ w.cell? ⟨P, 1, none⟩ = some c1 ∧ w.cell? ⟨P, 2, none⟩ = some c2 ∧ w.cell? ⟨P, 3, none⟩ = some c3
  thaw : w.frozen? ⟨P, 3, none⟩ = false

theorem TK.lt {P d : Nat} {c0 c1 c2 c3 : Value} {wP w : World} (k : TK P d c0 c1 c2 c3 wP w) : P < w.heap.size := World.block_lt_of_cell? w ⟨P, 0, none⟩ k.cell.1
theorem TK.go {P d : Nat} {c0 c1 c2 c3 : Value} {wP w w' : World} (k : TK P d c0 c1 c2 c3 wP w) (hg : w.grownBy w' (some d)) : TK P d c0 c1 c2 c3 wP w' := by
  have hne : P ≠ d := Nat.ne_of_gt k.d
  exact ⟨k.un.go hg, k.d, ⟨cell_gb hg hne k.cell.1, cell_gb hg hne k.cell.2.1, cell_gb hg hne k.cell.2.2.1, cell_gb hg hne k.cell.2.2.2⟩, frozen_gb hg k.lt hne k.thaw⟩
theorem TK.later {P d : Nat} {c0 c1 c2 c3 : Value} {wP w w' : World} (k : TK P d c0 c1 c2 c3 wP w) (hb : Below w.heap.size w w') : TK P d c0 c1 c2 c3 wP w' := k.go (gb_below hb _)
theorem TK.base {P d : Nat} {c0 c1 c2 c3 : Value} {wP w w' : World} (k : TK P d c0 c1 c2 c3 wP w) (hb : Below (P + 1) w w') : TK P d c0 c1 c2 c3 wP w' :=
  ⟨k.un.base (hb.mono (by omega)), k.d, ⟨cell_back hb (by omega) k.cell.1, cell_back hb (by omega) k.cell.2.1, cell_back hb (by omega) k.cell.2.2.1, cell_back hb (by omega) k.cell.2.2.2⟩, (hb.frozen (p := ⟨P, 3, none⟩) (by show P < P + 1; omega)).trans k.thaw⟩
theorem TK.put {P d : Nat} {c0 c1 c2 c3 : Value} {wP w : World} (k : TK P d c0 c1 c2 c3 wP w) (u : Value) : TK P d c0 c1 c2 u wP (w.setCell ⟨P, 3, none⟩ u) := by
  have ho : ∀ {o : Nat} {v : Value}, o ≠ 3 → w.cell? ⟨P, o, none⟩ = some v → (w.setCell ⟨P, 3, none⟩ u).cell? ⟨P, o, none⟩ = some v := fun h hv => (World.cell?_setCell_other _ _ _ _ (by intro e; cases e; exact h rfl)).trans hv
  have hg := gb_put w P 3 u
  refine ⟨⟨Nat.le_trans k.un.size hg.size, fun i hi hd => (hg.block i (Nat.lt_of_lt_of_le hi k.un.size) (by intro e; have := Option.some.inj e; omega)).trans (k.un.block i hi hd)⟩, k.d, ⟨ho (by decide) k.cell.1, ho (by decide) k.cell.2.1, ho (by decide) k.cell.2.2.1, World.cell?_setCell_same _ _ _ k.cell.2.2.2⟩, (World.frozen?_setCell _ _ _ _).trans k.thaw⟩
/-- what a statement holds, all of it ahead of a block N, stays when only blocks from N on change -/
theorem LK.baseN {d N : Nat} {cs : Cells} {li : List (Value × List Int)} {lw : List (Value × List Wing)} {w0 w w' : World} (k : LK d cs li lw w0 w) (hb : Below N w w') (hd : d < N) (h0 : w0.heap.size ≤ N) (hc : ∀ b o v, (b, o, v) ∈ cs → b < N)
    (hi : ∀ v xs, (v, xs) ∈ li → ∀ b, v.ownBlock = some b → b < N) (hw : ∀ v ws, (v, ws) ∈ lw → ∀ b, v.ownBlock = some b → b < N) : LK d cs li lw w0 w' := by
  refine ⟨k.below.trans (hb.mono h0), k.d0, ?_, fun b o v h => ⟨(k.cell b o v h).1, (k.cell b o v h).2.1, cell_back hb (hc b o v h) (k.c h), (hb.frozen (p := ⟨b, o, none⟩) (hc b o v h)).trans (k.f h)⟩, fun v xs h => ⟨?_, (k.ints v xs h).2⟩, fun v ws h => ⟨?_, (k.wgs v ws h).2⟩⟩
  · obtain ⟨u, h1, h2⟩ := k.beat
    exact ⟨u, cell_back hb hd h1, (hb.frozen (p := ⟨d, 0, none⟩) hd).trans h2⟩
  · have hk := k.i h
    have hbl := hi v xs h
    obtain ⟨a, cap, rfl, hh⟩ := hk
    refine ⟨a, cap, rfl, fun h0 => ?_⟩
    obtain ⟨b, off, rfl, q1, q2, q3, q4, q5⟩ := hh h0
    have hbN : b < N := hbl b rfl
    exact ⟨b, off, rfl, q1, q2, q3, Nat.lt_of_lt_of_le q4 hb.size, fun i hi => cell_back hb hbN (q5 i hi)⟩
  · have hk := k.g h
    have hbl := hw v ws h
    obtain ⟨a, cap, rfl, hh⟩ := hk
    refine ⟨a, cap, rfl, fun h0 => ?_⟩
    obtain ⟨b, off, rfl, q1, q2, q3, q4, q5⟩ := hh h0
    have hbN : b < N := hbl b rfl
    exact ⟨b, off, rfl, q1, q2, q3, Nat.lt_of_lt_of_le q4 hb.size, fun i hi => ⟨cell_back hb hbN (q5 i hi).1, cell_back hb hbN (q5 i hi).2.1, cell_back hb hbN (q5 i hi).2.2.1, cell_back hb hbN (q5 i hi).2.2.2⟩⟩

section
variable {D P : Nat} {v0 v1 v2 vq : Value} {wP w : World} {cs : Cells} {li : List (Value × List Int)} {lw : List (Value × List Wing)} {qs : List Part}

/-- all that the law holds while it makes a part -/
structure QA (D P : Nat) (v0 v1 v2 vq : Value) (wP w : World) (cs : Cells) (li : List (Value × List Int)) (lw : List (Value × List Wing)) (qs : List Part) (w' : World) : Prop where
  lk : LK D cs li lw w w'
  own : OwnPt (P + 1) w' vq qs
  tk : TK P D v0 v1 v2 vq wP w'
theorem QA.go {a b : World} (k : QA D P v0 v1 v2 vq wP w cs li lw qs a) (hg : a.grownBy b (some D)) (hb : Beat D b) : QA D P v0 v1 v2 vq wP w cs li lw qs b :=
  ⟨k.lk.go hg hb, k.own.go (Nat.lt_succ_of_lt k.tk.d) hg, k.tk.go hg⟩
theorem QA.later {a b : World} (k : QA D P v0 v1 v2 vq wP w cs li lw qs a) (hb : Below a.heap.size a b) : QA D P v0 v1 v2 vq wP w cs li lw qs b := ⟨k.lk.later hb, k.own.later hb, k.tk.later hb⟩

def five (x0 x1 x2 x3 x4 : Value) (j : Nat) : Value := if j = 0 then x0 else if j = 1 then x1 else if j = 2 then x2 else if j = 3 then x3 else x4
/-- and a block that is new, of five cells -/
structure QB (Z : Nat) (f : Nat → Value) (D P : Nat) (v0 v1 v2 vq : Value) (wP w : World) (cs : Cells) (li : List (Value × List Int)) (lw : List (Value × List Wing)) (qs : List Part) (w' : World) : Prop where
  qa : QA D P v0 v1 v2 vq wP w cs li lw qs w'
  cell : ∀ j, j < 5 → w'.cell? ⟨Z, j, none⟩ = some (f j) ∧ w'.frozen? ⟨Z, j, none⟩ = false
  n1 : Z ≠ D
  n2 : w.heap.size ≤ Z
  n3 : ∀ b o v, (b, o, v) ∈ cs → b ≠ Z
  n4 : ∀ v xs, (v, xs) ∈ li → 0 < xs.length → v.ownBlock ≠ some Z
  n5 : ∀ v xs, (v, xs) ∈ lw → 0 < xs.length → v.ownBlock ≠ some Z
  n6 : vq.ownBlock ≠ some Z
  n7 : P < Z
theorem QA.box5 {a : World} (k : QA D P v0 v1 v2 vq wP w cs li lw qs a) (x0 x1 x2 x3 x4 : Value) (t : TypeId) : QB a.heap.size (five x0 x1 x2 x3 x4) D P v0 v1 v2 vq wP w cs li lw qs (a.alloc (.cells #[x0, x1, x2, x3, x4] t)) := by
  obtain ⟨h1, h2, h3, h4, h5⟩ := k.lk.fresh (Nat.le_refl _)
  refine ⟨k.later (below_alloc _ _), fun j hj => ?_, h1, h2, h3, h4, h5, fun e => ?_, k.tk.lt⟩
  · rcases (by omega : j = 0 ∨ j = 1 ∨ j = 2 ∨ j = 3 ∨ j = 4) with rfl | rfl | rfl | rfl | rfl <;> exact ⟨cell_at rfl rfl, frozen_at rfl⟩
  · have := (World.ownsRow.lt k.own _ e).2; omega
theorem QB.go {Z : Nat} {f : Nat → Value} {a b : World} (k : QB Z f D P v0 v1 v2 vq wP w cs li lw qs a) (hg : a.grownBy b (some D)) (hb : Beat D b) : QB Z f D P v0 v1 v2 vq wP w cs li lw qs b := by
  refine ⟨k.qa.go hg hb, fun j hj => ?_, k.n1, k.n2, k.n3, k.n4, k.n5, k.n6, k.n7⟩
  have hc := (k.cell j hj).1
  exact ⟨cell_gb hg k.n1 hc, frozen_gb hg (World.block_lt_of_cell? a ⟨Z, j, none⟩ hc) k.n1 (k.cell j hj).2⟩
theorem QB.drew {Z : Nat} {f : Nat → Value} {a : World} (k : QB Z f D P v0 v1 v2 vq wP w cs li lw qs a) : QB Z f D P v0 v1 v2 vq wP w cs li lw qs a.drew :=
  ⟨k.qa.later (Below.refl _ _).drew, k.cell, k.n1, k.n2, k.n3, k.n4, k.n5, k.n6, k.n7⟩
theorem QB.put1 {Z o : Nat} {f g : Nat → Value} {a : World} (k : QB Z f D P v0 v1 v2 vq wP w cs li lw qs a) (u : Value) (ho : o < 5) (hg : ∀ j, j < 5 → g j = if j = o then u else f j) : QB Z g D P v0 v1 v2 vq wP w cs li lw qs (a.setCell ⟨Z, o, none⟩ u) := by
  refine ⟨⟨k.qa.lk.store1 u k.n1 k.n2 k.n3 k.n4 k.n5, ?_, ?_⟩, fun j hj => ?_, k.n1, k.n2, k.n3, k.n4, k.n5, k.n6, k.n7⟩
  · exact World.ownsRow.kept k.qa.own (gb_put a Z o u) (by cases e : vq.ownBlock with | none => simp | some b => exact .inr (fun e2 => k.n6 (by rw [e, e2])))
  · exact k.qa.tk.base ((Below.refl _ _).setCell (p := ⟨Z, o, none⟩) k.n7 u)
  · rw [hg j hj]
    refine ⟨?_, (World.frozen?_setCell _ _ _ _).trans (k.cell j hj).2⟩
    by_cases e : j = o
    · subst e; rw [if_pos rfl]; exact World.cell?_setCell_same _ _ _ (k.cell j hj).1
    · rw [if_neg e]; exact (World.cell?_setCell_other _ _ _ _ (by intro e2; cases e2; exact e rfl)).trans (k.cell j hj).1
theorem QB.put5 {Z : Nat} {x0 x1 x2 x3 x4 : Value} {a : World} (k : QB Z (five x0 x1 x2 x3 x4) D P v0 v1 v2 vq wP w cs li lw qs a) (y0 y1 y2 y3 y4 : Value) :
    QB Z (five y0 y1 y2 y3 y4) D P v0 v1 v2 vq wP w cs li lw qs (((((a.setCell ⟨Z, 0, none⟩ y0).setCell ⟨Z, 1, none⟩ y1).setCell ⟨Z, 2, none⟩ y2).setCell ⟨Z, 3, none⟩ y3).setCell ⟨Z, 4, none⟩ y4) := by
  have k0 := k.put1 (o := 0) (g := five y0 x1 x2 x3 x4) y0 (by decide) (fun j hj => by rcases (by omega : j = 0 ∨ j = 1 ∨ j = 2 ∨ j = 3 ∨ j = 4) with rfl | rfl | rfl | rfl | rfl <;> rfl)
  have k1 := k0.put1 (o := 1) (g := five y0 y1 x2 x3 x4) y1 (by decide) (fun j hj => by rcases (by omega : j = 0 ∨ j = 1 ∨ j = 2 ∨ j = 3 ∨ j = 4) with rfl | rfl | rfl | rfl | rfl <;> rfl)
  have k2 := k1.put1 (o := 2) (g := five y0 y1 y2 x3 x4) y2 (by decide) (fun j hj => by rcases (by omega : j = 0 ∨ j = 1 ∨ j = 2 ∨ j = 3 ∨ j = 4) with rfl | rfl | rfl | rfl | rfl <;> rfl)
  have k3 := k2.put1 (o := 3) (g := five y0 y1 y2 y3 x4) y3 (by decide) (fun j hj => by rcases (by omega : j = 0 ∨ j = 1 ∨ j = 2 ∨ j = 3 ∨ j = 4) with rfl | rfl | rfl | rfl | rfl <;> rfl)
  have k4 := k3.put1 (o := 4) (g := five y0 y1 y2 y3 y4) y4 (by decide) (fun j hj => by rcases (by omega : j = 0 ∨ j = 1 ∨ j = 2 ∨ j = 3 ∨ j = 4) with rfl | rfl | rfl | rfl | rfl <;> rfl)
  exact k4
end

theorem pt_snoc_old {qs : List Part} {y : Part} {j : Nat} (h : j < qs.length) : pt (qs ++ [y]) j = pt qs j := by
  unfold pt
  rw [List.getD_eq_getElem?_getD, List.getD_eq_getElem?_getD, List.getElem?_append_left h]
theorem pt_snoc_new {qs : List Part} {y : Part} : pt (qs ++ [y]) qs.length = y := by
  unfold pt
  rw [List.getD_eq_getElem?_getD, List.getElem?_append_right (Nat.le_refl _)]
  simp
theorem LK.putP {D P : Nat} {cs : Cells} {li : List (Value × List Int)} {lw : List (Value × List Wing)} {w0 w : World} (k : LK D cs li lw w0 w) (u : Value) (o : Nat) (hd : D < P) (h0 : w0.heap.size ≤ P) (hc : ∀ b o v, (b, o, v) ∈ cs → b < P)
    (hi : ∀ v xs, (v, xs) ∈ li → ∀ b, v.ownBlock = some b → b < P) (hw : ∀ v ws, (v, ws) ∈ lw → ∀ b, v.ownBlock = some b → b < P) : LK D cs li lw w0 (w.setCell ⟨P, o, none⟩ u) :=
  k.store1 u (Nat.ne_of_gt hd) h0 (fun b o v h => Nat.ne_of_lt (hc b o v h)) (fun v xs h _ e => absurd (hi v xs h P e) (Nat.lt_irrefl _)) (fun v ws h _ e => absurd (hw v ws h P e) (Nat.lt_irrefl _))
end Go.Proofs.YtgfipifgijohhaaDoor
