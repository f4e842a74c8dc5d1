/-
  PLAIN: the widest gap of a wing, of all wings, and which wings open. No program in sight.
  WALKS: the reference's ahead, Apart.
  WALKS: the reference's Watched.
  WALKS: the reference's widest.
  WALKS: sort.Search at the function that peak hands it.
  WALKS: the program's peak, widest.
  WALKS: the program's widest.
  LISTS OF WIDEST GAPS in memory; WALKS: the program's best, widestOf.
  WALKS: the program's Widest, Opens.
  WALKS: the reference's opens, most, Widest.
  WALKS: the reference's Opens.
  WALKS: the reference's Gap.
-/
import Derived.Test.YtgfipifgijohhaaDoorPGb
import Derived.Test.YtgfipifgijohhaaDoorPLs
import Derived.Test.YtgfipifgijohhaaDoorRLa
import Derived.Test.YtgfipifgijohhaaDoorRLb
import Derived.Test.YtgfipifgijohhaaDoorPBt
import Derived.Test.YtgfipifgijohhaaDoorApp
import Derived.Laws.OwnMore
import Derived.Test.YtgfipifgijohhaaDoorRWp
namespace Go.Proofs.YtgfipifgijohhaaDoor

/-- the second in which wing m+1 is watched no more -/
def endW (route : Int) (ws : List Wing) (st : List Int) (m : Nat) : Int := passed (Ln ws) (nm st) (Hi ws) m (route + Ln ws m)
/-- the first second of the widest gap of wing m+1, for an end of the paces before it -/
def peakAt (route : Int) (ws : List Wing) (st : List Int) (e : Int) (m : Nat) : Int := top (gapAt ws st e m) (endW route ws st m - 1 - nm st (m + 1)).toNat (nm st (m + 1))
/-- that second and that gap; -1 and 0 if there is none -/
def wideAt (route : Int) (ws : List Wing) (st : List Int) (e : Int) (m : Nat) : Int × Int :=
  if endW route ws st m ≤ nm st (m + 1) then (-1, 0) else if 0 < gapAt ws st e m (peakAt route ws st e m) then (peakAt route ws st e m, gapAt ws st e m (peakAt route ws st e m)) else (-1, 0)
/-- what the program takes instead: below 0 where there is none -/
def wideRaw (route : Int) (ws : List Wing) (st : List Int) (e : Int) (m : Nat) : Int × Int × Int :=
  if endW route ws st m ≤ nm st (m + 1) then (-1, -1, 0) else ((m : Int) + 1, peakAt route ws st e m, gapAt ws st e m (peakAt route ws st e m))

theorem wideAt_nonneg {route : Int} {ws : List Wing} {st : List Int} {e : Int} {m : Nat} : 0 ≤ (wideAt route ws st e m).2 := by
  unfold wideAt
  split
  · exact Int.le_refl _
  · split
    · rename_i h; simp only; omega
    · exact Int.le_refl _

/-- a gap that is wider than one that is not below 0 -/
theorem wide_gt {route : Int} {ws : List Wing} {st : List Int} {e : Int} {m : Nat} {g : Int} (hg : 0 ≤ g) : (g < (wideRaw route ws st e m).2.2) = (g < (wideAt route ws st e m).2) := by
  unfold wideRaw wideAt
  split
  · rfl
  · split
    · rfl
    · rename_i h
      simp only
      exact propext ⟨fun h' => by omega, fun h' => by omega⟩
theorem wide_eq {route : Int} {ws : List Wing} {st : List Int} {e : Int} {m : Nat} {g : Int} (hg : 0 ≤ g) (h : g < (wideAt route ws st e m).2) : wideRaw route ws st e m = ((m : Int) + 1, (wideAt route ws st e m).1, (wideAt route ws st e m).2) := by
  unfold wideRaw wideAt at *
  split at h
  · simp only at h; omega
  · rename_i h1
    split at h
    · rename_i h2
      rw [if_neg h1, if_neg h1, if_pos h2]
    · simp only at h; omega

/-- the widest gap of the first k wings behind the first one: its wing, its second, itself -/
def mostN (route : Int) (ws : List Wing) (st : List Int) : Nat → Int × Int × Int
  | 0 => (-1, -1, 0)
  | k + 1 => if (mostN route ws st k).2.2 < (wideAt route ws st 1 k).2 then ((k : Int) + 1, (wideAt route ws st 1 k).1, (wideAt route ws st 1 k).2) else mostN route ws st k

theorem mostN_nonneg (route : Int) (ws : List Wing) (st : List Int) (k : Nat) : 0 ≤ (mostN route ws st k).2.2 := by
  induction k with
  | zero => exact Int.le_refl _
  | succ k ih =>
    simp only [mostN]
    split
    · exact wideAt_nonneg
    · exact ih

/-- the same, as the program takes it -/
theorem mostN_raw (route : Int) (ws : List Wing) (st : List Int) (k : Nat) :
    mostN route ws st (k + 1) = if (mostN route ws st k).2.2 < (wideRaw route ws st 1 k).2.2 then wideRaw route ws st 1 k else mostN route ws st k := by
  have h0 := mostN_nonneg route ws st k
  have h1 := wide_gt (route := route) (ws := ws) (st := st) (e := 1) (m := k) h0
  by_cases h : (mostN route ws st k).2.2 < (wideAt route ws st 1 k).2
  · rw [if_pos (h1 ▸ h), wide_eq h0 h]
    simp only [mostN]
    rw [if_pos h]
  · rw [if_neg (h1 ▸ h)]
    simp only [mostN]
    rw [if_neg h]

/-- what Opens says of wing m+1 -/
def openAt (route : Int) (ws : List Wing) (st : List Int) (g : Int) (m : Nat) : Int :=
  if g < (wideAt route ws st 0 m).2 then 1 else if g < (wideAt route ws st 1 m).2 then 3 else 2
/-- what it says of the first k + 1 wings -/
def opensN (route : Int) (ws : List Wing) (st : List Int) (g : Int) : Nat → List Int
  | 0 => [2]
  | k + 1 => opensN route ws st g k ++ [openAt route ws st g k]
theorem opensN_length (route : Int) (ws : List Wing) (st : List Int) (g : Int) (k : Nat) : (opensN route ws st g k).length = k + 1 := by
  induction k with
  | zero => rfl
  | succ k ih => simp [opensN, ih]

/-- what Widest and Opens answer -/
def widestRes (route : Int) (ws : List Wing) (st : List Int) : Int × Int × Int × Int :=
  if checkStarts route ws st = 0 then ((mostN route ws st (ws.length - 1)).1, (mostN route ws st (ws.length - 1)).2.1, (mostN route ws st (ws.length - 1)).2.2, 0) else (0, 0, 0, checkStarts route ws st)
def opensRes (route : Int) (ws : List Wing) (st : List Int) (a b c : Int) : List Int × Int :=
  if bothErr route ws st a b c = 0 then (opensN route ws st c (ws.length - 1), 0) else ([], bothErr route ws st a b c)

/-- what is known of the numbers when the starts are valid -/
theorem peak_in {route : Int} {ws : List Wing} {st : List Int} {e : Int} {m : Nat} (h : nm st (m + 1) < endW route ws st m) :
    nm st (m + 1) ≤ peakAt route ws st e m ∧ peakAt route ws st e m < endW route ws st m := by
  have := top_ge (gapAt ws st e m) (endW route ws st m - 1 - nm st (m + 1)).toNat (nm st (m + 1))
  unfold peakAt
  omega

/-- once a gap does not grow, it does not grow again -/
theorem gap_once {ws : List Wing} {st : List Int} {e : Int} {m : Nat} (t : Int) (h : gapAt ws st e m (t + 1) ≤ gapAt ws st e m t) (n : Nat) : gapAt ws st e m (t + n + 1) ≤ gapAt ws st e m (t + n) := rest_once h n
theorem top_lt_iff (f : Int → Int) (honce : ∀ t, f (t + 1) ≤ f t → ∀ n : Nat, f (t + n + 1) ≤ f (t + n)) (n : Nat) (low mid : Int) (h1 : low ≤ mid) (h2 : mid < low + n) : f mid < f (mid + 1) ↔ mid < top f n low := by
  have ha := top_ge f n low
  constructor
  · intro h
    by_cases hc : mid < top f n low
    · exact hc
    · have h3 := top_stops f n low (by omega)
      have h4 := honce _ h3 (mid - top f n low).toNat
      have e : top f n low + ((mid - top f n low).toNat : Int) = mid := by omega
      rw [e] at h4
      omega
  · exact top_grows f n low mid h1

end Go.Proofs.YtgfipifgijohhaaDoor

namespace Go.Proofs.YtgfipifgijohhaaDoor
open Go.RowKit

set_option linter.unusedSimpArgs false in
set_option linter.unusedVariables false in
set_option maxHeartbeats 2000000 in
set_option maxRecDepth 100000 in
theorem rahead_any (ws : List Wing) (st ps : List Int) (m : Nat) (own t route : Int) (vw vs vp : Value) (w : World) (hW : WgAt none w vw ws) (hS : IntsAt none w vs st) (hP : IntsAt none w vp ps)
    (hs : Sane ws st ps m) (hmw : m + 1 < ws.length) (hms : m + 1 < st.length) (hst : 0 ≤ nm st (m + 1) ∧ nm st (m + 1) ≤ 1000000) (ho : 0 ≤ own) (ho2 : own ≤ 10000) (ht : -10000000 ≤ t) (ht2 : t ≤ 10000000) :
    Calls Tryd.prog 150 #[.agg #[.int .i64 route, vw], vs, vp, .int .i64 ((m : Int) + 1), .int .i64 own, .int .i64 t] w
     fun e w' => e = .returned (.int .i64 (rest (Ln ws) (nm st) (nm ps) m own t)) ∧ Below w.heap.size w w' := by
  have hW2 := hid hW
  have hS2 := hid hS
  have hP2 := hid hP
  have hn := hs.n
  obtain ⟨bw, ow, cap, rfl, _, _⟩ := hW.slice (by omega)
  obtain ⟨bs, os, caps, rfl, _, _⟩ := hS.slice (by omega)
  have Lc := hid (hW.cells (i := m) (by omega)).2.1
  have Sc := hid (hS.cell (i := m + 1) hms)
  have hbw : bw < w.heap.size := World.block_lt_of_cell? w ⟨bw, _, none⟩ Lc.out
  have hbs : bs < w.heap.size := World.block_lt_of_cell? w ⟨bs, _, none⟩ Sc.out
  have hF := front_bound hs ht ht2 m (Nat.le_refl _)
  have gl : 0 ≤ (wg ws m).len ∧ (wg ws m).len ≤ 100000 := hs.len m (Nat.le_refl _)
  have i1 : ((m : Int) + 1) < (ws.length : Int) := by omega
  have i2 : ((m : Int) + 1) < (st.length : Int) := by omega
  have i3 : (m : Int) < (ws.length : Int) := by omega
  have i4 : (0 : Int) ≤ (m : Int) + 1 := by omega
  have hw1 : IntKind.i64.wrap (m : Int) = (m : Int) := IntWalk.i64_in _ (by omega)
  have hts : IntKind.i64.wrap (t - nm st (m + 1)) = t - nm st (m + 1) := IntWalk.i64_in _ (by omega)
  have hm := mul_bound (p := own) (q := t - nm st (m + 1)) (by omega) (by omega) (by omega) (by omega)
  have hcl : ∀ vw' W', WgAt none W' vw' ws → IntsAt none W' (.slice (some ⟨bs, os, none⟩) st.length caps) st → IntsAt none W' vp ps → Calls Tryd.prog 58 #[.agg #[.int .i64 route, vw'], .slice (some ⟨bs, os, none⟩) st.length caps, vp, .int .i64 (m : Int), .int .i64 t] W'
     fun e' w' => e' = .returned (.int .i64 (front (Ln ws) (nm st) (nm ps) m t)) ∧ Below W'.heap.size W' w' := fun vw' W' h1 h2 h3 => by
    have h := front_any ws st ps (m : Int) t route vw' _ vp none W' h1 h2 h3 (by omega) (by rw [Int.toNat_natCast]; exact hs) ht ht2
    rw [Int.toNat_natCast] at h
    exact h
  unfold rest
  have e0 : Ln ws m = (wg ws m).len := rfl
  rw [e0]
  generalize front (Ln ws) (nm st) (nm ps) m t = F at *
  have z3 : IntKind.i64.wrap (own * (t - nm st (m + 1))) = own * (t - nm st (m + 1)) := IntWalk.i64_in _ (by omega)
  have z1 : IntKind.i64.wrap (F - (wg ws m).len) = F - (wg ws m).len := IntWalk.i64_in _ (by omega)
  have z4 : IntKind.i64.wrap (F - (wg ws m).len - own * (t - nm st (m + 1))) = F - (wg ws m).len - own * (t - nm st (m + 1)) := IntWalk.i64_in _ (by omega)
  have Hcl := hid hcl
  have K := hid ((HK.start w).box2 (.int .i64 route) (.slice (some ⟨bw, ow, none⟩) ws.length cap) 24).drew
  clear hcl hW hS hP hs hm hF
  go_enter Tryd.func150, Tryd.ntmps150
  go_wp2
  go_region_held3 (fun w' => w'.cell? ⟨w.heap.size, 0, none⟩ = some (.int .i64 route) ∧ w'.cell? ⟨w.heap.size, 1, none⟩ = some (.slice (some ⟨bw, ow, none⟩) ws.length cap) ∧ w'.cell? ⟨bw, ow + m * 4 + 1, none⟩ = some (.int .i64 (wg ws m).len) ∧ w'.cell? ⟨bs, os + (m + 1), none⟩ = some (.int .i64 (nm st (m + 1))))
    (first | exact ⟨K.out.c (by simp), K.out.c (by simp), cell_back K.out.below hbw Lc.out, cell_back K.out.below hbs Sc.out⟩) (first
    | (go_at_call 58; refine (Hcl.out _ _ (hW2.out.below K.out.below) (hS2.out.below K.out.below) (hP2.out.below K.out.below)).mono ?_; rintro e w1 ⟨rfl, hb1⟩; have K := hid (K.out.later hb1)))
  go_wp2
  go_ret
  exact ⟨rfl, K.out.below⟩

set_option linter.unusedSimpArgs false in
set_option linter.unusedVariables false in
set_option maxHeartbeats 2000000 in
set_option maxRecDepth 100000 in
theorem rapart_any (ws : List Wing) (st ps : List Int) (m : Nat) (own t route : Int) (vw vs vp : Value) (w : World) (hW : WgAt none w vw ws) (hS : IntsAt none w vs st) (hP : IntsAt none w vp ps)
    (hs : Sane ws st ps m) (hmw : m + 1 < ws.length) (hms : m + 1 < st.length) (hst : 0 ≤ nm st (m + 1) ∧ nm st (m + 1) ≤ 1000000) (ho : 0 ≤ own) (ho2 : own ≤ 10000) (ht : -10000000 ≤ t) (ht2 : t ≤ 10000000) :
    Calls Tryd.prog 105 #[.agg #[.int .i64 route, vw], vs, vp, .int .i64 ((m : Int) + 1), .int .i64 own, .int .i64 t] w
     fun e w' => e = .returned (.int .i64 (max 0 (rest (Ln ws) (nm st) (nm ps) m own t))) ∧ Below w.heap.size w w' := by
  have hW2 := hid hW
  have hS2 := hid hS
  have hP2 := hid hP
  have hn := hs.n
  obtain ⟨bw, ow, cap, rfl, _, _⟩ := hW.slice (by omega)
  obtain ⟨bs, os, caps, rfl, _, _⟩ := hS.slice (by omega)
  have Lc := hid (hW.cells (i := m) (by omega)).2.1
  have Sc := hid (hS.cell (i := m + 1) hms)
  have hbw : bw < w.heap.size := World.block_lt_of_cell? w ⟨bw, _, none⟩ Lc.out
  have hbs : bs < w.heap.size := World.block_lt_of_cell? w ⟨bs, _, none⟩ Sc.out
  have hF := front_bound hs ht ht2 m (Nat.le_refl _)
  have gl : 0 ≤ (wg ws m).len ∧ (wg ws m).len ≤ 100000 := hs.len m (Nat.le_refl _)
  have i1 : ((m : Int) + 1) < (ws.length : Int) := by omega
  have i2 : ((m : Int) + 1) < (st.length : Int) := by omega
  have i3 : (m : Int) < (ws.length : Int) := by omega
  have i4 : (0 : Int) ≤ (m : Int) + 1 := by omega
  have hw1 : IntKind.i64.wrap (m : Int) = (m : Int) := IntWalk.i64_in _ (by omega)
  have hts : IntKind.i64.wrap (t - nm st (m + 1)) = t - nm st (m + 1) := IntWalk.i64_in _ (by omega)
  have hm := mul_bound (p := own) (q := t - nm st (m + 1)) (by omega) (by omega) (by omega) (by omega)
  have hcl : ∀ vw' W', WgAt none W' vw' ws → IntsAt none W' (.slice (some ⟨bs, os, none⟩) st.length caps) st → IntsAt none W' vp ps → Calls Tryd.prog 58 #[.agg #[.int .i64 route, vw'], .slice (some ⟨bs, os, none⟩) st.length caps, vp, .int .i64 (m : Int), .int .i64 t] W'
     fun e' w' => e' = .returned (.int .i64 (front (Ln ws) (nm st) (nm ps) m t)) ∧ Below W'.heap.size W' w' := fun vw' W' h1 h2 h3 => by
    have h := front_any ws st ps (m : Int) t route vw' _ vp none W' h1 h2 h3 (by omega) (by rw [Int.toNat_natCast]; exact hs) ht ht2
    rw [Int.toNat_natCast] at h
    exact h
  unfold rest
  have e0 : Ln ws m = (wg ws m).len := rfl
  rw [e0]
  generalize front (Ln ws) (nm st) (nm ps) m t = F at *
  have z3 : IntKind.i64.wrap (own * (t - nm st (m + 1))) = own * (t - nm st (m + 1)) := IntWalk.i64_in _ (by omega)
  have z1 : IntKind.i64.wrap (F - (wg ws m).len) = F - (wg ws m).len := IntWalk.i64_in _ (by omega)
  have z4 : IntKind.i64.wrap (F - (wg ws m).len - own * (t - nm st (m + 1))) = F - (wg ws m).len - own * (t - nm st (m + 1)) := IntWalk.i64_in _ (by omega)
  have Hcl := hid hcl
  have K := hid ((HK.start w).box2 (.int .i64 route) (.slice (some ⟨bw, ow, none⟩) ws.length cap) 24).drew
  clear hcl hW hS hP hs hm hF
  go_enter Tryd.func105, Tryd.ntmps105
  go_wp2
  go_region_held3 (fun w' => w'.cell? ⟨w.heap.size, 0, none⟩ = some (.int .i64 route) ∧ w'.cell? ⟨w.heap.size, 1, none⟩ = some (.slice (some ⟨bw, ow, none⟩) ws.length cap) ∧ w'.cell? ⟨bw, ow + m * 4 + 1, none⟩ = some (.int .i64 (wg ws m).len))
    (first | exact ⟨K.out.c (by simp), K.out.c (by simp), cell_back K.out.below hbw Lc.out⟩) (first
    | (go_at_call 58; refine (Hcl.out _ _ (hW2.out.below K.out.below) (hS2.out.below K.out.below) (hP2.out.below K.out.below)).mono ?_; rintro e w1 ⟨rfl, hb1⟩; have K := hid (K.out.later hb1)))
  have s1 := cell_back K.out.below hbs Sc.out
  go_wp2
  go_ret
  exact ⟨rfl, K.out.below⟩
end Go.Proofs.YtgfipifgijohhaaDoor

namespace Go.Proofs.YtgfipifgijohhaaDoor
open Go.RowKit

set_option linter.unusedSimpArgs false in
set_option linter.unusedVariables false in
set_option maxHeartbeats 4000000 in
set_option maxRecDepth 100000 in
theorem rwatched_any (ws : List Wing) (st : List Int) (m : Nat) (route : Int) (vw vs : Value) (w : World) (hW : WgAt none w vw ws) (hS : IntsAt none w vs st) (hc : checkStarts route ws st = 0) (hmw : m + 1 < ws.length) :
    Calls Tryd.prog 57 #[.agg #[.int .i64 route, vw], vs, .int .i64 ((m : Int) + 1)] w
     fun e w' => e = .returned (.tuple #[.int .i64 (nm st (m + 1)), .int .i64 (endW route ws st m)]) ∧ Below w.heap.size w w' := by
  have hW2 := hid hW
  have hS2 := hid hS
  obtain ⟨q1, q2, q3⟩ := starts_zero hc
  obtain ⟨r1, r2, r3, r4, _⟩ := check_zero q1
  have hms : m + 1 < st.length := by omega
  obtain ⟨bw, ow, cap, rfl, _, _⟩ := hW.slice r3
  obtain ⟨bs, os, caps, rfl, _, _⟩ := hS.slice (by omega)
  have hsm := Small.of_check q1
  have SF := hid (hsm.fast (st := st) (k := m) (by omega) (by omega) (fun i hi => q3.bound i (by omega)))
  have hn : ws.length ≤ 100 := by omega
  have Lc := hid (hW.cells (i := m) (by omega)).2.1
  have Sc := hid (hS.cell (i := m + 1) hms)
  have hbw : bw < w.heap.size := World.block_lt_of_cell? w ⟨bw, _, none⟩ Lc.out
  have hbs : bs < w.heap.size := World.block_lt_of_cell? w ⟨bs, _, none⟩ Sc.out
  have gl : 0 ≤ (wg ws m).len ∧ (wg ws m).len ≤ 100000 := hsm.len m (by omega)
  have i1 : ((m : Int) + 1) < (ws.length : Int) := by omega
  have i2 : ((m : Int) + 1) < (st.length : Int) := by omega
  have i3 : (m : Int) < (ws.length : Int) := by omega
  have i4 : (0 : Int) ≤ (m : Int) + 1 := by omega
  have hw1 : IntKind.i64.wrap (m : Int) = (m : Int) := IntWalk.i64_in _ (by omega)
  have z1 : IntKind.i64.wrap (route + (wg ws m).len) = route + (wg ws m).len := IntWalk.i64_in _ (by omega)
  have hcl : ∀ vw' vp W', WgAt none W' vw' ws → IntsAt none W' (.slice (some ⟨bs, os, none⟩) st.length caps) st → IntsAt none W' vp (ws.map Wing.hi) → Calls Tryd.prog 44 #[.agg #[.int .i64 route, vw'], .slice (some ⟨bs, os, none⟩) st.length caps, vp, .int .i64 (m : Int), .int .i64 (route + (wg ws m).len)] W'
     fun e' w' => e' = .returned (.int .i64 (endW route ws st m)) ∧ Below W'.heap.size W' w' := fun vw' vp W' h1 h2 h3 => by
    have h := passed_any ws st (ws.map Wing.hi) (m : Int) (route + (wg ws m).len) route vw' _ vp none W' h1 h2 h3 (by omega) (by rw [Int.toNat_natCast]; exact SF.out) (by omega) (by omega)
    rw [Int.toNat_natCast, nm_hi] at h
    exact h
  have Hcl := hid hcl
  have K := hid ((HK.start w).box2 (.int .i64 route) (.slice (some ⟨bw, ow, none⟩) ws.length cap) 24).drew
  clear hcl hW hS hc q1 q2 q3 hsm
  go_enter Tryd.func57, Tryd.ntmps57
  go_wp2
  go_region_held3 (fun w' => w'.cell? ⟨w.heap.size, 0, none⟩ = some (.int .i64 route) ∧ w'.cell? ⟨w.heap.size, 1, none⟩ = some (.slice (some ⟨bw, ow, none⟩) ws.length cap) ∧ w'.cell? ⟨bw, ow + m * 4 + 1, none⟩ = some (.int .i64 (wg ws m).len) ∧ w'.cell? ⟨bs, os + (m + 1), none⟩ = some (.int .i64 (nm st (m + 1))))
    (first | exact ⟨K.out.c (by simp), K.out.c (by simp), cell_back K.out.below hbw Lc.out, cell_back K.out.below hbs Sc.out⟩) (first
    | (go_at_call 51; refine (fast_any ws route _ none _ (hW2.out.below K.out.below) hn).mono ?_; rintro e w1 ⟨vf, rfl, hof, hb1⟩; have F := hid (hof.at (d := none) (by simp)); have K := hid (K.out.later hb1); clear hof hb1)
    | (go_at_call 44; refine (Hcl.out _ _ _ (hW2.out.below K.out.below) (hS2.out.below K.out.below) F.out).mono ?_; rintro e w1 ⟨rfl, hb1⟩; have K := hid (K.out.later hb1); clear hb1))
  all_goals (
    go_wp2
    refine bodyPost_ret (v := .tuple #[.int .i64 (nm st (m + 1)), .int .i64 (endW route ws st m)]) (by simp [results, Tryd.results57, go_sem]) rfl ⟨rfl, K.out.below⟩)
end Go.Proofs.YtgfipifgijohhaaDoor

namespace Go.Proofs.YtgfipifgijohhaaDoor
open Go.RowKit

set_option linter.unusedSimpArgs false in
set_option linter.unusedVariables false in
set_option maxHeartbeats 8000000 in
set_option maxRecDepth 100000 in
theorem rwidest_any (ws : List Wing) (st ps : List Int) (m : Nat) (own e route : Int) (vw vs vp : Value) (w : World) (hW : WgAt none w vw ws) (hS : IntsAt none w vs st) (hP : IntsAt none w vp ps) (hc : checkStarts route ws st = 0) (hmw : m + 1 < ws.length)
    (hs : Sane ws st ps m) (ho : 0 ≤ own) (ho2 : own ≤ 10000) (hE : ∀ t, rest (Ln ws) (nm st) (nm ps) m own t = gapAt ws st e m t) :
    Calls Tryd.prog 137 #[.agg #[.int .i64 route, vw], vs, vp, .int .i64 ((m : Int) + 1), .int .i64 own] w
     fun e' w' => e' = .returned (.tuple #[.int .i64 (wideAt route ws st e m).1, .int .i64 (wideAt route ws st e m).2]) ∧ Below w.heap.size w w' := by
  have hW2 := hid hW
  have hS2 := hid hS
  have hP2 := hid hP
  obtain ⟨q1, q2, q3⟩ := starts_zero hc
  obtain ⟨r1, r2, r3, r4, _⟩ := check_zero q1
  have hms : m + 1 < st.length := by omega
  have hsb := q3.bound (m + 1) (by omega)
  have hsm := Small.of_check q1
  have SF := hsm.fast (st := st) (k := m) (by omega) (by omega) (fun i hi => q3.bound i (by omega))
  have gl : 0 ≤ (wg ws m).len ∧ (wg ws m).len ≤ 100000 := hsm.len m (by omega)
  have hT0 : endW route ws st m ≤ 2000000 := by
    have hPs : ∀ i, i ≤ m → 0 < nm (ws.map Wing.hi) i := fun i hi => by have := SF.pace i hi; omega
    have b1 := passed_high (L := Ln ws) (S := nm st) hPs (fun i hi => SF.len i (by omega)) (fun i hi => (SF.start i hi).2) (x := route + Ln ws m) (by unfold Ln; omega)
    rw [nm_hi] at b1
    have e1 : passed (Ln ws) (nm st) (Hi ws) m (route + Ln ws m) = endW route ws st m := rfl
    rw [e1] at b1
    unfold Ln at b1
    omega
  have HE := hid hE
  have Hs := hid hs
  have Hc := hid hc
  obtain ⟨aw, cap, rfl, _⟩ := hW
  obtain ⟨a2, cas, rfl, _⟩ := hS
  obtain ⟨ap, cap2, rfl, _⟩ := hP
  obtain ⟨f, hf⟩ : ∃ f : Int → Int, gapAt ws st e m = f := ⟨_, rfl⟩
  have honce : ∀ t, f (t + 1) ≤ f t → ∀ n : Nat, f (t + n + 1) ≤ f (t + n) := by intro t h n; subst hf; exact gap_once t h n
  have Hah := hid (show ∀ t : Int, 0 ≤ t → t ≤ 3000000 → ∀ W', WgAt none W' (.slice aw ws.length cap) ws → IntsAt none W' (.slice a2 st.length cas) st → IntsAt none W' (.slice ap ps.length cap2) ps →
      Calls Tryd.prog 150 #[.agg #[.int .i64 route, .slice aw ws.length cap], .slice a2 st.length cas, .slice ap ps.length cap2, .int .i64 ((m : Int) + 1), .int .i64 own, .int .i64 t] W' fun e' w' => e' = .returned (.int .i64 (f t)) ∧ Below W'.heap.size W' w' from fun t h1 h2 W' g1 g2 g3 => by
    have h := rahead_any ws st ps m own t route _ _ _ W' g1 g2 g3 Hs.out hmw hms hsb ho ho2 (by omega) (by omega)
    rw [HE.out, hf] at h
    exact h)
  have Hap := hid (show ∀ t : Int, 0 ≤ t → t ≤ 3000000 → ∀ W', WgAt none W' (.slice aw ws.length cap) ws → IntsAt none W' (.slice a2 st.length cas) st → IntsAt none W' (.slice ap ps.length cap2) ps →
      Calls Tryd.prog 105 #[.agg #[.int .i64 route, .slice aw ws.length cap], .slice a2 st.length cas, .slice ap ps.length cap2, .int .i64 ((m : Int) + 1), .int .i64 own, .int .i64 t] W' fun e' w' => e' = .returned (.int .i64 (max 0 (f t))) ∧ Below W'.heap.size W' w' from fun t h1 h2 W' g1 g2 g3 => by
    have h := rapart_any ws st ps m own t route _ _ _ W' g1 g2 g3 Hs.out hmw hms hsb ho ho2 (by omega) (by omega)
    rw [HE.out, hf] at h
    exact h)
  obtain ⟨U, hU⟩ : ∃ U, nm st (m + 1) = U := ⟨_, rfl⟩
  obtain ⟨V, hV⟩ : ∃ V, endW route ws st m = V := ⟨_, rfl⟩
  have hwa : wideAt route ws st e m = if V ≤ U then (-1, 0) else if 0 < f (top f (V - 1 - U).toNat U) then (top f (V - 1 - U).toNat U, f (top f (V - 1 - U).toNat U)) else (-1, 0) := by
    unfold wideAt peakAt
    rw [hU, hV, hf]
  have Hwt := hid (show ∀ W', WgAt none W' (.slice aw ws.length cap) ws → IntsAt none W' (.slice a2 st.length cas) st → Calls Tryd.prog 57 #[.agg #[.int .i64 route, .slice aw ws.length cap], .slice a2 st.length cas, .int .i64 ((m : Int) + 1)] W'
     fun e' w' => e' = .returned (.tuple #[.int .i64 U, .int .i64 V]) ∧ Below W'.heap.size W' w' from fun W' g1 g2 => by
    have h := rwatched_any ws st m route _ _ W' g1 g2 Hc.out hmw
    rw [hU, hV] at h
    exact h)
  rw [hwa]
  rw [hV] at hT0
  rw [hU] at hsb
  clear hf hwa hU hV hc hE hs hsm SF q1 q2 q3 gl
  have K := hid ((HK.start w).box2 (.int .i64 route) (.slice aw ws.length cap) 24)
  have Honce := hid honce
  clear honce
  by_cases hlt : V ≤ U
  · rw [if_pos hlt]
    go_enter Tryd.func137, Tryd.ntmps137
    go_wp2_with (go_at_call 57; refine (Hwt.out _ (hW2.out.below K.out.below) (hS2.out.below K.out.below)).mono ?_; rintro e' w1 ⟨rfl, hb1⟩; have K := hid (K.out.later hb1); clear hb1)
    refine bodyPost_ret (v := .tuple #[.int .i64 (-1), .int .i64 0]) (by simp [results, Tryd.results137, go_sem]) rfl ⟨rfl, K.out.below⟩
  · rw [if_neg hlt]
    have zV : IntKind.i64.wrap (V - 1) = V - 1 := IntWalk.i64_in _ (by omega)
    have hT := top_ge f (V - 1 - U).toNat U
    have Hlt := hid (top_lt_iff f Honce.out (V - 1 - U).toNat U)
    obtain ⟨T, hTe⟩ : ∃ T, top f (V - 1 - U).toNat U = T := ⟨_, rfl⟩
    rw [hTe] at Hlt hT ⊢
    clear hTe
    have hT2 : T ≤ V - 1 := by omega
    have hT1 := hT.1
    clear hT
    go_enter Tryd.func137, Tryd.ntmps137
    go_wp2_with (go_at_call 57; refine (Hwt.out _ (hW2.out.below K.out.below) (hS2.out.below K.out.below)).mono ?_; rintro e' w1 ⟨rfl, hb1⟩; have K := hid (K.out.later hb1); clear hb1)
    clear zV
    go_loopw [12, 14] (fun lo hi wr => ∃ L H : Int, lo = .int .i64 L ∧ hi = .int .i64 H ∧ U ≤ L ∧ L ≤ T ∧ T ≤ H ∧ H ≤ V - 1 ∧ HK [(w.heap.size, 0, .int .i64 route), (w.heap.size, 1, .slice aw ws.length cap)] w wr)
      (fun lo hi _ => (intOf hi - intOf lo).toNat)
    case atStart => exact ⟨U, V - 1, rfl, rfl, Int.le_refl _, hT1, hT2, Int.le_refl _, K.out⟩
    case round =>
      obtain ⟨L, H, rfl, rfl, g1, g2, g3, g4, KK⟩ := hrel
      have K := hid KK
      clear KK
      by_cases hlh : L < H
      · obtain ⟨M, hM⟩ : ∃ M, (L + H).tdiv 2 = M := ⟨_, rfl⟩
        have hM2 : L ≤ M ∧ M < H := by
          have e1 : (L + H).tdiv 2 = (L + H) / 2 := Int.tdiv_eq_ediv_of_nonneg (by omega)
          omega
        have z1 : IntKind.i64.wrap (L + H) = L + H := IntWalk.i64_in _ (by omega)
        have z2 : IntKind.i64.wrap M = M := IntWalk.i64_in _ (by omega)
        have z3 : IntKind.i64.wrap (M + 1) = M + 1 := IntWalk.i64_in _ (by omega)
        have hcm := Hlt.out M (by omega) (by omega)
        by_cases hg : f M < f (M + 1)
        · have hg2 := hcm.1 hg
          go_wp2_with fail
          have K := hid K.out.drew
          go_region_held3 (fun w' => w'.cell? ⟨w.heap.size, 0, none⟩ = some (.int .i64 route) ∧ w'.cell? ⟨w.heap.size, 1, none⟩ = some (.slice aw ws.length cap))
            (first | exact ⟨K.out.c (by simp), K.out.c (by simp)⟩) (first
            | (go_at_call 150; refine (Hah.out _ (by omega) (by omega) _ (hW2.out.below K.out.below) (hS2.out.below K.out.below) (hP2.out.below K.out.below)).mono ?_; rintro e' w2 ⟨rfl, hb⟩; have K := hid (K.out.later hb); clear hb))
          all_goals (
            go_wp2
            go_roundw
            case rel => exact ⟨M + 1, H, by go_num, rfl, by omega, by omega, g3, g4, K.out⟩
            case measure => simp [intOf] <;> omega)
        · have hg2 : ¬ M < T := fun h => hg (hcm.2 h)
          go_wp2_with fail
          have K := hid K.out.drew
          go_region_held3 (fun w' => w'.cell? ⟨w.heap.size, 0, none⟩ = some (.int .i64 route) ∧ w'.cell? ⟨w.heap.size, 1, none⟩ = some (.slice aw ws.length cap))
            (first | exact ⟨K.out.c (by simp), K.out.c (by simp)⟩) (first
            | (go_at_call 150; refine (Hah.out _ (by omega) (by omega) _ (hW2.out.below K.out.below) (hS2.out.below K.out.below) (hP2.out.below K.out.below)).mono ?_; rintro e' w2 ⟨rfl, hb⟩; have K := hid (K.out.later hb); clear hb))
          all_goals (
            go_wp2
            go_roundw
            case rel => exact ⟨L, M, rfl, rfl, g1, g2, by omega, by omega, K.out⟩
            case measure => simp [intOf] <;> omega)
      · obtain rfl : L = T := by omega
        have x0 := K.out.c (b := w.heap.size) (o := 0) (v := .int .i64 route) (by simp)
        have x1 := K.out.c (b := w.heap.size) (o := 1) (v := .slice aw ws.length cap) (by simp)
        by_cases hp : 0 < f L
        · have hm : max 0 (f L) = f L := by omega
          go_wp2_with (go_at_call 105; refine (Hap.out _ (by omega) (by omega) _ (hW2.out.below K.out.below) (hS2.out.below K.out.below) (hP2.out.below K.out.below)).mono ?_; rw [hm]; rintro e' w2 ⟨rfl, hb⟩; have K := hid (K.out.later hb); clear hb)
          go_ret2
          exact ⟨by simp [hp], K.out.below⟩
        · have hm : max 0 (f L) = 0 := by omega
          go_wp2_with (go_at_call 105; refine (Hap.out _ (by omega) (by omega) _ (hW2.out.below K.out.below) (hS2.out.below K.out.below) (hP2.out.below K.out.below)).mono ?_; rw [hm]; rintro e' w2 ⟨rfl, hb⟩; have K := hid (K.out.later hb); clear hb)
          go_ret2
          exact ⟨by simp [hp], K.out.below⟩
end Go.Proofs.YtgfipifgijohhaaDoor

namespace Go.Proofs.YtgfipifgijohhaaDoor
open Go.RowKit

set_option linter.unusedSimpArgs false in
set_option linter.unusedVariables false in
set_option maxHeartbeats 4000000 in
set_option maxRecDepth 100000 in
theorem search_any (n T : Int) (pa pb : Nat) (w : World) (hn : n ≤ 100000000) (hT0 : 0 ≤ T) (hT : T ≤ n)
    (h : ∀ i : Int, 0 ≤ i → i < n → ∀ W', Hid (Below w.heap.size w W') → Calls Tryd.prog 149 #[.int .i64 i, .pointer (some ⟨pa, 0, none⟩), .pointer (some ⟨pb, 0, none⟩)] W' fun e' w' => e' = .returned (.bool (decide (T ≤ i))) ∧ Below W'.heap.size W' w') :
    Calls Tryd.prog 148 #[.int .i64 n, .func (.func 149) #[] #[.pointer (some ⟨pa, 0, none⟩), .pointer (some ⟨pb, 0, none⟩)]] w
     fun e w' => e = .returned (.int .i64 T) ∧ Below w.heap.size w w' := by
  have H0 := hid h
  clear h
  have K := hid (Below.refl w.heap.size w)
  go_enter Tryd.func148, Tryd.ntmps148
  go_wp2_with fail
  go_loopw [5, 6] (fun i j wr => ∃ I J : Int, i = .int .i64 I ∧ j = .int .i64 J ∧ 0 ≤ I ∧ I ≤ T ∧ T ≤ J ∧ J ≤ n ∧ Hid (Below w.heap.size w wr)) (fun i j _ => (intOf j - intOf i).toNat)
  case atStart => exact ⟨0, n, rfl, rfl, Int.le_refl _, hT0, hT, Int.le_refl _, K⟩
  case round =>
    obtain ⟨I, J, rfl, rfl, g1, g2, g3, g4, KK⟩ := hrel
    have K := KK
    clear KK
    by_cases hlh : I < J
    · obtain ⟨M, hM⟩ : ∃ M, (I + J) / 2 = M := ⟨_, rfl⟩
      have z1 : IntKind.i64.wrap (I + J) = I + J := IntWalk.i64_in _ (by omega)
      have z3 : IntKind.i64.wrap (M + 1) = M + 1 := IntWalk.i64_in _ (by omega)
      by_cases hc : T ≤ M
      · have hd : decide (T ≤ M) = true := by simp [hc]
        go_wp2_with (go_at_call 149; refine (H0.out M (by omega) (by omega) _ K).mono ?_; rintro e w1 ⟨rfl, hb1⟩; rw [hd]; have K := hid (K.out.trans (hb1.mono K.out.size)); clear hb1)
        go_roundw
        case rel => exact ⟨I, M, rfl, rfl, g1, g2, hc, by omega, K⟩
        case measure => simp [intOf] <;> omega
      · have hd : decide (T ≤ M) = false := by simp [hc]
        go_wp2_with (go_at_call 149; refine (H0.out M (by omega) (by omega) _ K).mono ?_; rintro e w1 ⟨rfl, hb1⟩; rw [hd]; have K := hid (K.out.trans (hb1.mono K.out.size)); clear hb1)
        go_roundw
        case rel => exact ⟨M + 1, J, by go_num, rfl, by omega, by omega, g3, g4, K⟩
        case measure => simp [intOf] <;> omega
    · obtain rfl : I = T := by omega
      go_wp2
      go_ret
      exact ⟨rfl, K.out⟩
end Go.Proofs.YtgfipifgijohhaaDoor

namespace Go.Proofs.YtgfipifgijohhaaDoor
open Go.RowKit

theorem HK.box1 {cs : Cells} {w0 w : World} (k : HK cs w0 w) (x : Value) (t : TypeId) : HK ((w.heap.size, 0, x) :: cs) w0 (w.alloc (.cells #[x] t)) :=
  (k.alloc _).add k.below.size (cell_at rfl rfl) (frozen_at rfl)

theorem HK.box1n {cs : Cells} {w0 w : World} (k : HK cs w0 w) {n : Nat} (hn : n = w.heap.size) (x : Value) (t : TypeId) : HK ((n, 0, x) :: cs) w0 (w.alloc (.cells #[x] t)) := by subst hn; exact k.box1 x t
theorem HK.box3n {cs : Cells} {w0 w : World} (k : HK cs w0 w) {n : Nat} (hn : n = w.heap.size) (x y z : Value) (t : TypeId) : HK ((n, 0, x) :: (n, 1, y) :: (n, 2, z) :: cs) w0 (w.alloc (.cells #[x, y, z] t)) := by subst hn; exact k.box3 x y z t

set_option linter.unusedSimpArgs false in
set_option linter.unusedVariables false in
set_option maxHeartbeats 2000000 in
set_option maxRecDepth 100000 in
theorem peak1_any (i U V : Int) (f : Int → Int) (pa pb ta tb : Nat) (w : World) (h0 : 0 ≤ i) (h1 : U + i + 1 ≤ V) (hU : 0 ≤ U) (hV : V ≤ 100000000)
    (ho : w.cell? ⟨pa, 0, none⟩ = some (.func (.func 133) #[] #[.pointer (some ⟨ta, 0, none⟩), .pointer (some ⟨tb, 0, none⟩)])) (hf : w.cell? ⟨pb, 0, none⟩ = some (.int .i64 U))
    (h : ∀ t : Int, U ≤ t → t ≤ V → ∀ W', Hid (Below w.heap.size w W') → Calls Tryd.prog 133 #[.int .i64 t, .pointer (some ⟨ta, 0, none⟩), .pointer (some ⟨tb, 0, none⟩)] W' fun e' w' => e' = .returned (.int .i64 (f t)) ∧ Below W'.heap.size W' w') :
    Calls Tryd.prog 149 #[.int .i64 i, .pointer (some ⟨pa, 0, none⟩), .pointer (some ⟨pb, 0, none⟩)] w
     fun e w' => e = .returned (.bool (decide (f (U + i + 1) ≤ f (U + i)))) ∧ Below w.heap.size w w' := by
  have H0 := hid h
  clear h
  have K := hid (Below.refl w.heap.size w).drew
  have la := World.block_lt_of_cell? w ⟨pa, 0, none⟩ ho
  have lb := World.block_lt_of_cell? w ⟨pb, 0, none⟩ hf
  dsimp only at la lb
  have z1 : IntKind.i64.wrap (U + i) = U + i := IntWalk.i64_in _ (by omega)
  have z2 : IntKind.i64.wrap (U + i + 1) = U + i + 1 := IntWalk.i64_in _ (by omega)
  go_enter Tryd.func149, Tryd.ntmps149
  go_wp2
  go_region_held3 (fun w' => w'.cell? ⟨pa, 0, none⟩ = some (.func (.func 133) #[] #[.pointer (some ⟨ta, 0, none⟩), .pointer (some ⟨tb, 0, none⟩)]) ∧ w'.cell? ⟨pb, 0, none⟩ = some (.int .i64 U))
    (first | exact ⟨cell_back K.out la ho, cell_back K.out lb hf⟩) (first
    | (go_at_call 133; refine (H0.out _ (by omega) (by omega) _ K).mono ?_; rintro e w1 ⟨rfl, hb1⟩; have K := hid (K.out.trans (hb1.mono K.out.size)); clear hb1))
  all_goals (
    go_wp2
    go_ret
    exact ⟨rfl, K.out⟩)

set_option linter.unusedSimpArgs false in
set_option linter.unusedVariables false in
set_option maxHeartbeats 2000000 in
set_option maxRecDepth 100000 in
theorem peak_any (U V : Int) (f : Int → Int) (honce : ∀ t, f (t + 1) ≤ f t → ∀ n : Nat, f (t + n + 1) ≤ f (t + n)) (ta tb : Nat) (w : World) (hU : 0 ≤ U) (hUV : U < V) (hV : V ≤ 100000000)
    (h : ∀ t : Int, U ≤ t → t ≤ V → ∀ W', Hid (Below w.heap.size w W') → Calls Tryd.prog 133 #[.int .i64 t, .pointer (some ⟨ta, 0, none⟩), .pointer (some ⟨tb, 0, none⟩)] W' fun e' w' => e' = .returned (.int .i64 (f t)) ∧ Below W'.heap.size W' w') :
    Calls Tryd.prog 134 #[.int .i64 U, .int .i64 V, .func (.func 133) #[] #[.pointer (some ⟨ta, 0, none⟩), .pointer (some ⟨tb, 0, none⟩)]] w
     fun e w' => e = .returned (.int .i64 (top f (V - 1 - U).toNat U)) ∧ Below w.heap.size w w' := by
  have hT := top_ge f (V - 1 - U).toNat U
  have hti := top_lt_iff f honce (V - 1 - U).toNat U
  obtain ⟨T, hTe⟩ : ∃ T, top f (V - 1 - U).toNat U = T := ⟨_, rfl⟩
  rw [hTe] at hT hti ⊢
  clear hTe honce
  have K := hid (((HK.start w).box1 (.int .i64 U) 3).box1 (.func (.func 133) #[] #[.pointer (some ⟨ta, 0, none⟩), .pointer (some ⟨tb, 0, none⟩)]) 61)
  have e1 : (w.alloc (.cells #[.int .i64 U] 3)).heap.size = w.heap.size + 1 := by simp
  rw [e1] at K
  clear e1
  have z1 : IntKind.i64.wrap (V - 1) = V - 1 := IntWalk.i64_in _ (by omega)
  have z2 : IntKind.i64.wrap (V - 1 - U) = V - 1 - U := IntWalk.i64_in _ (by omega)
  have z4 : max 0 (V - 1 - U) = V - 1 - U := by omega
  have z5 : IntKind.i64.wrap (U + (T - U)) = T := by
    have e : U + (T - U) = T := by omega
    rw [e]; exact IntWalk.i64_in _ (by omega)
  have hsr := fun (W : World) (k : HK [(w.heap.size + 1, 0, .func (.func 133) #[] #[.pointer (some ⟨ta, 0, none⟩), .pointer (some ⟨tb, 0, none⟩)]), (w.heap.size, 0, .int .i64 U)] w W) =>
    search_any (V - 1 - U) (T - U) (w.heap.size + 1) w.heap.size W (by omega) (by omega) (by omega) (fun i h1 h2 W' hb => by
      have h' := peak1_any i U V f (w.heap.size + 1) w.heap.size ta tb W' h1 (by omega) hU hV (cell_back hb.out (k.clt (b := w.heap.size + 1) (o := 0) (v := .func (.func 133) #[] #[.pointer (some ⟨ta, 0, none⟩), .pointer (some ⟨tb, 0, none⟩)]) (by simp)) (k.c (by simp))) (cell_back hb.out (k.clt (b := w.heap.size) (o := 0) (v := .int .i64 U) (by simp)) (k.c (by simp)))
        (fun t g1 g2 W2 hb2 => h t g1 g2 W2 (hid (k.below.trans ((below_trans hb.out hb2.out).mono k.below.size))))
      have hd : decide (f (U + i + 1) ≤ f (U + i)) = decide (T - U ≤ i) := by
        have := hti (U + i) (by omega) (by omega)
        by_cases hc : T - U ≤ i
        · have h3 : ¬ f (U + i) < f (U + i + 1) := fun hh => by have := this.1 hh; omega
          simp only [hc, decide_true, decide_eq_true_eq]; omega
        · have h3 := this.2 (by omega)
          simp only [hc, decide_false, decide_eq_false_iff_not]; omega
      rw [hd] at h'
      exact h')
  have Hsr := hid hsr
  have hmf : ∀ (fn : Fn) (first cap : Array Value) (w : World), (Instr.makeFunc fn first cap).run Tryd.prog w = .ok (.func fn first cap) w := fun _ _ _ _ => rfl
  clear hsr hti h hT
  go_enter Tryd.func134, Tryd.ntmps134
  go_wp2_with fail
  have K := hid K.out.drew
  go_region_held3 (fun w' => w'.cell? ⟨w.heap.size, 0, none⟩ = some (.int .i64 U))
    (first | exact K.out.c (by simp)) (first
    | (go_at_call 148; refine (Hsr.out _ K.out).mono ?_; rintro e w1 ⟨rfl, hb1⟩; have K := hid (K.out.later hb1); clear hb1))
  all_goals (
    go_wp2
    go_ret
    exact ⟨rfl, K.out.below⟩)

set_option linter.unusedSimpArgs false in
set_option linter.unusedVariables false in
set_option maxHeartbeats 2000000 in
set_option maxRecDepth 100000 in
theorem widest1_any (ws : List Wing) (st : List Int) (m : Nat) (t e : Int) (ta tb : Nat) (vw vs : Value) (w : World) (hW : WgAt none w vw ws) (hS : IntsAt none w vs st)
    (ht : Tr ws st (m + 1) e) (hpl : -10000000 ≤ t) (hpl2 : t ≤ 10000000) (c0 : w.cell? ⟨ta, 0, none⟩ = some vw) (c1 : w.cell? ⟨ta, 1, none⟩ = some vs) (c2 : w.cell? ⟨ta, 2, none⟩ = some (.int .i64 e)) (c3 : w.cell? ⟨tb, 0, none⟩ = some (.int .i64 ((m : Int) + 1))) :
    Calls Tryd.prog 133 #[.int .i64 t, .pointer (some ⟨ta, 0, none⟩), .pointer (some ⟨tb, 0, none⟩)] w
     fun e' w' => e' = .returned (.int .i64 (gapAt ws st e m t)) ∧ Below w.heap.size w w' := by
  have H := hid (gap_any ws st m t e vw vs w hW hS ht hpl hpl2)
  obtain ⟨aw, cap, rfl, _⟩ := hW
  obtain ⟨ags, caps, rfl, _⟩ := hS
  clear ht
  go_enter Tryd.func133, Tryd.ntmps133
  go_wp2_with (go_at_call 101; refine H.out.mono ?_; rintro e' w1 ⟨rfl, hb1⟩)
  go_ret
  exact ⟨rfl, hb1⟩

theorem wide_boxes (w : World) (route e k : Int) (vw vs : Value) : HK [(w.heap.size + 1 + 1 + 1, 0, .int .i64 0), (w.heap.size + 1 + 1 + 1, 1, .int .i64 0), (w.heap.size + 1 + 1 + 1, 2, .int .i64 0), (w.heap.size + 1 + 1, 0, .int .i64 k), (w.heap.size + 1, 0, vw), (w.heap.size + 1, 1, vs), (w.heap.size + 1, 2, .int .i64 e), (w.heap.size, 0, .int .i64 route), (w.heap.size, 1, vw)] w
    ((((w.alloc (.cells #[.int .i64 route, vw] 24)).alloc (.cells #[vw, vs, .int .i64 e] 109)).alloc (.cells #[.int .i64 k] 3)).alloc (.cells #[.int .i64 0, .int .i64 0, .int .i64 0] 121)) :=
  ((((HK.start w).box2 (.int .i64 route) vw 24).box3n (by simp) vw vs (.int .i64 e) 109).box1n (by simp) (.int .i64 k) 3).box3n (by simp) (.int .i64 0) (.int .i64 0) (.int .i64 0) 121
end Go.Proofs.YtgfipifgijohhaaDoor

namespace Go.Proofs.YtgfipifgijohhaaDoor
open Go.RowKit

theorem endW_le {route : Int} {ws : List Wing} {st : List Int} {m : Nat} (hc : checkStarts route ws st = 0) (hmw : m + 1 < ws.length) : endW route ws st m ≤ 2000000 := by
  obtain ⟨q1, q2, q3⟩ := starts_zero hc
  obtain ⟨r1, r2, r3, r4, _⟩ := check_zero q1
  have hsm := Small.of_check q1
  have SF := hsm.fast (st := st) (k := m) (by omega) (by omega) (fun i hi => q3.bound i (by omega))
  have gl : 0 ≤ (wg ws m).len ∧ (wg ws m).len ≤ 100000 := hsm.len m (by omega)
  have hPs : ∀ i, i ≤ m → 0 < nm (ws.map Wing.hi) i := fun i hi => by have := SF.pace i hi; omega
  have b1 := passed_high (L := Ln ws) (S := nm st) hPs (fun i hi => SF.len i (by omega)) (fun i hi => (SF.start i hi).2) (x := route + Ln ws m) (by unfold Ln; omega)
  rw [nm_hi] at b1
  have e1 : passed (Ln ws) (nm st) (Hi ws) m (route + Ln ws m) = endW route ws st m := rfl
  rw [e1] at b1
  unfold Ln at b1
  omega

set_option linter.unusedSimpArgs false in
set_option linter.unusedVariables false in
set_option maxHeartbeats 8000000 in
set_option maxRecDepth 100000 in
theorem widest_any (ws : List Wing) (st : List Int) (m : Nat) (e route : Int) (vw vs : Value) (w : World) (hW : WgAt none w vw ws) (hS : IntsAt none w vs st) (hc : checkStarts route ws st = 0) (hmw : m + 1 < ws.length) (he : e = 0 ∨ e = 1) :
    Calls Tryd.prog 102 #[.agg #[.int .i64 route, vw], .agg #[vw, vs, .int .i64 e], .int .i64 ((m : Int) + 1)] w
     fun e' w' => e' = .returned (.agg #[.int .i64 (wideRaw route ws st e m).1, .int .i64 (wideRaw route ws st e m).2.1, .int .i64 (wideRaw route ws st e m).2.2]) ∧ Below w.heap.size w w' := by
  have hW2 := hid hW
  have hS2 := hid hS
  obtain ⟨q1, q2, q3⟩ := starts_zero hc
  obtain ⟨r1, r2, r3, r4, _⟩ := check_zero q1
  have hms : m + 1 < st.length := by omega
  have hsb := q3.bound (m + 1) (by omega)
  have hT0 := endW_le hc hmw
  have HT := hid (starts_tr hc hmw he)
  have HT1 := hid (starts_tr hc (k := m) (by omega) (e := 1) (.inr rfl))
  obtain ⟨aw, cap, rfl, _⟩ := hW
  obtain ⟨bs, os, cas, rfl, _, _⟩ := hS.slice (by omega)
  have Sc := hid (hS.cell (i := m + 1) hms)
  have hbs := World.block_lt_of_cell? w ⟨bs, _, none⟩ Sc.out
  dsimp only at hbs
  have i2 : ((m : Int) + 1) < (st.length : Int) := by omega
  have i4 : (0 : Int) ≤ (m : Int) + 1 := by omega
  have z1 : IntKind.i64.wrap (m : Int) = (m : Int) := IntWalk.i64_in _ (by omega)
  obtain ⟨f, hf⟩ : ∃ f : Int → Int, gapAt ws st e m = f := ⟨_, rfl⟩
  have honce : ∀ t, f (t + 1) ≤ f t → ∀ n : Nat, f (t + n + 1) ≤ f (t + n) := by intro t h n; subst hf; exact gap_once t h n
  have Hcl := hid (show ∀ W', WgAt none W' (.slice aw ws.length cap) ws → IntsAt none W' (.slice (some ⟨bs, os, none⟩) st.length cas) st → Calls Tryd.prog 112 #[.agg #[.slice aw ws.length cap, .slice (some ⟨bs, os, none⟩) st.length cas, .int .i64 1], .int .i64 (m : Int), .int .i64 route] W'
     fun e' w' => e' = .returned (.int .i64 (endW route ws st m)) ∧ Below W'.heap.size W' w' from fun W' g1 g2 => by
    have h := clear_any ws st (m : Int) route 1 _ _ W' g1 g2 (by omega) (by rw [Int.toNat_natCast]; exact HT1.out) (by omega) (by omega)
    rw [Int.toNat_natCast, endOf_1] at h
    exact h)
  have K := hid (wide_boxes w route e ((m : Int) + 1) (.slice aw ws.length cap) (.slice (some ⟨bs, os, none⟩) st.length cas))
  obtain ⟨U, hU⟩ : ∃ U, nm st (m + 1) = U := ⟨_, rfl⟩
  obtain ⟨V, hV⟩ : ∃ V, endW route ws st m = V := ⟨_, rfl⟩
  have hwa : wideRaw route ws st e m = if V ≤ U then (-1, -1, 0) else ((m : Int) + 1, top f (V - 1 - U).toNat U, f (top f (V - 1 - U).toNat U)) := by
    unfold wideRaw peakAt
    rw [hU, hV, hf]
  have Hw1 := hid (show ∀ t : Int, U ≤ t → t ≤ V → ∀ W' W2, HK [(w.heap.size + 1 + 1 + 1, 0, .int .i64 0), (w.heap.size + 1 + 1 + 1, 1, .int .i64 0), (w.heap.size + 1 + 1 + 1, 2, .int .i64 0), (w.heap.size + 1 + 1, 0, .int .i64 ((m : Int) + 1)), (w.heap.size + 1, 0, .slice aw ws.length cap), (w.heap.size + 1, 1, .slice (some ⟨bs, os, none⟩) st.length cas), (w.heap.size + 1, 2, .int .i64 e), (w.heap.size, 0, .int .i64 route), (w.heap.size, 1, .slice aw ws.length cap)] w W' → Below W'.heap.size W' W2 →
      Calls Tryd.prog 133 #[.int .i64 t, .pointer (some ⟨w.heap.size + 1, 0, none⟩), .pointer (some ⟨w.heap.size + 1 + 1, 0, none⟩)] W2 fun e' w' => e' = .returned (.int .i64 (f t)) ∧ Below W2.heap.size W2 w' from fun t g1 g2 W' W2 k hb => by
    have k2 := k.later hb
    have h := widest1_any ws st m t e (w.heap.size + 1) (w.heap.size + 1 + 1) _ _ W2 (hW2.out.below k2.below) (hS2.out.below k2.below) HT.out (by omega) (by omega) (k2.c (by simp)) (k2.c (by simp)) (k2.c (by simp)) (k2.c (by simp))
    rw [hf] at h
    exact h)
  rw [hU] at Sc hsb
  rw [hV] at Hcl hT0
  rw [hwa]
  clear hwa hf hU hV q1 q2 q3 hc he
  have hmf : ∀ (fn : Fn) (first cap : Array Value) (w : World), (Instr.makeFunc fn first cap).run Tryd.prog w = .ok (.func fn first cap) w := fun _ _ _ _ => rfl
  have HS1 := hid (show ∀ W', Below w.heap.size w W' → W'.cell? ⟨bs, os + (m + 1), none⟩ = some (.int .i64 U) from fun W' hb => cell_back hb hbs Sc.out)
  by_cases hlt : V ≤ U
  · rw [if_pos hlt]
    go_enter Tryd.func102, Tryd.ntmps102
    go_wp2_with fail
    have K := hid K.out.drew
    go_region_held3 (fun w' => w'.cell? ⟨w.heap.size + 1, 1, none⟩ = some (.slice (some ⟨bs, os, none⟩) st.length cas) ∧ w'.cell? ⟨w.heap.size + 1 + 1, 0, none⟩ = some (.int .i64 ((m : Int) + 1)) ∧ w'.cell? ⟨w.heap.size, 0, none⟩ = some (.int .i64 route) ∧ w'.cell? ⟨w.heap.size, 1, none⟩ = some (.slice aw ws.length cap) ∧ w'.cell? ⟨bs, os + (m + 1), none⟩ = some (.int .i64 U))
      (first | exact ⟨K.out.c (by simp), K.out.c (by simp), K.out.c (by simp), K.out.c (by simp), HS1.out _ K.out.below⟩) (first
      | (go_at_call 97; refine (truthOf_any _ _ _ _ _ _ _ _ _).mono ?_; rintro e' w1 ⟨rfl, hb1⟩; have K := hid (K.out.later hb1); clear hb1)
      | (go_at_call 112; refine (Hcl.out _ (hW2.out.below K.out.below) (hS2.out.below K.out.below)).mono ?_; rintro e' w1 ⟨rfl, hb1⟩; have K := hid (K.out.later hb1); clear hb1))
    have y0 := K.out.f (b := w.heap.size + 1 + 1 + 1) (o := 0) (v := .int .i64 0) (by simp)
    have y1 := K.out.f (b := w.heap.size + 1 + 1 + 1) (o := 1) (v := .int .i64 0) (by simp)
    have y2 := K.out.f (b := w.heap.size + 1 + 1 + 1) (o := 2) (v := .int .i64 0) (by simp)
    have x0 := K.out.c (b := w.heap.size + 1 + 1 + 1) (o := 0) (v := .int .i64 0) (by simp)
    have x1 := K.out.c (b := w.heap.size + 1 + 1 + 1) (o := 1) (v := .int .i64 0) (by simp)
    have x2 := K.out.c (b := w.heap.size + 1 + 1 + 1) (o := 2) (v := .int .i64 0) (by simp)
    go_wp2
    refine bodyPost_ret (v := .agg #[.int .i64 (-1), .int .i64 (-1), .int .i64 0]) (by simp [results, Tryd.results102, go_sem, x0, x1, x2]) rfl ⟨rfl, ?_⟩
    exact ((K.out.below.setCell (p := ⟨w.heap.size + 1 + 1 + 1, 0, none⟩) (by simp; omega) _).setCell (p := ⟨w.heap.size + 1 + 1 + 1, 1, none⟩) (by simp; omega) _).setCell (p := ⟨w.heap.size + 1 + 1 + 1, 2, none⟩) (by simp; omega) _
  · rw [if_neg hlt]
    have Hpk := hid (fun W' k => peak_any U V f honce (w.heap.size + 1) (w.heap.size + 1 + 1) W' hsb.1 (by omega) (by omega) (fun t g1 g2 W2 hb => Hw1.out t g1 g2 W' W2 k hb.out))
    have hT := top_ge f (V - 1 - U).toNat U
    obtain ⟨T, hTe⟩ : ∃ T, top f (V - 1 - U).toNat U = T := ⟨_, rfl⟩
    rw [hTe] at Hpk hT ⊢
    clear hTe honce
    go_enter Tryd.func102, Tryd.ntmps102
    go_wp2_with fail
    have K := hid K.out.drew
    go_region_held3 (fun w' => w'.cell? ⟨w.heap.size + 1, 1, none⟩ = some (.slice (some ⟨bs, os, none⟩) st.length cas) ∧ w'.cell? ⟨w.heap.size + 1 + 1, 0, none⟩ = some (.int .i64 ((m : Int) + 1)) ∧ w'.cell? ⟨w.heap.size, 0, none⟩ = some (.int .i64 route) ∧ w'.cell? ⟨w.heap.size, 1, none⟩ = some (.slice aw ws.length cap) ∧ w'.cell? ⟨bs, os + (m + 1), none⟩ = some (.int .i64 U))
      (first | exact ⟨K.out.c (by simp), K.out.c (by simp), K.out.c (by simp), K.out.c (by simp), HS1.out _ K.out.below⟩) (first
      | (go_at_call 97; refine (truthOf_any _ _ _ _ _ _ _ _ _).mono ?_; rintro e' w1 ⟨rfl, hb1⟩; have K := hid (K.out.later hb1); clear hb1)
      | (go_at_call 112; refine (Hcl.out _ (hW2.out.below K.out.below) (hS2.out.below K.out.below)).mono ?_; rintro e' w1 ⟨rfl, hb1⟩; have K := hid (K.out.later hb1); clear hb1))
    go_wp2_with fail
    refine (Hpk.out _ K.out).mono ?_
    rintro e' w2 ⟨rfl, hb2⟩
    have K := hid (K.out.later hb2)
    clear hb2
    go_wp2_with fail
    have K := hid K.out.drew
    have y0 := K.out.f (b := w.heap.size + 1 + 1 + 1) (o := 0) (v := .int .i64 0) (by simp)
    have y1 := K.out.f (b := w.heap.size + 1 + 1 + 1) (o := 1) (v := .int .i64 0) (by simp)
    have y2 := K.out.f (b := w.heap.size + 1 + 1 + 1) (o := 2) (v := .int .i64 0) (by simp)
    have x0 := K.out.c (b := w.heap.size + 1 + 1 + 1) (o := 0) (v := .int .i64 0) (by simp)
    have x1 := K.out.c (b := w.heap.size + 1 + 1 + 1) (o := 1) (v := .int .i64 0) (by simp)
    have x2 := K.out.c (b := w.heap.size + 1 + 1 + 1) (o := 2) (v := .int .i64 0) (by simp)
    go_region_held3 (fun w' => w'.cell? ⟨w.heap.size + 1 + 1, 0, none⟩ = some (.int .i64 ((m : Int) + 1)))
      (first | exact K.out.c (by simp) | exact cell_set_far (by omega) (cell_set_far (by omega) (cell_set_far (by omega) (K.out.c (by simp))))) (first
      | (go_at_call 133; refine (Hw1.out T (by omega) (by omega) _ _ K.out (Below.refl _ _)).mono ?_; rintro e' w3 ⟨rfl, hb1⟩; have K := hid (K.out.later hb1); clear hb1; have y0 := K.out.f (b := w.heap.size + 1 + 1 + 1) (o := 0) (v := .int .i64 0) (by simp); have y1 := K.out.f (b := w.heap.size + 1 + 1 + 1) (o := 1) (v := .int .i64 0) (by simp); have y2 := K.out.f (b := w.heap.size + 1 + 1 + 1) (o := 2) (v := .int .i64 0) (by simp); have x0 := K.out.c (b := w.heap.size + 1 + 1 + 1) (o := 0) (v := .int .i64 0) (by simp); have x1 := K.out.c (b := w.heap.size + 1 + 1 + 1) (o := 1) (v := .int .i64 0) (by simp); have x2 := K.out.c (b := w.heap.size + 1 + 1 + 1) (o := 2) (v := .int .i64 0) (by simp)))
    all_goals (
      go_wp2
      refine bodyPost_ret (v := .agg #[.int .i64 ((m : Int) + 1), .int .i64 T, .int .i64 (f T)]) (by simp [results, Tryd.results102, go_sem, x0, x1, x2]) rfl ⟨rfl, ?_⟩
      exact ((K.out.below.setCell (p := ⟨w.heap.size + 1 + 1 + 1, 0, none⟩) (by simp; omega) _).setCell (p := ⟨w.heap.size + 1 + 1 + 1, 1, none⟩) (by simp; omega) _).setCell (p := ⟨w.heap.size + 1 + 1 + 1, 2, none⟩) (by simp; omega) _)
end Go.Proofs.YtgfipifgijohhaaDoor

namespace Go.Proofs.YtgfipifgijohhaaDoor
open Go.RowKit

abbrev Wd := Int × Int × Int
def wd (xs : List Wd) (i : Nat) : Wd := xs.getD i (0, 0, 0)
def wdCells (x : Wd) : List Value := [.int .i64 x.1, .int .i64 x.2.1, .int .i64 x.2.2]
/-- a list of the call's own: widest gaps -/
def OwnWd (base : Nat) (w : World) (v : Value) (xs : List Wd) : Prop := w.ownsRow base 121 3 v xs.length (xs.flatMap wdCells)

theorem wdCells_at (xs : List Wd) : ∀ i, i < xs.length → (xs.flatMap wdCells)[i * 3]? = some (.int .i64 (wd xs i).1) ∧ (xs.flatMap wdCells)[i * 3 + 1]? = some (.int .i64 (wd xs i).2.1) ∧ (xs.flatMap wdCells)[i * 3 + 2]? = some (.int .i64 (wd xs i).2.2) := by
  induction xs with
  | nil => intro i hi; simp at hi
  | cons x xs ih =>
    intro i hi
    cases i with
    | zero => simp [wdCells, wd]
    | succ i =>
      have := ih i (by simpa using hi)
      have e : ∀ r, (i + 1) * 3 + r = (i * 3 + r) + 3 := fun r => by omega
      have e0 : (i + 1) * 3 = (i * 3) + 3 := by omega
      rw [e, e, e0]
      simpa [wdCells, wd] using this

theorem OwnWd.slice {base : Nat} {w : World} {v : Value} {xs : List Wd} (h : OwnWd base w v xs) : ∃ a cap, v = .slice a xs.length cap ∧ (0 < xs.length → ∃ g, a = some ⟨g, 0, none⟩ ∧ base ≤ g ∧ g < w.heap.size ∧
    ∀ i, i < xs.length → w.cell? ⟨g, i * 3, none⟩ = some (.int .i64 (wd xs i).1) ∧ w.cell? ⟨g, i * 3 + 1, none⟩ = some (.int .i64 (wd xs i).2.1) ∧ w.cell? ⟨g, i * 3 + 2, none⟩ = some (.int .i64 (wd xs i).2.2)) := by
  obtain ⟨_, h2⟩ := h
  rcases h2 with ⟨rfl, h0⟩ | ⟨g, cap, cur, rfl, hb, hh, h1, hm, hs, ht⟩
  · exact ⟨none, 0, by rw [h0], fun h => by omega⟩
  · refine ⟨some ⟨g, 0, none⟩, cap, rfl, fun _ => ⟨g, rfl, hb, (Array.getElem?_eq_some_iff.1 hh).1, fun i hi => ?_⟩⟩
    have hc : ∀ j u, j < xs.length * 3 → (xs.flatMap wdCells)[j]? = some u → w.cell? ⟨g, j, none⟩ = some u := fun j u hj hu => by
      rw [← ht, List.getElem?_take, if_pos hj, Array.getElem?_toList] at hu
      simp only [World.cell?, hh]
      simpa using hu
    obtain ⟨q0, q1, q2⟩ := wdCells_at xs i hi
    exact ⟨hc _ _ (by omega) q0, hc _ _ (by omega) q1, hc _ _ (by omega) q2⟩

theorem OwnWd.later {b : Nat} {w w' : World} {v : Value} {xs : List Wd} (h : OwnWd b w v xs) (hb : Below w.heap.size w w') : OwnWd b w' v xs :=
  World.ownsRow.kept h (gb_below hb none) (by cases e : v.ownBlock <;> simp)
theorem own_nil_wd (b : Nat) (w : World) : OwnWd b w (.slice none 0 0) [] := World.ownsRow_nil w b _ _

theorem infoWide : (Tryd.prog.info? 121).map (fun i => (i.zero.map (·.cells.size), i.size, i.bytes)) = some (some 3, 3, 24) := by kernel_rfl

theorem app_wd {ops : Array Oper} {rest : List Oper} {o : Oper} {a : Act} {Q : Exit → Act → World → Prop} {w : World} (hgd : o.guard = none) (s x : Operand)
    (ho : o.op = .call { callee := .builtin .append, args := #[s, x], argTypes := #[154, 154] })
    (base : Nat) (xs : List Wd) (y : Wd) (v : Value) (hown : OwnWd base w v xs) (hs : a.eval s = v) (hx : a.eval x = .slice (some ⟨w.heap.size, 0, none⟩) 1 1)
    (hn : xs.length ≤ 1000000) (hbase : base ≤ w.heap.size)
    (h : ∀ v' w', OwnWd base w' v' (xs ++ [y]) → Below base w w' → wpList Tryd.prog ops Q rest (a.put o.dst v') w') :
    wpList Tryd.prog ops Q (o :: rest) a (w.alloc (.cells #[.int .i64 y.1, .int .i64 y.2.1, .int .i64 y.2.2] 121)) := by
  obtain ⟨i0, hi, hz0⟩ : ∃ i0, Tryd.prog.info? 121 = some i0 ∧ (i0.zero.map (·.cells.size), i0.size, i0.bytes) = (some 3, 3, 24) := by
    have := infoWide
    cases h : Tryd.prog.info? 121 with
    | none => rw [h] at this; simp at this
    | some i => rw [h] at this; exact ⟨i, rfl, by simpa using this⟩
  simp only [Prod.mk.injEq, Option.map_eq_some_iff] at hz0
  obtain ⟨⟨z, hz, hzs⟩, hsz, hby⟩ := hz0
  refine wpList_append_own _ hgd s x 154 ho base 121 i0 z 3 24 Tryd.underlying154 hi hz hsz hby hzs (by decide) v xs.length (xs.flatMap wdCells) hs (World.ownsRow.alloc hown _) ⟨w.heap.size, 0, none⟩ 1 1 (wdCells y) hx rfl ?_
    (by intro u hu; simp [wdCells] at hu; rcases hu with rfl | rfl | rfl <;> rfl) (by unfold maxLen; omega) (by omega) (by simp; omega) ?_
  · intro j u hj
    have hlt : j < 3 := by have := (List.getElem?_eq_some_iff.1 hj).1; simpa [wdCells] using this
    match j, hlt with
    | 0, _ => simp [wdCells] at hj; subst hj; simp [Addr.add]
    | 1, _ => simp [wdCells] at hj; subst hj; simp [Addr.add]
    | 2, _ => simp [wdCells] at hj; subst hj; simp [Addr.add]
  · intro v' w' hown' hg hnil
    have hg' : w.grownBy w' v.ownBlock := gb_trans (World.grownBy_alloc w _ _) hg
    exact h v' w' (by unfold OwnWd; simpa using hown') (below_of_own hown hg' hbase)

/-- the first one of a list that none is wider than; or a thing that is wider than all -/
def bestOf (n : Wd) (xs : List Wd) : Wd := xs.foldl (fun n x => if n.2.2 < x.2.2 then x else n) n
theorem bestOf_snoc (n : Wd) (xs : List Wd) (x : Wd) : bestOf n (xs ++ [x]) = if (bestOf n xs).2.2 < x.2.2 then x else bestOf n xs := by
  unfold bestOf
  rw [List.foldl_append]
  rfl

/-- the widest gaps of the first k wings behind the first one -/
def wides (route : Int) (ws : List Wing) (st : List Int) : Nat → List Wd
  | 0 => []
  | k + 1 => wides route ws st k ++ [wideRaw route ws st 1 k]
theorem wides_length (route : Int) (ws : List Wing) (st : List Int) (k : Nat) : (wides route ws st k).length = k := by
  induction k with
  | zero => rfl
  | succ k ih => simp [wides, ih]
theorem best_wides (route : Int) (ws : List Wing) (st : List Int) (k : Nat) : bestOf (-1, -1, 0) (wides route ws st k) = mostN route ws st k := by
  induction k with
  | zero => rfl
  | succ k ih =>
    rw [mostN_raw, wides, bestOf_snoc, ih]

theorem HK.sub {cs cs2 : Cells} {w0 w : World} (k : HK cs w0 w) (h : ∀ x, x ∈ cs2 → x ∈ cs) : HK cs2 w0 w := ⟨k.below, fun b o v hm => k.cell b o v (h _ hm)⟩

theorem wd_take {xs : List Wd} {k : Nat} (h : k < xs.length) : xs.take (k + 1) = xs.take k ++ [wd xs k] := by
  rw [List.take_succ_eq_append_getElem h]
  simp [wd, List.getD_eq_getElem?_getD, h]

theorem HK.baseW {cs : Cells} {w0 w w' : World} (k : HK cs w0 w) {n : Nat} (hb : Below n w w') (hn : ∀ b o v, (b, o, v) ∈ cs → b < n) (hs : w0.heap.size ≤ n) : HK cs w0 w' :=
  ⟨k.below.trans (hb.mono hs), fun b o v h => ⟨(k.cell b o v h).1, cell_back hb (hn b o v h) (k.c h), (hb.frozen (p := ⟨b, o, none⟩) (hn b o v h)).trans (k.f h)⟩⟩

theorem HK.put3 {cs : Cells} {w0 w : World} {Z : Nat} {x y z : Value} (k : HK ((Z, 0, x) :: (Z, 1, y) :: (Z, 2, z) :: cs) w0 w) (h : ∀ b o v, (b, o, v) ∈ cs → b ≠ Z) (x' y' z' : Value) :
    HK ((Z, 0, x') :: (Z, 1, y') :: (Z, 2, z') :: cs) w0 (((w.setCell ⟨Z, 0, none⟩ x').setCell ⟨Z, 1, none⟩ y').setCell ⟨Z, 2, none⟩ z') := by
  have hz : w0.heap.size ≤ Z := (k.cell Z 0 x (by simp)).1
  have f : ∀ o, w.frozen? ⟨Z, o, none⟩ = false → (((w.setCell ⟨Z, 0, none⟩ x').setCell ⟨Z, 1, none⟩ y').setCell ⟨Z, 2, none⟩ z').frozen? ⟨Z, o, none⟩ = false := fun o h =>
    (World.frozen?_setCell _ _ _ _).trans ((World.frozen?_setCell _ _ _ _).trans ((World.frozen?_setCell _ _ _ _).trans h))
  have other : ∀ {W : World} {o o' : Nat} {u v : Value}, W.cell? ⟨Z, o, none⟩ = some v → o ≠ o' → (W.setCell ⟨Z, o', none⟩ u).cell? ⟨Z, o, none⟩ = some v := fun {W o o' u v} hv n => (World.cell?_setCell_other _ _ _ _ (by intro e; cases e; exact n rfl)).trans hv
  have same : ∀ {W : World} {o : Nat} {u v : Value}, W.cell? ⟨Z, o, none⟩ = some v → (W.setCell ⟨Z, o, none⟩ u).cell? ⟨Z, o, none⟩ = some u := fun hv => World.cell?_setCell_same _ _ _ hv
  have c0 := k.c (b := Z) (o := 0) (v := x) (by simp)
  have c1 := k.c (b := Z) (o := 1) (v := y) (by simp)
  have c2 := k.c (b := Z) (o := 2) (v := z) (by simp)
  refine ⟨((k.below.setCell (p := ⟨Z, 0, none⟩) hz _).setCell (p := ⟨Z, 1, none⟩) hz _).setCell (p := ⟨Z, 2, none⟩) hz _, fun b o v hm => ?_⟩
  rcases List.mem_cons.1 hm with hm | hm
  · cases hm; exact ⟨hz, other (other (same c0) (by omega)) (by omega), f 0 (k.f (b := Z) (o := 0) (v := x) (by simp))⟩
  · rcases List.mem_cons.1 hm with hm | hm
    · cases hm; exact ⟨hz, other (same (other c1 (by omega))) (by omega), f 1 (k.f (b := Z) (o := 1) (v := y) (by simp))⟩
    · rcases List.mem_cons.1 hm with hm | hm
      · cases hm; exact ⟨hz, same (other (other c2 (by omega)) (by omega)), f 2 (k.f (b := Z) (o := 2) (v := z) (by simp))⟩
      · have hne := h b o v hm
        have hk : (b, o, v) ∈ ((Z, 0, x) :: (Z, 1, y) :: (Z, 2, z) :: cs) := by simp [hm]
        exact ⟨(k.cell b o v hk).1, cell_set_far (Ne.symm hne) (cell_set_far (Ne.symm hne) (cell_set_far (Ne.symm hne) (k.c hk))), (World.frozen?_setCell _ _ _ _).trans ((World.frozen?_setCell _ _ _ _).trans ((World.frozen?_setCell _ _ _ _).trans (k.f hk)))⟩

set_option linter.unusedSimpArgs false in
set_option linter.unusedVariables false in
set_option maxHeartbeats 2000000 in
set_option maxRecDepth 100000 in
theorem better_any (a b c p q r : Int) (w : World) :
    Calls Tryd.prog 136 #[.agg #[.int .i64 a, .int .i64 b, .int .i64 c], .agg #[.int .i64 p, .int .i64 q, .int .i64 r]] w
     fun e w' => e = .returned (.bool (decide (r < c))) ∧ Below w.heap.size w w' := by
  have kb := ((Below.refl _ w).alloc (Nat.le_refl _) (.cells #[.int .i64 a, .int .i64 b, .int .i64 c] 121)).alloc (by simp) (.cells #[.int .i64 p, .int .i64 q, .int .i64 r] 121)
  go_enter Tryd.func136, Tryd.ntmps136
  go_wp2
  go_ret
  exact ⟨rfl, kb⟩

set_option linter.unusedSimpArgs false in
set_option linter.unusedVariables false in
set_option maxHeartbeats 4000000 in
set_option maxRecDepth 100000 in
theorem best_any (xs : List Wd) (n : Wd) (v : Value) (base : Nat) (w : World) (hX : OwnWd base w v xs) (hn : xs.length ≤ 1000000) :
    Calls Tryd.prog 135 #[.agg #[.int .i64 n.1, .int .i64 n.2.1, .int .i64 n.2.2], v, .func (.func 136) #[] #[]] w
     fun e w' => e = .returned (.agg #[.int .i64 (bestOf n xs).1, .int .i64 (bestOf n xs).2.1, .int .i64 (bestOf n xs).2.2]) ∧ Below w.heap.size w w' := by
  obtain ⟨a, cap, rfl, hc⟩ := hX.slice
  clear hX
  have Hc := hid hc
  clear hc
  have K := hid (((HK.start w).box3 (.int .i64 n.1) (.int .i64 n.2.1) (.int .i64 n.2.2) 121).box3n (n := w.heap.size + 1) (by simp) (.int .i64 0) (.int .i64 0) (.int .i64 0) 121)
  go_enter Tryd.func135, Tryd.ntmps135
  go_wp2_with fail
  have K := hid (K.out.sub (cs2 := [(w.heap.size, 0, .int .i64 n.1), (w.heap.size, 1, .int .i64 n.2.1), (w.heap.size, 2, .int .i64 n.2.2), (w.heap.size + 1, 0, .int .i64 0), (w.heap.size + 1, 1, .int .i64 0), (w.heap.size + 1, 2, .int .i64 0)]) (fun x hx => by simp only [List.mem_cons, List.not_mem_nil, or_false] at hx ⊢; rcases hx with h | h | h | h | h | h <;> simp [h]))
  go_loopw [11] (fun i wr => ∃ (k : Nat) (b1 b2 b3 : Int), k ≤ xs.length ∧ i = .int .i64 k ∧ bestOf n (xs.take k) = (b1, b2, b3) ∧ HK [(w.heap.size, 0, .int .i64 b1), (w.heap.size, 1, .int .i64 b2), (w.heap.size, 2, .int .i64 b3), (w.heap.size + 1, 0, .int .i64 0), (w.heap.size + 1, 1, .int .i64 0), (w.heap.size + 1, 2, .int .i64 0)] w wr)
    (fun i _ => xs.length - (intOf i).toNat)
  case atStart => exact ⟨0, n.1, n.2.1, n.2.2, by omega, rfl, rfl, K.out⟩
  case round =>
    obtain ⟨k, b1, b2, b3, hk, rfl, hb, KK⟩ := hrel
    have K := hid KK
    have HB := hid hb
    clear KK hb
    obtain ⟨wo, rfl⟩ : ∃ wo : World, wo = wr := ⟨_, rfl⟩
    by_cases hlt : k < xs.length
    · have HT := hid (wd_take hlt)
      obtain ⟨g, rfl, hg1, hg2, hcc⟩ := Hc.out (by omega)
      obtain ⟨c0, c1, c2⟩ := hcc k hlt
      clear hcc
      obtain ⟨x1, x2, x3, hx⟩ : ∃ x1 x2 x3, wd xs k = (x1, x2, x3) := ⟨_, _, _, rfl⟩
      rw [hx] at c0 c1 c2 HT
      clear hx
      have c0 := cell_back K.out.below hg2 c0
      have c1 := cell_back K.out.below hg2 c1
      have c2 := cell_back K.out.below hg2 c2
      dsimp only at c0 c1 c2
      have i1 : (k : Int) < (xs.length : Int) := by omega
      have i2 : (0 : Int) ≤ (k : Int) := by omega
      have z1 : IntKind.i64.wrap ((k : Int) + 1) = (k : Int) + 1 := IntWalk.i64_in _ (by omega)
      have p0 := K.out.c (b := w.heap.size) (o := 0) (v := .int .i64 b1) (by simp)
      have p1 := K.out.c (b := w.heap.size) (o := 1) (v := .int .i64 b2) (by simp)
      have p2 := K.out.c (b := w.heap.size) (o := 2) (v := .int .i64 b3) (by simp)
      have Hsz := hid K.out.below.size
      have hlt2 : w.heap.size < wo.heap.size := K.out.clt (b := w.heap.size) (o := 0) (v := .int .i64 b1) (by simp)
      have hlt3 : w.heap.size + 1 < wo.heap.size := K.out.clt (b := w.heap.size + 1) (o := 0) (v := .int .i64 0) (by simp)
      go_wp2_with fail
      refine (better_any _ _ _ _ _ _ _).mono ?_
      rintro e w1 ⟨rfl, hb1⟩
      have K := hid ((K.out.box3 (.int .i64 x1) (.int .i64 x2) (.int .i64 x3) 121).later hb1)
      clear hb1
      have q0 := K.out.c (b := wo.heap.size) (o := 0) (v := .int .i64 x1) (by simp)
      have q1 := K.out.c (b := wo.heap.size) (o := 1) (v := .int .i64 x2) (by simp)
      have q2 := K.out.c (b := wo.heap.size) (o := 2) (v := .int .i64 x3) (by simp)
      have K := hid (K.out.sub (cs2 := [(w.heap.size, 0, .int .i64 b1), (w.heap.size, 1, .int .i64 b2), (w.heap.size, 2, .int .i64 b3), (w.heap.size + 1, 0, .int .i64 0), (w.heap.size + 1, 1, .int .i64 0), (w.heap.size + 1, 2, .int .i64 0)]) (fun x hx => by simp only [List.mem_cons, List.not_mem_nil, or_false] at hx ⊢; rcases hx with h | h | h | h | h | h <;> simp [h]))
      have p0 := K.out.c (b := w.heap.size) (o := 0) (v := .int .i64 b1) (by simp)
      have p1 := K.out.c (b := w.heap.size) (o := 1) (v := .int .i64 b2) (by simp)
      have p2 := K.out.c (b := w.heap.size) (o := 2) (v := .int .i64 b3) (by simp)
      have f0 := K.out.f (b := w.heap.size) (o := 0) (v := .int .i64 b1) (by simp)
      have f1 := K.out.f (b := w.heap.size) (o := 1) (v := .int .i64 b2) (by simp)
      have f2 := K.out.f (b := w.heap.size) (o := 2) (v := .int .i64 b3) (by simp)
      by_cases hg : b3 < x3
      · go_wp2
        go_roundw
        case rel => exact ⟨k + 1, x1, x2, x3, by omega, by go_num, by rw [HT.out, bestOf_snoc, HB.out]; exact if_pos hg, K.out.put3 (fun b o v h => by simp only [List.mem_cons, Prod.mk.injEq, List.not_mem_nil, or_false] at h; omega) _ _ _⟩
        case measure => simp [intOf] <;> omega
      · go_wp2
        go_roundw
        case rel => exact ⟨k + 1, b1, b2, b3, by omega, by go_num, by rw [HT.out, bestOf_snoc, HB.out]; exact if_neg (show ¬ b3 < x3 from by omega), K.out⟩
        case measure => simp [intOf] <;> omega
    · obtain rfl : k = xs.length := by omega
      have hall : xs.take xs.length = xs := List.take_length
      have p0 := K.out.c (b := w.heap.size) (o := 0) (v := .int .i64 b1) (by simp)
      have p1 := K.out.c (b := w.heap.size) (o := 1) (v := .int .i64 b2) (by simp)
      have p2 := K.out.c (b := w.heap.size) (o := 2) (v := .int .i64 b3) (by simp)
      have y0 := K.out.f (b := w.heap.size + 1) (o := 0) (v := .int .i64 0) (by simp)
      have y1 := K.out.f (b := w.heap.size + 1) (o := 1) (v := .int .i64 0) (by simp)
      have y2 := K.out.f (b := w.heap.size + 1) (o := 2) (v := .int .i64 0) (by simp)
      have x0 := K.out.c (b := w.heap.size + 1) (o := 0) (v := .int .i64 0) (by simp)
      have x1 := K.out.c (b := w.heap.size + 1) (o := 1) (v := .int .i64 0) (by simp)
      have x2 := K.out.c (b := w.heap.size + 1) (o := 2) (v := .int .i64 0) (by simp)
      rw [hall] at HB
      have HB := hid HB.out
      clear hall
      go_wp2
      refine bodyPost_ret (v := .agg #[.int .i64 b1, .int .i64 b2, .int .i64 b3]) (by simp [results, Tryd.results135, go_sem, x0, x1, x2]) rfl ⟨by rw [HB.out], ?_⟩
      exact ((K.out.below.setCell (p := ⟨w.heap.size + 1, 0, none⟩) (by simp) _).setCell (p := ⟨w.heap.size + 1, 1, none⟩) (by simp) _).setCell (p := ⟨w.heap.size + 1, 2, none⟩) (by simp) _

set_option linter.unusedSimpArgs false in
set_option linter.unusedVariables false in
set_option maxHeartbeats 4000000 in
set_option maxRecDepth 100000 in
theorem widestOf_any (ws : List Wing) (st : List Int) (route : Int) (vw vs : Value) (w : World) (hW : WgAt none w vw ws) (hS : IntsAt none w vs st) (hc : checkStarts route ws st = 0) (h8 : ws.length ≤ 100) :
    Calls Tryd.prog 103 #[.agg #[.int .i64 route, vw], vs] w
     fun e w' => e = .returned (.agg #[.int .i64 (mostN route ws st (ws.length - 1)).1, .int .i64 (mostN route ws st (ws.length - 1)).2.1, .int .i64 (mostN route ws st (ws.length - 1)).2.2]) ∧ Below w.heap.size w w' := by
  have h0 := (check_zero (starts_zero hc).1).2.2.1
  have hW2 := hid hW
  have hS2 := hid hS
  have HA := hid (fun m vw vs W' g1 g2 hm => widest_any ws st m 1 route vw vs W' g1 g2 hc hm (.inr rfl))
  obtain ⟨bw, ow, cap, rfl, _, _⟩ := hW.slice (by omega)
  obtain ⟨as0, cas, rfl, _⟩ := hS
  clear hc
  have K := hid (((HK.start w).box2 (.int .i64 route) (.slice (some ⟨bw, ow, none⟩) ws.length cap) 24).box3n (n := w.heap.size + 1) (by simp) (.int .i64 0) (.int .i64 0) (.int .i64 0) 121)
  go_enter Tryd.func103, Tryd.ntmps103
  have x0 := K.out.c (b := w.heap.size) (o := 0) (v := .int .i64 route) (by simp)
  have x1 := K.out.c (b := w.heap.size) (o := 1) (v := .slice (some ⟨bw, ow, none⟩) ws.length cap) (by simp)
  go_wp2_with fail
  refine (truthOf_any _ _ _ _ _ _ _ _ _).mono ?_
  rintro e w1 ⟨rfl, hb1⟩
  have K := hid ((K.out.later hb1).box3 (.slice (some ⟨bw, ow, none⟩) ws.length cap) (.slice as0 st.length cas) (.int .i64 1) 109)
  have hlt : ∀ b o v, (b, o, v) ∈ ([(w1.heap.size, 0, .slice (some ⟨bw, ow, none⟩) ws.length cap), (w1.heap.size, 1, .slice as0 st.length cas), (w1.heap.size, 2, .int .i64 1), (w.heap.size + 1, 0, .int .i64 0), (w.heap.size + 1, 1, .int .i64 0), (w.heap.size + 1, 2, .int .i64 0), (w.heap.size, 0, .int .i64 route), (w.heap.size, 1, .slice (some ⟨bw, ow, none⟩) ws.length cap)] : Cells) → b < w1.heap.size + 1 := fun b o v h => by
    have := K.out.clt h
    simpa using this
  have Hlt := hid hlt
  have hsz : w.heap.size ≤ w1.heap.size + 1 := by have := K.out.below.size; simpa using this
  clear hb1 x0 x1 hlt
  go_wp2_with fail
  go_loopw [6, 7] (fun v i wr => ∃ k : Nat, k + 1 ≤ ws.length ∧ i = .int .i64 ((k : Int) + 1) ∧ OwnWd (w1.heap.size + 1) wr v (wides route ws st k) ∧ w1.heap.size + 1 ≤ wr.heap.size ∧ HK [(w1.heap.size, 0, .slice (some ⟨bw, ow, none⟩) ws.length cap), (w1.heap.size, 1, .slice as0 st.length cas), (w1.heap.size, 2, .int .i64 1), (w.heap.size + 1, 0, .int .i64 0), (w.heap.size + 1, 1, .int .i64 0), (w.heap.size + 1, 2, .int .i64 0), (w.heap.size, 0, .int .i64 route), (w.heap.size, 1, .slice (some ⟨bw, ow, none⟩) ws.length cap)] w wr)
    (fun _ i _ => ws.length - (intOf i).toNat)
  case atStart => exact ⟨0, by omega, rfl, own_nil_wd _ _, by simp, K.out⟩
  case round =>
    obtain ⟨k, hk, rfl, hown, hsz2, KK⟩ := hrel
    have K := hid KK
    have Hown := hid hown
    clear KK hown
    obtain ⟨wo, rfl⟩ : ∃ wo : World, wo = wr := ⟨_, rfl⟩
    have x0 := K.out.c (b := w.heap.size) (o := 0) (v := .int .i64 route) (by simp)
    have x1 := K.out.c (b := w.heap.size) (o := 1) (v := .slice (some ⟨bw, ow, none⟩) ws.length cap) (by simp)
    by_cases hlt : k + 1 < ws.length
    · have i1 : ((k : Int) + 1) < (ws.length : Int) := by omega
      have z1 : IntKind.i64.wrap ((k : Int) + 1 + 1) = (k : Int) + 1 + 1 := IntWalk.i64_in _ (by omega)
      have hwl := hid (wides_length route ws st k)
      have t0 := K.out.c (b := w1.heap.size) (o := 0) (v := .slice (some ⟨bw, ow, none⟩) ws.length cap) (by simp)
      have t1 := K.out.c (b := w1.heap.size) (o := 1) (v := .slice as0 st.length cas) (by simp)
      have t2 := K.out.c (b := w1.heap.size) (o := 2) (v := .int .i64 1) (by simp)
      go_wp2_with (first
        | (go_at_call 102; refine (HA.out k _ _ _ (hW2.out.below K.out.below) (hS2.out.below K.out.below) hlt).mono ?_; rintro e w2 ⟨rfl, hb2⟩; have K := hid (K.out.later hb2); have Hown := hid (Hown.out.later hb2); have hsz3 := Nat.le_trans hsz2 hb2.size; clear hb2)
        | (at_builtin; refine app_wd rfl _ _ rfl (w1.heap.size + 1) (wides route ws st k) (wideRaw route ws st 1 k) _ Hown.out rfl rfl (by rw [hwl.out]; omega) hsz3 ?_; intro v1 w3 hown1 hbel1))
      go_roundw
      case rel => exact ⟨k + 1, by omega, by go_num, hown1, Nat.le_trans hsz3 hbel1.size, K.out.baseW hbel1 Hlt.out hsz⟩
      case measure => simp [intOf] <;> omega
    · obtain rfl : k = ws.length - 1 := by omega
      have hwl := hid (wides_length route ws st (ws.length - 1))
      have Hbw := hid (best_wides route ws st (ws.length - 1))
      go_wp2_with fail
      refine (best_any (wides route ws st (ws.length - 1)) (-1, -1, 0) _ _ _ Hown.out (by rw [hwl.out]; omega)).mono ?_
      rw [Hbw.out]
      rintro e w2 ⟨rfl, hb2⟩
      have K := hid (K.out.later hb2)
      clear hb2 x0 x1
      obtain ⟨M1, M2, M3, hM⟩ : ∃ M1 M2 M3, mostN route ws st (ws.length - 1) = (M1, M2, M3) := ⟨_, _, _, rfl⟩
      have HM := hid hM
      rw [hM]
      clear hM
      have y0 := K.out.f (b := w.heap.size + 1) (o := 0) (v := .int .i64 0) (by simp)
      have y1 := K.out.f (b := w.heap.size + 1) (o := 1) (v := .int .i64 0) (by simp)
      have y2 := K.out.f (b := w.heap.size + 1) (o := 2) (v := .int .i64 0) (by simp)
      have x0 := K.out.c (b := w.heap.size + 1) (o := 0) (v := .int .i64 0) (by simp)
      have x1 := K.out.c (b := w.heap.size + 1) (o := 1) (v := .int .i64 0) (by simp)
      have x2 := K.out.c (b := w.heap.size + 1) (o := 2) (v := .int .i64 0) (by simp)
      go_wp2
      refine bodyPost_ret (v := .agg #[.int .i64 M1, .int .i64 M2, .int .i64 M3]) (by simp [results, Tryd.results103, go_sem, x0, x1, x2]) rfl ⟨by rw [HM.out], ?_⟩
      exact ((K.out.below.setCell (p := ⟨w.heap.size + 1, 0, none⟩) (by simp) _).setCell (p := ⟨w.heap.size + 1, 1, none⟩) (by simp) _).setCell (p := ⟨w.heap.size + 1, 2, none⟩) (by simp) _
end Go.Proofs.YtgfipifgijohhaaDoor

namespace Go.Proofs.YtgfipifgijohhaaDoor
open Go.RowKit

set_option linter.unusedSimpArgs false in
set_option linter.unusedVariables false in
set_option maxHeartbeats 4000000 in
set_option maxRecDepth 100000 in
theorem Widest_any (ws : List Wing) (st : List Int) (route : Int) (vw vs : Value) (w : World) (hW : WgAt none w vw ws) (hS : IntsAt none w vs st) (hn : ws.length ≤ 100) (hnm : ∀ i, i < ws.length → (wg ws i).name.size ≤ 1000000) (hns : st.length ≤ 1000000) :
    Calls Tryd.prog 56 #[.agg #[.int .i64 route, vw], vs] w
     fun e w' => e = .returned (.tuple #[.int .i64 (widestRes route ws st).1, .int .i64 (widestRes route ws st).2.1, .int .i64 (widestRes route ws st).2.2.1, .int .i64 (widestRes route ws st).2.2.2]) ∧ Below w.heap.size w w' := by
  have hW2 := hid hW
  have hS2 := hid hS
  have H1 := hid (fun vw' vs' W' g1 g2 => pstarts_any ws st route vw' vs' W' g1 g2 hn hnm hns)
  obtain ⟨aw, cap, rfl, _⟩ := hW
  obtain ⟨as0, cas, rfl, _⟩ := hS
  have K := hid ((HK.start w).box2 (.int .i64 route) (.slice aw ws.length cap) 24)
  have x0 := K.out.c (b := w.heap.size) (o := 0) (v := .int .i64 route) (by simp)
  have x1 := K.out.c (b := w.heap.size) (o := 1) (v := .slice aw ws.length cap) (by simp)
  by_cases hc : checkStarts route ws st = 0
  · have H2 := hid (fun vw' vs' W' g1 g2 => widestOf_any ws st route vw' vs' W' g1 g2 hc hn)
    have hR : widestRes route ws st = ((mostN route ws st (ws.length - 1)).1, (mostN route ws st (ws.length - 1)).2.1, (mostN route ws st (ws.length - 1)).2.2, 0) := by unfold widestRes; rw [if_pos hc]
    obtain ⟨a, b, c, hm⟩ : ∃ a b c, mostN route ws st (ws.length - 1) = (a, b, c) := ⟨_, _, _, rfl⟩
    rw [hm] at H2 hR
    rw [hc] at H1
    rw [hR]
    clear hR hm hc
    go_enter Tryd.func56, Tryd.ntmps56
    go_wp2_with (first
      | (go_at_call 29; refine (H1.out _ _ _ (hW2.out.below K.out.below) (hS2.out.below K.out.below)).mono ?_; rintro e w1 ⟨rfl, hb1⟩; have K := hid (K.out.later hb1); clear hb1; have x0 := K.out.c (b := w.heap.size) (o := 0) (v := .int .i64 route) (by simp); have x1 := K.out.c (b := w.heap.size) (o := 1) (v := .slice aw ws.length cap) (by simp))
      | (go_at_call 103; refine (H2.out _ _ _ (hW2.out.below K.out.below) (hS2.out.below K.out.below)).mono ?_; rintro e w2 ⟨rfl, hb1⟩; have K := hid ((K.out.later hb1).box3 (.int .i64 a) (.int .i64 b) (.int .i64 c) 121); clear hb1))
    have K := hid K.out.drew
    go_region_held3 (fun w' => w'.cell? ⟨w2.heap.size, 0, none⟩ = some (.int .i64 a) ∧ w'.cell? ⟨w2.heap.size, 1, none⟩ = some (.int .i64 b) ∧ w'.cell? ⟨w2.heap.size, 2, none⟩ = some (.int .i64 c))
      (first | exact ⟨K.out.c (by simp), K.out.c (by simp), K.out.c (by simp)⟩) (fail)
    all_goals (
      go_wp2
      refine bodyPost_ret (v := .tuple #[.int .i64 a, .int .i64 b, .int .i64 c, .int .i64 0]) (by simp [results, Tryd.results56, go_sem]) rfl ⟨rfl, K.out.below⟩)
  · have hR : widestRes route ws st = (0, 0, 0, checkStarts route ws st) := by unfold widestRes; rw [if_neg hc]
    obtain ⟨c1, c2⟩ := ne_bool hc
    rw [hR]
    clear hR hc
    go_enter Tryd.func56, Tryd.ntmps56
    go_wp2_with (first
      | (go_at_call 29; refine (H1.out _ _ _ (hW2.out.below K.out.below) (hS2.out.below K.out.below)).mono ?_; rintro e w1 ⟨rfl, hb1⟩; have K := hid (K.out.later hb1); clear hb1))
    refine bodyPost_ret (v := .tuple #[.int .i64 0, .int .i64 0, .int .i64 0, .int .i64 (checkStarts route ws st)]) (by simp [results, Tryd.results56, go_sem]) rfl ⟨rfl, K.out.below⟩

theorem own_one (w : World) (z : Int) : OwnInts w.heap.size (w.alloc (.cells #[.int .i64 z] 3)) (.slice (some ⟨w.heap.size, 0, none⟩) 1 1) [z] := World.ownsRow_lit (e := 3) (size := 1) w #[.int .i64 z] 1 (Nat.le_refl _) (by unfold maxLen; omega) rfl

theorem OwnInts.drew {b : Nat} {w : World} {v : Value} {xs : List Int} (h : OwnInts b w v xs) : OwnInts b w.drew v xs := h

theorem rules_gap {a b c : Int} (h : rulesErr a b c = 0) : 0 ≤ c := by
  unfold rulesErr at h
  split at h
  · omega
  · split at h
    · omega
    · split at h
      · omega
      · rename_i h3
        have := inB_true.1 (by simpa using h3)
        omega

/-- what Opens says of a wing, as the program takes it -/
theorem openAt_raw {route : Int} {ws : List Wing} {st : List Int} {g : Int} {m : Nat} (hg : 0 ≤ g) : openAt route ws st g m = if g < (wideRaw route ws st 0 m).2.2 then 1 else if g < (wideRaw route ws st 1 m).2.2 then 3 else 2 := by
  have h0 := wide_gt (route := route) (ws := ws) (st := st) (e := 0) (m := m) hg
  have h1 := wide_gt (route := route) (ws := ws) (st := st) (e := 1) (m := m) hg
  unfold openAt
  by_cases a : g < (wideRaw route ws st 0 m).2.2
  · rw [if_pos a, if_pos (h0 ▸ a)]
  · rw [if_neg a, if_neg (h0 ▸ a)]
    by_cases b : g < (wideRaw route ws st 1 m).2.2
    · rw [if_pos b, if_pos (h1 ▸ b)]
    · rw [if_neg b, if_neg (h1 ▸ b)]

set_option linter.unusedSimpArgs false in
set_option linter.unusedVariables false in
set_option maxHeartbeats 8000000 in
set_option maxRecDepth 100000 in
theorem Opens_any (ws : List Wing) (st : List Int) (route a b c : Int) (vw vs : Value) (w : World) (hW : WgAt none w vw ws) (hS : IntsAt none w vs st) (hn : ws.length ≤ 100) (hnm : ∀ i, i < ws.length → (wg ws i).name.size ≤ 1000000) (hns : st.length ≤ 1000000) :
    Calls Tryd.prog 55 #[.agg #[.int .i64 route, vw], vs, .agg #[.int .i64 a, .int .i64 b, .int .i64 c]] w
     fun e w' => ∃ v, e = .returned (.tuple #[v, .int .i64 (opensRes route ws st a b c).2]) ∧ OwnInts w.heap.size w' v (opensRes route ws st a b c).1 ∧ Below w.heap.size w w' := by
  have hW2 := hid hW
  have hS2 := hid hS
  have H1 := hid (fun vw' vs' W' g1 g2 => pboth_any ws st route a b c vw' vs' W' g1 g2 hn hnm hns)
  have K := hid (((HK.start w).box2 (.int .i64 route) vw 24).box3n (n := w.heap.size + 1) (by simp) (.int .i64 a) (.int .i64 b) (.int .i64 c) 50)
  by_cases hb0 : bothErr route ws st a b c = 0
  · have hR : opensRes route ws st a b c = (opensN route ws st c (ws.length - 1), 0) := by unfold opensRes; rw [if_pos hb0]
    obtain ⟨hc, hr⟩ := both_zero hb0
    have hg : 0 ≤ c := rules_gap hr
    have h0 := (check_zero (starts_zero hc).1).2.2.1
    have HA := hid (fun m e vw vs W' g1 g2 hm he => widest_any ws st m e route vw vs W' g1 g2 hc hm he)
    have HO := hid (fun m => openAt_raw (route := route) (ws := ws) (st := st) (m := m) hg)
    rw [hb0] at H1
    rw [hR]
    obtain ⟨bw, ow, cap, rfl, _, _⟩ := hW.slice (by omega)
    obtain ⟨as0, cas, rfl, _⟩ := hS
    clear hR hb0 hc hr
    have x0 := K.out.c (b := w.heap.size) (o := 0) (v := .int .i64 route) (by simp)
    have x1 := K.out.c (b := w.heap.size) (o := 1) (v := .slice (some ⟨bw, ow, none⟩) ws.length cap) (by simp)
    have y0 := K.out.c (b := w.heap.size + 1) (o := 0) (v := .int .i64 a) (by simp)
    have y1 := K.out.c (b := w.heap.size + 1) (o := 1) (v := .int .i64 b) (by simp)
    have y2 := K.out.c (b := w.heap.size + 1) (o := 2) (v := .int .i64 c) (by simp)
    have hfd : ∀ (x y z : Int) (w : World), (Instr.field 121 (.agg #[.int .i64 x, .int .i64 y, .int .i64 z]) 2).run Tryd.prog w = .ok (.int .i64 z) w := fun _ _ _ _ => rfl
    go_enter Tryd.func55, Tryd.ntmps55
    go_wp2_with (first
      | (go_at_call 83; refine (H1.out _ _ _ (hW2.out.below K.out.below) (hS2.out.below K.out.below)).mono ?_; rintro e w1 ⟨rfl, hb1⟩; have K := hid (K.out.later hb1); clear hb1))
    have Hlt := hid (show ∀ b' o v, (b', o, v) ∈ ([(w.heap.size + 1, 0, .int .i64 a), (w.heap.size + 1, 1, .int .i64 b), (w.heap.size + 1, 2, .int .i64 c), (w.heap.size, 0, .int .i64 route), (w.heap.size, 1, .slice (some ⟨bw, ow, none⟩) ws.length cap)] : Cells) → b' < w1.heap.size from fun b' o v h => K.out.clt (b := b') (o := o) (v := v) h)
    have hsz := K.out.below.size
    have K := hid (K.out.alloc (.cells #[.int .i64 2] 3))
    have Hown := hid (own_one w1 2)
    go_loopw [9, 10] (fun v i wr => ∃ k : Nat, k + 1 ≤ ws.length ∧ i = .int .i64 ((k : Int) + 1) ∧ OwnInts w1.heap.size wr v (opensN route ws st c k) ∧ w1.heap.size ≤ wr.heap.size ∧ HK [(w.heap.size + 1, 0, .int .i64 a), (w.heap.size + 1, 1, .int .i64 b), (w.heap.size + 1, 2, .int .i64 c), (w.heap.size, 0, .int .i64 route), (w.heap.size, 1, .slice (some ⟨bw, ow, none⟩) ws.length cap)] w wr)
      (fun _ i _ => ws.length - (intOf i).toNat)
    case atStart => exact ⟨0, by omega, rfl, Hown.out, by simp, K.out⟩
    case round =>
      obtain ⟨k, hk, rfl, hown, hsz2, KK⟩ := hrel
      have K := hid KK
      have Hown := hid hown
      clear KK hown
      obtain ⟨wo, rfl⟩ : ∃ wo : World, wo = wr := ⟨_, rfl⟩
      have hol := hid (opensN_length route ws st c k)
      have x0 := K.out.c (b := w.heap.size) (o := 0) (v := .int .i64 route) (by simp)
      have x1 := K.out.c (b := w.heap.size) (o := 1) (v := .slice (some ⟨bw, ow, none⟩) ws.length cap) (by simp)
      by_cases hlt : k + 1 < ws.length
      · have i1 : ((k : Int) + 1) < (ws.length : Int) := by omega
        have z1 : IntKind.i64.wrap ((k : Int) + 1 + 1) = (k : Int) + 1 + 1 := IntWalk.i64_in _ (by omega)
        have hO := HO.out k
        have hA0 := fun vw vs W' g1 g2 => HA.out k 0 vw vs W' g1 g2 hlt (.inl rfl)
        have hA1 := fun vw vs W' g1 g2 => HA.out k 1 vw vs W' g1 g2 hlt (.inr rfl)
        obtain ⟨X1, X2, X3, hX⟩ : ∃ X1 X2 X3, wideRaw route ws st 0 k = (X1, X2, X3) := ⟨_, _, _, rfl⟩
        obtain ⟨Y1, Y2, Y3, hY⟩ : ∃ Y1 Y2 Y3, wideRaw route ws st 1 k = (Y1, Y2, Y3) := ⟨_, _, _, rfl⟩
        rw [hX] at hO hA0
        rw [hY] at hO hA1
        have HO2 := hid hO
        have HA0 := hid hA0
        have HA1 := hid hA1
        clear hX hY hO hA0 hA1
        go_wp2_with fail
        have K := hid K.out.drew
        have Hown := hid Hown.out.drew
        go_region_held3 (fun w' => w'.cell? ⟨w.heap.size, 0, none⟩ = some (.int .i64 route) ∧ w'.cell? ⟨w.heap.size, 1, none⟩ = some (.slice (some ⟨bw, ow, none⟩) ws.length cap) ∧ w'.cell? ⟨w.heap.size + 1, 2, none⟩ = some (.int .i64 c))
          (first | exact ⟨K.out.c (by simp), K.out.c (by simp), K.out.c (by simp)⟩) (first
          | (go_at_call 97; refine (truthOf_any _ _ _ _ _ _ _ _ _).mono ?_; rintro e w2 ⟨rfl, hb2⟩; have K := hid (K.out.later hb2); have Hown := hid (Hown.out.later hb2); have hsz2 := Nat.le_trans hsz2 hb2.size; clear hb2)
          | (go_at_call 102; refine (HA0.out _ _ _ (hW2.out.below K.out.below) (hS2.out.below K.out.below)).mono ?_; rintro e w2 ⟨rfl, hb2⟩; have K := hid (K.out.later hb2); have Hown := hid (Hown.out.later hb2); have hsz2 := Nat.le_trans hsz2 hb2.size; clear hb2))
        by_cases hg : c < X3
        · skip
          go_wp2_with (at_builtin; refine app_int rfl _ _ rfl w1.heap.size (opensN route ws st c k) 1 _ Hown.out rfl rfl (by rw [hol.out]; omega) hsz2 ?_; intro v1 w3 hown1 hbel1 _ _)
          go_roundw
          case rel => exact ⟨k + 1, by omega, by go_num, by rw [show opensN route ws st c (k + 1) = opensN route ws st c k ++ [1] from by simp only [opensN]; rw [HO2.out]; simp [hg]]; exact hown1, Nat.le_trans hsz2 hbel1.size, K.out.baseW hbel1 Hlt.out hsz⟩
          case measure => simp [intOf] <;> omega

        · go_wp2_with fail
          have K := hid K.out.drew
          have Hown := hid Hown.out.drew
          go_region_held3 (fun w' => w'.cell? ⟨w.heap.size, 0, none⟩ = some (.int .i64 route) ∧ w'.cell? ⟨w.heap.size, 1, none⟩ = some (.slice (some ⟨bw, ow, none⟩) ws.length cap) ∧ w'.cell? ⟨w.heap.size + 1, 2, none⟩ = some (.int .i64 c))
            (first | exact ⟨K.out.c (by simp), K.out.c (by simp), K.out.c (by simp)⟩) (first
            | (go_at_call 97; refine (truthOf_any _ _ _ _ _ _ _ _ _).mono ?_; rintro e w2 ⟨rfl, hb2⟩; have K := hid (K.out.later hb2); have Hown := hid (Hown.out.later hb2); have hsz2 := Nat.le_trans hsz2 hb2.size; clear hb2)
            | (go_at_call 102; refine (HA1.out _ _ _ (hW2.out.below K.out.below) (hS2.out.below K.out.below)).mono ?_; rintro e w2 ⟨rfl, hb2⟩; have K := hid (K.out.later hb2); have Hown := hid (Hown.out.later hb2); have hsz2 := Nat.le_trans hsz2 hb2.size; clear hb2))
          by_cases hg2 : c < Y3
          · skip
            go_wp2_with (at_builtin; refine app_int rfl _ _ rfl w1.heap.size (opensN route ws st c k) 3 _ Hown.out rfl rfl (by rw [hol.out]; omega) hsz2 ?_; intro v1 w3 hown1 hbel1 _ _)
            go_roundw
            case rel => exact ⟨k + 1, by omega, by go_num, by rw [show opensN route ws st c (k + 1) = opensN route ws st c k ++ [3] from by simp only [opensN]; rw [HO2.out]; simp [hg, hg2]]; exact hown1, Nat.le_trans hsz2 hbel1.size, K.out.baseW hbel1 Hlt.out hsz⟩
            case measure => simp [intOf] <;> omega

          · skip
            go_wp2_with (at_builtin; refine app_int rfl _ _ rfl w1.heap.size (opensN route ws st c k) 2 _ Hown.out rfl rfl (by rw [hol.out]; omega) hsz2 ?_; intro v1 w3 hown1 hbel1 _ _)
            go_roundw
            case rel => exact ⟨k + 1, by omega, by go_num, by rw [show opensN route ws st c (k + 1) = opensN route ws st c k ++ [2] from by simp only [opensN]; rw [HO2.out]; simp [hg, hg2]]; exact hown1, Nat.le_trans hsz2 hbel1.size, K.out.baseW hbel1 Hlt.out hsz⟩
            case measure => simp [intOf] <;> omega

      · obtain rfl : k = ws.length - 1 := by omega
        go_wp2
        go_ret2
        exact ⟨_, rfl, Hown.out.base hsz, K.out.below⟩
  · have hR : opensRes route ws st a b c = ([], bothErr route ws st a b c) := by unfold opensRes; rw [if_neg hb0]
    obtain ⟨c1, c2⟩ := ne_bool hb0
    rw [hR]
    clear hR hb0
    obtain ⟨aw, cap, rfl, _⟩ := hW
    obtain ⟨as0, cas, rfl, _⟩ := hS
    have x0 := K.out.c (b := w.heap.size) (o := 0) (v := .int .i64 route) (by simp)
    have x1 := K.out.c (b := w.heap.size) (o := 1) (v := .slice aw ws.length cap) (by simp)
    have y0 := K.out.c (b := w.heap.size + 1) (o := 0) (v := .int .i64 a) (by simp)
    have y1 := K.out.c (b := w.heap.size + 1) (o := 1) (v := .int .i64 b) (by simp)
    have y2 := K.out.c (b := w.heap.size + 1) (o := 2) (v := .int .i64 c) (by simp)
    go_enter Tryd.func55, Tryd.ntmps55
    go_wp2_with (first
      | (go_at_call 83; refine (H1.out _ _ _ (hW2.out.below K.out.below) (hS2.out.below K.out.below)).mono ?_; rintro e w1 ⟨rfl, hb1⟩; have K := hid (K.out.later hb1); clear hb1))
    go_ret2
    exact ⟨_, rfl, own_nil _ _, K.out.below⟩
end Go.Proofs.YtgfipifgijohhaaDoor

namespace Go.Proofs.YtgfipifgijohhaaDoor
open Go.RowKit

theorem HK.box2n {cs : Cells} {w0 w : World} (k : HK cs w0 w) {n : Nat} (hn : n = w.heap.size) (x y : Value) (t : TypeId) : HK ((n, 0, x) :: (n, 1, y) :: cs) w0 (w.alloc (.cells #[x, y] t)) := by subst hn; exact k.box2 x y t
theorem HK.base {cs : Cells} {w0 w w' : World} (k : HK cs w0 w) {n : Nat} (hb : Below n w w') (hn : ∀ b o v, (b, o, v) ∈ cs → b < n) (hs : w0.heap.size ≤ n) : HK cs w0 w' :=
  ⟨k.below.trans (hb.mono hs), fun b o v h => ⟨(k.cell b o v h).1, cell_back hb (hn b o v h) (k.c h), (hb.frozen (p := ⟨b, o, none⟩) (hn b o v h)).trans (k.f h)⟩⟩

/-- the widest gap of a wing, at both ends -/
theorem rwide_at (ws : List Wing) (st : List Int) (route : Int) (m : Nat) (hc : checkStarts route ws st = 0) (hmw : m + 1 < ws.length) :
    (∀ vw vs vp (W' : World), WgAt none W' vw ws → IntsAt none W' vs st → IntsAt none W' vp (ws.map Wing.lo) → Calls Tryd.prog 137 #[.agg #[.int .i64 route, vw], vs, vp, .int .i64 ((m : Int) + 1), .int .i64 (wg ws (m + 1)).hi] W'
      fun e' w' => e' = .returned (.tuple #[.int .i64 (wideAt route ws st 0 m).1, .int .i64 (wideAt route ws st 0 m).2]) ∧ Below W'.heap.size W' w') ∧
    (∀ vw vs vp (W' : World), WgAt none W' vw ws → IntsAt none W' vs st → IntsAt none W' vp (ws.map Wing.hi) → Calls Tryd.prog 137 #[.agg #[.int .i64 route, vw], vs, vp, .int .i64 ((m : Int) + 1), .int .i64 (wg ws (m + 1)).lo] W'
      fun e' w' => e' = .returned (.tuple #[.int .i64 (wideAt route ws st 1 m).1, .int .i64 (wideAt route ws st 1 m).2]) ∧ Below W'.heap.size W' w') := by
  obtain ⟨q1, q2, q3⟩ := starts_zero hc
  have hsm := Small.of_check q1
  have h1 := hsm.lo (m + 1) hmw
  have h2 := hsm.hi (m + 1) hmw
  unfold Lo at h1
  unfold Hi at h2
  refine ⟨fun vw vs vp W' g1 g2 g3 => ?_, fun vw vs vp W' g1 g2 g3 => ?_⟩
  · exact rwidest_any ws st (ws.map Wing.lo) m _ 0 route vw vs vp W' g1 g2 g3 hc hmw (hsm.slow (by omega) (by omega) (fun i hi => q3.bound i (by omega))) (by omega) (by omega) (fun t => by rw [nm_lo]; rfl)
  · exact rwidest_any ws st (ws.map Wing.hi) m _ 1 route vw vs vp W' g1 g2 g3 hc hmw (hsm.fast (by omega) (by omega) (fun i hi => q3.bound i (by omega))) (by omega) (by omega) (fun t => by rw [nm_hi]; rfl)

set_option linter.unusedSimpArgs false in
set_option linter.unusedVariables false in
set_option maxHeartbeats 4000000 in
set_option maxRecDepth 100000 in
theorem ropens_any (ws : List Wing) (st : List Int) (m : Nat) (g route : Int) (vw vs : Value) (w : World) (hW : WgAt none w vw ws) (hS : IntsAt none w vs st) (hc : checkStarts route ws st = 0) (hmw : m + 1 < ws.length) (h8 : ws.length ≤ 100) :
    Calls Tryd.prog 106 #[.agg #[.int .i64 route, vw], vs, .int .i64 ((m : Int) + 1), .int .i64 g] w
     fun e w' => e = .returned (.int .i64 (openAt route ws st g m)) ∧ Below w.heap.size w w' := by
  have hW2 := hid hW
  have hS2 := hid hS
  have HA := hid (rwide_at ws st route m hc hmw)
  obtain ⟨bw, ow, cap, rfl, _, _⟩ := hW.slice (by omega)
  obtain ⟨as0, cas, rfl, _⟩ := hS
  obtain ⟨_, _, c2, c3⟩ := hW.cells hmw
  have hbw := World.block_lt_of_cell? w ⟨bw, _, none⟩ c2
  dsimp only at hbw
  have i1 : ((m : Int) + 1) < (ws.length : Int) := by omega
  have i4 : (0 : Int) ≤ (m : Int) + 1 := by omega
  have hO : openAt route ws st g m = if g < (wideAt route ws st 0 m).2 then 1 else if g < (wideAt route ws st 1 m).2 then 3 else 2 := rfl
  obtain ⟨X1, X2, hX⟩ : ∃ X1 X2, wideAt route ws st 0 m = (X1, X2) := ⟨_, _, rfl⟩
  obtain ⟨Y1, Y2, hY⟩ : ∃ Y1 Y2, wideAt route ws st 1 m = (Y1, Y2) := ⟨_, _, rfl⟩
  rw [hX, hY] at HA hO
  rw [hO]
  clear hO hX hY hc
  have K := hid (((HK.start w).box2 (.int .i64 route) (.slice (some ⟨bw, ow, none⟩) ws.length cap) 24).box2n (n := w.heap.size + 1) (by simp) (.int .i64 (wg ws (m + 1)).lo) (.int .i64 (wg ws (m + 1)).hi) 27)
  go_enter Tryd.func106, Tryd.ntmps106
  have d2 := cell_up (X := .cells #[.int .i64 route, .slice (some ⟨bw, ow, none⟩) ws.length cap] 24) c2
  have d3 := cell_up (X := .cells #[.int .i64 route, .slice (some ⟨bw, ow, none⟩) ws.length cap] 24) c3
  go_wp2_with fail
  have K := hid K.out.drew
  go_region_held3 (fun w' => w'.cell? ⟨w.heap.size, 0, none⟩ = some (.int .i64 route) ∧ w'.cell? ⟨w.heap.size, 1, none⟩ = some (.slice (some ⟨bw, ow, none⟩) ws.length cap) ∧ w'.cell? ⟨w.heap.size + 1, 1, none⟩ = some (.int .i64 (wg ws (m + 1)).hi))
    (first | exact ⟨K.out.c (by simp), K.out.c (by simp), K.out.c (by simp)⟩) (first
    | (go_at_call 50; refine (slow_any ws route _ none _ (hW2.out.below K.out.below) (by omega)).mono ?_; rintro e w1 ⟨vf, rfl, hof, hb1⟩; have F := hid (hof.at (d := none) (by simp)); have K := hid (K.out.later hb1); clear hof hb1)
    | (go_at_call 137; refine (HA.out.1 _ _ _ _ (hW2.out.below K.out.below) (hS2.out.below K.out.below) F.out).mono ?_; rintro e w1 ⟨rfl, hb1⟩; have K := hid (K.out.later hb1); clear hb1 F))
  clear d2 d3 c2 c3
  go_wp2_with fail
  have K := hid K.out.drew
  go_region_held3 (fun w' => w'.cell? ⟨w.heap.size, 0, none⟩ = some (.int .i64 route) ∧ w'.cell? ⟨w.heap.size, 1, none⟩ = some (.slice (some ⟨bw, ow, none⟩) ws.length cap) ∧ w'.cell? ⟨w.heap.size + 1, 0, none⟩ = some (.int .i64 (wg ws (m + 1)).lo))
    (first | exact ⟨K.out.c (by simp), K.out.c (by simp), K.out.c (by simp)⟩) (first
    | (go_at_call 51; refine (fast_any ws route _ none _ (hW2.out.below K.out.below) (by omega)).mono ?_; rintro e w1 ⟨vf, rfl, hof, hb1⟩; have F := hid (hof.at (d := none) (by simp)); have K := hid (K.out.later hb1); clear hof hb1)
    | (go_at_call 137; refine (HA.out.2 _ _ _ _ (hW2.out.below K.out.below) (hS2.out.below K.out.below) F.out).mono ?_; rintro e w1 ⟨rfl, hb1⟩; have K := hid (K.out.later hb1); clear hb1 F))
  by_cases hg : g < X2
  · go_wp2
    go_ret
    exact ⟨by simp [hg], K.out.below⟩
  · by_cases hg2 : g < Y2
    · go_wp2
      go_ret
      exact ⟨by simp [hg, hg2], K.out.below⟩
    · go_wp2
      go_ret
      exact ⟨by simp [hg, hg2], K.out.below⟩

set_option linter.unusedSimpArgs false in
set_option linter.unusedVariables false in
set_option maxHeartbeats 4000000 in
set_option maxRecDepth 100000 in
theorem rmost_any (ws : List Wing) (st : List Int) (route : Int) (vw vs : Value) (w : World) (hW : WgAt none w vw ws) (hS : IntsAt none w vs st) (hc : checkStarts route ws st = 0) (h8 : ws.length ≤ 100) (h0 : 0 < ws.length) :
    Calls Tryd.prog 104 #[.agg #[.int .i64 route, vw], vs] w
     fun e w' => e = .returned (.tuple #[.int .i64 (mostN route ws st (ws.length - 1)).1, .int .i64 (mostN route ws st (ws.length - 1)).2.1, .int .i64 (mostN route ws st (ws.length - 1)).2.2]) ∧ Below w.heap.size w w' := by
  have hW2 := hid hW
  have hS2 := hid hS
  have HA := hid (fun m hm => rwide_at ws st route m hc hm)
  obtain ⟨bw, ow, cap, rfl, _, _⟩ := hW.slice (by omega)
  obtain ⟨as0, cas, rfl, _⟩ := hS
  clear hc
  have K := hid ((HK.start w).box2 (.int .i64 route) (.slice (some ⟨bw, ow, none⟩) ws.length cap) 24)
  go_enter Tryd.func104, Tryd.ntmps104
  go_wp2_with fail
  go_loopw [7, 8, 9, 10] (fun va vb vc i wr => ∃ (k : Nat) (a b c : Int), k + 1 ≤ ws.length ∧ mostN route ws st k = (a, b, c) ∧ va = .int .i64 a ∧ vb = .int .i64 b ∧ vc = .int .i64 c ∧ i = .int .i64 ((k : Int) + 1) ∧ HK [(w.heap.size, 0, .int .i64 route), (w.heap.size, 1, .slice (some ⟨bw, ow, none⟩) ws.length cap)] w wr)
    (fun _ _ _ i _ => ws.length - (intOf i).toNat)
  case atStart => exact ⟨0, -1, -1, 0, by omega, rfl, rfl, rfl, rfl, rfl, K.out⟩
  case round =>
    obtain ⟨k, a, b, c, hk, hab, rfl, rfl, rfl, rfl, KK⟩ := hrel
    have K := hid KK
    have Hab := hid hab
    clear KK hab
    obtain ⟨wo, rfl⟩ : ∃ wo : World, wo = wr := ⟨_, rfl⟩
    have x1 := K.out.c (b := w.heap.size) (o := 1) (v := .slice (some ⟨bw, ow, none⟩) ws.length cap) (by simp)
    by_cases hlt : k + 1 < ws.length
    · have HB := hid ((HA.out k hlt).2)
      have hO : mostN route ws st (k + 1) = if (mostN route ws st k).2.2 < (wideAt route ws st 1 k).2 then ((k : Int) + 1, (wideAt route ws st 1 k).1, (wideAt route ws st 1 k).2) else mostN route ws st k := rfl
      obtain ⟨Y1, Y2, hY⟩ : ∃ Y1 Y2, wideAt route ws st 1 k = (Y1, Y2) := ⟨_, _, rfl⟩
      rw [hY] at HB hO
      rw [Hab.out] at hO
      have HO := hid hO
      clear hO hY
      have i1 : ((k : Int) + 1) < (ws.length : Int) := by omega
      have i4 : (0 : Int) ≤ (k : Int) + 1 := by omega
      have z1 : IntKind.i64.wrap ((k : Int) + 1 + 1) = (k : Int) + 1 + 1 := IntWalk.i64_in _ (by omega)
      by_cases hg : c < Y2
      · go_wp2_with fail
        have K := hid K.out.drew
        go_region_held3 (fun w' => w'.cell? ⟨w.heap.size, 0, none⟩ = some (.int .i64 route) ∧ w'.cell? ⟨w.heap.size, 1, none⟩ = some (.slice (some ⟨bw, ow, none⟩) ws.length cap) ∧ w'.cell? ⟨bw, ow + (k + 1) * 4 + 2, none⟩ = some (.int .i64 (wg ws (k + 1)).lo))
          (first | exact ⟨K.out.c (by simp), K.out.c (by simp), ((hW2.out.below K.out.below).cells hlt).2.2.1⟩) (first
          | (go_at_call 51; refine (fast_any ws route _ none _ (hW2.out.below K.out.below) (by omega)).mono ?_; rintro e w1 ⟨vf, rfl, hof, hb1⟩; have F := hid (hof.at (d := none) (by simp)); have K := hid (K.out.later hb1); clear hof hb1)
          | (go_at_call 137; refine (HB.out _ _ _ _ (hW2.out.below K.out.below) (hS2.out.below K.out.below) F.out).mono ?_; rintro e w1 ⟨rfl, hb1⟩; have K := hid (K.out.later hb1); clear hb1 F))
        have x1 := K.out.c (b := w.heap.size) (o := 1) (v := .slice (some ⟨bw, ow, none⟩) ws.length cap) (by simp)
        go_wp2
        go_roundw
        case rel => exact ⟨k + 1, _, _, _, by omega, by rw [HO.out]; exact if_pos hg, rfl, rfl, rfl, by go_num, K.out⟩
        case measure => simp [intOf] <;> omega
      · go_wp2_with fail
        have K := hid K.out.drew
        go_region_held3 (fun w' => w'.cell? ⟨w.heap.size, 0, none⟩ = some (.int .i64 route) ∧ w'.cell? ⟨w.heap.size, 1, none⟩ = some (.slice (some ⟨bw, ow, none⟩) ws.length cap) ∧ w'.cell? ⟨bw, ow + (k + 1) * 4 + 2, none⟩ = some (.int .i64 (wg ws (k + 1)).lo))
          (first | exact ⟨K.out.c (by simp), K.out.c (by simp), ((hW2.out.below K.out.below).cells hlt).2.2.1⟩) (first
          | (go_at_call 51; refine (fast_any ws route _ none _ (hW2.out.below K.out.below) (by omega)).mono ?_; rintro e w1 ⟨vf, rfl, hof, hb1⟩; have F := hid (hof.at (d := none) (by simp)); have K := hid (K.out.later hb1); clear hof hb1)
          | (go_at_call 137; refine (HB.out _ _ _ _ (hW2.out.below K.out.below) (hS2.out.below K.out.below) F.out).mono ?_; rintro e w1 ⟨rfl, hb1⟩; have K := hid (K.out.later hb1); clear hb1 F))
        have x1 := K.out.c (b := w.heap.size) (o := 1) (v := .slice (some ⟨bw, ow, none⟩) ws.length cap) (by simp)
        go_wp2
        go_roundw
        case rel => exact ⟨k + 1, a, b, c, by omega, by rw [HO.out]; exact if_neg (by omega), rfl, rfl, rfl, by go_num, K.out⟩
        case measure => simp [intOf] <;> omega
    · go_wp2
      obtain rfl : k = ws.length - 1 := by omega
      refine bodyPost_ret (v := .tuple #[.int .i64 a, .int .i64 b, .int .i64 c]) (by simp [results, Tryd.results104, go_sem]) rfl ⟨by rw [Hab.out], K.out.below⟩

set_option linter.unusedSimpArgs false in
set_option linter.unusedVariables false in
set_option maxHeartbeats 4000000 in
set_option maxRecDepth 100000 in
theorem rWidest_any (ws : List Wing) (st : List Int) (route : Int) (vw vs : Value) (w : World) (hW : WgAt none w vw ws) (hS : IntsAt none w vs st) (hn : ws.length ≤ 100) (hnm : ∀ i, i < ws.length → (wg ws i).name.size ≤ 1000000) (hns : st.length ≤ 1000000) :
    Calls Tryd.prog 59 #[.agg #[.int .i64 route, vw], vs] w
     fun e w' => e = .returned (.tuple #[.int .i64 (widestRes route ws st).1, .int .i64 (widestRes route ws st).2.1, .int .i64 (widestRes route ws st).2.2.1, .int .i64 (widestRes route ws st).2.2.2]) ∧ Below w.heap.size w w' := by
  have hW2 := hid hW
  have hS2 := hid hS
  have H1 := hid (fun vw' vs' W' g1 g2 => rstarts_any ws st route vw' vs' W' g1 g2 hn hnm hns)
  obtain ⟨aw, cap, rfl, _⟩ := hW
  obtain ⟨as0, cas, rfl, _⟩ := hS
  have K := hid ((HK.start w).box2 (.int .i64 route) (.slice aw ws.length cap) 24)
  have x0 := K.out.c (b := w.heap.size) (o := 0) (v := .int .i64 route) (by simp)
  have x1 := K.out.c (b := w.heap.size) (o := 1) (v := .slice aw ws.length cap) (by simp)
  by_cases hc : checkStarts route ws st = 0
  · have h0 := (check_zero (starts_zero hc).1).2.2.1
    have H2 := hid (fun vw' vs' W' g1 g2 => rmost_any ws st route vw' vs' W' g1 g2 hc hn h0)
    have hR : widestRes route ws st = ((mostN route ws st (ws.length - 1)).1, (mostN route ws st (ws.length - 1)).2.1, (mostN route ws st (ws.length - 1)).2.2, 0) := by unfold widestRes; rw [if_pos hc]
    obtain ⟨a, b, c, hm⟩ : ∃ a b c, mostN route ws st (ws.length - 1) = (a, b, c) := ⟨_, _, _, rfl⟩
    rw [hm] at H2 hR
    rw [hc] at H1
    rw [hR]
    clear hR hm hc h0
    go_enter Tryd.func59, Tryd.ntmps59
    go_wp2_with (first
      | (go_at_call 30; refine (H1.out _ _ _ (hW2.out.below K.out.below) (hS2.out.below K.out.below)).mono ?_; rintro e w1 ⟨rfl, hb1⟩; have K := hid (K.out.later hb1); clear hb1; have x0 := K.out.c (b := w.heap.size) (o := 0) (v := .int .i64 route) (by simp); have x1 := K.out.c (b := w.heap.size) (o := 1) (v := .slice aw ws.length cap) (by simp))
      | (go_at_call 104; refine (H2.out _ _ _ (hW2.out.below K.out.below) (hS2.out.below K.out.below)).mono ?_; rintro e w1 ⟨rfl, hb1⟩; have K := hid (K.out.later hb1); clear hb1))
    refine bodyPost_ret (v := .tuple #[.int .i64 a, .int .i64 b, .int .i64 c, .int .i64 0]) (by simp [results, Tryd.results59, go_sem]) rfl ⟨rfl, K.out.below⟩
  · have hR : widestRes route ws st = (0, 0, 0, checkStarts route ws st) := by unfold widestRes; rw [if_neg hc]
    obtain ⟨c1, c2⟩ := ne_bool hc
    rw [hR]
    clear hR hc
    go_enter Tryd.func59, Tryd.ntmps59
    go_wp2_with (first
      | (go_at_call 30; refine (H1.out _ _ _ (hW2.out.below K.out.below) (hS2.out.below K.out.below)).mono ?_; rintro e w1 ⟨rfl, hb1⟩; have K := hid (K.out.later hb1); clear hb1))
    refine bodyPost_ret (v := .tuple #[.int .i64 0, .int .i64 0, .int .i64 0, .int .i64 (checkStarts route ws st)]) (by simp [results, Tryd.results59, go_sem]) rfl ⟨rfl, K.out.below⟩
end Go.Proofs.YtgfipifgijohhaaDoor

namespace Go.Proofs.YtgfipifgijohhaaDoor
open Go.RowKit

set_option linter.unusedSimpArgs false in
set_option linter.unusedVariables false in
set_option maxHeartbeats 8000000 in
set_option maxRecDepth 100000 in
theorem rOpens_any (ws : List Wing) (st : List Int) (route a b c : Int) (vw vs : Value) (w : World) (hW : WgAt none w vw ws) (hS : IntsAt none w vs st) (hn : ws.length ≤ 100) (hnm : ∀ i, i < ws.length → (wg ws i).name.size ≤ 1000000) (hns : st.length ≤ 1000000) :
    Calls Tryd.prog 61 #[.agg #[.int .i64 route, vw], vs, .agg #[.int .i64 a, .int .i64 b, .int .i64 c]] w
     fun e w' => ∃ v, e = .returned (.tuple #[v, .int .i64 (opensRes route ws st a b c).2]) ∧ OwnInts w.heap.size w' v (opensRes route ws st a b c).1 ∧ Below w.heap.size w w' := by
  have hW2 := hid hW
  have hS2 := hid hS
  have H1 := hid (fun vw' vs' W' g1 g2 => rstarts_any ws st route vw' vs' W' g1 g2 hn hnm hns)
  have K := hid (((HK.start w).box2 (.int .i64 route) vw 24).box3n (n := w.heap.size + 1) (by simp) (.int .i64 a) (.int .i64 b) (.int .i64 c) 50)
  by_cases hc : checkStarts route ws st = 0
  · by_cases hr : rulesErr a b c = 0
    · have hb0 : bothErr route ws st a b c = 0 := by unfold bothErr; rw [if_pos hc, hr]
      have hR : opensRes route ws st a b c = (opensN route ws st c (ws.length - 1), 0) := by unfold opensRes; rw [if_pos hb0]
      have h0 := (check_zero (starts_zero hc).1).2.2.1
      have HA := hid (fun m vw vs W' g1 g2 hm => ropens_any ws st m c route vw vs W' g1 g2 hc hm hn)
      have hrr := hr
      rw [hc] at H1
      rw [hR]
      obtain ⟨bw, ow, cap, rfl, _, _⟩ := hW.slice (by omega)
      obtain ⟨as0, cas, rfl, _⟩ := hS
      clear hR hb0 hc hr
      have x0 := K.out.c (b := w.heap.size) (o := 0) (v := .int .i64 route) (by simp)
      have x1 := K.out.c (b := w.heap.size) (o := 1) (v := .slice (some ⟨bw, ow, none⟩) ws.length cap) (by simp)
      have y0 := K.out.c (b := w.heap.size + 1) (o := 0) (v := .int .i64 a) (by simp)
      have y1 := K.out.c (b := w.heap.size + 1) (o := 1) (v := .int .i64 b) (by simp)
      have y2 := K.out.c (b := w.heap.size + 1) (o := 2) (v := .int .i64 c) (by simp)
      have Hrr := hid hrr
      clear hrr
      go_enter Tryd.func61, Tryd.ntmps61
      go_wp2_with (first
        | (go_at_call 30; refine (H1.out _ _ _ (hW2.out.below K.out.below) (hS2.out.below K.out.below)).mono ?_; rintro e w1 ⟨rfl, hb1⟩; have K := hid (K.out.later hb1); clear hb1; have x0 := K.out.c (b := w.heap.size) (o := 0) (v := .int .i64 route) (by simp); have x1 := K.out.c (b := w.heap.size) (o := 1) (v := .slice (some ⟨bw, ow, none⟩) ws.length cap) (by simp); have y0 := K.out.c (b := w.heap.size + 1) (o := 0) (v := .int .i64 a) (by simp); have y1 := K.out.c (b := w.heap.size + 1) (o := 1) (v := .int .i64 b) (by simp); have y2 := K.out.c (b := w.heap.size + 1) (o := 2) (v := .int .i64 c) (by simp))
        | (go_at_call 80; refine (rrules_any a b c _).mono ?_; rw [Hrr.out]; rintro e w2 ⟨rfl, hb1⟩; have K := hid (K.out.later hb1); clear hb1))
      have Hlt := hid (show ∀ b' o v, (b', o, v) ∈ ([(w.heap.size + 1, 0, .int .i64 a), (w.heap.size + 1, 1, .int .i64 b), (w.heap.size + 1, 2, .int .i64 c), (w.heap.size, 0, .int .i64 route), (w.heap.size, 1, .slice (some ⟨bw, ow, none⟩) ws.length cap)] : Cells) → b' < w2.heap.size from fun b' o v h => K.out.clt (b := b') (o := o) (v := v) h)
      have hsz := K.out.below.size
      have K := hid (K.out.alloc (.cells #[.int .i64 2] 3))
      have Hown := hid (own_one w2 2)
      go_loopw [10, 11] (fun v i wr => ∃ k : Nat, k + 1 ≤ ws.length ∧ i = .int .i64 ((k : Int) + 1) ∧ OwnInts w2.heap.size wr v (opensN route ws st c k) ∧ w2.heap.size ≤ wr.heap.size ∧ HK [(w.heap.size + 1, 0, .int .i64 a), (w.heap.size + 1, 1, .int .i64 b), (w.heap.size + 1, 2, .int .i64 c), (w.heap.size, 0, .int .i64 route), (w.heap.size, 1, .slice (some ⟨bw, ow, none⟩) ws.length cap)] w wr)
        (fun _ i _ => ws.length - (intOf i).toNat)
      case atStart => exact ⟨0, by omega, rfl, Hown.out, by simp, K.out⟩
      case round =>
        obtain ⟨k, hk, rfl, hown, hsz2, KK⟩ := hrel
        have K := hid KK
        have Hown := hid hown
        clear KK hown
        obtain ⟨wo, rfl⟩ : ∃ wo : World, wo = wr := ⟨_, rfl⟩
        have hol := hid (opensN_length route ws st c k)
        have x0 := K.out.c (b := w.heap.size) (o := 0) (v := .int .i64 route) (by simp)
        have x1 := K.out.c (b := w.heap.size) (o := 1) (v := .slice (some ⟨bw, ow, none⟩) ws.length cap) (by simp)
        have y0 := K.out.c (b := w.heap.size + 1) (o := 0) (v := .int .i64 a) (by simp)
        have y1 := K.out.c (b := w.heap.size + 1) (o := 1) (v := .int .i64 b) (by simp)
        have y2 := K.out.c (b := w.heap.size + 1) (o := 2) (v := .int .i64 c) (by simp)
        by_cases hlt : k + 1 < ws.length
        · have i1 : ((k : Int) + 1) < (ws.length : Int) := by omega
          have z1 : IntKind.i64.wrap ((k : Int) + 1 + 1) = (k : Int) + 1 + 1 := IntWalk.i64_in _ (by omega)
          go_wp2_with (first
            | (go_at_call 106; refine (HA.out k _ _ _ (hW2.out.below K.out.below) (hS2.out.below K.out.below) hlt).mono ?_; rintro e w3 ⟨rfl, hb2⟩; have K := hid (K.out.later hb2); have Hown := hid (Hown.out.later hb2); have hsz3 := Nat.le_trans hsz2 hb2.size; clear hb2)
            | (at_builtin; refine app_int rfl _ _ rfl w2.heap.size (opensN route ws st c k) (openAt route ws st c k) _ Hown.out rfl rfl (by rw [hol.out]; omega) hsz3 ?_; intro v1 w4 hown1 hbel1 _ _))
          go_roundw
          case rel => exact ⟨k + 1, by omega, by go_num, hown1, Nat.le_trans hsz3 hbel1.size, K.out.baseW hbel1 Hlt.out hsz⟩
          case measure => simp [intOf] <;> omega
        · obtain rfl : k = ws.length - 1 := by omega
          go_wp2
          go_ret2
          exact ⟨_, rfl, Hown.out.base hsz, K.out.below⟩
    · have hb0 : bothErr route ws st a b c = rulesErr a b c := by unfold bothErr; rw [if_pos hc]
      have hR : opensRes route ws st a b c = ([], rulesErr a b c) := by unfold opensRes; rw [hb0, if_neg hr]
      obtain ⟨c1, c2⟩ := ne_bool hr
      rw [hc] at H1
      rw [hR]
      clear hR hb0 hc hr
      obtain ⟨aw, cap, rfl, _⟩ := hW
      obtain ⟨as0, cas, rfl, _⟩ := hS
      have x0 := K.out.c (b := w.heap.size) (o := 0) (v := .int .i64 route) (by simp)
      have x1 := K.out.c (b := w.heap.size) (o := 1) (v := .slice aw ws.length cap) (by simp)
      have y0 := K.out.c (b := w.heap.size + 1) (o := 0) (v := .int .i64 a) (by simp)
      have y1 := K.out.c (b := w.heap.size + 1) (o := 1) (v := .int .i64 b) (by simp)
      have y2 := K.out.c (b := w.heap.size + 1) (o := 2) (v := .int .i64 c) (by simp)
      go_enter Tryd.func61, Tryd.ntmps61
      go_wp2_with (first
        | (go_at_call 30; refine (H1.out _ _ _ (hW2.out.below K.out.below) (hS2.out.below K.out.below)).mono ?_; rintro e w1 ⟨rfl, hb1⟩; have K := hid (K.out.later hb1); clear hb1; have x0 := K.out.c (b := w.heap.size) (o := 0) (v := .int .i64 route) (by simp); have x1 := K.out.c (b := w.heap.size) (o := 1) (v := .slice aw ws.length cap) (by simp); have y0 := K.out.c (b := w.heap.size + 1) (o := 0) (v := .int .i64 a) (by simp); have y1 := K.out.c (b := w.heap.size + 1) (o := 1) (v := .int .i64 b) (by simp); have y2 := K.out.c (b := w.heap.size + 1) (o := 2) (v := .int .i64 c) (by simp))
        | (go_at_call 80; refine (rrules_any a b c _).mono ?_; rintro e w2 ⟨rfl, hb1⟩; have K := hid (K.out.later hb1); clear hb1))
      go_ret2
      exact ⟨_, rfl, own_nil _ _, K.out.below⟩
  · have hb0 : bothErr route ws st a b c = checkStarts route ws st := by unfold bothErr; rw [if_neg hc]
    have hR : opensRes route ws st a b c = ([], checkStarts route ws st) := by unfold opensRes; rw [hb0, if_neg hc]
    obtain ⟨c1, c2⟩ := ne_bool hc
    rw [hR]
    clear hR hb0 hc
    obtain ⟨aw, cap, rfl, _⟩ := hW
    obtain ⟨as0, cas, rfl, _⟩ := hS
    have x0 := K.out.c (b := w.heap.size) (o := 0) (v := .int .i64 route) (by simp)
    have x1 := K.out.c (b := w.heap.size) (o := 1) (v := .slice aw ws.length cap) (by simp)
    have y0 := K.out.c (b := w.heap.size + 1) (o := 0) (v := .int .i64 a) (by simp)
    have y1 := K.out.c (b := w.heap.size + 1) (o := 1) (v := .int .i64 b) (by simp)
    have y2 := K.out.c (b := w.heap.size + 1) (o := 2) (v := .int .i64 c) (by simp)
    go_enter Tryd.func61, Tryd.ntmps61
    go_wp2_with (first
      | (go_at_call 30; refine (H1.out _ _ _ (hW2.out.below K.out.below) (hS2.out.below K.out.below)).mono ?_; rintro e w1 ⟨rfl, hb1⟩; have K := hid (K.out.later hb1); clear hb1; have x0 := K.out.c (b := w.heap.size) (o := 0) (v := .int .i64 route) (by simp); have x1 := K.out.c (b := w.heap.size) (o := 1) (v := .slice aw ws.length cap) (by simp); have y0 := K.out.c (b := w.heap.size + 1) (o := 0) (v := .int .i64 a) (by simp); have y1 := K.out.c (b := w.heap.size + 1) (o := 1) (v := .int .i64 b) (by simp); have y2 := K.out.c (b := w.heap.size + 1) (o := 2) (v := .int .i64 c) (by simp))
      | (go_at_call 80; refine (rrules_any a b c _).mono ?_; rintro e w2 ⟨rfl, hb1⟩; have K := hid (K.out.later hb1); clear hb1))
    go_ret2
    exact ⟨_, rfl, own_nil _ _, K.out.below⟩
end Go.Proofs.YtgfipifgijohhaaDoor

namespace Go.Proofs.YtgfipifgijohhaaDoor
open Go.RowKit

theorem opens_len {rt : Int} {wq : List Wing} {sq : List Int} {a b c : Int} {OL : List Int} {OE : Int} (h : opensRes rt wq sq a b c = (OL, OE)) (hn : wq.length ≤ 100) : OL.length ≤ 1000000 := by
  unfold opensRes at h
  split at h
  · cases h; rw [opensN_length]; omega
  · cases h; simp

set_option linter.unusedSimpArgs false in
set_option linter.unusedVariables false in
set_option maxHeartbeats 8000000 in
set_option maxRecDepth 100000 in
theorem rGap_any (ws : List Wing) (st : List Int) (route wing second : Int) (vw vs : Value) (w : World) (hW : WgAt none w vw ws) (hS : IntsAt none w vs st) (hn : ws.length ≤ 100) (hnm : ∀ i, i < ws.length → (wg ws i).name.size ≤ 1000000) (hns : st.length ≤ 1000000) :
    Calls Tryd.prog 60 #[.agg #[.int .i64 route, vw], vs, .int .i64 wing, .int .i64 second] w
     fun e w' => e = .returned (.tuple #[.agg #[.int .i64 (gapSpan route ws st wing second).1, .int .i64 (gapSpan route ws st wing second).2], .int .i64 (gapErr route ws st wing second)]) ∧ Below w.heap.size w w' := by
  have hW2 := hid hW
  have hS2 := hid hS
  have H1 := hid (fun vw' vs' W' g1 g2 => rasked_any ws st route wing second vw' vs' W' g1 g2 hn hnm hns)
  have K := hid (((HK.start w).box2 (.int .i64 route) vw 24).box2n (n := w.heap.size + 1) (by simp) (.int .i64 0) (.int .i64 0) 27)
  by_cases hc : askedErr route ws st wing second = 0
  · obtain ⟨c1, c2⟩ := eq_bool hc
    obtain ⟨a1, a2, a3, a4, a5⟩ := asked_zero hc
    rw [hc] at H1
    by_cases hz : wing = 0
    · obtain ⟨d1, d2⟩ := eq_bool hz
      have He : gapErr route ws st wing second = 7 := by unfold gapErr; rw [if_pos hc, if_pos hz]
      have Hg : gapSpan route ws st wing second = (0, 0) := by unfold gapSpan; rw [He]; rfl
      rw [He, Hg]
      obtain ⟨aw, cap, rfl, _⟩ := hW
      obtain ⟨ags, caps, rfl, _⟩ := hS
      clear hc hz He Hg a1 a2 a3 a4 a5
      have x0 := K.out.c (b := w.heap.size) (o := 0) (v := .int .i64 route) (by simp)
      have x1 := K.out.c (b := w.heap.size) (o := 1) (v := .slice aw ws.length cap) (by simp)
      have rc0 := K.out.c (b := w.heap.size + 1) (o := 0) (v := .int .i64 0) (by simp)
      have rc1 := K.out.c (b := w.heap.size + 1) (o := 1) (v := .int .i64 0) (by simp)
      have rf := K.out.f (b := w.heap.size + 1) (o := 0) (v := .int .i64 0) (by simp)
      have rf1 := K.out.f (b := w.heap.size + 1) (o := 1) (v := .int .i64 0) (by simp)
      go_enter Tryd.func60, Tryd.ntmps60
      go_wp2_with (go_at_call 99; refine (H1.out _ _ _ (hW2.out.below K.out.below) (hS2.out.below K.out.below)).mono ?_; rintro e w1 ⟨rfl, hb1⟩; have K := hid (K.out.later hb1); clear hb1; have rc0 := K.out.c (b := w.heap.size + 1) (o := 0) (v := .int .i64 0) (by simp); have rc1 := K.out.c (b := w.heap.size + 1) (o := 1) (v := .int .i64 0) (by simp); have rf := K.out.f (b := w.heap.size + 1) (o := 0) (v := .int .i64 0) (by simp); have rf1 := K.out.f (b := w.heap.size + 1) (o := 1) (v := .int .i64 0) (by simp); have x0 := K.out.c (b := w.heap.size) (o := 0) (v := .int .i64 route) (by simp); have x1 := K.out.c (b := w.heap.size) (o := 1) (v := .slice aw ws.length cap) (by simp))
      refine bodyPost_ret (v := .tuple #[.agg #[.int .i64 0, .int .i64 0], .int .i64 7]) (by simp [results, Tryd.results60, go_sem, rc0, rc1]) rfl ⟨rfl, ?_⟩
      exact (K.out.below.setCell (p := ⟨w.heap.size + 1, 0, none⟩) (by simp) _).setCell (p := ⟨w.heap.size + 1, 1, none⟩) (by simp) _
    · obtain ⟨d1, d2⟩ := ne_bool hz
      obtain ⟨m, rfl⟩ : ∃ m : Nat, wing = (m : Int) + 1 := ⟨(wing - 1).toNat, by omega⟩
      have em : ((m : Int) + 1).toNat = m + 1 := by omega
      rw [em] at a3 a4
      obtain ⟨q1, q2, q3⟩ := starts_zero a1
      have hsm := Small.of_check q1
      have a6 := q3.bound (m + 1) (by omega)
      have He : gapErr route ws st ((m : Int) + 1) second = 0 := by unfold gapErr; rw [if_pos hc, if_neg hz]
      have Hg : gapSpan route ws st ((m : Int) + 1) second = (max 0 (gapAt ws st 0 m second), max 0 (gapAt ws st 1 m second)) := by unfold gapSpan; rw [if_pos He, em, Nat.add_sub_cancel]
      rw [He, Hg]
      have h1 := hsm.lo (m + 1) a3
      have h2 := hsm.hi (m + 1) a3
      unfold Lo at h1
      unfold Hi at h2
      have hA0 := fun vw vs vp (W' : World) g1 g2 g3 => rapart_any ws st (ws.map Wing.lo) m (wg ws (m + 1)).hi second route vw vs vp W' g1 g2 g3 (hsm.slow (by omega) (by omega) (fun i hi => q3.bound i (by omega))) a3 (by omega) a6 (by omega) (by omega) (by omega) (by omega)
      have hA1 := fun vw vs vp (W' : World) g1 g2 g3 => rapart_any ws st (ws.map Wing.hi) m (wg ws (m + 1)).lo second route vw vs vp W' g1 g2 g3 (hsm.fast (by omega) (by omega) (fun i hi => q3.bound i (by omega))) a3 (by omega) a6 (by omega) (by omega) (by omega) (by omega)
      have e0 : rest (Ln ws) (nm st) (nm (ws.map Wing.lo)) m (wg ws (m + 1)).hi second = gapAt ws st 0 m second := by rw [nm_lo]; rfl
      have e1 : rest (Ln ws) (nm st) (nm (ws.map Wing.hi)) m (wg ws (m + 1)).lo second = gapAt ws st 1 m second := by rw [nm_hi]; rfl
      rw [e0] at hA0
      rw [e1] at hA1
      obtain ⟨G0, hG0⟩ : ∃ G, max 0 (gapAt ws st 0 m second) = G := ⟨_, rfl⟩
      obtain ⟨G1, hG1⟩ : ∃ G, max 0 (gapAt ws st 1 m second) = G := ⟨_, rfl⟩
      rw [hG0] at hA0 ⊢
      rw [hG1] at hA1 ⊢
      have HA0 := hid hA0
      have HA1 := hid hA1
      obtain ⟨bw, ow, cap, rfl, _, _⟩ := hW.slice (by omega)
      obtain ⟨as0, cas, rfl, _⟩ := hS
      have HL := hid (fun W' (hb : Below w.heap.size w W') => (hW2.out.below hb).cells a3)
      have i1 : ((m : Int) + 1) < (ws.length : Int) := by omega
      have i4 : (0 : Int) ≤ (m : Int) + 1 := by omega
      clear hc hz He Hg a1 a2 a4 a5 a6 q1 q2 q3 hsm e0 e1 hA0 hA1 hG0 hG1 em
      have x0 := K.out.c (b := w.heap.size) (o := 0) (v := .int .i64 route) (by simp)
      have x1 := K.out.c (b := w.heap.size) (o := 1) (v := .slice (some ⟨bw, ow, none⟩) ws.length cap) (by simp)
      have rc0 := K.out.c (b := w.heap.size + 1) (o := 0) (v := .int .i64 0) (by simp)
      have rc1 := K.out.c (b := w.heap.size + 1) (o := 1) (v := .int .i64 0) (by simp)
      have rf := K.out.f (b := w.heap.size + 1) (o := 0) (v := .int .i64 0) (by simp)
      have rf1 := K.out.f (b := w.heap.size + 1) (o := 1) (v := .int .i64 0) (by simp)
      go_enter Tryd.func60, Tryd.ntmps60
      go_wp2_with fail
      refine (H1.out _ _ _ (hW2.out.below K.out.below) (hS2.out.below K.out.below)).mono ?_
      rintro e w1 ⟨rfl, hb1⟩
      have K := hid (K.out.later hb1)
      clear hb1
      have rc0 := K.out.c (b := w.heap.size + 1) (o := 0) (v := .int .i64 0) (by simp)
      have rc1 := K.out.c (b := w.heap.size + 1) (o := 1) (v := .int .i64 0) (by simp)
      have rf := K.out.f (b := w.heap.size + 1) (o := 0) (v := .int .i64 0) (by simp)
      have rf1 := K.out.f (b := w.heap.size + 1) (o := 1) (v := .int .i64 0) (by simp)
      have x0 := K.out.c (b := w.heap.size) (o := 0) (v := .int .i64 route) (by simp)
      have x1 := K.out.c (b := w.heap.size) (o := 1) (v := .slice (some ⟨bw, ow, none⟩) ws.length cap) (by simp)
      obtain ⟨_, _, l2, l3⟩ := HL.out _ K.out.below
      have hsz := K.out.clt (b := w.heap.size + 1) (o := 0) (v := .int .i64 0) (by simp)
      go_wp2_with fail
      have K := hid (K.out.box2 (.int .i64 (wg ws (m + 1)).lo) (.int .i64 (wg ws (m + 1)).hi) 27).drew
      have rc0 := K.out.c (b := w.heap.size + 1) (o := 0) (v := .int .i64 0) (by simp)
      have rc1 := K.out.c (b := w.heap.size + 1) (o := 1) (v := .int .i64 0) (by simp)
      have rf := K.out.f (b := w.heap.size + 1) (o := 0) (v := .int .i64 0) (by simp)
      have rf1 := K.out.f (b := w.heap.size + 1) (o := 1) (v := .int .i64 0) (by simp)
      go_region_held3 (fun w' => w'.cell? ⟨w.heap.size, 0, none⟩ = some (.int .i64 route) ∧ w'.cell? ⟨w.heap.size, 1, none⟩ = some (.slice (some ⟨bw, ow, none⟩) ws.length cap) ∧ w'.cell? ⟨w1.heap.size, 0, none⟩ = some (.int .i64 (wg ws (m + 1)).lo) ∧ w'.cell? ⟨w1.heap.size, 1, none⟩ = some (.int .i64 (wg ws (m + 1)).hi))
        (first | with_reducible exact ⟨K.out.c (by simp), K.out.c (by simp), K.out.c (by simp), K.out.c (by simp)⟩ | exact ⟨cell_set_far (by omega) (cell_set_far (by omega) (K.out.c (by simp))), cell_set_far (by omega) (cell_set_far (by omega) (K.out.c (by simp))), cell_set_far (by omega) (cell_set_far (by omega) (K.out.c (by simp))), cell_set_far (by omega) (cell_set_far (by omega) (K.out.c (by simp)))⟩) (first
          | (go_at_call 51; refine (fast_any ws route _ none _ (hW2.out.below K.out.below) hn).mono ?_; rintro e w2 ⟨vf, rfl, hof, hb1⟩; have F := hid (hof.at (d := none) (by simp)); (try have L := hid (L.out.below hb1)); have K := hid (K.out.later hb1); clear hof hb1; have rc0 := K.out.c (b := w.heap.size + 1) (o := 0) (v := .int .i64 0) (by simp); have rc1 := K.out.c (b := w.heap.size + 1) (o := 1) (v := .int .i64 0) (by simp); have rf := K.out.f (b := w.heap.size + 1) (o := 0) (v := .int .i64 0) (by simp); have rf1 := K.out.f (b := w.heap.size + 1) (o := 1) (v := .int .i64 0) (by simp))
          | (go_at_call 50; refine (slow_any ws route _ none _ (hW2.out.below K.out.below) hn).mono ?_; rintro e w2 ⟨vl, rfl, hof, hb1⟩; have L := hid (hof.at (d := none) (by simp)); (try have F := hid (F.out.below hb1)); have K := hid (K.out.later hb1); clear hof hb1; have rc0 := K.out.c (b := w.heap.size + 1) (o := 0) (v := .int .i64 0) (by simp); have rc1 := K.out.c (b := w.heap.size + 1) (o := 1) (v := .int .i64 0) (by simp); have rf := K.out.f (b := w.heap.size + 1) (o := 0) (v := .int .i64 0) (by simp); have rf1 := K.out.f (b := w.heap.size + 1) (o := 1) (v := .int .i64 0) (by simp))
          | (go_at_call 105; (first | with_reducible refine (HA0.out _ _ _ _ (hW2.out.below K.out.below) (hS2.out.below K.out.below) L.out).mono ?_ | with_reducible refine (HA1.out _ _ _ _ (hW2.out.below K.out.below) (hS2.out.below K.out.below) F.out).mono ?_); rintro e w2 ⟨rfl, hb1⟩; (try have F := hid (F.out.below hb1)); (try have L := hid (L.out.below hb1)); have K := hid (K.out.later hb1); clear hb1; have rc0 := K.out.c (b := w.heap.size + 1) (o := 0) (v := .int .i64 0) (by simp); have rc1 := K.out.c (b := w.heap.size + 1) (o := 1) (v := .int .i64 0) (by simp); have rf := K.out.f (b := w.heap.size + 1) (o := 0) (v := .int .i64 0) (by simp); have rf1 := K.out.f (b := w.heap.size + 1) (o := 1) (v := .int .i64 0) (by simp)))
      all_goals (
        go_wp2
        refine bodyPost_ret (v := .tuple #[.agg #[.int .i64 G0, .int .i64 G1], .int .i64 0]) (by simp [results, Tryd.results60, go_sem, rc0, rc1]) rfl ⟨rfl, ?_⟩
        exact (K.out.below.setCell (p := ⟨w.heap.size + 1, 0, none⟩) (by simp) _).setCell (p := ⟨w.heap.size + 1, 1, none⟩) (by simp) _)
  · obtain ⟨c1, c2⟩ := ne_bool hc
    have He : gapErr route ws st wing second = askedErr route ws st wing second := by unfold gapErr; rw [if_neg hc]
    have Hg : gapSpan route ws st wing second = (0, 0) := by unfold gapSpan; rw [if_neg (by rw [He]; exact hc)]
    rw [He, Hg]
    obtain ⟨aw, cap, rfl, _⟩ := hW
    obtain ⟨ags, caps, rfl, _⟩ := hS
    clear hc He Hg
    have x0 := K.out.c (b := w.heap.size) (o := 0) (v := .int .i64 route) (by simp)
    have x1 := K.out.c (b := w.heap.size) (o := 1) (v := .slice aw ws.length cap) (by simp)
    have rc0 := K.out.c (b := w.heap.size + 1) (o := 0) (v := .int .i64 0) (by simp)
    have rc1 := K.out.c (b := w.heap.size + 1) (o := 1) (v := .int .i64 0) (by simp)
    have rf := K.out.f (b := w.heap.size + 1) (o := 0) (v := .int .i64 0) (by simp)
    have rf1 := K.out.f (b := w.heap.size + 1) (o := 1) (v := .int .i64 0) (by simp)
    go_enter Tryd.func60, Tryd.ntmps60
    go_wp2_with (go_at_call 99; refine (H1.out _ _ _ (hW2.out.below K.out.below) (hS2.out.below K.out.below)).mono ?_; rintro e w1 ⟨rfl, hb1⟩; have K := hid (K.out.later hb1); clear hb1; have rc0 := K.out.c (b := w.heap.size + 1) (o := 0) (v := .int .i64 0) (by simp); have rc1 := K.out.c (b := w.heap.size + 1) (o := 1) (v := .int .i64 0) (by simp); have rf := K.out.f (b := w.heap.size + 1) (o := 0) (v := .int .i64 0) (by simp); have rf1 := K.out.f (b := w.heap.size + 1) (o := 1) (v := .int .i64 0) (by simp); have x0 := K.out.c (b := w.heap.size) (o := 0) (v := .int .i64 route) (by simp); have x1 := K.out.c (b := w.heap.size) (o := 1) (v := .slice aw ws.length cap) (by simp))
    refine bodyPost_ret (v := .tuple #[.agg #[.int .i64 0, .int .i64 0], .int .i64 (askedErr route ws st wing second)]) (by simp [results, Tryd.results60, go_sem, rc0, rc1]) rfl ⟨rfl, ?_⟩
    exact (K.out.below.setCell (p := ⟨w.heap.size + 1, 0, none⟩) (by simp) _).setCell (p := ⟨w.heap.size + 1, 1, none⟩) (by simp) _
end Go.Proofs.YtgfipifgijohhaaDoor
