/-
  WALK: CostumeFits: whatever the numbers are, it returns true.
-/
import Derived.Test.YtdcinngdilfpnaaLwk
namespace Go.Proofs.Ytdcinngdilfpnaa
open Go.RowKit

theorem figE_le {x : Int × Int} (h : figE x = 0) : 1 ≤ x.1 ∧ x.2 ≤ 300 ∧ x.1 ≤ x.2 := by
  unfold figE at h
  by_cases h1 : inB x.1 1 300 = false
  · rw [if_pos h1] at h; cases h
  rw [if_neg h1] at h
  by_cases h2 : inB x.2 1 300 = false
  · rw [if_pos h2] at h; cases h
  rw [if_neg h2] at h
  by_cases h3 : x.2 < x.1
  · rw [if_pos h3] at h; cases h
  have q1 := inB_true.1 (by simpa using h1)
  have q2 := inB_true.1 (by simpa using h2)
  omega

def SomeZ (lo : Int) (k : Nat) (x : Item) : Prop := ∃ z, lo ≤ z ∧ z < lo + k ∧ x.lo ≤ z ∧ z ≤ x.hi
def AllZ (lo : Int) (k : Nat) (x : Item) : Prop := ∀ z, lo ≤ z → z < lo + k → x.lo ≤ z ∧ z ≤ x.hi
theorem sm_in {lo : Int} {k : Nat} {x : Item} (h1 : x.lo ≤ lo + k) (h2 : lo + k ≤ x.hi) : (true = true) ↔ SomeZ lo (k + 1) x := ⟨fun _ => ⟨lo + k, by omega, by omega, h1, h2⟩, fun _ => rfl⟩
theorem al_in {lo : Int} {k : Nat} {x : Item} {ab : Bool} (h1 : x.lo ≤ lo + k) (h2 : lo + k ≤ x.hi) (h : ab = true ↔ AllZ lo k x) : ab = true ↔ AllZ lo (k + 1) x :=
  h.trans ⟨fun q z a b => by
    by_cases e : z = lo + k
    · rw [e]; exact ⟨h1, h2⟩
    · exact q z a (by omega), fun q z a b => q z a (by omega)⟩
theorem sm_out {lo : Int} {k : Nat} {x : Item} {sb : Bool} (hno : ¬ (x.lo ≤ lo + k ∧ lo + k ≤ x.hi)) (h : sb = true ↔ SomeZ lo k x) : sb = true ↔ SomeZ lo (k + 1) x :=
  h.trans ⟨fun ⟨z, a, b, c⟩ => ⟨z, a, by omega, c⟩, fun ⟨z, a, b, c⟩ => ⟨z, a, by
    by_cases e : z = lo + k
    · rw [e] at c; exact absurd c hno
    · omega, c⟩⟩
theorem al_out {lo : Int} {k : Nat} {x : Item} (hno : ¬ (x.lo ≤ lo + k ∧ lo + k ≤ x.hi)) : (false = true) ↔ AllZ lo (k + 1) x :=
  ⟨(fun h => by cases h), fun q => absurd (q (lo + k) (by omega) (by omega)) hno⟩

set_option maxHeartbeats 8000000 in
set_option maxRecDepth 100000 in
theorem cfits_any (xs : List Int) (v : Value) (w : World) (hX : IntsAt none w v xs) (hn : xs.length ≤ 9223372036854775807) :
    Calls Try.prog 7 #[v] w fun e w' => e = .returned (.bool true) ∧ Below w.heap.size w w' := by
  have HX := hid hX
  obtain ⟨a, c, rfl, _⟩ := hX
  go_enter Try.func7, Try.ntmps7
  go_upto_region 3 with (first
    | (go_at_call 13; refine (drumOf_any xs _ _ HX.out hn).mono ?_; rintro e w1 ⟨rfl, hbt, hbl⟩; have HBt := hid hbt; have HBl := hid hbl; clear hbt hbl)
    | (go_at_call 14; refine (plotOf_any w.heap.size 4 3 _ HBt.out (by omega) (by omega) (by omega) (by omega)).mono ?_; rintro e w2 ⟨vp, vw, vd, vq, p, rfl, hv, hpl, hql, hP, _, hbt, hg⟩; obtain ⟨ap, cp, rfl⟩ := hP.persons.form; obtain ⟨aw, cw, rfl⟩ := hP.walk.form; obtain ⟨ad, cd, ed, _⟩ := hP.dress; subst ed; obtain ⟨aq, cq, rfl⟩ := hP.parts.form; have HV := hid hv; have LF0 := hid (LF.start hbt hP (HBl.out.grown hg HBl.out.size (fun g e => by cases e; exact Nat.le_refl _)) (Nat.le_refl _) 29); clear hv hP hbt hg))
  obtain ⟨w3, hw3, L3⟩ := LF0.out.name
  rw [hw3]
  obtain ⟨X, hXs⟩ : ∃ X, w2.heap.size = X := ⟨_, rfl⟩
  rw [hXs] at L3 ⊢
  have L := hid L3
  have AW := hid (fun W' => awake_any W')
  have Vd := hid (plotErr_zero.1 HV.out)
  clear hw3 L3 LF0 HBt HBl HX hXs hn
  have y0 := L.out.c0
  have y1 := L.out.c1
  have y2 := L.out.c2
  have y3 := L.out.c3
  go_upto_region 4 with (go_at_call 15; refine (itemsOf_any w.heap.size 6 p _ _ _ _ _ L.out.beat L.out.plot HV.out (by omega) (by omega)).mono ?_; rintro e w4 ⟨vi, items, rfl, hie, hil, hI, _, hbt, hg⟩; obtain ⟨ai, ci, rfl⟩ := ItemsAt.form hI; have L := hid (L.out.go hbt hg); have HI := hid hI; have HIe := hid hie; clear hie hI hbt hg y0 y1 y2 y3)
  by_cases hz : items.length = 0
  · obtain ⟨e1, e2⟩ := eq_bool (a := (items.length : Int)) (b := 0) (by omega)
    clear hz
    go_wp2_with (go_at_call 19; refine (AW.out _).mono ?_; rintro e w5 ⟨rfl, hb5⟩; have L := hid (L.out.later hb5); clear hb5)
    go_ret
    exact ⟨rfl, L.out.below⟩
  obtain ⟨e1, e2⟩ := ne_bool (a := (items.length : Int)) (b := 0) (by omega)
  have y0 := L.out.c0
  go_upto_region 7 with (first
    | (go_at_call 16; (with_reducible refine (roll_any w.heap.size (p.persons.length : Int) _ L.out.beat (by omega)).mono ?_); rintro e w5 ⟨r1, rfl, r10, r11, hbt, hg⟩; have HI := hid (RecAt.kept HI.out hg); have L := hid (L.out.go hbt hg); clear hbt hg y0)
    | (go_at_call 16; (with_reducible refine (roll_any w.heap.size (items.length : Int) _ L.out.beat (by omega)).mono ?_); rintro e w6 ⟨r2, rfl, r20, r21, hbt, hg⟩; have HI := hid (RecAt.kept HI.out hg); have L := hid (L.out.go hbt hg); clear hbt hg))
  clear e1 e2
  obtain ⟨m, rfl⟩ := Int.eq_ofNat_of_zero_le r10
  obtain ⟨n, rfl⟩ := Int.eq_ofNat_of_zero_le r20
  have hpo := Vd.out.persons
  have hm : m < p.persons.length := by omega
  have hnn : n < items.length := by omega
  have hFe : fitcErr p items (m : Int) (n : Int) = 0 := by unfold fitcErr; rw [if_pos HIe.out, if_pos ⟨inB_true.2 ⟨by omega, by omega⟩, inB_true.2 ⟨by omega, by omega⟩⟩]
  have hFr : fitcRes p items (m : Int) (n : Int) = fitE (it items n) (sp p.persons m) := by unfold fitcRes; rw [if_pos hFe, Int.toNat_natCast, Int.toNat_natCast]
  have HFt := hid (fun vp vw vd vq vi W' (h1 : PlotAt none W' vp vw vd vq p) (h2 : ItemsAt none W' vi items) => by have := fitc_any p items (m : Int) (n : Int) vp vw vd vq vi W' h1 h2; rw [hFe, hFr] at this; exact this)
  have hsl := figE_le (Vd.out.figures m hm)
  have hix := figE_le (itemE_zero ((itemsErr_zero HIe.out).2.2 n hnn)).2.1
  obtain ⟨⟨lo, hi⟩, hsp⟩ : ∃ s, sp p.persons m = s := ⟨_, rfl⟩
  obtain ⟨x, hx⟩ : ∃ x, it items n = x := ⟨_, rfl⟩
  have HSp := hid hsp
  have HXi := hid hx
  rw [hsp, hx] at HFt
  rw [hsp] at hsl
  rw [hx] at hix
  obtain ⟨fe, hfe⟩ : ∃ fe, fitE x (lo, hi) = fe := ⟨_, rfl⟩
  have HAll := hid (fit_all (x := x) (s := (lo, hi)) hsl.2.2)
  have HNone := hid (fit_none (x := x) (s := (lo, hi)) hsl.2.2 hix.2.2)
  have HOr := hid (fitE_or x (lo, hi))
  rw [hfe] at HFt HAll HNone HOr
  dsimp only at hsl
  clear hsp hx hfe hFe hFr hix r10 r11 r20 r21 hpo
  have y0 := L.out.c0
  have y1 := L.out.c1
  have y2 := L.out.c2
  have y3 := L.out.c3
  go_upto_region 8 with (go_at_call 32; refine (HFt.out _ _ _ _ _ _ L.out.any (RecAt.any HI.out)).mono ?_; rintro e w7 ⟨rfl, hb7⟩; have HI := hid (HI.out.below hb7); have L := hid (L.out.later hb7); clear hb7 y0 y1 y2 y3)
  have y0 := L.out.c0
  have hcs := SpansAt.cells L.out.any.persons hm
  obtain ⟨bs, os, e, hbs, s0, s1⟩ := hcs
  cases e
  have hci := ItemsAt.cells HI.out hnn
  obtain ⟨bi, oi, e, hbi, g0, g1, g2, g3, g4⟩ := hci
  cases e
  have h1 := HSp.out
  have h2 := HXi.out
  rw [h1] at s0 s1
  rw [h2] at g0 g1 g2 g3 g4
  dsimp only at s0 s1
  have i1 : (m : Int) < (p.persons.length : Int) := by omega
  have i2 : (n : Int) < (items.length : Int) := by omega
  clear h1 h2
  go_wp2_with fail
  go_loopw [10, 11, 12] (fun sm al z wr => ∃ (k : Nat) (sb ab : Bool), sm = .bool sb ∧ al = .bool ab ∧ z = .int .i64 (lo + k) ∧ lo + k ≤ hi + 1 ∧ wr = w7 ∧ (sb = true ↔ SomeZ lo k x) ∧ (ab = true ↔ AllZ lo k x)) (fun _ _ z _ => (hi + 1 - intOf z).toNat)
  case atStart =>
    refine ⟨0, false, true, rfl, rfl, by go_num, by omega, rfl, ⟨(fun h => by cases h), fun ⟨z, h1, h2, _⟩ => ?_⟩, ⟨fun _ z h1 h2 => ?_, fun _ => rfl⟩⟩
    · omega
    · omega
  case round =>
    obtain ⟨k, sb, ab, rfl, rfl, rfl, hk, rfl, hsm, hal⟩ := hrel
    have HSm := hid hsm
    have HAl := hid hal
    clear hsm hal
    by_cases hlt : lo + (k : Int) ≤ hi
    · have z1 : IntKind.i64.wrap (lo + (k : Int) + 1) = lo + (k : Int) + 1 := IntWalk.i64_in _ (by omega)
      by_cases q1 : x.lo ≤ lo + (k : Int)
      · by_cases q2 : lo + (k : Int) ≤ x.hi
        · have S1 := hid (sm_in q1 q2)
          have A1 := hid (al_in q1 q2 HAl.out)
          cases sb <;> cases ab
          all_goals (
            go_wp2_with fail
            go_roundw
            case measure => simp [intOf] <;> omega
            case rel => exact ⟨k + 1, true, _, rfl, rfl, by go_num, by omega, (by trivial), S1.out, A1.out⟩)
        · have S1 := hid (sm_out (fun h => q2 h.2) HSm.out)
          have A1 := hid (al_out (fun h => q2 h.2))
          cases sb <;> cases ab
          all_goals (
            go_wp2_with fail
            go_roundw
            case measure => simp [intOf] <;> omega
            case rel => exact ⟨k + 1, _, false, rfl, rfl, by go_num, by omega, (by trivial), S1.out, A1.out⟩)
      · have S1 := hid (sm_out (fun h => q1 h.1) HSm.out)
        have A1 := hid (al_out (fun h => q1 h.1))
        cases sb <;> cases ab
        all_goals (
          go_wp2_with fail
          go_roundw
          case measure => simp [intOf] <;> omega
          case rel => exact ⟨k + 1, _, false, rfl, rfl, by go_num, by omega, (by trivial), S1.out, A1.out⟩)
    · have hke : lo + (k : Int) = hi + 1 := by omega
      have hA : ab = true ↔ fe = 1 := HAl.out.trans ((show AllZ lo k x ↔ ∀ z, lo ≤ z → z ≤ hi → x.lo ≤ z ∧ z ≤ x.hi from ⟨fun q z a b => q z a (by omega), fun q z a b => q z a (by omega)⟩).trans HAll.out.symm)
      have hN : fe = 2 ↔ ¬ (sb = true) := HNone.out.trans ((show (∀ z, lo ≤ z → z ≤ hi → ¬ (x.lo ≤ z ∧ z ≤ x.hi)) ↔ ¬ SomeZ lo k x from ⟨fun q ⟨z, a, b, c⟩ => q z a (by omega) c, fun q z a b c => q ⟨z, a, by omega, c⟩⟩).trans (not_congr HSm.out).symm)
      have hfin : (fe = 1 ∧ sb = true ∧ ab = true) ∨ (fe = 2 ∧ sb = false ∧ ab = false) ∨ (fe = 3 ∧ sb = true ∧ ab = false) := by
        rcases HOr.out with h | h | h
        · refine .inl ⟨h, ?_, hA.2 h⟩
          cases hs : sb with
          | true => rfl
          | false => have := hN.2 (by rw [hs]; decide); omega
        · refine .inr (.inl ⟨h, ?_, ?_⟩)
          · cases hs : sb with
            | false => rfl
            | true => exact absurd hs (hN.1 h)
          · cases ha : ab with
            | false => rfl
            | true => have := hA.1 ha; omega
        · refine .inr (.inr ⟨h, ?_, ?_⟩)
          · cases hs : sb with
            | true => rfl
            | false => have := hN.2 (by rw [hs]; decide); omega
          · cases ha : ab with
            | false => rfl
            | true => have := hA.1 ha; omega
      clear HSm HAl hA hN
      rcases hfin with ⟨rfl, rfl, rfl⟩ | ⟨rfl, rfl, rfl⟩ | ⟨rfl, rfl, rfl⟩
      all_goals (
        go_wp2_with (go_at_call 19; refine (AW.out _).mono ?_; rintro e w8 ⟨rfl, hb8⟩; have L := hid (L.out.later hb8); clear hb8)
        go_ret
        exact ⟨rfl, L.out.below⟩)
end Go.Proofs.Ytdcinngdilfpnaa
