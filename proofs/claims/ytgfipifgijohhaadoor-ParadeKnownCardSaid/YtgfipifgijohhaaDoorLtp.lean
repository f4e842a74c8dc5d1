/-
  PLAIN: when the parade is over, for true paces. No program in sight.
-/
import Derived.Test.YtgfipifgijohhaaDoorLk
namespace Go.Proofs.YtgfipifgijohhaaDoor

theorem both_rules {route : Int} {ws : List Wing} {st : List Int} {a b c : Int} (h : checkStarts route ws st = 0) (h2 : rulesErr a b c = 0) : bothErr route ws st a b c = 0 := by
  unfold bothErr; rw [if_pos h]; exact h2
theorem rules_fine {a b c : Int} (h1 : 0 ≤ a) (h2 : a ≤ b) (h3 : b ≤ 100000) (h4 : 0 ≤ c) (h5 : c ≤ 20000) : rulesErr a b c = 0 := by
  unfold rulesErr
  rw [if_neg (by rw [inB_true.2 ⟨by omega, by omega⟩]; simp), if_neg (by rw [inB_true.2 ⟨by omega, by omega⟩]; simp), if_neg (by rw [inB_true.2 ⟨by omega, by omega⟩]; simp), if_neg (by omega)]
theorem lasts_fine {route : Int} {ws : List Wing} {st : List Int} {a b c : Int} (h : bothErr route ws st a b c = 0) :
    lastsRes route ws st a b c = (verdictOf a b (longOf route ws st (Hi ws)) (longOf route ws st (Lo ws)), longOf route ws st (Hi ws), longOf route ws st (Lo ws)) := by
  unfold lastsRes; rw [if_pos h]

/-- the second in which it is over -/
def overAt (route : Int) (ws : List Wing) (st : List Int) (P : Nat → Int) : Int := passed (Ln ws) (nm st) P (ws.length - 1) (route + Ln ws (ws.length - 1))

theorem long_over (route : Int) (ws : List Wing) (st : List Int) (P : Nat → Int) : longOf route ws st P = overAt route ws st P - nm st 0 := rfl

theorem time_plain {route : Int} {ws : List Wing} {st ps : List Int} (hcs : checkStarts route ws st = 0) (hm : MadeW ws) (hms : MadeS ws st) (hmp : MadeP ws ps) (hlp : ps.length = ws.length) (h0 : 0 < ws.length) (h8 : ws.length ≤ 8) (hr1 : 1 ≤ route) (hr2 : route ≤ 2000) :
    0 ≤ nm st 0 ∧ nm st 0 ≤ overAt route ws st (Hi ws) ∧ overAt route ws st (Hi ws) ≤ overAt route ws st (nm ps) ∧ overAt route ws st (nm ps) ≤ overAt route ws st (Lo ws) ∧ overAt route ws st (Lo ws) ≤ 10000 ∧
    ∀ t, overAt route ws st (Hi ws) ≤ t → (nm (rowN ws st ps t ws.length) (ws.length - 1) < route + Ln ws (ws.length - 1) ↔ t < overAt route ws st (nm ps)) := by
  obtain ⟨hc, hl, hf⟩ := starts_zero hcs
  have hL : ∀ i, i < ws.length → 1 ≤ Ln ws i ∧ Ln ws i ≤ 80 := fun i hi => by have := hm i hi; unfold Ln; omega
  have hlo : ∀ i, i < ws.length → 1 ≤ Lo ws i ∧ Lo ws i ≤ Hi ws i := fun i hi => by have := hm i hi; unfold Lo Hi; omega
  have hp : ∀ i, i < ws.length → Lo ws i ≤ nm ps i ∧ nm ps i ≤ Hi ws i := fun i hi => hmp i (by omega)
  have hs := hms.bound
  have hs0 := hs 0 (by omega)
  have hln := hL (ws.length - 1) (by omega)
  have hx : 0 ≤ route + Ln ws (ws.length - 1) := by omega
  have hge : ∀ P : Nat → Int, (∀ i, i < ws.length → 0 < P i) → ∀ i, i < ws.length → nm st i ≤ overAt route ws st P := fun P hP i hi =>
    passed_ge_start (fun j hj => hP j (by omega)) (fun j hj => by have := hL j (by omega); omega) hx i (by omega)
  have q1 := hge (Hi ws) (fun i hi => by have := hlo i hi; omega)
  have m1 : overAt route ws st (Hi ws) ≤ overAt route ws st (nm ps) := passed_mono_P (fun i hi => by have := hlo i (by omega); have := hp i (by omega); omega) (fun i hi => (hp i (by omega)).2) (fun i hi => by have := hL i (by omega); omega) hx
  have m2 : overAt route ws st (nm ps) ≤ overAt route ws st (Lo ws) := passed_mono_P (fun i hi => by have := hlo i (by omega); omega) (fun i hi => (hp i (by omega)).1) (fun i hi => by have := hL i (by omega); omega) hx
  have m3 : overAt route ws st (Lo ws) ≤ 680 * (st.length : Int) + (route + Ln ws (ws.length - 1)) + 80 * ((ws.length - 1 : Nat) : Int) :=
    passed_low (by omega) (fun i hi => by have := hlo i (by omega); omega) (fun i hi => by have := hL i (by omega); omega) (fun i hi => (hs i (by omega)).2) hx
  refine ⟨hs0.1, q1 0 h0, m1, m2, by omega, fun t ht => ?_⟩
  rw [rowN_front hcs _ (by omega), if_neg (by have := q1 (ws.length - 1) (by omega); omega)]
  have hiff := passed_le_iff (L := Ln ws) (S := nm st) (P := nm ps) (k := ws.length - 1) (fun i hi => by have := hlo i (by omega); have := hp i (by omega); omega) (x := route + Ln ws (ws.length - 1)) (t := t)
  have e : passed (Ln ws) (nm st) (nm ps) (ws.length - 1) (route + Ln ws (ws.length - 1)) = overAt route ws st (nm ps) := rfl
  rw [e] at hiff
  omega
end Go.Proofs.YtgfipifgijohhaaDoor
