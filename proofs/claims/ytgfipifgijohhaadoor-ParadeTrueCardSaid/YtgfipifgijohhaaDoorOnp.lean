/-
  PLAIN: nobody goes back; a place is passed in the first second in which a front is there. No program in sight.
-/
import Derived.Test.YtgfipifgijohhaaDoorRwp
namespace Go.Proofs.YtgfipifgijohhaaDoor

theorem LK.less {d : Nat} {cs cs2 : Cells} {li : List (Value × List Int)} {lw : List (Value × List Wing)} {w0 w : World} (k : LK d cs li lw w0 w) (h : ∀ x, x ∈ cs2 → x ∈ cs) : LK d cs2 li lw w0 w :=
  ⟨k.below, k.d0, k.beat, fun b o v hm => k.cell b o v (h _ hm), fun v xs hm => ⟨k.i hm, fun h0 b o u hb => (k.ints v xs hm).2 h0 b o u (h _ hb)⟩, fun v xs hm => ⟨k.g hm, fun h0 b o u hb => (k.wgs v xs hm).2 h0 b o u (h _ hb)⟩⟩
theorem pass_fine {route : Int} {ws : List Wing} {st : List Int} {wing : Nat} {place : Int} (h : checkStarts route ws st = 0) (h1 : wing < ws.length) (h2 : 0 ≤ place) (h3 : place ≤ 100000) :
    passErr route ws st (wing : Int) place = 0 ∧ passSpan route ws st (wing : Int) place = (passed (Ln ws) (nm st) (Hi ws) wing place, passed (Ln ws) (nm st) (Lo ws) wing place) := by
  have e := passErr_0 (route := route) (ws := ws) (st := st) (wing := (wing : Int)) (place := place) h (inB_true.2 ⟨by omega, by omega⟩) (inB_true.2 ⟨h2, h3⟩)
  refine ⟨e, ?_⟩
  rw [passSpan_0 e, Int.toNat_natCast]

/-- the seconds and the places that ParadeOn looks at, for one end of the paces -/
theorem on_plain {route : Int} {ws : List Wing} {st : List Int} (hcs : checkStarts route ws st = 0) (hm : MadeW ws) (hms : MadeS ws st) (h8 : ws.length ≤ 8) {k : Nat} (hk : k < ws.length) {P : Nat → Int} (hP : ∀ i, i < ws.length → 1 ≤ P i) {x : Int} (hx : 0 ≤ x) (hx2 : x ≤ 2000) :
    nm st k ≤ passed (Ln ws) (nm st) P k x ∧ passed (Ln ws) (nm st) P k x ≤ 10000 ∧ x ≤ front (Ln ws) (nm st) P k (passed (Ln ws) (nm st) P k x) ∧ front (Ln ws) (nm st) P k (passed (Ln ws) (nm st) P k x - 1) < x := by
  obtain ⟨hc, hl, hf⟩ := starts_zero hcs
  have hL : ∀ i, i < ws.length → 1 ≤ Ln ws i ∧ Ln ws i ≤ 80 := fun i hi => by have := hm i hi; unfold Ln; omega
  have hs := hms.bound
  have q1 := passed_ge_start (L := Ln ws) (S := nm st) (P := P) (k := k) (fun i hi => by have := hP i (by omega); omega) (fun i hi => by have := hL i (by omega); omega) hx k (Nat.le_refl _)
  have q2 : passed (Ln ws) (nm st) P k x ≤ 680 * (st.length : Int) + x + 80 * (k : Int) :=
    passed_low (by omega) (fun i hi => by have := hP i (by omega); omega) (fun i hi => by have := hL i (by omega); omega) (fun i hi => (hs i (by omega)).2) hx
  have hiff := fun t => passed_le_iff (L := Ln ws) (S := nm st) (P := P) (k := k) (x := x) (t := t) (fun i hi => by have := hP i (by omega); omega)
  refine ⟨q1, by omega, (hiff _).1 (Int.le_refl _), ?_⟩
  have h2 := hiff (passed (Ln ws) (nm st) P k x - 1)
  omega
end Go.Proofs.YtgfipifgijohhaaDoor
