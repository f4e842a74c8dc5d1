/-
  PLAIN: the bytes of a plot's sheet. No program in sight.
  WALKS: costume.Write: its rows, the sheet.
  WALKS: costume.Write.
-/
import Derived.Test.YtoipcbmbhjajfaaGreatDoorCpl
import Derived.Lib.ItoaLen
import Derived.Test.YtoipcbmbhjajfaaGreatDoorBld
import Derived.Test.YtoipcbmbhjajfaaGreatDoorCwc
import Derived.Test.YtoipcbmbhjajfaaGreatDoorApn
namespace Go.Proofs.YtoipcbmbhjajfaaGreatDoor
open Go.RowKit

/-- numbers, each behind a blank -/
def numsL (xs : List Int) (b : List UInt8) : Nat → List UInt8
  | 0 => b
  | k + 1 => numsL xs b k ++ 32 :: Lib.itoa (nm xs k)
/-- a row behind other text -/
def rowL (word : List UInt8) (xs : List Int) (b : List UInt8) : List UInt8 := numsL xs (b ++ word) xs.length ++ [10]
def sizesL (ps : List (Int × Int)) : List Int := ps.flatMap fun x => [x.1, x.2]
def partN (x : Part) : List Int := [x.person, x.place, x.kind, x.start, x.stop]
def personsW : List UInt8 := [112, 101, 114, 115, 111, 110, 115]
def walkW : List UInt8 := [119, 97, 108, 107]
def dressW : List UInt8 := [100, 114, 101, 115, 115]
def partW : List UInt8 := [112, 97, 114, 116]
def endW : List UInt8 := [101, 110, 100]
def walksL (walk : List (List Int)) (b : List UInt8) : Nat → List UInt8
  | 0 => b
  | k + 1 => rowL walkW (lst walk k) (walksL walk b k)
def partsL (parts : List Part) (b : List UInt8) : Nat → List UInt8
  | 0 => b
  | k + 1 => rowL partW (partN (pt parts k)) (partsL parts b k)
def upToWalk (p : Plot) : List UInt8 := rowL personsW (sizesL p.persons) []
def upToDress (p : Plot) : List UInt8 := walksL p.walk (upToWalk p) p.walk.length
def upToParts (p : Plot) : List UInt8 := rowL dressW p.dress (upToDress p)
def sheetL (p : Plot) : List UInt8 := rowL endW [(p.parts.length : Int)] (partsL p.parts (upToParts p) p.parts.length)
def sheetRes (p : Plot) : List UInt8 := if plotErr p = 0 then sheetL p else []

def NumsOk (xs : List Int) : Prop := ∀ i, i < xs.length → 0 ≤ nm xs i ∧ nm xs i ≤ 1000000
theorem numsL_len {xs : List Int} {b : List UInt8} (h : NumsOk xs) : ∀ {k : Nat}, k ≤ xs.length → (numsL xs b k).length ≤ b.length + k * 22 := by
  intro k
  induction k with
  | zero => intro _; simp [numsL]
  | succ k ih =>
    intro hk
    have h1 := ih (by omega)
    have h2 := h k (by omega)
    have h3 := Lib.itoa_length_le (nm xs k) (by omega) (by omega)
    simp only [numsL, List.length_append, List.length_cons]
    omega
theorem rowL_len {word : List UInt8} {xs : List Int} {b : List UInt8} (h : NumsOk xs) : (rowL word xs b).length ≤ b.length + word.length + xs.length * 22 + 1 := by
  have h1 := numsL_len (b := b ++ word) h (Nat.le_refl _)
  unfold rowL
  simp only [List.length_append, List.length_cons, List.length_nil] at h1 ⊢
  omega
theorem sizesL_length (ps : List (Int × Int)) : (sizesL ps).length = 2 * ps.length := by
  unfold sizesL
  induction ps with
  | nil => rfl
  | cons x ps ih => simp only [List.flatMap_cons, List.length_append, List.length_cons, List.length_nil, ih]; omega
theorem sizesL_nm (ps : List (Int × Int)) : ∀ i, i < ps.length → nm (sizesL ps) (2 * i) = (sp ps i).1 ∧ nm (sizesL ps) (2 * i + 1) = (sp ps i).2 := by
  induction ps with
  | nil => intro i hi; simp at hi
  | cons x ps ih =>
    intro i hi
    cases i with
    | zero => exact ⟨rfl, rfl⟩
    | succ i => exact ih i (by simpa using hi)
theorem sizesL_take (ps : List (Int × Int)) {k : Nat} (hk : k < ps.length) : sizesL (ps.take (k + 1)) = sizesL (ps.take k) ++ [(sp ps k).1, (sp ps k).2] := by
  unfold sizesL
  rw [List.take_add_one, List.flatMap_append]
  congr 1
  simp [sp, List.getD_eq_getElem?_getD, List.getElem?_eq_getElem hk]
theorem figE_zero {x : Int × Int} (h : figE x = 0) : 1 ≤ x.1 ∧ x.1 ≤ x.2 ∧ x.2 ≤ 300 := by
  unfold figE at h
  split at h
  · cases h
  · rename_i h1
    split at h
    · cases h
    · rename_i h2
      split at h
      · cases h
      · have h1' := inB_true.1 (by simpa using h1)
        have h2' := inB_true.1 (by simpa using h2)
        omega
theorem fine_sizes {p : Plot} (h : Valid p) : NumsOk (sizesL p.persons) := by
  intro i hi
  rw [sizesL_length] at hi
  have hm := sizesL_nm p.persons (i / 2) (by omega)
  have hf := figE_zero (h.figures (i / 2) (by omega))
  rcases (by omega : i = 2 * (i / 2) ∨ i = 2 * (i / 2) + 1) with e | e
  · rw [e, hm.1]; omega
  · rw [e, hm.2]; omega
theorem row_zero {walk : List (List Int)} {i : Nat} (h : rowE walk i = 0) : (lst walk i).length = walk.length ∧ ∀ k, k < walk.length → (0 ≤ nm (lst walk i) k ∧ nm (lst walk i) k ≤ 1440) ∧ (i = k → nm (lst walk i) k = 0) := by
  unfold rowE at h
  by_cases hl : (lst walk i).length = walk.length
  · rw [if_pos hl] at h
    refine ⟨hl, fun k hk => ?_⟩
    have h1 := firstBad_zero.1 h k hk
    unfold cellE at h1
    split at h1
    · cases h1
    · rename_i h2
      split at h1
      · cases h1
      · rename_i h3
        exact ⟨inB_true.1 (by simpa using h2), fun e => by
          rcases Decidable.em (nm (lst walk i) k = 0) with h4 | h4
          · exact h4
          · exact absurd ⟨e, h4⟩ h3⟩
  · rw [if_neg hl] at h; cases h
theorem fine_walk {p : Plot} (h : Valid p) {i : Nat} (hi : i < p.walk.length) : NumsOk (lst p.walk i) ∧ (lst p.walk i).length ≤ 8 := by
  have h1 := row_zero (h.rows i hi)
  have h2 := h.walk
  exact ⟨fun k hk => by have := (h1.2 k (by omega)).1; omega, by omega⟩
theorem fine_dress {p : Plot} (h : Valid p) : NumsOk p.dress := fun i hi => by have := h.dresses i hi; omega
theorem fine_part {p : Plot} (h : Valid p) {i : Nat} (hi : i < p.parts.length) : NumsOk (partN (pt p.parts i)) := by
  have h1 := aloneE_zero (h.parts i hi)
  have := h.persons
  have := h.walk
  have := h.dress
  intro k hk
  have hk : k < 5 := hk
  match k, hk with
  | 0, _ => show 0 ≤ (pt p.parts i).person ∧ (pt p.parts i).person ≤ 1000000; omega
  | 1, _ => show 0 ≤ (pt p.parts i).place ∧ (pt p.parts i).place ≤ 1000000; omega
  | 2, _ => show 0 ≤ (pt p.parts i).kind ∧ (pt p.parts i).kind ≤ 1000000; omega
  | 3, _ => show 0 ≤ (pt p.parts i).start ∧ (pt p.parts i).start ≤ 1000000; omega
  | 4, _ => show 0 ≤ (pt p.parts i).stop ∧ (pt p.parts i).stop ≤ 1000000; omega
theorem walksL_len {p : Plot} (h : Valid p) {b : List UInt8} : ∀ {k : Nat}, k ≤ p.walk.length → (walksL p.walk b k).length ≤ b.length + k * 200 := by
  intro k
  induction k with
  | zero => intro _; simp [walksL]
  | succ k ih =>
    intro hk
    have h1 := ih (by omega)
    obtain ⟨h2, h3⟩ := fine_walk h (i := k) (by omega)
    have h4 := rowL_len (word := walkW) (b := walksL p.walk b k) h2
    have h5 : walkW.length = 4 := rfl
    simp only [walksL]
    omega
theorem partsL_len {p : Plot} (h : Valid p) {b : List UInt8} : ∀ {k : Nat}, k ≤ p.parts.length → (partsL p.parts b k).length ≤ b.length + k * 200 := by
  intro k
  induction k with
  | zero => intro _; simp [partsL]
  | succ k ih =>
    intro hk
    have h1 := ih (by omega)
    have h2 := fine_part h (i := k) (by omega)
    have h4 := rowL_len (word := partW) (b := partsL p.parts b k) h2
    have h5 : partW.length = 4 := rfl
    have h6 : (partN (pt p.parts k)).length = 5 := rfl
    simp only [partsL]
    omega
theorem upToWalk_len {p : Plot} (h : Valid p) : (upToWalk p).length ≤ 1000 := by
  have h1 := rowL_len (word := personsW) (b := []) (fine_sizes h)
  have h2 := h.persons
  rw [sizesL_length] at h1
  have h3 : personsW.length = 7 := rfl
  unfold upToWalk
  simp only [List.length_nil] at h1
  omega
theorem upToDress_len {p : Plot} (h : Valid p) : (upToDress p).length ≤ 3000 := by
  have h1 := upToWalk_len h
  have h2 := walksL_len h (b := upToWalk p) (Nat.le_refl _)
  have h3 := h.walk
  unfold upToDress
  omega
theorem upToParts_len {p : Plot} (h : Valid p) : (upToParts p).length ≤ 4000 := by
  have h1 := upToDress_len h
  have h2 := rowL_len (word := dressW) (b := upToDress p) (fine_dress h)
  have h3 := h.dress
  have h4 : dressW.length = 5 := rfl
  unfold upToParts
  omega
end Go.Proofs.YtoipcbmbhjajfaaGreatDoor

namespace Go.Proofs.YtoipcbmbhjajfaaGreatDoor
open Go.RowKit

theorem own_kept {base b B : Nat} {l : List UInt8} {w w' : World} {v : Value} {xs : List Int} (h : OwnInts base w v xs) (hB : Bd B b l w) (hk : Lib.OthersKept 5 (some b) w w') : OwnInts base w' v xs := by
  obtain ⟨h1, h2⟩ := h
  refine ⟨h1, ?_⟩
  rcases h2 with h2 | ⟨g, cap, cur, e, hg, hh, hr⟩
  · exact .inl h2
  · refine .inr ⟨g, cap, cur, e, hg, hk g _ hh (fun e => ?_) (fun _ _ e => by cases e), hr⟩
    have eb : g = b := Option.some.inj e
    have go : ∀ p, Lib.BuilderAtF 69 5 B b p (Lib.byteCells l) w → False := fun p ⟨h1, v, h2, h3, h4⟩ => by
      rw [← eb, hh] at h2
      cases h2
    exact hB.elim (go _) (go _)
/-- numbers that stay as long as a builder alone is written to -/
def Stay (B b : Nat) (w : World) (v : Value) (xs : List Int) : Prop := ∀ W', Below B w W' → Lib.OthersKept 5 (some b) w W' → IntsAt none W' v xs
theorem Stay.own {base B b : Nat} {l : List UInt8} {w : World} {v : Value} {xs : List Int} (h : OwnInts base w v xs) (hB : Bd B b l w) : Stay B b w v xs := fun _ _ hk => OwnInts.at (own_kept h hB hk) (by simp)
theorem Stay.low {B b : Nat} {w0 w : World} {v : Value} {xs : List Int} (h : IntsAt none w0 v xs) (hb : Below B w0 w) (hB : B = w0.heap.size) : Stay B b w v xs := fun _ hk _ => h.below (hB ▸ hb.trans hk)

set_option maxHeartbeats 2000000 in
set_option maxRecDepth 100000 in
theorem row_any (word : List UInt8) (xs : List Int) (vl : Value) (b B : Nat) (l : List UInt8) (w : World) (hL : Stay B b w vl xs) (hx : NumsOk xs) (hB : Bd B b l w) (ht : Tb B w) (hl : l.length + word.length + 22 * xs.length ≤ 900000) (hBw : B ≤ w.heap.size) :
    Calls Tryz.prog 27 #[.string ⟨word.toArray⟩, vl, .pointer (some ⟨b, 0, none⟩)] w fun e w' => e = .returned (.tuple #[]) ∧ Wrote B b (rowL word xs l) w w' := by
  have HX := hid hx
  have HS := hid hL
  obtain ⟨al, cl, rfl, _⟩ := hL w (Below.refl _ _) (Lib.OthersKept.refl _ _ _)
  have K := hid (Wrote.start hB)
  have HT := hid ht
  have HBW := hid hBw
  have HLEN := hid hl
  clear hx hL hB ht hl hBw
  go_enter Tryz.func27, Tryz.ntmps27
  go_wp2_with (go_at_call 28; refine (writeS_any B b l ⟨word.toArray⟩ _ K.out.bd ?_ HBW.out).mono ?_; (have := HLEN.out; simp [ByteArray.size]; omega); rintro e w1 ⟨rfl, g1, g2, g3⟩; have K := hid (K.out.go ⟨g1, g2, g3⟩); clear g1 g2 g3)
  go_loopw [11] (fun i wr => ∃ k : Nat, k ≤ xs.length ∧ i = .int .i64 k ∧ Wrote B b (numsL xs (l ++ word) k) w wr) (fun i _ => xs.length - (intOf i).toNat)
  case atStart => exact ⟨0, by omega, rfl, by simpa [numsL] using K.out⟩
  case round =>
    obtain ⟨k, hk, rfl, hkw⟩ := hrel
    have KR := hid hkw
    have HL := hid (numsL_len (b := l ++ word) HX.out hk)
    clear hkw
    by_cases hlt : k < xs.length
    · have hi := HS.out _ KR.out.below KR.out.kept
      obtain ⟨bl, ol, c', e, _, _⟩ := hi.slice (by omega)
      cases e
      have n0 := hi.cell hlt
      have hf := HX.out k hlt
      have HST := hid (show numsL xs (l ++ word) (k + 1) = numsL xs (l ++ word) k ++ 32 :: Lib.itoa (nm xs k) from rfl)
      obtain ⟨n, hn⟩ : ∃ n, nm xs k = n := ⟨_, rfl⟩
      rw [hn] at n0 hf HST
      have i1 : (k : Int) < (xs.length : Int) := by omega
      have z2 : IntKind.i64.wrap ((k : Int) + 1) = (k : Int) + 1 := IntWalk.i64_in _ (by have := HLEN.out; omega)
      have HI := hid (itoa_len n hf.1 (by omega))
      have hadd : ∀ W : World, (Op.stringOp .add ⟨#[32]⟩ ⟨(Lib.itoa n).toArray⟩).run Tryz.prog W = .ok (.string ⟨(32 :: Lib.itoa n).toArray⟩) W := fun W => by
        have hlen := HI.out
        rw [run_string_add_sum W _ _ (by simp [ByteArray.size]; omega), ByteArray.mk_append_mk]
        simp
      have HF := hid hf
      clear hn hi hf
      go_wp2_with (first
        | (go_at_call 29; refine (itoa_any n _ HF.out.1 (by have := HF.out; omega) (HT.out.go KR.out.below).tab).mono ?_; rintro e w2 ⟨rfl, hb1⟩; have KR := hid (KR.out.later hb1 (Nat.le_trans HBW.out KR.out.below.size)); clear hb1 n0)
        | (go_at_call 28; refine (writeS_any B b _ _ _ KR.out.bd ?_ (Nat.le_trans HBW.out KR.out.below.size)).mono ?_; (have := HI.out; have := HL.out; have := HLEN.out; simp [ByteArray.size] at *; omega); rintro e w3 ⟨rfl, g1, g2, g3⟩; have KR := hid (KR.out.go ⟨g1, g2, g3⟩); clear g1 g2 g3))
      go_roundw
      case rel => exact ⟨k + 1, by omega, by go_num, by rw [HST.out]; exact KR.out⟩
      case measure => simp [intOf] <;> omega
    · obtain rfl : k = xs.length := by omega
      go_wp2_with (go_at_call 28; refine (writeS_any B b _ ⟨#[10]⟩ _ KR.out.bd ?_ (Nat.le_trans HBW.out KR.out.below.size)).mono ?_; (have := HL.out; have := HLEN.out; simp [ByteArray.size] at *; omega); rintro e w3 ⟨rfl, g1, g2, g3⟩; have KR := hid (KR.out.go ⟨g1, g2, g3⟩); clear g1 g2 g3)
      go_end0
      exact ⟨rfl, KR.out⟩
end Go.Proofs.YtoipcbmbhjajfaaGreatDoor

namespace Go.Proofs.YtoipcbmbhjajfaaGreatDoor
open Go.RowKit

theorem Bd.grown {B b base : Nat} {l : List UInt8} {w w' : World} {v : Value} {xs : List Int} (h : Bd B b l w) (ho : OwnInts base w v xs) (hg : w.grownBy w' v.ownBlock) : Bd B b l w' := by
  have hty : ∀ g, v.ownBlock = some g → ∃ cur, w.heap[g]? = some (.cells cur 3 (0, 0)) := fun g hgv => by
    rcases ho.2 with ⟨rfl, _⟩ | ⟨g', cap, cur, rfl, _, hh, _⟩
    · cases hgv
    · cases (Option.some.inj hgv : g' = g); exact ⟨cur, hh⟩
  have go : ∀ p, Lib.BuilderAtF 69 5 B b p (Lib.byteCells l) w → Lib.BuilderAtF 69 5 B b p (Lib.byteCells l) w' := fun p ⟨h1, u, h2, h3, h4⟩ => by
    have hlt : b < w.heap.size := by
      rcases Nat.lt_or_ge b w.heap.size with h' | h'
      · exact h'
      · rw [Array.getElem?_eq_none h'] at h2; cases h2
    refine ⟨h1, u, (hg.block b hlt (fun e => ?_)).trans h2, h3.kept hg ?_, h4⟩
    · obtain ⟨cur, hh⟩ := hty b e.symm
      rw [hh] at h2
      cases h2
    · rcases h3.2 with ⟨rfl, _⟩ | ⟨g, cap, cur, fz', rfl, hb', hgg, _⟩
      · exact .inl rfl
      · refine .inr (fun e => ?_)
        obtain ⟨cur', hh⟩ := hty g e.symm
        rw [hh] at hgg
        cases hgg
  exact h.elim (fun x => .inl (go _ x)) (fun x => .inr (go _ x))

/-- what stays while a sheet is written -/
structure WC (b : Nat) (l : List UInt8) (wS w : World) : Prop where
  bd : Bd b b l w
  below : Below b wS w
theorem WC.wrote {b : Nat} {l l' : List UInt8} {wS w w' : World} (k : WC b l wS w) (h : Wrote b b l' w w') : WC b l' wS w' := ⟨h.bd, k.below.trans h.below⟩
theorem WC.later {b : Nat} {l : List UInt8} {wS w w' : World} (k : WC b l wS w) (h : Below w.heap.size w w') : WC b l wS w' := ⟨k.bd.later h, k.below.trans (h.mono (Nat.le_of_lt k.bd.lt))⟩

theorem run_five_n (w : World) (x0 x1 x2 x3 x4 : Int) : (Instr.buildSlice 24 5 #[(0, .int .i64 x0), (1, .int .i64 x1), (2, .int .i64 x2), (3, .int .i64 x3), (4, .int .i64 x4)]).run Tryz.prog w =
    .ok (.slice (some ⟨w.heap.size, 0, none⟩) 5 5) (w.alloc (.cells #[.int .i64 x0, .int .i64 x1, .int .i64 x2, .int .i64 x3, .int .i64 x4] 3)) := by
  kernel_rfl
theorem wpList_five_n {w : World} {ops : Array Oper} {rest : List Oper} {a : Act} {Q : Exit → Act → World → Prop} {o : Oper} (hgd : o.guard = none) (s0 s1 s2 s3 s4 : Operand) (x0 x1 x2 x3 x4 : Int)
    (ho : o.op = .buildSlice 24 5 #[(0, s0), (1, s1), (2, s2), (3, s3), (4, s4)])
    (h0 : a.eval s0 = .int .i64 x0) (h1 : a.eval s1 = .int .i64 x1) (h2 : a.eval s2 = .int .i64 x2) (h3 : a.eval s3 = .int .i64 x3) (h4 : a.eval s4 = .int .i64 x4)
    (h : wpList Tryz.prog ops Q rest (a.put o.dst (.slice (some ⟨w.heap.size, 0, none⟩) 5 5)) (w.alloc (.cells #[.int .i64 x0, .int .i64 x1, .int .i64 x2, .int .i64 x3, .int .i64 x4] 3))) :
    wpList Tryz.prog ops Q (o :: rest) a w := wpList_plain hgd fun _ hK => by
  unfold Oper.wp execOp
  simp only [ho]
  have e : (#[(0, s0), (1, s1), (2, s2), (3, s3), (4, s4)].map fun (p : Nat × Operand) => (p.1, a.eval p.2)) = #[(0, .int .i64 x0), (1, .int .i64 x1), (2, .int .i64 x2), (3, .int .i64 x3), (4, .int .i64 x4)] := by
    simp [h0, h1, h2, h3, h4]
  rw [e]
  simp only [Sem.run_bind, Sem.run_pure, Result.andThen_ok, run_five_n]
  exact hK _ _ h

set_option maxHeartbeats 8000000 in
set_option maxRecDepth 100000 in
theorem cwrite_any (p : Plot) (vp vw vd vq : Value) (w : World) (h : PlotAt none w vp vw vd vq p) (ht : Tab w) :
    Calls Tryz.prog 9 #[plotV vp vw vd vq] w fun e w' => e = .returned (.tuple #[.string ⟨(sheetRes p).toArray⟩, .int .i64 (plotErr p)]) ∧ Below w.heap.size w w' := by
  have H := hid h
  have HT := hid ht
  have HC := hid (fun W' hb => ccheck_any p vp vw vd vq W' (H.out.below hb))
  obtain ⟨ap, cp, rfl⟩ := h.persons.form
  obtain ⟨aw, cw, rfl⟩ := h.walk.form
  obtain ⟨ad, cd, ed, _⟩ := h.dress
  subst ed
  obtain ⟨aq, cq, rfl⟩ := h.parts.form
  clear h ht
  have K := hid ((HK.start w).box4m (n := w.heap.size) rfl (.slice ap p.persons.length cp) (.slice aw p.walk.length cw) (.slice ad p.dress.length cd) (.slice aq p.parts.length cq) 27)
  by_cases hc : plotErr p = 0
  rotate_left
  · obtain ⟨e1, e2⟩ := ne_bool hc
    have hr : sheetRes p = [] := by unfold sheetRes; rw [if_neg hc]
    rw [hr]
    obtain ⟨ce, hce⟩ : ∃ ce, plotErr p = ce := ⟨_, rfl⟩
    rw [hce] at HC e1 e2 ⊢
    clear hc hr hce
    go_enter Tryz.func9, Tryz.ntmps9
    go_wp2_with (go_at_call 26; refine (HC.out _ K.out.below).mono ?_; rintro e w1 ⟨rfl, hb1⟩; have K := hid (K.out.later hb1); clear hb1)
    go_ret2
    exact ⟨rfl, K.out.below⟩
  · have HV := hid (plotErr_zero.1 hc)
    have hr : sheetRes p = sheetL p := by unfold sheetRes; rw [if_pos hc]
    rw [hr, hc]
    rw [hc] at HC
    have hmf : ∀ (fn : Fn) (first cap : Array Value) (w : World), (Instr.makeFunc fn first cap).run Tryz.prog w = .ok (.func fn first cap) w := fun _ _ _ _ => rfl
    clear hr hc
    go_enter Tryz.func9, Tryz.ntmps9
    go_wp2_with (go_at_call 26; refine (HC.out _ K.out.below).mono ?_; rintro e w1 ⟨rfl, hb1⟩; have K := hid (K.out.later hb1); clear hb1; have c0 := cell_up (X := .cells #[.pointer none, .slice none 0 0] 69) (K.out.c (b := w.heap.size) (o := 0) (v := .slice ap p.persons.length cp) (by simp)))
    have x0 := K.out.c (b := w.heap.size) (o := 0) (v := .slice ap p.persons.length cp) (by simp)
    have x1 := K.out.c (b := w.heap.size) (o := 1) (v := .slice aw p.walk.length cw) (by simp)
    have x2 := K.out.c (b := w.heap.size) (o := 2) (v := .slice ad p.dress.length cd) (by simp)
    have x3 := K.out.c (b := w.heap.size) (o := 3) (v := .slice aq p.parts.length cq) (by simp)
    have hTl := World.block_lt_of_cell? w1 ⟨w.heap.size, 0, none⟩ x0
    have HX1 := hid (fun (W' : World) (hb : Below w1.heap.size w1 W') => cell_back hb hTl x1)
    have HX2 := hid (fun (W' : World) (hb : Below w1.heap.size w1 W') => cell_back hb hTl x2)
    have HX3 := hid (fun (W' : World) (hb : Below w1.heap.size w1 W') => cell_back hb hTl x3)
    have HP := hid (fun (W' : World) (hb : Below w1.heap.size w1 W') => (H.out.below K.out.below).below hb)
    have HP1 := hid (H.out.below K.out.below)
    have HTB := hid (fun (W' : World) (hb : Below w1.heap.size w1 W') => (((Tb.of HT.out).go K.out.below).up K.out.below.size).go hb)
    have HBW := hid (fun (W' : World) (hb : Below w1.heap.size w1 W') => below_trans K.out.below hb)
    have KW := hid (show WC w1.heap.size [] w1 (w1.alloc (.cells #[.pointer none, .slice none 0 0] 69)) from ⟨Bd.fresh w1, below_alloc _ _⟩)
    clear x0 x1 x2 x3 hTl c0
    go_loopw [7, 23] (fun s i wr => ∃ k : Nat, k ≤ p.persons.length ∧ i = .int .i64 k ∧ OwnInts w1.heap.size wr s (sizesL (p.persons.take k)) ∧ WC w1.heap.size [] w1 wr) (fun _ i _ => p.persons.length - (intOf i).toNat)
    case atStart => exact ⟨0, by omega, rfl, own_nil _ _, KW.out⟩
    case round =>
      obtain ⟨k, hk, rfl, ho, hkw⟩ := hrel
      obtain ⟨wo, rfl⟩ : ∃ wo : World, wo = wr := ⟨_, rfl⟩
      have KR := hid hkw
      have HO := hid ho
      have HPl := hid HV.out.persons
      obtain ⟨sa, sc, es⟩ := (own_int.2 ho).form
      have hsl : (sizesL (p.persons.take k)).length = 2 * k := by rw [sizesL_length, List.length_take]; omega
      rw [hsl] at es
      subst es
      clear hkw ho hsl
      by_cases hlt : k < p.persons.length
      · have hg := SpansAt.cells (HP.out _ KR.out.below).persons hlt
        obtain ⟨bp, op, rfl, _, q0, q1⟩ := hg
        have i1 : (k : Int) < (p.persons.length : Int) := by omega
        have z2 : IntKind.i64.wrap ((k : Int) + 1) = (k : Int) + 1 := IntWalk.i64_in _ (by have := HPl.out; omega)
        have HST := hid (sizesL_take p.persons hlt)
        obtain ⟨lo, hlo⟩ : ∃ lo, (sp p.persons k).1 = lo := ⟨_, rfl⟩
        obtain ⟨hi, hhi⟩ : ∃ hi, (sp p.persons k).2 = hi := ⟨_, rfl⟩
        rw [hlo] at q0 HST
        rw [hhi] at q1 HST
        have BA := hid (below_trans (below_alloc wo (.cells #[.int .i64 lo, .int .i64 hi] 58)) (below_alloc _ (.cells #[.int .i64 lo, .int .i64 hi] 3)))
        have HI := hid (OwnInts.at (d := none) (own_lit (wo.alloc (.cells #[.int .i64 lo, .int .i64 hi] 58)) [lo, hi] #[.int .i64 lo, .int .i64 hi] rfl (by simp) (n := 2) (g := wo.heap.size + 1) rfl (by simp)) (by simp))
        have HQ1 := hid (show (sizesL (p.persons.take k)).length + [lo, hi].length ≤ 1000000 from by rw [sizesL_length, List.length_take]; have := HPl.out; simp; omega)
        have HQ2 := hid (show w1.heap.size ≤ ((wo.alloc (.cells #[.int .i64 lo, .int .i64 hi] 58)).alloc (.cells #[.int .i64 lo, .int .i64 hi] 3)).heap.size from Nat.le_trans (Nat.le_of_lt KR.out.bd.lt) BA.out.size)
        clear hlo hhi
        have HOW := hid (own_int.2 (HO.out.later BA.out))
        have HSR := hid (Src.ints HI.out (IntsAt.soundI HI.out (by simp)))
        have HLN := hid (show (sizesL (p.persons.take k) ++ [lo, hi]).length = 2 * k + 2 from by rw [List.length_append, sizesL_length, List.length_take, Nat.min_eq_left hk]; rfl)
        have HBL := hid (fun v' w2 (hown' : OwnR encInt 1 3 w1.heap.size w2 v' (sizesL (p.persons.take k) ++ [lo, hi])) (hg : ((wo.alloc (.cells #[.int .i64 lo, .int .i64 hi] 58)).alloc (.cells #[.int .i64 lo, .int .i64 hi] 3)).grownBy w2 (Value.slice sa (2 * k) sc).ownBlock) => (show OwnInts w1.heap.size w2 v' (sizesL (p.persons.take (k + 1))) ∧ WC w1.heap.size [] w1 w2 from ⟨by rw [HST.out]; exact own_int.1 hown', ((KR.out.later BA.out).bd).grown (HO.out.later BA.out) hg, (KR.out.later BA.out).below.grown hg HQ2.out (fun j hj => ((own_int.2 HO.out).lt hj).1)⟩))
        go_wp2_with (at_builtin; refine wpList_app encInt Tryz.underlying24 infoInt' (by decide) (by decide) (fun _ => rfl) rfl _ _ rfl w1.heap.size (sizesL (p.persons.take k)) [lo, hi] (fun y _ => encInt_one y) _ _ rfl rfl HOW.out HSR.out HQ1.out HQ2.out ?_; intro v' w2 hown' hg _ _; have hbl := HBL.out v' w2 hown' hg; obtain ⟨a2, c2, e2⟩ := hown'.form; rw [HLN.out] at e2; subst e2; have KR := hid hbl.2; have HO := hid hbl.1; clear hown' hg hbl)
        go_roundw
        case rel => exact ⟨k + 1, by omega, by go_num, HO.out, KR.out⟩
        case measure => simp [intOf] <;> omega
      obtain rfl : k = p.persons.length := by omega
      rw [List.take_length] at HO
      go_wp2_with fail
      refine (row_any personsW (sizesL p.persons) _ w1.heap.size w1.heap.size [] _ (Stay.own HO.out KR.out.bd) (fine_sizes HV.out) KR.out.bd (HTB.out _ KR.out.below) ?_ (Nat.le_of_lt KR.out.bd.lt)).mono ?_
      · rw [sizesL_length]; have := HPl.out; simp [personsW]; omega
      rintro e w3 ⟨rfl, g⟩
      have KR := hid (show WC w1.heap.size (upToWalk p) w1 w3 from KR.out.wrote g)
      have y1 := HX1.out _ KR.out.below
      have HWl := hid HV.out.walk
      clear g HO
      go_wp2_with fail
      go_loopw [41] (fun i wr => ∃ k : Nat, k ≤ p.walk.length ∧ i = .int .i64 k ∧ WC w1.heap.size (walksL p.walk (upToWalk p) k) w1 wr) (fun i _ => p.walk.length - (intOf i).toNat)
      case atStart => exact ⟨0, by omega, rfl, KR.out⟩
      case round =>
        obtain ⟨k, hk, rfl, hkw⟩ := hrel
        obtain ⟨wo, rfl⟩ : ∃ wo : World, wo = wr := ⟨_, rfl⟩
        have KR := hid hkw
        have HL := hid (walksL_len HV.out (b := upToWalk p) hk)
        have HL1 := hid (upToWalk_len HV.out)
        clear hkw
        by_cases hlt : k < p.walk.length
        · obtain ⟨bw, ow, u, rfl, hbw, q1, hrow⟩ := ListsAt.row HP1.out.walk hlt
          have q0 := cell_back KR.out.below hbw q1
          have HS := hid (Stay.low (b := w1.heap.size) hrow KR.out.below rfl)
          obtain ⟨au, cu, eu, _⟩ := hrow
          subst eu
          have i1 : (k : Int) < (p.walk.length : Int) := by omega
          have z2 : IntKind.i64.wrap ((k : Int) + 1) = (k : Int) + 1 := IntWalk.i64_in _ (by have := HWl.out; omega)
          have HF := hid (fine_walk HV.out hlt)
          clear q1 hbw
          go_wp2_with fail
          refine (row_any walkW (lst p.walk k) _ w1.heap.size w1.heap.size (walksL p.walk (upToWalk p) k) _ HS.out HF.out.1 KR.out.bd (HTB.out _ KR.out.below) ?_ (Nat.le_of_lt KR.out.bd.lt)).mono ?_
          · have := HL.out; have := HL1.out; have := HF.out.2; have := HWl.out; simp [walkW]; omega
          rintro e w4 ⟨rfl, g⟩
          have KR := hid (show WC w1.heap.size (walksL p.walk (upToWalk p) (k + 1)) w1 w4 from KR.out.wrote g)
          clear g q0
          go_wp2_with fail
          go_roundw
          case rel => exact ⟨k + 1, by omega, by go_num, KR.out⟩
          case measure => simp [intOf] <;> omega
        obtain rfl : k = p.walk.length := by omega
        have KR := hid (show WC w1.heap.size (upToDress p) w1 wo from KR.out)
        have y2 := HX2.out _ KR.out.below
        have HDl := hid HV.out.dress
        have HL2 := hid (upToDress_len HV.out)
        go_wp2_with fail
        refine (row_any dressW p.dress _ w1.heap.size w1.heap.size (upToDress p) _ (Stay.low HP1.out.dress KR.out.below rfl) (fine_dress HV.out) KR.out.bd (HTB.out _ KR.out.below) ?_ (Nat.le_of_lt KR.out.bd.lt)).mono ?_
        · have := HL2.out; have := HDl.out; simp [dressW]; omega
        rintro e w5 ⟨rfl, g⟩
        have KR := hid (show WC w1.heap.size (upToParts p) w1 w5 from KR.out.wrote g)
        have y3 := HX3.out _ KR.out.below
        have HQl := hid HV.out.few
        have HL3 := hid (upToParts_len HV.out)
        clear g y1 y2
        go_wp2_with fail
        go_loopw [56] (fun i wr => ∃ k : Nat, k ≤ p.parts.length ∧ i = .int .i64 k ∧ WC w1.heap.size (partsL p.parts (upToParts p) k) w1 wr) (fun i _ => p.parts.length - (intOf i).toNat)
        case atStart => exact ⟨0, by omega, rfl, KR.out⟩
        case round =>
          obtain ⟨k, hk, rfl, hkw⟩ := hrel
          obtain ⟨wp, rfl⟩ : ∃ wp : World, wp = wr := ⟨_, rfl⟩
          have KR := hid hkw
          have HL := hid (partsL_len HV.out (b := upToParts p) hk)
          clear hkw
          by_cases hlt : k < p.parts.length
          · have hg := PartsAt.cells (HP.out _ KR.out.below).parts hlt
            obtain ⟨bq, oq, rfl, _, d0, d1, d2, d3, d4⟩ := hg
            have i1 : (k : Int) < (p.parts.length : Int) := by omega
            have z2 : IntKind.i64.wrap ((k : Int) + 1) = (k : Int) + 1 := IntWalk.i64_in _ (by have := HQl.out; omega)
            have HF := hid (fine_part HV.out hlt)
            have HST := hid (show partsL p.parts (upToParts p) (k + 1) = rowL partW (partN (pt p.parts k)) (partsL p.parts (upToParts p) k) from rfl)
            obtain ⟨x, hx⟩ : ∃ x, pt p.parts k = x := ⟨_, rfl⟩
            rw [hx] at d0 d1 d2 d3 d4 HF HST
            have HLT := hid hlt
            clear hx
            have BA := hid (below_trans (below_alloc wp (.cells #[.int .i64 x.person, .int .i64 x.place, .int .i64 x.kind, .int .i64 x.start, .int .i64 x.stop] 60)) (below_alloc _ (.cells #[.int .i64 x.person, .int .i64 x.place, .int .i64 x.kind, .int .i64 x.start, .int .i64 x.stop] 3)))
            have HI := hid (own_lit (wp.alloc (.cells #[.int .i64 x.person, .int .i64 x.place, .int .i64 x.kind, .int .i64 x.start, .int .i64 x.stop] 60)) (partN x) #[.int .i64 x.person, .int .i64 x.place, .int .i64 x.kind, .int .i64 x.start, .int .i64 x.stop] rfl (by simp [partN]) (n := 5) (g := wp.heap.size + 1) rfl (by simp))
            have KR := hid (KR.out.later BA.out)
            go_wp2_with (refine wpList_five_n rfl _ _ _ _ _ _ _ _ _ _ rfl rfl rfl rfl rfl rfl ?_)
            refine (row_any partW (partN x) _ w1.heap.size w1.heap.size (partsL p.parts (upToParts p) k) _ (Stay.own HI.out KR.out.bd) HF.out KR.out.bd (HTB.out _ KR.out.below) ?_ (Nat.le_of_lt KR.out.bd.lt)).mono ?_
            · have := HL.out; have := HL3.out; have := HQl.out; have := HLT.out; simp [partW, partN]; omega
            rintro e w6 ⟨rfl, g⟩
            have KR := hid (show WC w1.heap.size (partsL p.parts (upToParts p) (k + 1)) w1 w6 from by rw [HST.out]; exact KR.out.wrote g)
            clear g d0 d1 d2 d3 d4
            go_wp2_with fail
            go_roundw
            case rel => exact ⟨k + 1, by omega, by go_num, KR.out⟩
            case measure => simp [intOf] <;> omega
          obtain rfl : k = p.parts.length := by omega
          have y4 := HX3.out _ KR.out.below
          have HI := hid (own_lit wp [(p.parts.length : Int)] #[.int .i64 p.parts.length] rfl (by simp) (n := 1) (g := wp.heap.size) rfl rfl)
          have KR := hid (KR.out.later (below_alloc wp (.cells #[.int .i64 p.parts.length] 3)))
          go_wp2_with fail
          refine (row_any endW [(p.parts.length : Int)] _ w1.heap.size w1.heap.size (partsL p.parts (upToParts p) p.parts.length) _ (Stay.own HI.out KR.out.bd) ?_ KR.out.bd (HTB.out _ KR.out.below) ?_ (Nat.le_of_lt KR.out.bd.lt)).mono ?_
          · intro i hi
            obtain rfl : i = 0 := by have : i < 1 := hi; omega
            show 0 ≤ (p.parts.length : Int) ∧ (p.parts.length : Int) ≤ 1000000
            have := HQl.out
            omega
          · have := HL.out; have := HL3.out; have := HQl.out; simp [endW]; omega
          rintro e w7 ⟨rfl, g⟩
          have KR := hid (show WC w1.heap.size (sheetL p) w1 w7 from KR.out.wrote g)
          clear g y4
          go_wp2_with fail
          refine (str_any _ _ _ _ KR.out.bd (Nat.le_of_lt KR.out.bd.lt)).mono ?_
          rintro e w8 ⟨rfl, g⟩
          have KB := hid (HBW.out _ (KR.out.below.trans g))
          clear g
          go_wp2_with fail
          go_ret2
          exact ⟨rfl, KB.out⟩
end Go.Proofs.YtoipcbmbhjajfaaGreatDoor
