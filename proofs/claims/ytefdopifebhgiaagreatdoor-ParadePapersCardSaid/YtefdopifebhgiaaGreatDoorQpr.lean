/-
  WALKS: the reference's number, split, row (of a program's reading and writing).
-/
import Derived.Test.YtefdopifebhgiaaGreatDoorPrf
import Derived.Lib.ItoaLen
import Derived.Laws.DeepStrings4
namespace Go.Proofs.YtefdopifebhgiaaGreatDoor
open Go.RowKit

/-- numbers, each behind a blank -/
def numsL (xs : List Int) (b : List UInt8) : Nat → List UInt8
  | 0 => b
  | k + 1 => numsL xs b k ++ 32 :: Lib.itoa (nm xs k)
/-- a row behind other text -/
def rowL (word : List UInt8) (xs : List Int) (b : List UInt8) : List UInt8 := numsL xs (b ++ word) xs.length ++ [10]
def NumsOk (xs : List Int) : Prop := ∀ i, i < xs.length → 0 ≤ nm xs i ∧ nm xs i ≤ 1000000
theorem numsL_len {xs : List Int} {b : List UInt8} (h : NumsOk xs) : ∀ {k : Nat}, k ≤ xs.length → (numsL xs b k).length ≤ b.length + k * 22 := by
  intro k
  induction k with
  | zero => intro _; simp [numsL]
  | succ k ih =>
    intro hk
    have h1 := ih (by omega)
    have h2 := h k (by omega)
    have h3 := Lib.itoa_length_le (nm xs k) (by omega) (by omega)
    simp only [numsL, List.length_append, List.length_cons]
    omega
theorem rowL_len {word : List UInt8} {xs : List Int} {b : List UInt8} (h : NumsOk xs) : (rowL word xs b).length ≤ b.length + word.length + xs.length * 22 + 1 := by
  have h1 := numsL_len (b := b ++ word) h (Nat.le_refl _)
  unfold rowL
  simp only [List.length_append, List.length_cons, List.length_nil] at h1 ⊢
  omega
theorem flat_nums (xs : List Int) (b : List UInt8) : ∀ {k : Nat}, k ≤ xs.length → numsL xs b k = b ++ (xs.take k).flatMap (fun n => 32 :: Lib.itoa n) := by
  intro k
  induction k with
  | zero => intro _; simp [numsL]
  | succ k ih =>
    intro hk
    have e : xs.take (k + 1) = xs.take k ++ [nm xs k] := by
      rw [List.take_add_one, List.getElem?_eq_getElem (by omega)]
      simp [nm, List.getD_eq_getElem?_getD, List.getElem?_eq_getElem (show k < xs.length by omega)]
    rw [numsL, ih (by omega), e, List.flatMap_append, List.append_assoc]
    simp
theorem row_line (word : List UInt8) (xs : List Int) (b : List UInt8) : rowL word xs b = b ++ lineL word xs ++ [10] := by
  unfold rowL lineL
  rw [flat_nums xs _ (Nat.le_refl _), List.take_length]
  simp only [List.append_assoc]
theorem add_row (word : List UInt8) (xs : List Int) (b : List UInt8) (h1 : b.length ≤ 500000) (h2 : (rowL word xs []).length ≤ 500000) (W : World) : (Op.stringOp .add ⟨b.toArray⟩ ⟨(rowL word xs []).toArray⟩).run Tryz.prog W = .ok (.string ⟨(rowL word xs b).toArray⟩) W := by
  rw [run_string_add_sum W _ _ (by simp [ByteArray.size]; omega), ByteArray.mk_append_mk]
  have e : b ++ rowL word xs [] = rowL word xs b := by rw [row_line, row_line word xs b]; simp
  rw [← e]
end Go.Proofs.YtefdopifebhgiaaGreatDoor

namespace Go.Proofs.YtefdopifebhgiaaGreatDoor
open Go.RowKit

theorem cutL_snoc_eq (c : UInt8) : ∀ (a : List UInt8), cutL c (a ++ [c]) = cutL c a ++ [[]]
  | [] => by simp [cutL]
  | b :: a => by
    have ih := cutL_snoc_eq c a
    obtain ⟨p, ps, hp⟩ := cutL_ne c a
    rw [hp] at ih
    simp only [List.cons_append, cutL, ih, hp]
    split <;> rfl
theorem cutL_snoc_ne (c b : UInt8) (h : b ≠ c) : ∀ (a : List UInt8) (ps : List (List UInt8)) (p : List UInt8), cutL c a = ps ++ [p] → cutL c (a ++ [b]) = ps ++ [p ++ [b]]
  | [], ps, p, hc => by
    have : ps = [] ∧ p = [] := by
      cases ps with
      | nil => simp [cutL] at hc; exact ⟨rfl, hc⟩
      | cons q qs => simp [cutL] at hc
    obtain ⟨rfl, rfl⟩ := this
    simp [cutL, h]
  | x :: a, ps, p, hc => by
    obtain ⟨q, qs, hq⟩ := cutL_ne c a
    unfold cutL at hc
    rw [hq] at hc
    rw [List.cons_append]
    unfold cutL
    by_cases hx : x = c
    · rw [if_pos hx] at hc ⊢
      cases ps with
      | nil => simp at hc
      | cons r rs =>
        have h1 : r = [] := by simpa using (congrArg (fun l => l.headD [0]) hc).symm
        have h2 : q :: qs = rs ++ [p] := by simpa using congrArg List.tail hc
        rw [cutL_snoc_ne c b h a rs p (hq.trans h2), h1]
        rfl
    · rw [if_neg hx] at hc ⊢
      cases ps with
      | nil =>
        have h1 : p = x :: q ∧ qs = [] := by simp at hc; exact ⟨hc.1.symm, hc.2⟩
        obtain ⟨rfl, rfl⟩ := h1
        rw [cutL_snoc_ne c b h a [] q (by rw [hq]; rfl)]
        rfl
      | cons r rs =>
        have h1 : x :: q = r ∧ qs = rs ++ [p] := by simpa using hc
        obtain ⟨rfl, h2⟩ := h1
        rw [cutL_snoc_ne c b h a (q :: rs) p (by rw [hq, h2]; rfl)]
        rfl
/-- the last piece is the text's end -/
theorem cutL_last (c : UInt8) : ∀ (a : List UInt8) (ps : List (List UInt8)) (p : List UInt8), cutL c a = ps ++ [p] → p.length ≤ a.length ∧ a.drop (a.length - p.length) = p
  | [], ps, p, hc => by
    have : ps = [] ∧ p = [] := by
      cases ps with
      | nil => simp [cutL] at hc; exact ⟨rfl, hc⟩
      | cons q qs => simp [cutL] at hc
    obtain ⟨rfl, rfl⟩ := this
    exact ⟨by simp, rfl⟩
  | x :: a, ps, p, hc => by
    obtain ⟨q, qs, hq⟩ := cutL_ne c a
    unfold cutL at hc
    rw [hq] at hc
    have key : ∀ rs, cutL c a = rs ++ [p] → p.length ≤ (x :: a).length ∧ (x :: a).drop ((x :: a).length - p.length) = p := fun rs h => by
      obtain ⟨h1, h2⟩ := cutL_last c a rs p h
      refine ⟨by simp; omega, ?_⟩
      rw [List.length_cons, show a.length + 1 - p.length = (a.length - p.length) + 1 by omega, List.drop_succ_cons]
      exact h2
    by_cases hx : x = c
    · rw [if_pos hx] at hc
      cases ps with
      | nil => simp at hc
      | cons r rs => exact key rs (hq.trans (by simpa using congrArg List.tail hc))
    · rw [if_neg hx] at hc
      cases ps with
      | nil =>
        have h1 : p = x :: q ∧ qs = [] := by simp at hc; exact ⟨hc.1.symm, hc.2⟩
        obtain ⟨rfl, rfl⟩ := h1
        obtain ⟨h1, h2⟩ := cutL_last c a [] q (by rw [hq]; rfl)
        have hj := cutL_join c a q [] hq
        simp at hj
        refine ⟨by simp; omega, ?_⟩
        rw [hj]
        simp
      | cons r rs =>
        have h1 : x :: q = r ∧ qs = rs ++ [p] := by simpa using hc
        exact key (q :: rs) (by rw [hq, h1.2]; rfl)
end Go.Proofs.YtefdopifebhgiaaGreatDoor

namespace Go.Proofs.YtefdopifebhgiaaGreatDoor
open Go.RowKit

def digB (b : UInt8) : Bool := decide (48 ≤ b.toNat) && decide (b.toNat ≤ 57)
theorem digB_true {b : UInt8} : digB b = true ↔ 48 ≤ b.toNat ∧ b.toNat ≤ 57 := by unfold digB; simp
/-- what the digits say, if they are digits -/
def valR : List UInt8 → Nat → Option Int
  | _, 0 => some 0
  | s, k + 1 => match valR s k with
    | none => none
    | some n => if digB (s.getD k 0) = true then some (10 * n + (((s.getD k 0).toNat : Int) - 48)) else none
def numR (s : List UInt8) : Option Int :=
  if s.length < 1 ∨ 6 < s.length ∨ (s.getD 0 0 = 48 ∧ 1 < s.length) then none else valR s s.length

theorem digit_some {b : UInt8} (h : digB b = true) : Lib.digitVal b = some (b.toNat - 48) := by
  unfold Lib.digitVal
  rw [if_pos (digB_true.1 h)]
theorem digit_none {b : UInt8} (h : digB b = false) : Lib.digitVal b = none := by
  unfold Lib.digitVal
  rw [if_neg (fun e => by rw [digB_true.2 e] at h; cases h)]
theorem valR_dec (s : List UInt8) : ∀ {k : Nat}, k ≤ s.length → valR s k = (Lib.decFrom 0 (s.take k)).map (fun (n : Nat) => (n : Int)) := by
  intro k
  induction k with
  | zero => intro _; rfl
  | succ k ih =>
    intro hk
    have e : s.take (k + 1) = s.take k ++ [s.getD k 0] := by
      rw [List.take_add_one, List.getElem?_eq_getElem (by omega)]
      simp [List.getD_eq_getElem?_getD, List.getElem?_eq_getElem (show k < s.length by omega)]
    rw [valR, ih (by omega), e, decFrom_snoc]
    cases Lib.decFrom 0 (s.take k) with
    | none => rfl
    | some m =>
      simp only [Option.map_some, Option.bind_some, Lib.decFrom]
      cases hd : digB (s.getD k 0) with
      | true =>
        rw [if_pos rfl, digit_some hd]
        have := digB_true.1 hd
        simp only [Option.map_some]
        congr 1
        omega
      | false => rw [if_neg (by simp), digit_none hd]; rfl
theorem digits_head : ∀ (u : Nat), 10 ≤ u → (Lib.decDigits u).getD 0 0 ≠ 48 ∧ 2 ≤ (Lib.decDigits u).length := by
  intro u
  induction u using Nat.strongRecOn with
  | _ u ih =>
    intro hu
    rw [Lib.decDigits, dif_neg (by omega)]
    by_cases h : u / 10 < 10
    · rw [Lib.decDigits, dif_pos h]
      refine ⟨?_, by simp⟩
      show UInt8.ofNat (48 + u / 10) ≠ 48
      intro e
      have e2 : (UInt8.ofNat (48 + u / 10)).toNat = 48 + u / 10 := by simp; omega
      rw [e] at e2
      have e3 : (48 : UInt8).toNat = 48 := rfl
      omega
    · obtain ⟨h1, h2⟩ := ih (u / 10) (by omega) (by omega)
      refine ⟨?_, by simp; omega⟩
      rw [List.getD_eq_getElem?_getD, List.getElem?_append_left (by omega), ← List.getD_eq_getElem?_getD]
      exact h1
/-- digits without a 0 ahead are the numeral of what they say -/
theorem canonD : ∀ (n : Nat) (s : List UInt8), s.length = n → s ≠ [] → (∀ b, b ∈ s → digB b = true) → (s.getD 0 0 ≠ 48 ∨ s.length = 1) → ∃ m, Lib.decFrom 0 s = some m ∧ Lib.decDigits m = s ∧ (s.getD 0 0 ≠ 48 → 1 ≤ m)
  | 0, s, h, hs, _, _ => absurd (List.eq_nil_of_length_eq_zero h) hs
  | n + 1, s, h, hs, hd, hz => by
    have e : s = s.take n ++ [s.getD n 0] := by
      have e1 : s.take (n + 1) = s := List.take_of_length_le (by omega)
      rw [List.take_add_one, List.getElem?_eq_getElem (by omega)] at e1
      simp only [List.getD_eq_getElem?_getD, List.getElem?_eq_getElem (show n < s.length by omega)]
      exact e1.symm
    have hl : digB (s.getD n 0) = true := hd _ (by rw [List.getD_eq_getElem?_getD, List.getElem?_eq_getElem (show n < s.length by omega)]; simp)
    have hb := digB_true.1 hl
    obtain ⟨d, hd9⟩ : ∃ d : Nat, d = (s.getD n 0).toNat - 48 := ⟨_, rfl⟩
    have hc : UInt8.ofNat (48 + d) = s.getD n 0 := by
      rw [hd9, show 48 + ((s.getD n 0).toNat - 48) = (s.getD n 0).toNat by omega]
      simp
    cases n with
    | zero =>
      refine ⟨d, ?_, ?_, fun h0 => ?_⟩
      · rw [e]; simp only [List.take_zero, List.nil_append, Lib.decFrom, digit_some hl, hd9]; simp
      · rw [Lib.decDigits, dif_pos (by omega), hc]; rw [e]; simp
      · have e3 : (48 : UInt8).toNat = 48 := rfl
        rcases Nat.lt_or_ge d 1 with h1 | h1
        · exfalso
          apply h0
          have : (s.getD 0 0).toNat = (48 : UInt8).toNat := by omega
          exact UInt8.toNat_inj.1 this
        · exact h1
    | succ n =>
      have hz' : s.getD 0 0 ≠ 48 := hz.elim id (fun h1 => by omega)
      have g0 : (s.take (n + 1)).getD 0 0 = s.getD 0 0 := by
        rw [List.getD_eq_getElem?_getD, List.getElem?_take, if_pos (by omega), ← List.getD_eq_getElem?_getD]
      obtain ⟨m, h1, h2, h3⟩ := canonD (n + 1) (s.take (n + 1)) (by rw [List.length_take]; omega) (fun e => by have := congrArg List.length e; simp only [List.length_take, List.length_nil] at this; omega) (fun b hb => hd b (List.mem_of_mem_take hb)) (.inl (by rw [g0]; exact hz'))
      have hm := h3 (by rw [g0]; exact hz')
      refine ⟨10 * m + d, ?_, ?_, fun _ => by omega⟩
      · rw [e, decFrom_snoc, h1, Option.bind_some]
        simp only [Lib.decFrom, digit_some hl, hd9]
        congr 1
        omega
      · rw [Lib.decDigits, dif_neg (by omega), show (10 * m + d) / 10 = m by omega, show (10 * m + d) % 10 = d by omega, h2, hc]
        exact e.symm
/-- BOTH WAYS OF READING A NUMBER ARE ONE -/
theorem numR_eq (s : List UInt8) : numR s = numOf s := by
  by_cases hc : s.length < 1 ∨ 6 < s.length ∨ (s.getD 0 0 = 48 ∧ 1 < s.length)
  · unfold numR
    rw [if_pos hc]
    cases hn : numOf s with
    | none => rfl
    | some n =>
      exfalso
      obtain ⟨h0, h1, hs⟩ := numOf_some hn
      obtain ⟨u, rfl⟩ := Int.eq_ofNat_of_zero_le h0
      have hl := (atoi_itoa h0 h1).2
      rw [itoa_nat] at hs hl
      rw [← hs] at hl
      have hne := (dec_digits u).2.1
      rw [← hs] at hne
      have hpos : 1 ≤ s.length := List.length_pos_iff.2 hne
      rcases hc with h | h | ⟨h, h'⟩
      · omega
      · omega
      · rcases Nat.lt_or_ge u 10 with h9 | h9
        · rw [hs, Lib.decDigits, dif_pos h9] at h'; simp at h'
        · exact (digits_head u h9).1 (by rw [← hs]; exact h)
  · unfold numR
    rw [if_neg hc, valR_dec s (Nat.le_refl _), List.take_length]
    have h1 : 1 ≤ s.length ∧ s.length ≤ 6 := by omega
    by_cases hd : ∀ b, b ∈ s → digB b = true
    · obtain ⟨m, e1, e2, _⟩ := canonD s.length s rfl (fun e => by rw [e] at h1; simp at h1) hd (by
        rcases Decidable.em (s.getD 0 0 = 48) with h | h
        · right; have : ¬ 1 < s.length := fun h' => hc (.inr (.inr ⟨h, h'⟩)); omega
        · exact .inl h)
      rw [e1]
      have hm : m ≤ 999999 := by
        have := pow_len (u := m) (k := 6) (by rw [e2]; omega)
        omega
      rw [← e2, ← itoa_nat, numOf_itoa (by omega) (by omega)]
      rfl
    · have hn : numOf s = none := by
        cases hn : numOf s with
        | none => rfl
        | some n =>
          exfalso
          obtain ⟨h0, _, hs⟩ := numOf_some hn
          exact hd fun b hb => by rw [hs] at hb; exact digB_true.2 (itoa_free h0 b hb)
      rw [hn]
      have : ∀ (l : List UInt8) (acc : Nat), (¬ ∀ b, b ∈ l → digB b = true) → Lib.decFrom acc l = none := by
        intro l
        induction l with
        | nil => intro acc h; exact absurd (fun b hb => by cases hb) h
        | cons b l ih =>
          intro acc h
          rw [Lib.decFrom]
          cases hb : digB b with
          | false => rw [digit_none hb]
          | true =>
            rw [digit_some hb]
            exact ih _ fun h2 => h fun c hc => by
              rcases List.mem_cons.1 hc with rfl | hc
              · exact hb
              · exact h2 c hc
      rw [this s 0 hd]
      rfl
end Go.Proofs.YtefdopifebhgiaaGreatDoor

namespace Go.Proofs.YtefdopifebhgiaaGreatDoor
open Go.RowKit

theorem str_index (s : List UInt8) {k : Nat} (hk : k < s.length) (W : World) : (Instr.index 9 (.string ⟨s.toArray⟩) (.int .i64 (k : Int))).run Tryz.prog W = .ok (.int .u8 ((s.getD k 0).toNat : Int)) W := by
  have hsz : (⟨s.toArray⟩ : ByteArray).size = s.length := by simp [ByteArray.size]
  rw [run_index_string (h := Tryz.underlying9), dif_pos ⟨by omega, by rw [hsz]; omega⟩]
  congr 3
  simp only [Int.toNat_natCast]
  show ((s.toArray)[k]'_).toNat = _
  simp [List.getD_eq_getElem?_getD, List.getElem?_eq_getElem hk]

def NumPost (s : List UInt8) (w : World) (e : Ending) (w' : World) : Prop := match numOf s with
  | none => e = .returned (.tuple #[.int .i64 0, .bool false]) ∧ w = w'
  | some n => e = .returned (.tuple #[.int .i64 n, .bool true]) ∧ w = w'

theorem valR_bound (s : List UInt8) : ∀ {k : Nat} {n : Int}, k ≤ 6 → valR s k = some n → 0 ≤ n ∧ n < 10 ^ k := by
  intro k
  induction k with
  | zero => intro n _ h; cases h; decide
  | succ k ih =>
    intro n hk h
    rw [valR] at h
    cases hv : valR s k with
    | none => rw [hv] at h; cases h
    | some m =>
      rw [hv] at h
      dsimp only at h
      split at h
      · rename_i hd
        have h1 := ih (by omega) hv
        have h2 := digB_true.1 hd
        cases h
        rw [Int.pow_succ]
        omega
      · cases h

set_option maxHeartbeats 4000000 in
set_option maxRecDepth 100000 in
theorem rnumber_any (s : List UInt8) (w : World) (hl : s.length ≤ 1000000) : Calls Tryz.prog 38 #[.string ⟨s.toArray⟩] w (NumPost s w) := by
  have hsz : (⟨s.toArray⟩ : ByteArray).size = s.length := by simp [ByteArray.size]
  have HP := hid (fun n => (fun h => by unfold NumPost; rw [← numR_eq, h]; exact ⟨rfl, rfl⟩ : numR s = some n → NumPost s w (.returned (.tuple #[.int .i64 n, .bool true])) w))
  have HN := hid (fun h => by unfold NumPost; rw [← numR_eq, h]; exact ⟨rfl, rfl⟩ : numR s = none → NumPost s w (.returned (.tuple #[.int .i64 0, .bool false])) w)
  by_cases h1 : s.length < 1
  · have hn := hid (HN.out (by unfold numR; rw [if_pos (.inl h1)]))
    have d1 : decide ((s.length : Int) < 1) = true := decide_eq_true (by omega)
    clear h1 HP HN hl
    go_enter Tryz.func38, Tryz.ntmps38
    go_wp2_with fail
    refine bodyPost_ret (v := .tuple #[.int .i64 0, .bool false]) (by simp [results, Tryz.results38, go_sem]) rfl hn.out
  have d1 : decide ((s.length : Int) < 1) = false := decide_eq_false (by omega)
  by_cases h2 : 6 < s.length
  · have hn := hid (HN.out (by unfold numR; rw [if_pos (.inr (.inl h2))]))
    have d2 : decide (6 < (s.length : Int)) = true := decide_eq_true (by omega)
    clear h1 h2 HP HN hl
    go_enter Tryz.func38, Tryz.ntmps38
    go_wp2_with fail
    refine bodyPost_ret (v := .tuple #[.int .i64 0, .bool false]) (by simp [results, Tryz.results38, go_sem]) rfl hn.out
  have d2 : decide (6 < (s.length : Int)) = false := decide_eq_false (by omega)
  have x0 := fun W => str_index s (k := 0) (by omega) W
  by_cases h3 : s.getD 0 0 = 48 ∧ 1 < s.length
  · have hn := hid (HN.out (by unfold numR; rw [if_pos (.inr (.inr h3))]))
    have d3 : decide (1 < (s.length : Int)) = true := decide_eq_true (by omega)
    rw [h3.1] at x0
    have x0 : ∀ W : World, (Instr.index 9 (.string ⟨s.toArray⟩) (.int .i64 0)).run Tryz.prog W = .ok (.int .u8 48) W := x0
    clear h1 h2 h3 HP HN hl
    go_enter Tryz.func38, Tryz.ntmps38
    go_wp2_with fail
    refine bodyPost_ret (v := .tuple #[.int .i64 0, .bool false]) (by simp [results, Tryz.results38, go_sem]) rfl hn.out
  have HL6 := hid (show s.length ≤ 6 from by omega)
  have HC := hid (show ¬ (s.length < 1 ∨ 6 < s.length ∨ (s.getD 0 0 = 48 ∧ 1 < s.length)) from by rintro (h | h | h); exact h1 h; exact h2 h; exact h3 h)
  by_cases h0 : s.getD 0 0 = 48
  · have DD : decide (1 < (s.length : Int)) = false := decide_eq_false (by have : ¬ 1 < s.length := fun h => h3 ⟨h0, h⟩; omega)
    rw [h0] at x0
    have x0 : ∀ W : World, (Instr.index 9 (.string ⟨s.toArray⟩) (.int .i64 0)).run Tryz.prog W = .ok (.int .u8 48) W := x0
    clear h0 h1 h2 h3 hl
    go_enter Tryz.func38, Tryz.ntmps38
    go_wp2_with fail
    go_loopw [4, 5] (fun v i wr => ∃ (k : Nat) (n : Int), k ≤ s.length ∧ i = .int .i64 k ∧ v = .int .i64 n ∧ valR s k = some n ∧ wr = w) (fun _ i _ => s.length - (intOf i).toNat)
    case atStart => exact ⟨0, 0, by omega, rfl, rfl, rfl, rfl⟩
    case round =>
      obtain ⟨k, n, hk, rfl, rfl, hv, rfl⟩ := hrel
      have HV := hid hv
      have HB := hid (valR_bound s (by have := HL6.out; omega) hv)
      have HS := hid (show valR s (k + 1) = if digB (s.getD k 0) = true then some (10 * n + (((s.getD k 0).toNat : Int) - 48)) else none from by rw [valR, hv])
      clear hv x0 d1 d2 DD
      by_cases hlt : k < s.length
      · have i1 : (k : Int) < (s.length : Int) := by omega
        have z2 : IntKind.i64.wrap ((k : Int) + 1) = (k : Int) + 1 := IntWalk.i64_in _ (by have := HL6.out; omega)
        have xk := fun W => str_index s hlt W
        obtain ⟨b, hb⟩ : ∃ b, s.getD k 0 = b := ⟨_, rfl⟩
        rw [hb] at xk HS
        have hb8 := b.toNat_lt
        obtain ⟨c, hc⟩ : ∃ c, b.toNat = c := ⟨_, rfl⟩
        rw [hc] at xk HS hb8
        have HK := hid hlt
        clear hb
        by_cases hd : digB b = true
        · have hd2 := digB_true.1 hd
          rw [if_pos hd] at HS
          have e1 : decide ((c : Int) < 48) = false := decide_eq_false (by omega)
          have e2 : decide (57 < (c : Int)) = false := decide_eq_false (by omega)
          have hp : (10 : Int) ^ k ≤ 100000 := by
            have h5 : k ≤ 5 := by have := HL6.out; have := HK.out; omega
            have : (10 : Nat) ^ k ≤ 10 ^ 5 := Nat.pow_le_pow_right (by decide) h5
            have e : ((10 : Nat) ^ k : Nat) = ((10 : Int) ^ k) := by simp
            omega
          have hn := HB.out
          have z3 : IntKind.u8.wrap ((c : Int) - 48) = (c : Int) - 48 := IntWalk.u8_in _ (by omega)
          have z4 : IntKind.i64.wrap ((c : Int) - 48) = (c : Int) - 48 := IntWalk.i64_in _ (by omega)
          have z5 : IntKind.i64.wrap (10 * n) = 10 * n := IntWalk.i64_in _ (by omega)
          have z6 : IntKind.i64.wrap (10 * n + ((c : Int) - 48)) = 10 * n + ((c : Int) - 48) := IntWalk.i64_in _ (by omega)
          clear hd hd2 hp hn hc hlt
          go_wp2_with fail
          go_roundw
          case rel => exact ⟨k + 1, _, by have := HK.out; omega, by go_num, rfl, HS.out, by first | rfl | trivial⟩
          case measure => have := HK.out; simp [intOf] <;> omega
        · have hd1 : digB b = false := by simpa using hd
          rw [if_neg hd] at HS
          have hno := hid (HN.out (by
            unfold numR
            rw [if_neg HC.out]
            have key : ∀ m, valR s (k + 1 + m) = none := by
              intro m
              induction m with
              | zero => exact HS.out
              | succ m ih => rw [show k + 1 + (m + 1) = (k + 1 + m) + 1 by omega, valR, ih]
            have := key (s.length - (k + 1))
            rwa [show k + 1 + (s.length - (k + 1)) = s.length by omega] at this))
          by_cases h48 : c < 48
          · have e1 : decide ((c : Int) < 48) = true := decide_eq_true (by omega)
            clear hd hd1 h48 hc hlt HP HN
            go_wp2_with fail
            refine bodyPost_ret (v := .tuple #[.int .i64 0, .bool false]) (by simp [results, Tryz.results38, go_sem]) rfl hno.out
          · have e1 : decide ((c : Int) < 48) = false := decide_eq_false (by omega)
            have e2 : decide (57 < (c : Int)) = true := decide_eq_true (by
              rcases Nat.lt_or_ge 57 c with h | h
              · omega
              · exact absurd (digB_true.2 ⟨by omega, by omega⟩) hd)
            clear hd hd1 h48 hc hlt HP HN
            go_wp2_with fail
            refine bodyPost_ret (v := .tuple #[.int .i64 0, .bool false]) (by simp [results, Tryz.results38, go_sem]) rfl hno.out
      · obtain rfl : k = s.length := by omega
        have hyes := hid (HP.out n (by unfold numR; rw [if_neg HC.out]; exact HV.out))
        clear HP HN
        go_wp2_with fail
        refine bodyPost_ret (v := .tuple #[.int .i64 n, .bool true]) (by simp [results, Tryz.results38, go_sem]) rfl hyes.out
  have DD : ((((s.getD 0 0).toNat : Nat) : Int) == 48) = false := beq_eq_false_iff_ne.2 (fun e => h0 (UInt8.toNat_inj.1 (by have e2 : (48 : UInt8).toNat = 48 := rfl; omega)))
  obtain ⟨c0, hc0⟩ : ∃ c0, (s.getD 0 0).toNat = c0 := ⟨_, rfl⟩
  rw [hc0] at x0 DD
  have x0 : ∀ W : World, (Instr.index 9 (.string ⟨s.toArray⟩) (.int .i64 0)).run Tryz.prog W = .ok (.int .u8 c0) W := x0
  clear h0 h1 h2 h3 hl hc0
  go_enter Tryz.func38, Tryz.ntmps38
  go_wp2_with fail
  go_loopw [4, 5] (fun v i wr => ∃ (k : Nat) (n : Int), k ≤ s.length ∧ i = .int .i64 k ∧ v = .int .i64 n ∧ valR s k = some n ∧ wr = w) (fun _ i _ => s.length - (intOf i).toNat)
  case atStart => exact ⟨0, 0, by omega, rfl, rfl, rfl, rfl⟩
  case round =>
    obtain ⟨k, n, hk, rfl, rfl, hv, rfl⟩ := hrel
    have HV := hid hv
    have HB := hid (valR_bound s (by have := HL6.out; omega) hv)
    have HS := hid (show valR s (k + 1) = if digB (s.getD k 0) = true then some (10 * n + (((s.getD k 0).toNat : Int) - 48)) else none from by rw [valR, hv])
    clear hv x0 d1 d2 DD
    by_cases hlt : k < s.length
    · have i1 : (k : Int) < (s.length : Int) := by omega
      have z2 : IntKind.i64.wrap ((k : Int) + 1) = (k : Int) + 1 := IntWalk.i64_in _ (by have := HL6.out; omega)
      have xk := fun W => str_index s hlt W
      obtain ⟨b, hb⟩ : ∃ b, s.getD k 0 = b := ⟨_, rfl⟩
      rw [hb] at xk HS
      have hb8 := b.toNat_lt
      obtain ⟨c, hc⟩ : ∃ c, b.toNat = c := ⟨_, rfl⟩
      rw [hc] at xk HS hb8
      have HK := hid hlt
      clear hb
      by_cases hd : digB b = true
      · have hd2 := digB_true.1 hd
        rw [if_pos hd] at HS
        have e1 : decide ((c : Int) < 48) = false := decide_eq_false (by omega)
        have e2 : decide (57 < (c : Int)) = false := decide_eq_false (by omega)
        have hp : (10 : Int) ^ k ≤ 100000 := by
          have h5 : k ≤ 5 := by have := HL6.out; have := HK.out; omega
          have : (10 : Nat) ^ k ≤ 10 ^ 5 := Nat.pow_le_pow_right (by decide) h5
          have e : ((10 : Nat) ^ k : Nat) = ((10 : Int) ^ k) := by simp
          omega
        have hn := HB.out
        have z3 : IntKind.u8.wrap ((c : Int) - 48) = (c : Int) - 48 := IntWalk.u8_in _ (by omega)
        have z4 : IntKind.i64.wrap ((c : Int) - 48) = (c : Int) - 48 := IntWalk.i64_in _ (by omega)
        have z5 : IntKind.i64.wrap (10 * n) = 10 * n := IntWalk.i64_in _ (by omega)
        have z6 : IntKind.i64.wrap (10 * n + ((c : Int) - 48)) = 10 * n + ((c : Int) - 48) := IntWalk.i64_in _ (by omega)
        clear hd hd2 hp hn hc hlt
        go_wp2_with fail
        go_roundw
        case rel => exact ⟨k + 1, _, by have := HK.out; omega, by go_num, rfl, HS.out, by first | rfl | trivial⟩
        case measure => have := HK.out; simp [intOf] <;> omega
      · have hd1 : digB b = false := by simpa using hd
        rw [if_neg hd] at HS
        have hno := hid (HN.out (by
          unfold numR
          rw [if_neg HC.out]
          have key : ∀ m, valR s (k + 1 + m) = none := by
            intro m
            induction m with
            | zero => exact HS.out
            | succ m ih => rw [show k + 1 + (m + 1) = (k + 1 + m) + 1 by omega, valR, ih]
          have := key (s.length - (k + 1))
          rwa [show k + 1 + (s.length - (k + 1)) = s.length by omega] at this))
        by_cases h48 : c < 48
        · have e1 : decide ((c : Int) < 48) = true := decide_eq_true (by omega)
          clear hd hd1 h48 hc hlt HP HN
          go_wp2_with fail
          refine bodyPost_ret (v := .tuple #[.int .i64 0, .bool false]) (by simp [results, Tryz.results38, go_sem]) rfl hno.out
        · have e1 : decide ((c : Int) < 48) = false := decide_eq_false (by omega)
          have e2 : decide (57 < (c : Int)) = true := decide_eq_true (by
            rcases Nat.lt_or_ge 57 c with h | h
            · omega
            · exact absurd (digB_true.2 ⟨by omega, by omega⟩) hd)
          clear hd hd1 h48 hc hlt HP HN
          go_wp2_with fail
          refine bodyPost_ret (v := .tuple #[.int .i64 0, .bool false]) (by simp [results, Tryz.results38, go_sem]) rfl hno.out
    · obtain rfl : k = s.length := by omega
      have hyes := hid (HP.out n (by unfold numR; rw [if_neg HC.out]; exact HV.out))
      clear HP HN
      go_wp2_with fail
      refine bodyPost_ret (v := .tuple #[.int .i64 n, .bool true]) (by simp [results, Tryz.results38, go_sem]) rfl hyes.out
end Go.Proofs.YtefdopifebhgiaaGreatDoor

namespace Go.Proofs.YtefdopifebhgiaaGreatDoor
open Go.RowKit

theorem infoStr : (Tryz.prog.info? 9).map (fun i => (i.zero.map (·.cells.size), i.size, i.bytes)) = some (some 1, 1, 16) := by kernel_rfl
theorem str_slice (s : List UInt8) {f k : Nat} (h : f ≤ k) (hk : k ≤ s.length) (W : World) : (Instr.sliceAt 9 (.string ⟨s.toArray⟩) (some (.int .i64 (f : Int))) (some (.int .i64 (k : Int))) none).run Tryz.prog W = .ok (.string ⟨((s.drop f).take (k - f)).toArray⟩) W := by
  have hsz : (⟨s.toArray⟩ : ByteArray).size = s.length := by simp [ByteArray.size]
  rw [run_sliceAt_string (h := Tryz.underlying9), run_slice_string_if (h := Tryz.underlying9), if_pos ⟨by omega, by rw [hsz]; omega⟩, if_pos ⟨by omega, by omega⟩]
  congr 2
  have e := Lib.extract_data ⟨s.toArray⟩ f k
  simp only [Int.toNat_natCast]
  cases hx : (⟨s.toArray⟩ : ByteArray).extract f k with
  | mk d =>
    rw [hx] at e
    have e2 : d.toList = (s.drop f).take (k - f) := by simpa using e
    rw [← e2]

/-- what is cut so far: the pieces that are whole, where the last one begins -/
structure Cutting (c : UInt8) (s : List UInt8) (k f : Nat) (ps : List (List UInt8)) : Prop where
  le : f ≤ k
  cut : cutL c (s.take k) = ps ++ [(s.drop f).take (k - f)]
theorem Cutting.start (c : UInt8) (s : List UInt8) : Cutting c s 0 0 [] := ⟨Nat.le_refl _, by simp [cutL]⟩
theorem take_one (s : List UInt8) {k : Nat} (hk : k < s.length) : s.take (k + 1) = s.take k ++ [s.getD k 0] := by
  rw [List.take_add_one, List.getElem?_eq_getElem hk]
  simp [List.getD_eq_getElem?_getD, List.getElem?_eq_getElem hk]
theorem Cutting.same {c : UInt8} {s : List UInt8} {k f : Nat} {ps : List (List UInt8)} (h : Cutting c s k f ps) (hk : k < s.length) (hc : s.getD k 0 = c) : Cutting c s (k + 1) (k + 1) (ps ++ [(s.drop f).take (k - f)]) :=
  ⟨Nat.le_refl _, by rw [take_one s hk, hc, cutL_snoc_eq, h.cut]; simp⟩
theorem Cutting.other {c : UInt8} {s : List UInt8} {k f : Nat} {ps : List (List UInt8)} (h : Cutting c s k f ps) (hk : k < s.length) (hc : s.getD k 0 ≠ c) : Cutting c s (k + 1) f ps := by
  refine ⟨by have := h.le; omega, ?_⟩
  rw [take_one s hk, cutL_snoc_ne c _ hc _ _ _ h.cut]
  have hle := h.le
  have e : (s.drop f).take (k + 1 - f) = (s.drop f).take (k - f) ++ [s.getD k 0] := by
    rw [show k + 1 - f = (k - f) + 1 by omega, take_one (s.drop f) (by rw [List.length_drop]; omega)]
    congr 2
    rw [List.getD_eq_getElem?_getD, List.getElem?_drop, show f + (k - f) = k by omega, ← List.getD_eq_getElem?_getD]
  rw [e]
theorem Cutting.done {c : UInt8} {s : List UInt8} {f : Nat} {ps : List (List UInt8)} (h : Cutting c s s.length f ps) : cutL c s = ps ++ [(s.drop f).take (s.length - f)] := by
  have := h.cut
  rwa [List.take_length] at this
theorem Cutting.few {c : UInt8} {s : List UInt8} {k f : Nat} {ps : List (List UInt8)} (h : Cutting c s k f ps) : ps.length ≤ k := by
  have h1 := (cutL_bound c (s.take k)).1
  rw [h.cut, List.length_append, List.length_take] at h1
  simp at h1
  omega

set_option maxHeartbeats 8000000 in
set_option maxRecDepth 100000 in
theorem rsplit_any (s : List UInt8) (c : UInt8) (w : World) (hl : s.length ≤ 100000) : Calls Tryz.prog 37 #[.string ⟨s.toArray⟩, .int .u8 (c.toNat : Int)] w fun e w' => ∃ v, e = .returned v ∧ OwnR encV 1 9 w.heap.size w' v ((cutL c s).map strV) ∧ Below w.heap.size w w' := by
  have hsz : (⟨s.toArray⟩ : ByteArray).size = s.length := by simp [ByteArray.size]
  have HL := hid hl
  obtain ⟨cn, hcn⟩ : ∃ cn, c.toNat = cn := ⟨_, rfl⟩
  have HC := hid hcn
  rw [hcn]
  clear hl hcn
  go_enter Tryz.func37, Tryz.ntmps37
  go_wp2_with fail
  go_loopw [5, 6, 7] (fun o fr i wr => ∃ k : Nat, i = .int .i64 k ∧ ((k ≤ s.length ∧ ∃ (f : Nat) (ps : List (List UInt8)), fr = .int .i64 f ∧ Cutting c s k f ps ∧ OwnR encV 1 9 w.heap.size wr o (ps.map strV)) ∨ (k = s.length + 1 ∧ OwnR encV 1 9 w.heap.size wr o ((cutL c s).map strV))) ∧ Below w.heap.size w wr) (fun _ _ i _ => s.length + 1 - (intOf i).toNat)
  case atStart => exact ⟨0, rfl, .inl ⟨by omega, 0, [], rfl, Cutting.start c s, OwnR.nil _ _ _ _ _⟩, Below.refl _ _⟩
  case round =>
    obtain ⟨k, rfl, hor, hb⟩ := hrel
    obtain ⟨wo, rfl⟩ : ∃ wo : World, wo = wr := ⟨_, rfl⟩
    have KB := hid hb
    clear hb
    rcases hor with ⟨hk, f, ps, rfl, hcu, ho⟩ | ⟨rfl, ho⟩
    rotate_left
    · have HO := hid ho
      obtain ⟨sa, sc, es⟩ := ho.form
      rw [List.length_map] at es
      subst es
      have i1 : ¬ (((s.length + 1 : Nat) : Int) ≤ (s.length : Int)) := by omega
      clear ho
      go_wp2_with fail
      go_ret
      exact ⟨_, rfl, HO.out, KB.out⟩
    have HO := hid ho
    have HCu := hid hcu
    obtain ⟨sa, sc, es⟩ := ho.form
    rw [List.length_map] at es
    subst es
    have i1 : (k : Int) ≤ (s.length : Int) := by omega
    have z2 : IntKind.i64.wrap ((k : Int) + 1) = (k : Int) + 1 := IntWalk.i64_in _ (by have := HL.out; omega)
    have hsl := fun W => str_slice s hcu.le hk W
    obtain ⟨pc, hpc⟩ : ∃ pc, (s.drop f).take (k - f) = pc := ⟨_, rfl⟩
    have HPc := hid hpc
    rw [hpc] at hsl
    have HK := hid hk
    have HF := hid hcu.few
    have HSr := hid (Src.lit encV wo (.string ⟨pc.toArray⟩) 9 1 rfl)
    have HQ1 := hid (show (ps.map strV).length + [Value.string ⟨pc.toArray⟩].length ≤ 1000000 from by have := HL.out; rw [List.length_map]; have := hcu.few; simp; omega)
    have HQ2 := hid (show w.heap.size ≤ (wo.alloc (.cells (encV (.string ⟨pc.toArray⟩)).toArray 9)).heap.size from Nat.le_trans KB.out.size (below_alloc _ _).size)
    have HOl := hid (HO.out.later (below_alloc wo (.cells (encV (.string ⟨pc.toArray⟩)).toArray 9)))
    have HBL := hid (fun v' w2 (hown' : OwnR encV 1 9 w.heap.size w2 v' (ps.map strV ++ [.string ⟨pc.toArray⟩])) (hg : (wo.alloc (.cells (encV (.string ⟨pc.toArray⟩)).toArray 9)).grownBy w2 (Value.slice sa ps.length sc).ownBlock) => (show OwnR encV 1 9 w.heap.size w2 v' ((ps ++ [pc]).map strV) ∧ Below w.heap.size w w2 from ⟨by rw [List.map_append]; exact hown', (KB.out.alloc KB.out.size _).grown hg HQ2.out (fun j hj => (HO.out.lt hj).1)⟩))
    have HLN := hid (show (ps.map strV ++ [Value.string ⟨pc.toArray⟩]).length = ps.length + 1 from by rw [List.length_append, List.length_map]; rfl)
    clear hcu ho hpc
    by_cases he : k = s.length
    · have d1 : ((k : Int) == (s.length : Int)) = true := beq_iff_eq.2 (by omega)
      have HDone := hid (show cutL c s = ps ++ [pc] from by have h := HCu.out; rw [he] at h; have h2 := h.done; rw [h2]; rw [← HPc.out, he])
      have HE := hid he
      clear hk he
      go_wp2_with (at_builtin; refine wpList_app encV Tryz.underlying32 infoStr (by decide) (by decide) (fun _ => rfl) rfl _ _ rfl w.heap.size (ps.map strV) [.string ⟨pc.toArray⟩] (fun y hy u hu => by rw [List.mem_singleton.1 hy] at hu; rw [List.mem_singleton.1 hu]; rfl) _ _ rfl rfl HOl.out HSr.out HQ1.out HQ2.out ?_; intro v' w2 hown' hg _ _; have hbl := HBL.out v' w2 hown' hg; obtain ⟨a2, c2, e2⟩ := hown'.form; rw [HLN.out] at e2; subst e2; have KB := hid hbl.2; have HO := hid hbl.1; clear hown' hg hbl)
      go_roundw
      case rel => exact ⟨k + 1, by go_num, .inr ⟨by have := HE.out; omega, by rw [HDone.out]; exact HO.out⟩, KB.out⟩
      case measure => have := HK.out; simp [intOf] <;> omega
    · have d1 : ((k : Int) == (s.length : Int)) = false := beq_eq_false_iff_ne.2 (by omega)
      have hlt : k < s.length := by omega
      have xk := fun W => str_index s hlt W
      obtain ⟨b, hb⟩ : ∃ b, s.getD k 0 = b := ⟨_, rfl⟩
      rw [hb] at xk
      by_cases hbc : b = c
      · have d2 : ((b.toNat : Int) == (cn : Int)) = true := beq_iff_eq.2 (by rw [hbc, HC.out])
        have HCn := hid (HCu.out.same hlt (hb.trans hbc))
        rw [HPc.out] at HCn
        have HLt := hid hlt
        clear hk he hlt hb hbc
        go_wp2_with (at_builtin; refine wpList_app encV Tryz.underlying32 infoStr (by decide) (by decide) (fun _ => rfl) rfl _ _ rfl w.heap.size (ps.map strV) [.string ⟨pc.toArray⟩] (fun y hy u hu => by rw [List.mem_singleton.1 hy] at hu; rw [List.mem_singleton.1 hu]; rfl) _ _ rfl rfl HOl.out HSr.out HQ1.out HQ2.out ?_; intro v' w2 hown' hg _ _; have hbl := HBL.out v' w2 hown' hg; obtain ⟨a2, c2, e2⟩ := hown'.form; rw [HLN.out] at e2; subst e2; have KB := hid hbl.2; have HO := hid hbl.1; clear hown' hg hbl)
        go_roundw
        case rel => exact ⟨k + 1, by go_num, .inl ⟨by have := HLt.out; omega, k + 1, ps ++ [pc], by go_num, HCn.out, HO.out⟩, KB.out⟩
        case measure => have := HK.out; simp [intOf] <;> omega
      · have d2 : ((b.toNat : Int) == (cn : Int)) = false := beq_eq_false_iff_ne.2 (fun e => hbc (UInt8.toNat_inj.1 (by rw [HC.out]; omega)))
        have HCn := hid (HCu.out.other hlt (by rw [hb]; exact hbc))
        have HLt := hid hlt
        clear hk he hlt hb hbc
        go_wp2_with fail
        go_roundw
        case rel => exact ⟨k + 1, by go_num, .inl ⟨by have := HLt.out; omega, f, ps, rfl, HCn.out, HO.out⟩, KB.out⟩
        case measure => have := HK.out; simp [intOf] <;> omega
end Go.Proofs.YtefdopifebhgiaaGreatDoor

namespace Go.Proofs.YtefdopifebhgiaaGreatDoor
open Go.RowKit

set_option maxHeartbeats 4000000 in
set_option maxRecDepth 100000 in
theorem rrow_any (word : List UInt8) (xs : List Int) (vl : Value) (w : World) (hL : IntsAt none w vl xs) (hx : NumsOk xs) (ht : Tab w) (hl : word.length + 22 * xs.length ≤ 900000) :
    Calls Tryz.prog 33 #[.string ⟨word.toArray⟩, vl] w fun e w' => e = .returned (.string ⟨(rowL word xs []).toArray⟩) ∧ Below w.heap.size w w' := by
  have HX := hid hx
  have HI := hid hL
  have HT := hid ht
  have HLEN := hid hl
  obtain ⟨al, cl, rfl, _⟩ := hL
  clear hx ht hl
  go_enter Tryz.func33, Tryz.ntmps33
  go_wp2_with fail
  go_loopw [0, 5] (fun s i wr => ∃ k : Nat, k ≤ xs.length ∧ i = .int .i64 k ∧ s = .string ⟨(numsL xs word k).toArray⟩ ∧ Below w.heap.size w wr) (fun _ i _ => xs.length - (intOf i).toNat)
  case atStart => exact ⟨0, by omega, rfl, rfl, Below.refl _ _⟩
  case round =>
    obtain ⟨k, hk, rfl, rfl, hb⟩ := hrel
    obtain ⟨wo, rfl⟩ : ∃ wo : World, wo = wr := ⟨_, rfl⟩
    have KB := hid hb
    have HL := hid (numsL_len (b := word) HX.out hk)
    clear hb
    by_cases hlt : k < xs.length
    · have hi := HI.out.below KB.out
      obtain ⟨bl, ol, c', e, _, _⟩ := hi.slice (by omega)
      cases e
      have n0 := hi.cell hlt
      have hf := HX.out k hlt
      have HST := hid (show numsL xs word (k + 1) = numsL xs word k ++ 32 :: Lib.itoa (nm xs k) from rfl)
      obtain ⟨n, hn⟩ : ∃ n, nm xs k = n := ⟨_, rfl⟩
      rw [hn] at n0 hf HST
      have i1 : (k : Int) < (xs.length : Int) := by omega
      have z2 : IntKind.i64.wrap ((k : Int) + 1) = (k : Int) + 1 := IntWalk.i64_in _ (by have := HLEN.out; omega)
      have HN := hid (itoa_len n hf.1 (by omega))
      obtain ⟨pre, hpre⟩ : ∃ pre, numsL xs word k = pre := ⟨_, rfl⟩
      rw [hpre] at HST HL
      have hadd : ∀ W : World, (Op.stringOp .add ⟨pre.toArray⟩ ⟨#[32]⟩).run Tryz.prog W = .ok (.string ⟨(pre ++ [32]).toArray⟩) W := fun W => by
        have h1 := HL.out
        have h2 := HLEN.out
        rw [run_string_add_sum W _ _ (by simp [ByteArray.size]; omega), show (⟨#[32]⟩ : ByteArray) = ⟨[32].toArray⟩ from rfl, ByteArray.mk_append_mk]
        try simp
      have hadd2 : ∀ W : World, (Op.stringOp .add ⟨(pre ++ [32]).toArray⟩ ⟨(Lib.itoa n).toArray⟩).run Tryz.prog W = .ok (.string ⟨(pre ++ 32 :: Lib.itoa n).toArray⟩) W := fun W => by
        have h1 := HL.out
        have h2 := HLEN.out
        have h3 := HN.out
        rw [run_string_add_sum W _ _ (by simp [ByteArray.size]; omega), ByteArray.mk_append_mk]
        simp
      have HF := hid hf
      rw [hpre]
      clear hn hi hf hpre
      go_wp2_with (go_at_call 30; refine (itoa_any n _ HF.out.1 (by have := HF.out; omega) (HT.out.base (Nat.le_refl _) KB.out)).mono ?_; rintro e w2 ⟨rfl, hb1⟩; have KB := hid (below_trans KB.out hb1); clear hb1 n0)
      go_roundw
      case rel => exact ⟨k + 1, by omega, by go_num, by rw [HST.out], KB.out⟩
      case measure => simp [intOf] <;> omega
    · obtain rfl : k = xs.length := by omega
      have HR := hid (show rowL word xs [] = numsL xs word xs.length ++ [10] from by unfold rowL; rfl)
      obtain ⟨pre, hpre⟩ : ∃ pre, numsL xs word xs.length = pre := ⟨_, rfl⟩
      rw [hpre] at HR HL ⊢
      have hadd : ∀ W : World, (Op.stringOp .add ⟨pre.toArray⟩ ⟨#[10]⟩).run Tryz.prog W = .ok (.string ⟨(pre ++ [10]).toArray⟩) W := fun W => by
        have h1 := HL.out
        have h2 := HLEN.out
        rw [run_string_add_sum W _ _ (by simp [ByteArray.size]; omega), show (⟨#[10]⟩ : ByteArray) = ⟨[10].toArray⟩ from rfl, ByteArray.mk_append_mk]
        try simp
      clear hpre
      go_wp2_with fail
      go_ret
      exact ⟨by rw [HR.out]; simp, KB.out⟩
end Go.Proofs.YtefdopifebhgiaaGreatDoor
