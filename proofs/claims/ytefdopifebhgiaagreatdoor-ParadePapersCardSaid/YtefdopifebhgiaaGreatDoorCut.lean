/-
  PLAIN: a text cut at a byte; a number that is read. No program in sight.
-/
import Derived.Test.YtefdopifebhgiaaGreatDoorSpec
import Derived.Lib.ItoaLen
import Derived.Lib.AtoiTie
import Derived.Lib.SplitLaws
namespace Go.Proofs.YtefdopifebhgiaaGreatDoor
open Go.RowKit

/-- the pieces between separators -/
def cutL (c : UInt8) : List UInt8 → List (List UInt8)
  | [] => [[]]
  | b :: l => if b = c then [] :: cutL c l else match cutL c l with
    | [] => [[b]]
    | p :: ps => (b :: p) :: ps
theorem cutL_ne (c : UInt8) (l : List UInt8) : ∃ p ps, cutL c l = p :: ps := by
  cases l with
  | nil => exact ⟨_, _, rfl⟩
  | cons b l =>
    unfold cutL
    split
    · exact ⟨_, _, rfl⟩
    · split <;> exact ⟨_, _, rfl⟩
theorem index_cons_ne (b c : UInt8) (l : List UInt8) (h : b ≠ c) : Lib.index (b :: l) [c] = if Lib.index l [c] == -1 then -1 else Lib.index l [c] + 1 := by
  have hp : ([c] : List UInt8).isPrefixOf (b :: l) = false := by simp [List.isPrefixOf, Ne.symm h]
  rw [Lib.index, hp]; simp
theorem split_cut (c : UInt8) : ∀ s : List UInt8, Lib.splitK [c] 0 (Lib.count s [c]) s = cutL c s
  | [] => by rw [Lib.count_one]; rfl
  | b :: l => by
    have ih := split_cut c l
    by_cases h : b = c
    · subst h
      have hix : Lib.index (b :: l) [b] = 0 := by rw [Lib.index]; simp [List.isPrefixOf]
      rw [Lib.count_cons_eq, Nat.add_comm, Lib.splitK, hix]
      simp only [cutL, if_true]
      rw [← ih]
      rfl
    · rw [Lib.count_cons_ne b c l h]
      simp only [cutL, if_neg h]
      rw [← ih]
      cases Lib.count l [c] with
      | zero => rfl
      | succ k =>
        simp only [Lib.splitK]
        rw [index_cons_ne b c l h]
        by_cases hm : (Lib.index l [c] == -1) = true
        · simp [hm]
        · have hge := Lib.index_ge l [c]
          have hne : Lib.index l [c] ≠ -1 := fun e => hm (beq_iff_eq.2 e)
          obtain ⟨j, hj⟩ : ∃ j : Nat, Lib.index l [c] = j := ⟨(Lib.index l [c]).toNat, by omega⟩
          have e1 : ((Lib.index l [c] + 1 == -1)) = false := beq_eq_false_iff_ne.2 (by omega)
          rw [if_neg hm, if_neg hm, e1]
          have e2 : (Lib.index l [c] + 1).toNat = (Lib.index l [c]).toNat + 1 := by omega
          simp [e2]
theorem cutL_join (c : UInt8) : ∀ (s : List UInt8) (p : List UInt8) (ps : List (List UInt8)), cutL c s = p :: ps → s = p ++ ps.flatMap (fun q => c :: q)
  | [], p, ps, h => by cases h; rfl
  | b :: l, p, ps, h => by
    obtain ⟨q, qs, hq⟩ := cutL_ne c l
    have ih := cutL_join c l q qs hq
    unfold cutL at h
    rw [hq] at h
    split at h
    · rename_i hb
      cases h
      rw [hb, ih]
      rfl
    · cases h
      rw [ih]
      rfl
theorem cutL_free (c : UInt8) : ∀ (a : List UInt8), c ∉ a → cutL c a = [a]
  | [], _ => rfl
  | b :: l, h => by
    have h1 : b ≠ c := fun e => h (by simp [e])
    have h2 : c ∉ l := fun e => h (by simp [e])
    unfold cutL
    rw [if_neg h1, cutL_free c l h2]
theorem cutL_app (c : UInt8) : ∀ (a l : List UInt8), c ∉ a → cutL c (a ++ c :: l) = a :: cutL c l
  | [], l, _ => by simp [cutL]
  | b :: a, l, h => by
    have h1 : b ≠ c := fun e => h (by simp [e])
    have h2 : c ∉ a := fun e => h (by simp [e])
    simp only [List.cons_append, cutL, if_neg h1, cutL_app c a l h2]
theorem cutL_bound (c : UInt8) : ∀ (s : List UInt8), (cutL c s).length ≤ s.length + 1 ∧ ∀ p, p ∈ cutL c s → p.length ≤ s.length
  | [] => ⟨Nat.le_refl _, fun p hp => by simp [cutL] at hp; simp [hp]⟩
  | b :: l => by
    obtain ⟨q, qs, hq⟩ := cutL_ne c l
    obtain ⟨ih1, ih2⟩ := cutL_bound c l
    unfold cutL
    rw [hq] at ih1 ih2 ⊢
    split
    · refine ⟨by simp at ih1 ⊢; omega, fun p hp => ?_⟩
      rcases List.mem_cons.1 hp with rfl | hp
      · simp
      · have := ih2 p hp; simp; omega
    · refine ⟨by simp at ih1 ⊢; omega, fun p hp => ?_⟩
      rcases List.mem_cons.1 hp with rfl | hp
      · have := ih2 q (by simp); simp; omega
      · have := ih2 p (List.mem_cons_of_mem _ hp); simp; omega

/-! ### numbers -/
theorem decFrom_snoc : ∀ (a : List UInt8) (acc : Nat) (b : List UInt8), Lib.decFrom acc (a ++ b) = (Lib.decFrom acc a).bind fun n => Lib.decFrom n b
  | [], _, _ => rfl
  | x :: a, acc, b => by
    rw [List.cons_append, Lib.decFrom, Lib.decFrom]
    cases Lib.digitVal x with
    | none => rfl
    | some d => exact decFrom_snoc a _ b
theorem digit_val {d : Nat} (h : d < 10) : Lib.digitVal (UInt8.ofNat (48 + d)) = some d := by
  have e : (UInt8.ofNat (48 + d)).toNat = 48 + d := by simp; omega
  unfold Lib.digitVal
  rw [e, if_pos (by omega)]
  congr 1
  omega
theorem dec_digits (u : Nat) : Lib.decFrom 0 (Lib.decDigits u) = some u ∧ Lib.decDigits u ≠ [] ∧ ∀ b, b ∈ Lib.decDigits u → 48 ≤ b.toNat ∧ b.toNat ≤ 57 := by
  induction u using Nat.strongRecOn with
  | _ u ih =>
    by_cases h : u < 10
    · rw [Lib.decDigits, dif_pos h]
      refine ⟨?_, by simp, fun b hb => ?_⟩
      · rw [Lib.decFrom, digit_val h]; simp [Lib.decFrom]
      · obtain rfl := List.mem_singleton.1 hb
        have e : (UInt8.ofNat (48 + u)).toNat = 48 + u := by simp; omega
        omega
    · obtain ⟨h1, h2, h3⟩ := ih (u / 10) (by omega)
      rw [Lib.decDigits, dif_neg h]
      refine ⟨?_, by simp, fun b hb => ?_⟩
      · rw [decFrom_snoc, h1, Option.bind_some, Lib.decFrom, digit_val (by omega)]
        simp only [Lib.decFrom]
        congr 1
        omega
      · rcases List.mem_append.1 hb with hb | hb
        · exact h3 b hb
        · obtain rfl := List.mem_singleton.1 hb
          have e : (UInt8.ofNat (48 + u % 10)).toNat = 48 + u % 10 := by simp; omega
          omega
theorem itoa_nat (n : Nat) : Lib.itoa (n : Int) = Lib.decDigits n := by
  unfold Lib.itoa
  rw [if_neg (by omega), Int.toNat_natCast]
theorem digits_short {u : Nat} {k : Nat} (h : u < 10 ^ (k + 1)) : (Lib.decDigits u).length ≤ k + 1 := by
  induction k generalizing u with
  | zero => rw [Lib.decDigits, dif_pos (by simpa using h)]; simp
  | succ k ih =>
    by_cases hu : u < 10
    · rw [Lib.decDigits, dif_pos hu]; simp
    · rw [Lib.decDigits, dif_neg hu, List.length_append]
      have := ih (u := u / 10) (by rw [Nat.pow_succ] at h; omega)
      simp
      omega
theorem itoa_free {n : Int} (h : 0 ≤ n) (b : UInt8) (hb : b ∈ Lib.itoa n) : 48 ≤ b.toNat ∧ b.toNat ≤ 57 := by
  obtain ⟨m, rfl⟩ := Int.eq_ofNat_of_zero_le h
  rw [itoa_nat] at hb
  exact (dec_digits m).2.2 b hb
theorem atoi_itoa {n : Int} (h0 : 0 ≤ n) (h1 : n ≤ 999999) : Lib.atoiAll (Lib.itoa n) = .ok n ∧ (Lib.itoa n).length ≤ 6 := by
  obtain ⟨m, rfl⟩ := Int.eq_ofNat_of_zero_le h0
  rw [itoa_nat]
  have hl := digits_short (u := m) (k := 5) (by omega)
  obtain ⟨d1, d2, d3⟩ := dec_digits m
  refine ⟨?_, hl⟩
  rw [Lib.atoiAll_short _ (by omega)]
  have : Lib.atoi (Lib.decDigits m) = some (m : Int) := by
    cases hd : Lib.decDigits m with
    | nil => exact absurd hd d2
    | cons b r =>
      rw [hd] at d1 d3
      have hb := d3 b (by simp)
      have n1 : (b == 45) = false := by
        rw [beq_eq_false_iff_ne]; rintro rfl; have : (45 : UInt8).toNat = 45 := rfl; omega
      have n2 : (b == 43) = false := by
        rw [beq_eq_false_iff_ne]; rintro rfl; have : (43 : UInt8).toNat = 43 := rfl; omega
      simp only [Lib.atoi, n1, n2]
      simp [Lib.decNat, d1]
  rw [this]
  rfl

/-- the number that a word is; none if it is no number as they are written -/
def numOf (s : List UInt8) : Option Int := match Lib.atoiAll s with
  | .ok n => if 0 ≤ n ∧ s.length ≤ 6 ∧ Lib.itoa n = s then some n else none
  | _ => none
theorem numOf_itoa {n : Int} (h0 : 0 ≤ n) (h1 : n ≤ 999999) : numOf (Lib.itoa n) = some n := by
  obtain ⟨h2, h3⟩ := atoi_itoa h0 h1
  unfold numOf
  rw [h2]
  simp [h0, h3]
theorem pow_len {u : Nat} {k : Nat} (h : (Lib.decDigits u).length ≤ k) : u < 10 ^ k := by
  have h1 := Lib.lt_pow_nDigits u
  rw [Lib.decDigits_length] at h
  exact Nat.lt_of_lt_of_le h1 (Nat.pow_le_pow_right (by decide) h)
theorem numOf_some {s : List UInt8} {n : Int} (h : numOf s = some n) : 0 ≤ n ∧ n ≤ 999999 ∧ s = Lib.itoa n := by
  unfold numOf at h
  split at h
  · split at h
    · rename_i h1
      cases h
      refine ⟨h1.1, ?_, h1.2.2.symm⟩
      obtain ⟨m, rfl⟩ := Int.eq_ofNat_of_zero_le h1.1
      have h2 := h1.2.1
      rw [← h1.2.2, itoa_nat] at h2
      have := pow_len h2
      omega
    · cases h
  · cases h
/-- the numbers of a row's words -/
def numsOf : List (List UInt8) → Option (List Int)
  | [] => some []
  | s :: r => match numOf s with
    | none => none
    | some n => match numsOf r with
      | none => none
      | some l => some (n :: l)
theorem numsOf_itoa : ∀ (xs : List Int), (∀ n, n ∈ xs → 0 ≤ n ∧ n ≤ 999999) → numsOf (xs.map Lib.itoa) = some xs
  | [], _ => rfl
  | n :: xs, h => by
    rw [List.map_cons, numsOf, numOf_itoa (h n (by simp)).1 (h n (by simp)).2, numsOf_itoa xs (fun m hm => h m (by simp [hm]))]
theorem numsOf_some : ∀ {ws : List (List UInt8)} {xs : List Int}, numsOf ws = some xs → ws = xs.map Lib.itoa ∧ ∀ n, n ∈ xs → 0 ≤ n ∧ n ≤ 999999
  | [], xs, h => by cases h; exact ⟨rfl, fun n hn => by cases hn⟩
  | s :: r, xs, h => by
    unfold numsOf at h
    split at h
    · cases h
    · rename_i n hn
      split at h
      · cases h
      · rename_i l hl
        cases h
        obtain ⟨h1, h2, h3⟩ := numOf_some hn
        obtain ⟨h4, h5⟩ := numsOf_some hl
        refine ⟨by rw [List.map_cons, ← h3, ← h4], fun m hm => ?_⟩
        rcases List.mem_cons.1 hm with rfl | hm
        · exact ⟨h1, h2⟩
        · exact h5 m hm
/-- the numbers of the first words -/
theorem numsOf_snoc (ws : List (List UInt8)) (s : List UInt8) : numsOf (ws ++ [s]) = match numsOf ws, numOf s with
    | some l, some n => some (l ++ [n])
    | _, _ => none := by
  induction ws with
  | nil => simp only [List.nil_append, numsOf]; cases numOf s <;> rfl
  | cons x r ih =>
    rw [List.cons_append, numsOf, ih]
    simp only [numsOf]
    cases numOf x with
    | none => rfl
    | some n =>
      cases numsOf r with
      | none => rfl
      | some l => cases numOf s <;> rfl
theorem numsOf_none_app {ws ys : List (List UInt8)} (h : numsOf ws = none) : numsOf (ws ++ ys) = none := by
  induction ws with
  | nil => cases h
  | cons x r ih =>
    rw [List.cons_append]
    simp only [numsOf] at h ⊢
    cases hx : numOf x with
    | none => rfl
    | some n =>
      rw [hx] at h
      cases hr : numsOf r with
      | none => rw [ih hr]
      | some l => rw [hr] at h; cases h

def wordAt (ws : List (List UInt8)) (i : Nat) : List UInt8 := ws.getD i []
theorem word_take (ws : List (List UInt8)) {k : Nat} (hk : k < ws.length) : ws.take (k + 1) = ws.take k ++ [wordAt ws k] := by
  rw [List.take_add_one, List.getElem?_eq_getElem hk]
  simp [wordAt, List.getD_eq_getElem?_getD, List.getElem?_eq_getElem hk]
theorem numsOf_stop {ws : List (List UInt8)} {k : Nat} (hk : k < ws.length) (hn : numOf (wordAt ws k) = none) : numsOf ws = none := by
  have e : numsOf (ws.take (k + 1)) = none := by
    rw [word_take ws hk, numsOf_snoc, hn]
    cases numsOf (ws.take k) <;> rfl
  rw [← List.take_append_drop (k + 1) ws]
  exact numsOf_none_app e
theorem numsOf_go {ws : List (List UInt8)} {k : Nat} {l : List Int} {n : Int} (hk : k < ws.length) (hl : numsOf (ws.take k) = some l) (hn : numOf (wordAt ws k) = some n) : numsOf (ws.take (k + 1)) = some (l ++ [n]) := by
  rw [word_take ws hk, numsOf_snoc, hl, hn]
theorem numsOf_len : ∀ {ws : List (List UInt8)} {l : List Int}, numsOf ws = some l → l.length = ws.length := by
  intro ws l h
  rw [(numsOf_some h).1, List.length_map]

/-- a row's bytes -/
def lineL (word : List UInt8) (xs : List Int) : List UInt8 := word ++ xs.flatMap (fun n => 32 :: Lib.itoa n)
theorem cut_line : ∀ (xs : List Int) (word : List UInt8), 32 ∉ word → (∀ n, n ∈ xs → 0 ≤ n) → cutL 32 (lineL word xs) = word :: xs.map Lib.itoa
  | [], word, hw, _ => by
    unfold lineL
    simp only [List.flatMap_nil, List.append_nil, List.map_nil]
    exact cutL_free 32 word hw
  | n :: xs, word, hw, h => by
    have hn : (32 : UInt8) ∉ Lib.itoa n := fun hb => by
      have := itoa_free (h n (by simp)) 32 hb
      have e : (32 : UInt8).toNat = 32 := rfl
      omega
    have ih := cut_line xs (Lib.itoa n) hn (fun m hm => h m (by simp [hm]))
    unfold lineL at ih ⊢
    rw [List.flatMap_cons, List.cons_append, cutL_app 32 word _ hw, ih]
    rfl
theorem line_free {word : List UInt8} {xs : List Int} (hw : 10 ∉ word) (h : ∀ n, n ∈ xs → 0 ≤ n) : (10 : UInt8) ∉ lineL word xs := by
  unfold lineL
  intro hb
  rcases List.mem_append.1 hb with hb | hb
  · exact hw hb
  · obtain ⟨n, hn, hb⟩ := List.mem_flatMap.1 hb
    rcases List.mem_cons.1 hb with hb | hb
    · exact absurd hb (by decide)
    · have := itoa_free (h n hn) 10 hb
      have e : (10 : UInt8).toNat = 10 := rfl
      omega
def joinN (ls : List (List UInt8)) : List UInt8 := ls.flatMap fun a => a ++ [10]
theorem cut_lines : ∀ (ls : List (List UInt8)), (∀ a, a ∈ ls → (10 : UInt8) ∉ a) → cutL 10 (joinN ls) = ls ++ [[]]
  | [], _ => rfl
  | a :: ls, h => by
    have ih := cut_lines ls (fun b hb => h b (by simp [hb]))
    unfold joinN at ih ⊢
    rw [List.flatMap_cons, List.append_assoc, List.singleton_append, cutL_app 10 a _ (h a (by simp)), ih]
    rfl
theorem joinN_app (a b : List (List UInt8)) : joinN (a ++ b) = joinN a ++ joinN b := List.flatMap_append
theorem joinN_one (a : List UInt8) : joinN [a] = a ++ [10] := by simp [joinN]
theorem join_last : ∀ (ps : List (List UInt8)) (p : List UInt8), (p :: ps).getD ps.length [] = [] → p ++ ps.flatMap (fun q => (10 : UInt8) :: q) = joinN ((p :: ps).take ps.length)
  | [], p, h => by
    have : p = [] := h
    subst this
    rfl
  | q :: ps, p, h => by
    have ih := join_last ps q (by simpa using h)
    have e : (p :: q :: ps).take (q :: ps).length = p :: (q :: ps).take ps.length := rfl
    rw [e]
    unfold joinN at ih ⊢
    rw [List.flatMap_cons, List.flatMap_cons, ← ih]
    simp
end Go.Proofs.YtefdopifebhgiaaGreatDoor
