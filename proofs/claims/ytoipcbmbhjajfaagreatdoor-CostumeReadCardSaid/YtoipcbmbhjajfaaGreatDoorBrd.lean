/-
  PLAIN: a text cut at a byte; a number that is read; a row that is read; what a sheet says. No program in sight.
  PLAIN: a sheet that is read: row by row; what is written is read back, what is read is written as it was. No program in sight.
-/
import Derived.Test.YtoipcbmbhjajfaaGreatDoorBwc
import Derived.Test.YtoipcbmbhjajfaaGreatDoorCut
namespace Go.Proofs.YtoipcbmbhjajfaaGreatDoor
open Go.RowKit

/-- a row: its word, its numbers -/
def parseL (row : List UInt8) : Option (List UInt8 × List Int) := match cutL 32 row with
  | [] => none
  | w :: ws => match numsOf ws with
    | none => none
    | some l => some (w, l)
theorem flat_nums (xs : List Int) (b : List UInt8) : ∀ {k : Nat}, k ≤ xs.length → numsL xs b k = b ++ (xs.take k).flatMap (fun n => 32 :: Lib.itoa n) := by
  intro k
  induction k with
  | zero => intro _; simp [numsL]
  | succ k ih =>
    intro hk
    have e : xs.take (k + 1) = xs.take k ++ [nm xs k] := by
      rw [List.take_add_one, List.getElem?_eq_getElem (by omega)]
      simp [nm, List.getD_eq_getElem?_getD, List.getElem?_eq_getElem (show k < xs.length by omega)]
    rw [numsL, ih (by omega), e, List.flatMap_append, List.append_assoc]
    simp
theorem row_line (word : List UInt8) (xs : List Int) (b : List UInt8) : rowL word xs b = b ++ lineL word xs ++ [10] := by
  unfold rowL lineL
  rw [flat_nums xs _ (Nat.le_refl _), List.take_length]
  simp only [List.append_assoc]
theorem parse_line {word : List UInt8} {xs : List Int} (hw : 32 ∉ word) (h : ∀ n, n ∈ xs → 0 ≤ n ∧ n ≤ 999999) : parseL (lineL word xs) = some (word, xs) := by
  unfold parseL
  rw [cut_line xs word hw (fun n hn => (h n hn).1)]
  simp only [numsOf_itoa xs h]
theorem parse_some {row word : List UInt8} {xs : List Int} (h : parseL row = some (word, xs)) : row = lineL word xs ∧ ∀ n, n ∈ xs → 0 ≤ n ∧ n ≤ 999999 := by
  unfold parseL at h
  split at h
  · cases h
  · rename_i w ws hc
    split at h
    · cases h
    · rename_i l hl
      cases h
      obtain ⟨h1, h2⟩ := numsOf_some hl
      refine ⟨?_, h2⟩
      rw [cutL_join 32 row _ _ hc, h1]
      unfold lineL
      rw [List.flatMap_map]
end Go.Proofs.YtoipcbmbhjajfaaGreatDoor

namespace Go.Proofs.YtoipcbmbhjajfaaGreatDoor
open Go.RowKit

/-- what has been read: a plot, whether its row dress was there, whether its last row was there -/
structure RSt where
  p : Plot
  dressed : Bool
  ended : Bool
def noPlot : Plot := ⟨[], [], [], []⟩
def noRSt : RSt := ⟨noPlot, false, false⟩
def pairsN (l : List Int) : Nat → List (Int × Int)
  | 0 => []
  | k + 1 => pairsN l k ++ [(nm l (2 * k), nm l (2 * k + 1))]
def partOf (l : List Int) : Part := ⟨nm l 0, nm l 1, nm l 2, nm l 3, nm l 4⟩
def stepW (i : Nat) (w : List UInt8) (l : List Int) (s : RSt) : Option RSt :=
  if s.ended = true then none
  else if i = 0 then (if w = personsW ∧ l.length % 2 = 0 then some { s with p := { s.p with persons := pairsN l (l.length / 2) } } else none)
  else if w = walkW ∧ s.dressed = false then some { s with p := { s.p with walk := s.p.walk ++ [l] } }
  else if s.dressed = false then (if w = dressW then some { s with p := { s.p with dress := l }, dressed := true } else none)
  else if w = partW ∧ l.length = 5 then some { s with p := { s.p with parts := s.p.parts ++ [partOf l] } }
  else if w = endW ∧ l.length = 1 then (if nm l 0 = (s.p.parts.length : Int) then some { s with ended := true } else none)
  else none
def stepR (i : Nat) (row : List UInt8) (s : RSt) : Option RSt := match parseL row with
  | none => none
  | some (w, l) => stepW i w l s
def foldR : Nat → List (List UInt8) → RSt → Option RSt
  | _, [], s => some s
  | i, r :: rs, s => (stepR i r s).bind (foldR (i + 1) rs)
theorem foldR_app : ∀ (a b : List (List UInt8)) (i : Nat) (s : RSt), foldR i (a ++ b) s = (foldR i a s).bind (foldR (i + a.length) b)
  | [], b, i, s => rfl
  | r :: a, b, i, s => by
    rw [List.cons_append]
    simp only [foldR, List.length_cons]
    cases stepR i r s with
    | none => rfl
    | some t => rw [Option.bind_some, Option.bind_some, foldR_app a b (i + 1) t]; congr 2; omega
def rowAt (rows : List (List UInt8)) (i : Nat) : List UInt8 := rows.getD i []
def runR (rows : List (List UInt8)) (k : Nat) : Option RSt := foldR 0 (rows.take k) noRSt
theorem runR_succ {rows : List (List UInt8)} {k : Nat} (hk : k < rows.length) : runR rows (k + 1) = (runR rows k).bind (stepR k (rowAt rows k)) := by
  have e : rows.take (k + 1) = rows.take k ++ [rowAt rows k] := by
    rw [List.take_add_one, List.getElem?_eq_getElem hk]
    simp [rowAt, List.getD_eq_getElem?_getD, List.getElem?_eq_getElem hk]
  unfold runR
  rw [e, foldR_app]
  congr 1
  funext s
  rw [List.length_take, Nat.min_eq_left (by omega), Nat.zero_add]
  simp only [foldR]
  cases stepR k (rowAt rows k) s <;> rfl
/-- the row at which reading stops -/
def stopAt (rows : List (List UInt8)) : Nat → Option Nat
  | 0 => none
  | n + 1 => match stopAt rows n with
    | some k => some k
    | none => if (runR rows (n + 1)).isSome = true then none else some n
theorem run_some_down {rows : List (List UInt8)} {k : Nat} {t : RSt} (hk : k < rows.length) (h : runR rows (k + 1) = some t) : ∃ s, runR rows k = some s := by
  rw [runR_succ hk] at h
  cases hr : runR rows k with
  | none => rw [hr] at h; cases h
  | some s => exact ⟨s, rfl⟩
theorem stop_none {rows : List (List UInt8)} : ∀ {k : Nat} {s : RSt}, k ≤ rows.length → runR rows k = some s → stopAt rows k = none
  | 0, _, _, _ => rfl
  | k + 1, s, hk, h => by
    obtain ⟨t, ht⟩ := run_some_down (by omega) h
    rw [stopAt, stop_none (by omega) ht, h]
    rfl
theorem stop_some {rows : List (List UInt8)} {k : Nat} {s : RSt} (hr : runR rows k = some s) (hn : runR rows (k + 1) = none) : ∀ {n : Nat}, k < n → n ≤ rows.length → stopAt rows n = some k
  | 0, h, _ => absurd h (Nat.not_lt_zero _)
  | n + 1, h, hl => by
    rw [stopAt]
    by_cases e : k = n
    · subst e
      rw [stop_none (by omega) hr, hn]
      rfl
    · rw [stop_some hr hn (show k < n by omega) (by omega)]
def readP (text : List UInt8) : Plot × Int × Int :=
  if 2000 < text.length then (noPlot, 0, 6)
  else match stopAt (cutL 10 text) ((cutL 10 text).length - 1) with
    | some k => (noPlot, (k : Int) + 1, 1)
    | none => match runR (cutL 10 text) ((cutL 10 text).length - 1) with
      | none => (noPlot, 0, 0)
      | some s => if s.ended = true ∧ rowAt (cutL 10 text) ((cutL 10 text).length - 1) = [] then (if plotErr s.p = 0 then (s.p, 0, 0) else (noPlot, 0, plotErr s.p)) else (noPlot, (((cutL 10 text).length - 1 : Nat) : Int) + 1, 1)

/-! ### what is written is read back -/
theorem lst_takeB (walk : List (List Int)) {k : Nat} (hk : k < walk.length) : walk.take (k + 1) = walk.take k ++ [lst walk k] := by
  rw [List.take_add_one, List.getElem?_eq_getElem hk]
  simp [lst, List.getD_eq_getElem?_getD, List.getElem?_eq_getElem hk]
theorem pt_takeB (parts : List Part) {k : Nat} (hk : k < parts.length) : parts.take (k + 1) = parts.take k ++ [pt parts k] := by
  rw [List.take_add_one, List.getElem?_eq_getElem hk]
  simp [pt, List.getD_eq_getElem?_getD, List.getElem?_eq_getElem hk]
theorem walks_lines (walk : List (List Int)) (b : List UInt8) : ∀ {k : Nat}, k ≤ walk.length → walksL walk b k = b ++ joinN ((walk.take k).map (lineL walkW)) := by
  intro k
  induction k with
  | zero => intro _; simp [walksL, joinN]
  | succ k ih =>
    intro hk
    rw [walksL, row_line, ih (by omega), lst_takeB walk (by omega), List.map_append, joinN_app, List.map_singleton, joinN_one]
    simp only [List.append_assoc]
theorem parts_lines (parts : List Part) (b : List UInt8) : ∀ {k : Nat}, k ≤ parts.length → partsL parts b k = b ++ joinN ((parts.take k).map fun x => lineL partW (partN x)) := by
  intro k
  induction k with
  | zero => intro _; simp [partsL, joinN]
  | succ k ih =>
    intro hk
    rw [partsL, row_line, ih (by omega), pt_takeB parts (by omega), List.map_append, joinN_app, List.map_singleton, joinN_one]
    simp only [List.append_assoc]
theorem upToDress_eq (p : Plot) : upToDress p = joinN ([lineL personsW (sizesL p.persons)] ++ p.walk.map (lineL walkW)) := by
  unfold upToDress upToWalk
  rw [walks_lines _ _ (Nat.le_refl _), List.take_length, row_line, joinN_app, joinN_one, List.nil_append]
theorem upToParts_eq (p : Plot) : upToParts p = joinN ([lineL personsW (sizesL p.persons)] ++ p.walk.map (lineL walkW) ++ [lineL dressW p.dress]) := by
  unfold upToParts
  rw [row_line, upToDress_eq, joinN_app _ [lineL dressW p.dress], joinN_one, List.append_assoc]
def linesP (p : Plot) : List (List UInt8) := [lineL personsW (sizesL p.persons)] ++ p.walk.map (lineL walkW) ++ [lineL dressW p.dress] ++ p.parts.map (fun x => lineL partW (partN x)) ++ [lineL endW [(p.parts.length : Int)]]
theorem partsAll_eq (p : Plot) : partsL p.parts (upToParts p) p.parts.length = joinN ([lineL personsW (sizesL p.persons)] ++ p.walk.map (lineL walkW) ++ [lineL dressW p.dress] ++ p.parts.map (fun x => lineL partW (partN x))) := by
  rw [parts_lines _ _ (Nat.le_refl _), List.take_length, upToParts_eq, ← joinN_app]
theorem sheet_lines (p : Plot) : sheetL p = joinN (linesP p) := by
  unfold sheetL linesP
  rw [row_line, partsAll_eq, joinN_app _ [lineL endW [(p.parts.length : Int)]], joinN_one, List.append_assoc]

/-- numbers as a sheet may hold them -/
def Nums6 (xs : List Int) : Prop := ∀ n, n ∈ xs → 0 ≤ n ∧ n ≤ 9999
theorem nums6_of {xs : List Int} (h : ∀ i, i < xs.length → 0 ≤ nm xs i ∧ nm xs i ≤ 9999) : Nums6 xs := by
  intro n hn
  obtain ⟨i, hi, rfl⟩ := List.getElem_of_mem hn
  have := h i hi
  unfold nm at this
  rw [List.getD_eq_getElem?_getD, List.getElem?_eq_getElem hi] at this
  exact this
theorem nums_sizes {p : Plot} (h : Valid p) : Nums6 (sizesL p.persons) := nums6_of fun i hi => by
  rw [sizesL_length] at hi
  have hm := sizesL_nm p.persons (i / 2) (by omega)
  have hf := figE_zero (h.figures (i / 2) (by omega))
  rcases (by omega : i = 2 * (i / 2) ∨ i = 2 * (i / 2) + 1) with e | e
  · rw [e, hm.1]; omega
  · rw [e, hm.2]; omega
theorem nums_walk {p : Plot} (h : Valid p) {i : Nat} (hi : i < p.walk.length) : Nums6 (lst p.walk i) := nums6_of fun k hk => by
  have h1 := row_zero (h.rows i hi)
  have := (h1.2 k (by omega)).1
  omega
theorem nums_dress {p : Plot} (h : Valid p) : Nums6 p.dress := nums6_of fun i hi => by have := h.dresses i hi; omega
theorem nums_part {p : Plot} (h : Valid p) {i : Nat} (hi : i < p.parts.length) : Nums6 (partN (pt p.parts i)) := by
  have h1 := aloneE_zero (h.parts i hi)
  have := h.persons
  have := h.walk
  have := h.dress
  intro n hn
  simp [partN] at hn
  omega
theorem nums_end {p : Plot} (h : Valid p) : Nums6 [(p.parts.length : Int)] := by
  have := h.few
  intro n hn
  simp at hn
  omega
theorem walk_mem {p : Plot} (h : Valid p) : ∀ r, r ∈ p.walk → Nums6 r := by
  intro r hr
  obtain ⟨i, hi, rfl⟩ := List.getElem_of_mem hr
  have := nums_walk h hi
  unfold lst at this
  rw [List.getD_eq_getElem?_getD, List.getElem?_eq_getElem hi] at this
  exact this
theorem part_mem {p : Plot} (h : Valid p) : ∀ x, x ∈ p.parts → Nums6 (partN x) := by
  intro x hx
  obtain ⟨i, hi, rfl⟩ := List.getElem_of_mem hx
  have := nums_part h hi
  unfold pt at this
  rw [List.getD_eq_getElem?_getD, List.getElem?_eq_getElem hi] at this
  exact this
theorem Nums6.wide {xs : List Int} (h : Nums6 xs) : ∀ n, n ∈ xs → 0 ≤ n ∧ n ≤ 999999 := fun n hn => by have := h n hn; omega
theorem lines_free {p : Plot} (h : Valid p) : ∀ a, a ∈ linesP p → (10 : UInt8) ∉ a := by
  intro a ha
  unfold linesP at ha
  simp only [List.mem_append, List.mem_singleton, List.mem_map] at ha
  rcases ha with (((rfl | ⟨r, hr, rfl⟩) | rfl) | ⟨x, hx, rfl⟩) | rfl
  · exact line_free (by decide) fun n hn => (nums_sizes h n hn).1
  · exact line_free (by decide) fun n hn => (walk_mem h r hr n hn).1
  · exact line_free (by decide) fun n hn => (nums_dress h n hn).1
  · exact line_free (by decide) fun n hn => (part_mem h x hx n hn).1
  · exact line_free (by decide) fun n hn => (nums_end h n hn).1
theorem sp_take (ps : List (Int × Int)) {k : Nat} (hk : k < ps.length) : ps.take (k + 1) = ps.take k ++ [sp ps k] := by
  rw [List.take_add_one, List.getElem?_eq_getElem hk]
  simp [sp, List.getD_eq_getElem?_getD, List.getElem?_eq_getElem hk]
theorem nm_takeB (xs : List Int) {k : Nat} (hk : k < xs.length) : xs.take (k + 1) = xs.take k ++ [nm xs k] := by
  rw [List.take_add_one, List.getElem?_eq_getElem hk]
  simp [nm, List.getD_eq_getElem?_getD, List.getElem?_eq_getElem hk]
theorem pairs_sizes (ps : List (Int × Int)) : ∀ {k : Nat}, k ≤ ps.length → pairsN (sizesL ps) k = ps.take k := by
  intro k
  induction k with
  | zero => intro _; rfl
  | succ k ih =>
    intro hk
    have hm := sizesL_nm ps k (by omega)
    rw [pairsN, ih (by omega), hm.1, hm.2, sp_take ps (by omega)]
theorem fold_walks : ∀ (ws : List (List Int)) (i : Nat) (q : Plot), (∀ r, r ∈ ws → Nums6 r) → 1 ≤ i → foldR i (ws.map (lineL walkW)) ⟨q, false, false⟩ = some ⟨{ q with walk := q.walk ++ ws }, false, false⟩
  | [], i, q, _, _ => by simp [foldR]
  | r :: ws, i, q, h, hi => by
    have ih := fold_walks ws (i + 1) { q with walk := q.walk ++ [r] } (fun t ht => h t (by simp [ht])) (by omega)
    rw [List.map_cons, foldR, stepR, parse_line (by decide) (h r (by simp)).wide]
    have hs : stepW i walkW r ⟨q, false, false⟩ = some ⟨{ q with walk := q.walk ++ [r] }, false, false⟩ := by
      unfold stepW
      rw [if_neg (by simp), if_neg (by omega), if_pos ⟨rfl, rfl⟩]
    simp only [hs, Option.bind_some, ih, List.append_assoc, List.singleton_append]
theorem part_back (x : Part) : partOf (partN x) = x := by cases x; rfl
theorem fold_parts : ∀ (xs : List Part) (i : Nat) (q : Plot), (∀ x, x ∈ xs → Nums6 (partN x)) → 1 ≤ i → foldR i (xs.map fun x => lineL partW (partN x)) ⟨q, true, false⟩ = some ⟨{ q with parts := q.parts ++ xs }, true, false⟩
  | [], i, q, _, _ => by simp [foldR]
  | x :: xs, i, q, h, hi => by
    have ih := fold_parts xs (i + 1) { q with parts := q.parts ++ [x] } (fun t ht => h t (by simp [ht])) (by omega)
    rw [List.map_cons, foldR, stepR, parse_line (by decide) (h x (by simp)).wide]
    have hs : stepW i partW (partN x) ⟨q, true, false⟩ = some ⟨{ q with parts := q.parts ++ [x] }, true, false⟩ := by
      unfold stepW
      rw [if_neg (by simp), if_neg (by omega), if_neg (by simp), if_neg (by simp), if_pos ⟨rfl, rfl⟩, part_back]
    simp only [hs, Option.bind_some, ih, List.append_assoc, List.singleton_append]
theorem fold_lines {p : Plot} (h : Valid p) : foldR 0 (linesP p) noRSt = some ⟨p, true, true⟩ := by
  unfold linesP
  rw [foldR_app, foldR_app, foldR_app, foldR_app]
  have s0 : foldR 0 [lineL personsW (sizesL p.persons)] noRSt = some ⟨{ noPlot with persons := p.persons }, false, false⟩ := by
    have hs : stepW 0 personsW (sizesL p.persons) noRSt = some ⟨{ noPlot with persons := p.persons }, false, false⟩ := by
      unfold stepW
      rw [if_neg (by simp [noRSt]), if_pos rfl, if_pos ⟨rfl, by rw [sizesL_length]; omega⟩, sizesL_length, show 2 * p.persons.length / 2 = p.persons.length by omega, pairs_sizes _ (Nat.le_refl _), List.take_length]
      rfl
    rw [foldR, stepR, parse_line (by decide) (nums_sizes h).wide]
    simp only [hs, Option.bind_some, foldR]
  rw [s0, Option.bind_some, fold_walks _ _ _ (walk_mem h) (by simp), Option.bind_some]
  have s2 : ∀ i q, 1 ≤ i → foldR i [lineL dressW p.dress] ⟨q, false, false⟩ = some ⟨{ q with dress := p.dress }, true, false⟩ := fun i q hi => by
    have hs : stepW i dressW p.dress ⟨q, false, false⟩ = some ⟨{ q with dress := p.dress }, true, false⟩ := by
      unfold stepW
      rw [if_neg (by simp), if_neg (by omega), if_neg (by intro e; exact absurd e.1 (by decide)), if_pos rfl, if_pos rfl]
    rw [foldR, stepR, parse_line (by decide) (nums_dress h).wide]
    simp only [hs, Option.bind_some, foldR]
  rw [s2 _ _ (by simp), Option.bind_some, fold_parts _ _ _ (part_mem h) (by simp), Option.bind_some]
  have s4 : ∀ i q, 1 ≤ i → q.parts.length = p.parts.length → foldR i [lineL endW [(p.parts.length : Int)]] ⟨q, true, false⟩ = some ⟨q, true, true⟩ := fun i q hi hq => by
    have hs : stepW i endW [(p.parts.length : Int)] ⟨q, true, false⟩ = some ⟨q, true, true⟩ := by
      unfold stepW
      rw [if_neg (by simp), if_neg (by omega), if_neg (by simp), if_neg (by simp), if_neg (by intro e; exact absurd e.1 (by decide)), if_pos ⟨rfl, rfl⟩, if_pos (by rw [hq]; rfl)]
    rw [foldR, stepR, parse_line (by decide) (nums_end h).wide]
    simp only [hs, Option.bind_some, foldR]
  rw [s4 _ _ (by simp) (by simp [noPlot])]
  simp [noPlot]
theorem itoa_len4 {n : Int} (h0 : 0 ≤ n) (h1 : n ≤ 9999) : (Lib.itoa n).length ≤ 4 := by
  obtain ⟨m, rfl⟩ := Int.eq_ofNat_of_zero_le h0
  rw [itoa_nat]
  exact digits_short (by omega)
theorem line_len (word : List UInt8) : ∀ {xs : List Int}, Nums6 xs → (lineL word xs).length ≤ word.length + 5 * xs.length
  | [], _ => by simp [lineL]
  | n :: xs, h => by
    have ih := line_len word (xs := xs) (fun m hm => h m (by simp [hm]))
    have hn := h n (by simp)
    have := itoa_len4 hn.1 hn.2
    unfold lineL at ih ⊢
    simp only [List.flatMap_cons, List.length_append, List.length_cons] at ih ⊢
    omega
theorem join_len (b : Nat) : ∀ {ls : List (List UInt8)}, (∀ a, a ∈ ls → a.length + 1 ≤ b) → (joinN ls).length ≤ ls.length * b
  | [], _ => by simp [joinN]
  | a :: ls, h => by
    have ih := join_len b (ls := ls) (fun c hc => h c (by simp [hc]))
    have ha := h a (by simp)
    unfold joinN at ih ⊢
    simp only [List.flatMap_cons, List.length_append, List.length_cons, List.length_nil] at ih ⊢
    rw [Nat.add_mul]
    omega
theorem sheet_len {p : Plot} (h : Valid p) : (sheetL p).length ≤ 2000 := by
  have h1 := h.persons
  have h2 := h.walk
  have h3 := h.dress
  have h4 := h.few
  rw [sheet_lines]
  unfold linesP
  rw [joinN_app, joinN_app, joinN_app, joinN_app, joinN_one, joinN_one, joinN_one]
  have a1 := line_len personsW (nums_sizes h)
  rw [sizesL_length] at a1
  have a2 := join_len 45 (ls := p.walk.map (lineL walkW)) (fun a ha => by
    obtain ⟨r, hr, rfl⟩ := List.mem_map.1 ha
    have := line_len walkW (walk_mem h r hr)
    obtain ⟨i, hi, rfl⟩ := List.getElem_of_mem hr
    have h5 := (fine_walk h hi).2
    unfold lst at h5
    rw [List.getD_eq_getElem?_getD, List.getElem?_eq_getElem hi] at h5
    have h5 : (p.walk[i]).length ≤ 8 := h5
    have h6 : walkW.length = 4 := rfl
    omega)
  have a3 := line_len dressW (nums_dress h)
  have a4 := join_len 30 (ls := p.parts.map fun x => lineL partW (partN x)) (fun a ha => by
    obtain ⟨x, hx, rfl⟩ := List.mem_map.1 ha
    have := line_len partW (part_mem h x hx)
    have h6 : partW.length = 4 := rfl
    have h7 : (partN x).length = 5 := rfl
    omega)
  have a5 := line_len endW (nums_end h)
  have e1 : personsW.length = 7 := rfl
  have e2 : dressW.length = 5 := rfl
  have e3 : endW.length = 3 := rfl
  simp only [List.length_append, List.length_cons, List.length_nil, List.length_map] at a1 a2 a3 a4 a5 ⊢
  omega
/-- WHAT IS WRITTEN IS READ BACK -/
theorem read_sheet {p : Plot} (h : Valid p) : readP (sheetL p) = (p, 0, 0) := by
  have hl := sheet_len h
  have hc : cutL 10 (sheetL p) = linesP p ++ [[]] := by rw [sheet_lines]; exact cut_lines _ (lines_free h)
  have hn : (cutL 10 (sheetL p)).length - 1 = (linesP p).length := by rw [hc]; simp
  have hr : runR (cutL 10 (sheetL p)) (linesP p).length = some ⟨p, true, true⟩ := by
    unfold runR
    rw [hc, List.take_left' rfl]
    exact fold_lines h
  unfold readP
  rw [if_neg (by omega), hn, stop_none (by rw [hc]; simp) hr, hr]
  have hx : rowAt (cutL 10 (sheetL p)) (linesP p).length = [] := by
    rw [hc]; unfold rowAt; rw [List.getD_eq_getElem?_getD, List.getElem?_append_right (Nat.le_refl _)]; simp
  simp only [hx, and_self, if_true, plotErr_zero.2 h]

/-! ### what is read is written as it was -/
def Ren (i : Nat) (s : RSt) (T : List UInt8) : Prop :=
  (i = 0 ∧ s = noRSt ∧ T = []) ∨ (1 ≤ i ∧ s.dressed = false ∧ s.ended = false ∧ s.p.parts = [] ∧ T = upToDress s.p) ∨ (1 ≤ i ∧ s.dressed = true ∧ s.ended = false ∧ T = partsL s.p.parts (upToParts s.p) s.p.parts.length) ∨ (1 ≤ i ∧ s.dressed = true ∧ s.ended = true ∧ T = sheetL s.p)
theorem sizes_pairs (l : List Int) : ∀ {k : Nat}, 2 * k ≤ l.length → sizesL (pairsN l k) = l.take (2 * k) := by
  intro k
  induction k with
  | zero => intro _; rfl
  | succ k ih =>
    intro hk
    have e1 : l.take (2 * (k + 1)) = l.take (2 * k) ++ [nm l (2 * k), nm l (2 * k + 1)] := by
      rw [show 2 * (k + 1) = 2 * k + 1 + 1 by omega, nm_takeB l (by omega), nm_takeB l (by omega), List.append_assoc]
      rfl
    rw [pairsN, e1, ← ih (by omega)]
    unfold sizesL
    rw [List.flatMap_append]
    rfl
theorem five_list : ∀ (l : List Int), l.length = 5 → partN (partOf l) = l
  | [a, b, c, d, e], _ => rfl
  | [], h => by cases h
  | [_], h => by cases h
  | [_, _], h => by cases h
  | [_, _, _], h => by cases h
  | [_, _, _, _], h => by cases h
  | _ :: _ :: _ :: _ :: _ :: _ :: _, h => by simp at h
theorem one_list : ∀ (l : List Int), l.length = 1 → l = [nm l 0]
  | [a], _ => rfl
  | [], h => by cases h
  | _ :: _ :: _, h => by simp at h
theorem step_ren {i : Nat} {row : List UInt8} {s t : RSt} {T : List UInt8} (h : stepR i row s = some t) (hR : Ren i s T) : Ren (i + 1) t (T ++ row ++ [10]) := by
  unfold stepR at h
  split at h
  · cases h
  · rename_i w l hp
    obtain ⟨hrow, _⟩ := parse_some hp
    subst hrow
    unfold stepW at h
    by_cases he : s.ended = true
    · rw [if_pos he] at h; cases h
    rw [if_neg he] at h
    have he' : s.ended = false := by simpa using he
    by_cases hi : i = 0
    · rw [if_pos hi] at h
      rcases hR with ⟨_, rfl, rfl⟩ | ⟨h1, _⟩ | ⟨h1, _⟩ | ⟨h1, _⟩
      · split at h
        · rename_i hw
          obtain ⟨rfl, hl⟩ := hw
          cases h
          refine .inr (.inl ⟨by omega, rfl, rfl, rfl, ?_⟩)
          rw [upToDress_eq]
          have e := sizes_pairs l (k := l.length / 2) (by omega)
          rw [show 2 * (l.length / 2) = l.length by omega, List.take_length] at e
          simp [noRSt, noPlot, joinN, e]
        · cases h
      · omega
      · omega
      · omega
    rw [if_neg hi] at h
    rcases hR with ⟨h1, _⟩ | ⟨h1, hd, _, hq, rfl⟩ | ⟨h1, hd, _, rfl⟩ | ⟨h1, hd, h2, rfl⟩
    · omega
    · by_cases hw : w = walkW
      · subst hw
        rw [if_pos ⟨rfl, hd⟩] at h
        cases h
        refine .inr (.inl ⟨by omega, hd, he', hq, ?_⟩)
        rw [upToDress_eq, upToDress_eq]
        simp only [List.map_append, ← List.append_assoc, List.map_singleton]
        rw [joinN_app _ [lineL walkW l], joinN_one, List.append_assoc]
      · rw [if_neg (fun e => hw e.1), if_pos hd] at h
        split at h
        · rename_i hw2
          subst hw2
          cases h
          refine .inr (.inr (.inl ⟨by omega, rfl, he', ?_⟩))
          show _ = partsL s.p.parts _ s.p.parts.length
          rw [hq]
          show _ = upToParts { s.p with dress := l }
          rw [upToDress_eq, upToParts_eq, joinN_app _ [lineL dressW l], joinN_one, List.append_assoc]
        · cases h
    · rw [if_neg (by rw [hd]; simp), if_neg (by rw [hd]; simp)] at h
      split at h
      · rename_i hw
        obtain ⟨rfl, hl⟩ := hw
        cases h
        refine .inr (.inr (.inl ⟨by omega, hd, he', ?_⟩))
        rw [partsAll_eq, partsAll_eq]
        simp only [List.map_append, ← List.append_assoc, List.map_singleton, five_list l hl]
        rw [joinN_app _ [lineL partW l], joinN_one, List.append_assoc]
      · split at h
        · rename_i hw
          obtain ⟨rfl, hl⟩ := hw
          split at h
          · rename_i hn
            cases h
            refine .inr (.inr (.inr ⟨by omega, hd, rfl, ?_⟩))
            unfold sheetL
            rw [row_line, one_list l hl, hn]
          · cases h
        · cases h
    · rw [h2] at he'; cases he'
theorem fold_ren : ∀ (rs : List (List UInt8)) (i : Nat) (s t : RSt) (T : List UInt8), foldR i rs s = some t → Ren i s T → Ren (i + rs.length) t (T ++ joinN rs)
  | [], i, s, t, T, h, hR => by cases h; simpa [joinN] using hR
  | r :: rs, i, s, t, T, h, hR => by
    rw [foldR] at h
    cases hs : stepR i r s with
    | none => rw [hs] at h; cases h
    | some u =>
      rw [hs, Option.bind_some] at h
      have ih := fold_ren rs (i + 1) u t _ h (step_ren hs hR)
      have e1 : i + (r :: rs).length = i + 1 + rs.length := by simp; omega
      have e2 : T ++ joinN (r :: rs) = T ++ r ++ [10] ++ joinN rs := by simp [joinN]
      rw [e1, e2]
      exact ih
/-- WHAT IS READ IS WRITTEN AS IT WAS -/
theorem read_back {text : List UInt8} {p : Plot} {r : Int} (h : readP text = (p, r, 0)) : r = 0 ∧ plotErr p = 0 ∧ sheetL p = text := by
  unfold readP at h
  split at h
  · cases h
  · split at h
    · cases h
    · rename_i hs
      obtain ⟨q, qs, hq⟩ := cutL_ne 10 text
      have hj := cutL_join 10 text q qs hq
      rw [hq] at h hs
      have hl : (q :: qs).length - 1 = qs.length := rfl
      rw [hl] at h hs
      cases hr : runR (q :: qs) qs.length with
      | none =>
        exfalso
        have key : ∀ n, n ≤ qs.length → runR (q :: qs) n = none → stopAt (q :: qs) n ≠ none := by
          intro n
          induction n with
          | zero => intro _ h0; cases h0
          | succ n ih =>
            intro hn h0
            rw [stopAt]
            cases hp : runR (q :: qs) n with
            | none =>
              cases hst : stopAt (q :: qs) n with
              | none => exact absurd hst (ih (by omega) hp)
              | some k => simp
            | some s =>
              rw [stop_none (by simp; omega) hp, h0]
              simp
        exact key _ (Nat.le_refl _) hr hs
      | some s =>
        rw [hr] at h
        dsimp only at h
        split at h
        · rename_i he
          split at h
          · rename_i hv
            cases h
            refine ⟨rfl, hv, ?_⟩
            have hR := fold_ren _ 0 noRSt s [] hr (.inl ⟨rfl, rfl, rfl⟩)
            have hlast := join_last qs q he.2
            rw [hj, hlast]
            rcases hR with ⟨_, e, _⟩ | ⟨_, _, e, _⟩ | ⟨_, _, e, _⟩ | ⟨_, _, _, e⟩
            · rw [e] at he; exact absurd he.1 (by simp [noRSt])
            · rw [e] at he; exact absurd he.1 (by simp)
            · rw [e] at he; exact absurd he.1 (by simp)
            · rw [← e, List.nil_append]
          · rename_i hv
            have : plotErr s.p = 0 := by simpa using congrArg (fun x => x.2.2) h
            exact absurd this hv
        · have : (1 : Int) = 0 := by simpa using congrArg (fun x => x.2.2) h
          cases this
/-- what is read with an error has nobody in it -/
theorem read_bad {text : List UInt8} (h : (readP text).2.2 ≠ 0) : (readP text).1 = noPlot := by
  unfold readP at h ⊢
  split
  · rfl
  · rename_i h1
    rw [if_neg h1] at h
    split
    · rfl
    · rename_i h2
      rw [h2] at h
      dsimp only at h
      split
      · rfl
      · rename_i s h3
        rw [h3] at h
        dsimp only at h
        split
        · rename_i h4
          rw [if_pos h4] at h
          split
          · rename_i h5
            rw [if_pos h5] at h
            exact absurd rfl h
          · rfl
        · rfl
end Go.Proofs.YtoipcbmbhjajfaaGreatDoor
