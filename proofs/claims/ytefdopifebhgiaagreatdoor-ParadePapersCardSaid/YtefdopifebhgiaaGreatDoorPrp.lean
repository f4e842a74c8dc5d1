/-
  PLAIN: a program that is read: what is written is read back, what is read is written as it was. No program in sight.
-/
import Derived.Test.YtefdopifebhgiaaGreatDoorMch
namespace Go.Proofs.YtefdopifebhgiaaGreatDoor
open Go.RowKit

def avenueW : List UInt8 := [97, 118, 101, 110, 117, 101]
def wingW : List UInt8 := [119, 105, 110, 103]
def endP : List UInt8 := [101, 110, 100]
/-- what has been read: the route, the wings, the row after which it ended (0: none), the number that stood there -/
structure PSt where
  route : Int
  wings : List Wing
  stop : Int
  many : Int
def noPSt : PSt := ⟨0, [], 0, 0⟩
/-- the name in a row of words -/
def nameOf (w0 : List UInt8) (ws : List (List UInt8)) : List UInt8 := if w0 = wingW ∧ ws ≠ [] then ws.headD [] else []
def restOf (w0 : List UInt8) (ws : List (List UInt8)) : List (List UInt8) := if w0 = wingW ∧ ws ≠ [] then ws.tail else ws
def wingOf (name : List UInt8) (l : List Int) : Wing := ⟨⟨name.toArray⟩, nm l 0, nm l 1, nm l 2⟩
def stepA (i : Nat) (w0 name : List UInt8) (l : List Int) (s : PSt) : Option PSt :=
  if s.stop ≠ 0 then none
  else if decide (w0 = avenueW) ≠ decide (i = 0) then none
  else if w0 = avenueW ∧ l.length = 1 then some { s with route := nm l 0 }
  else if name ≠ [] ∧ l.length = 3 then some { s with wings := s.wings ++ [wingOf name l] }
  else if w0 = endP ∧ l.length = 1 then some { s with stop := (i : Int) + 1, many := nm l 0 }
  else none
def stepP (i : Nat) (row : List UInt8) (s : PSt) : Option PSt := match cutL 32 row with
  | [] => none
  | w0 :: ws => match numsOf (restOf w0 ws) with
    | none => none
    | some l => stepA i w0 (nameOf w0 ws) l s
/-- what is read of a text: a school, where an error is, which -/
def readA (text : List UInt8) : (Int × List Wing) × Int × Int :=
  if 1000 < text.length then ((0, []), 0, 6)
  else match stopS stepP noPSt (cutL 10 text) ((cutL 10 text).length - 1) with
    | some k => ((0, []), (k : Int) + 1, 1)
    | none => match runS stepP noPSt (cutL 10 text) ((cutL 10 text).length - 1) with
      | none => ((0, []), 0, 0)
      | some s => if s.stop = 0 ∨ rowOf (cutL 10 text) ((cutL 10 text).length - 1) ≠ [] then ((0, []), (((cutL 10 text).length - 1 : Nat) : Int) + 1, 1)
        else if s.many ≠ (s.wings.length : Int) then ((0, []), s.stop, 1)
        else if check s.route s.wings = 0 then ((s.route, s.wings), 0, 0) else ((0, []), 0, check s.route s.wings)

def wingLine (x : Wing) : List UInt8 := lineL (wingW ++ 32 :: x.name.data.toList) [x.len, x.lo, x.hi]
def linesA (route : Int) (ws : List Wing) : List (List UInt8) := [lineL avenueW [route]] ++ ws.map wingLine
def linesAll (route : Int) (ws : List Wing) : List (List UInt8) := linesA route ws ++ [lineL endP [(ws.length : Int)]]

/-! ### what is written is read back -/
structure Fits (route : Int) (ws : List Wing) : Prop where
  route : 0 ≤ route ∧ route ≤ 999999
  names : ∀ x, x ∈ ws → x.name.data.toList ≠ [] ∧ ∀ b, b ∈ x.name.data.toList → 97 ≤ b.toNat ∧ b.toNat ≤ 122
  nums : ∀ x, x ∈ ws → (0 ≤ x.len ∧ x.len ≤ 999999) ∧ (0 ≤ x.lo ∧ x.lo ≤ 999999) ∧ (0 ≤ x.hi ∧ x.hi ≤ 999999)
  few : ws.length ≤ 8
  short : ∀ x, x ∈ ws → x.name.data.toList.length ≤ 8
theorem fits_check {route : Int} {ws : List Wing} (h : check route ws = 0) : Fits route ws := by
  obtain ⟨h1, h2, h3, h4, h5⟩ := check_zero h
  have hn : ∀ i, i < ws.length → namedB (wg ws i).name = true := by
    intro i hi
    unfold check at h
    split at h
    · cases h
    · split at h
      · cases h
      · split at h
        · cases h
        · have h6 := firstBad_zero.1 h i hi
          unfold checkW at h6
          split at h6
          · cases h6
          · rename_i h7
            simpa using h7
  have key : ∀ x, x ∈ ws → ∃ i, i < ws.length ∧ wg ws i = x := fun x hx => by
    obtain ⟨i, hi, rfl⟩ := List.getElem_of_mem hx
    exact ⟨i, hi, by simp [wg, List.getD_eq_getElem?_getD, List.getElem?_eq_getElem hi]⟩
  have nb : ∀ x, x ∈ ws → x.name.data.toList.all letter = true ∧ 1 ≤ x.name.data.toList.length ∧ x.name.data.toList.length ≤ 8 := fun x hx => by
    obtain ⟨i, hi, rfl⟩ := key x hx
    have h6 := hn i hi
    unfold namedB at h6
    simp only [Bool.and_eq_true, inB_true] at h6
    have e : (wg ws i).name.size = (wg ws i).name.data.toList.length := Array.length_toList.symm
    rw [e] at h6
    exact ⟨h6.1, by omega, by omega⟩
  refine ⟨by omega, fun x hx => ?_, fun x hx => ?_, h4, fun x hx => (nb x hx).2.2⟩
  · obtain ⟨n1, n2, _⟩ := nb x hx
    refine ⟨fun e => by rw [e] at n2; simp at n2, fun b hb => ?_⟩
    have := List.all_eq_true.1 n1 b hb
    unfold letter at this
    have := of_decide_eq_true this
    omega
  · obtain ⟨i, hi, rfl⟩ := key x hx
    have := h5 i hi
    omega
theorem name_free {x : List UInt8} (h : ∀ b, b ∈ x → 97 ≤ b.toNat ∧ b.toNat ≤ 122) : (32 : UInt8) ∉ x ∧ (10 : UInt8) ∉ x :=
  ⟨fun hb => by have := h 32 hb; have e : (32 : UInt8).toNat = 32 := rfl; omega, fun hb => by have := h 10 hb; have e : (10 : UInt8).toNat = 10 := rfl; omega⟩
theorem wing_free {x : Wing} (h : ∀ b, b ∈ x.name.data.toList → 97 ≤ b.toNat ∧ b.toNat ≤ 122) (hn : ∀ n, n ∈ [x.len, x.lo, x.hi] → 0 ≤ n) : (10 : UInt8) ∉ wingLine x :=
  line_free (fun hb => by
    rcases List.mem_append.1 hb with hb | hb
    · exact absurd hb (by decide)
    · rcases List.mem_cons.1 hb with hb | hb
      · exact absurd hb (by decide)
      · exact (name_free h).2 hb) hn
theorem cut_wing {x : Wing} (h : ∀ b, b ∈ x.name.data.toList → 97 ≤ b.toNat ∧ b.toNat ≤ 122) (hn : ∀ n, n ∈ [x.len, x.lo, x.hi] → 0 ≤ n) : cutL 32 (wingLine x) = wingW :: x.name.data.toList :: [x.len, x.lo, x.hi].map Lib.itoa := by
  have e : wingLine x = wingW ++ 32 :: lineL x.name.data.toList [x.len, x.lo, x.hi] := by unfold wingLine lineL; simp
  rw [e, cutL_app 32 wingW _ (by decide), cut_line _ _ (name_free h).1 hn]
theorem step_wing {route : Int} {ws : List Wing} (hf : Fits route ws) {x : Wing} (hx : x ∈ ws) {i : Nat} (hi : 1 ≤ i) (s : PSt) (hs : s.stop = 0) : stepP i (wingLine x) s = some { s with wings := s.wings ++ [x] } := by
  have hn := hf.names x hx
  have hm := hf.nums x hx
  have hw : ∀ n, n ∈ [x.len, x.lo, x.hi] → 0 ≤ n ∧ n ≤ 999999 := fun n h => by simp at h; omega
  unfold stepP
  rw [cut_wing hn.2 (fun n h => (hw n h).1)]
  have e1 : restOf wingW (x.name.data.toList :: [x.len, x.lo, x.hi].map Lib.itoa) = [x.len, x.lo, x.hi].map Lib.itoa := by unfold restOf; rw [if_pos ⟨rfl, by simp⟩]; rfl
  have e2 : nameOf wingW (x.name.data.toList :: [x.len, x.lo, x.hi].map Lib.itoa) = x.name.data.toList := by unfold nameOf; rw [if_pos ⟨rfl, by simp⟩]; rfl
  dsimp only
  rw [e1, e2, numsOf_itoa _ hw]
  dsimp only
  unfold stepA
  rw [if_neg (by simp [hs]), if_neg (by rw [decide_eq_false (show ¬ wingW = avenueW by decide), decide_eq_false (show ¬ i = 0 by omega)]; simp), if_neg (fun e => absurd e.1 (by decide)), if_pos ⟨hn.1, rfl⟩]
  have e3 : wingOf x.name.data.toList [x.len, x.lo, x.hi] = x := by
    cases x with
    | mk n a b c => unfold wingOf; simp [nm]
  rw [e3]
theorem fold_wings {route : Int} {ws : List Wing} (hf : Fits route ws) : ∀ (xs : List Wing) (i : Nat) (s : PSt), (∀ x, x ∈ xs → x ∈ ws) → 1 ≤ i → s.stop = 0 → foldS stepP i (xs.map wingLine) s = some { s with wings := s.wings ++ xs }
  | [], i, s, _, _, _ => by simp [foldS]
  | x :: xs, i, s, h, hi, hs => by
    have ih := fold_wings hf xs (i + 1) { s with wings := s.wings ++ [x] } (fun y hy => h y (by simp [hy])) (by omega) hs
    rw [List.map_cons, foldS, step_wing hf (h x (by simp)) hi s hs, Option.bind_some, ih]
    simp
theorem fold_all {route : Int} {ws : List Wing} (hf : Fits route ws) : foldS stepP 0 (linesAll route ws) noPSt = some ⟨route, ws, (ws.length : Int) + 2, ws.length⟩ := by
  have hr : ∀ n, n ∈ [route] → 0 ≤ n ∧ n ≤ 999999 := fun n h => by have := hf.route; simp at h; omega
  have he : ∀ n, n ∈ [(ws.length : Int)] → 0 ≤ n ∧ n ≤ 999999 := fun n h => by have := hf.few; simp at h; omega
  unfold linesAll linesA
  rw [foldS_app, foldS_app]
  have s0 : foldS stepP 0 [lineL avenueW [route]] noPSt = some ⟨route, [], 0, 0⟩ := by
    have hs : stepP 0 (lineL avenueW [route]) noPSt = some ⟨route, [], 0, 0⟩ := by
      unfold stepP
      rw [cut_line _ _ (by decide) (fun n h => (hr n h).1)]
      have e1 : restOf avenueW ([route].map Lib.itoa) = [route].map Lib.itoa := by unfold restOf; rw [if_neg (fun e => absurd e.1 (by decide))]
      dsimp only
      rw [e1, numsOf_itoa _ hr]
      dsimp only
      unfold stepA
      rw [if_neg (by simp [noPSt]), if_neg (by simp), if_pos ⟨rfl, rfl⟩]
      rfl
    rw [foldS, hs]; rfl
  rw [s0, Option.bind_some, fold_wings hf ws _ _ (fun x hx => hx) (by simp) rfl, Option.bind_some]
  have hs : ∀ i, i = ws.length + 1 → stepP i (lineL endP [(ws.length : Int)]) ⟨route, [] ++ ws, 0, 0⟩ = some ⟨route, ws, (ws.length : Int) + 2, ws.length⟩ := fun i hi => by
    unfold stepP
    rw [cut_line _ _ (by decide) (fun n h => (he n h).1)]
    have e1 : restOf endP ([(ws.length : Int)].map Lib.itoa) = [(ws.length : Int)].map Lib.itoa := by unfold restOf; rw [if_neg (fun e => absurd e.1 (by decide))]
    have e2 : nameOf endP ([(ws.length : Int)].map Lib.itoa) = [] := by unfold nameOf; rw [if_neg (fun e => absurd e.1 (by decide))]
    dsimp only
    rw [e1, e2, numsOf_itoa _ he]
    dsimp only
    unfold stepA
    rw [if_neg (by simp), if_neg (by rw [decide_eq_false (show ¬ endP = avenueW by decide), decide_eq_false (show ¬ i = 0 by omega)]; simp), if_neg (fun e => absurd e.1 (by decide)), if_neg (fun e => e.1 rfl), if_pos ⟨rfl, rfl⟩]
    simp [nm, hi]
    try omega
  rw [foldS, hs _ (by simp <;> omega)]
  rfl
theorem all_free {route : Int} {ws : List Wing} (hf : Fits route ws) : ∀ a, a ∈ linesAll route ws → (10 : UInt8) ∉ a := by
  intro a ha
  unfold linesAll linesA at ha
  simp only [List.mem_append, List.mem_singleton, List.mem_map] at ha
  rcases ha with (rfl | ⟨x, hx, rfl⟩) | rfl
  · exact line_free (by decide) fun n h => by have := hf.route; simp at h; omega
  · exact wing_free (hf.names x hx).2 fun n h => by have := hf.nums x hx; simp at h; omega
  · exact line_free (by decide) fun n h => by simp at h; omega
theorem dig6 {n : Int} (h0 : 0 ≤ n) (h1 : n ≤ 999999) : (Lib.itoa n).length ≤ 6 := (atoi_itoa h0 h1).2
theorem all_len {route : Int} {ws : List Wing} (hf : Fits route ws) : (joinN (linesAll route ws)).length ≤ 1000 := by
  have hw : ∀ xs : List Wing, (∀ x, x ∈ xs → x ∈ ws) → (joinN (xs.map wingLine)).length ≤ xs.length * 36 := by
    intro xs
    induction xs with
    | nil => intro _; simp [joinN]
    | cons x xs ih =>
      intro h
      have h1 := ih fun y hy => h y (by simp [hy])
      have h2 := hf.nums x (h x (by simp))
      have h3 := hf.short x (h x (by simp))
      have a1 := dig6 h2.1.1 h2.1.2
      have a2 := dig6 h2.2.1.1 h2.2.1.2
      have a3 := dig6 h2.2.2.1 h2.2.2.2
      have e : wingW.length = 4 := rfl
      unfold joinN at h1 ⊢
      simp only [List.map_cons, List.flatMap_cons, wingLine, lineL, List.flatMap_nil, List.length_append, List.length_cons, List.length_nil] at h1 ⊢
      omega
  have h1 := hw ws fun x h => h
  have a1 := dig6 hf.route.1 hf.route.2
  have h8 := hf.few
  have a2 := dig6 (n := (ws.length : Int)) (by omega) (by omega)
  have e1 : avenueW.length = 6 := rfl
  have e2 : endP.length = 3 := rfl
  unfold linesAll linesA
  rw [joinN_app, joinN_app, joinN_one, joinN_one]
  simp only [lineL, List.flatMap_cons, List.flatMap_nil, List.length_append, List.length_cons, List.length_nil]
  omega
/-- WHAT IS WRITTEN IS READ BACK -/
theorem read_all {route : Int} {ws : List Wing} (hk : check route ws = 0) : readA (joinN (linesAll route ws)) = ((route, ws), 0, 0) := by
  have hf := fits_check hk
  have hl := all_len hf
  have hc : cutL 10 (joinN (linesAll route ws)) = linesAll route ws ++ [[]] := cut_lines _ (all_free hf)
  have hn : (cutL 10 (joinN (linesAll route ws))).length - 1 = (linesAll route ws).length := by rw [hc]; simp
  have hr : runS stepP noPSt (cutL 10 (joinN (linesAll route ws))) (linesAll route ws).length = some ⟨route, ws, (ws.length : Int) + 2, ws.length⟩ := by
    unfold runS
    rw [hc, List.take_left' rfl]
    exact fold_all hf
  unfold readA
  rw [if_neg (by omega), hn, stopS_none stepP noPSt (by rw [hc]; simp) hr, hr]
  have hx : rowOf (cutL 10 (joinN (linesAll route ws))) (linesAll route ws).length = [] := by
    rw [hc]; unfold rowOf; rw [List.getD_eq_getElem?_getD, List.getElem?_append_right (Nat.le_refl _)]; simp
  dsimp only
  rw [if_neg (by rintro (e | e); · omega
                 · exact e hx), if_neg (by simp), if_pos hk]

/-! ### what is read is written as it was -/
def RenA (i : Nat) (s : PSt) (T : List UInt8) : Prop :=
  (i = 0 ∧ s = noPSt ∧ T = []) ∨ (1 ≤ i ∧ s.stop = 0 ∧ T = joinN (linesA s.route s.wings)) ∨ (1 ≤ i ∧ s.stop ≠ 0 ∧ T = joinN (linesA s.route s.wings ++ [lineL endP [s.many]]))
theorem one_of : ∀ (l : List Int), l.length = 1 → l = [nm l 0]
  | [a], _ => rfl
  | [], h => by cases h
  | _ :: _ :: _, h => by simp at h
theorem three_of : ∀ (l : List Int), l.length = 3 → l = [nm l 0, nm l 1, nm l 2]
  | [a, b, c], _ => rfl
  | [], h => by cases h
  | [_], h => by cases h
  | [_, _], h => by cases h
  | _ :: _ :: _ :: _ :: _, h => by simp at h
theorem ren_step (i : Nat) (row : List UInt8) (s t : PSt) (T : List UInt8) (h : stepP i row s = some t) (hR : RenA i s T) : RenA (i + 1) t (T ++ row ++ [10]) := by
  unfold stepP at h
  split at h
  · cases h
  · rename_i w0 ws hc
    split at h
    · cases h
    · rename_i l hl
      have hrow := cutL_join 32 row w0 ws hc
      obtain ⟨hws, _⟩ := numsOf_some hl
      unfold stepA at h
      by_cases hst : s.stop ≠ 0
      · rw [if_pos hst] at h; cases h
      rw [if_neg hst] at h
      have hst' : s.stop = 0 := by simpa using hst
      by_cases hav : decide (w0 = avenueW) ≠ decide (i = 0)
      · rw [if_pos hav] at h; cases h
      rw [if_neg hav] at h
      have hav' : decide (w0 = avenueW) = decide (i = 0) := by simpa using hav
      by_cases h1 : w0 = avenueW ∧ l.length = 1
      · rw [if_pos h1] at h
        cases h
        have hi : i = 0 := by rw [decide_eq_true h1.1] at hav'; exact of_decide_eq_true hav'.symm
        rcases hR with ⟨_, rfl, rfl⟩ | ⟨h2, _⟩ | ⟨h2, _⟩
        · refine .inr (.inl ⟨by omega, rfl, ?_⟩)
          have hr : restOf w0 ws = ws := by unfold restOf; rw [if_neg (fun e => absurd (h1.1.symm.trans e.1) (by decide))]
          rw [hr] at hws
          rw [hrow, hws, h1.1, List.flatMap_map]
          have e : ([avenueW ++ l.flatMap fun n => 32 :: Lib.itoa n] : List (List UInt8)) = [lineL avenueW [nm l 0]] := by
            rw [← one_of l h1.2]; rfl
          show _ = joinN ([lineL avenueW [nm l 0]] ++ [].map wingLine)
          rw [← e]
          simp [joinN]
        · omega
        · omega
      rw [if_neg h1] at h
      have hT : 1 ≤ i ∧ T = joinN (linesA s.route s.wings) := by
        rcases hR with ⟨hi, rfl, rfl⟩ | ⟨h2, _, h3⟩ | ⟨_, h2, _⟩
        · exfalso
          rw [hi] at hav'
          have hw0 : w0 = avenueW := of_decide_eq_true (hav'.trans (by simp))
          have h2 : ¬ l.length = 1 := fun e => h1 ⟨hw0, e⟩
          have hn : nameOf w0 ws = [] := by unfold nameOf; rw [if_neg (fun e => absurd (hw0.symm.trans e.1) (by decide))]
          rw [hn, if_neg (fun e => e.1 rfl), if_neg (fun e => h2 e.2)] at h
          cases h
        · exact ⟨h2, h3⟩
        · exact absurd hst' h2
      by_cases h2 : nameOf w0 ws ≠ [] ∧ l.length = 3
      · rw [if_pos h2] at h
        cases h
        refine .inr (.inl ⟨by omega, hst', ?_⟩)
        have hw : w0 = wingW ∧ ws ≠ [] := by
          rcases Decidable.em (w0 = wingW ∧ ws ≠ []) with e | e
          · exact e
          · exact absurd (show nameOf w0 ws = [] from by unfold nameOf; rw [if_neg e]) h2.1
        have hn : nameOf w0 ws = ws.headD [] := by unfold nameOf; rw [if_pos hw]
        have hr : restOf w0 ws = ws.tail := by unfold restOf; rw [if_pos hw]
        cases ws with
        | nil => exact absurd rfl hw.2
        | cons name rest =>
          rw [hr] at hws
          have hws : rest = l.map Lib.itoa := hws
          have e : row = wingLine (wingOf name l) := by
            rw [hrow, hw.1, hws]
            unfold wingLine wingOf lineL
            have h3 := three_of l h2.2
            generalize nm l 0 = a at h3 ⊢
            generalize nm l 1 = b at h3 ⊢
            generalize nm l 2 = c at h3 ⊢
            subst h3
            simp
          rw [hT.2, e, hn]
          unfold linesA
          simp only [List.headD_cons, List.map_append, List.map_singleton, ← List.append_assoc]
          rw [joinN_app _ [wingLine (wingOf name l)], joinN_one, List.append_assoc]
      rw [if_neg h2] at h
      split at h
      · rename_i h3
        cases h
        refine .inr (.inr ⟨by omega, by show (i : Int) + 1 ≠ 0; omega, ?_⟩)
        have hr : restOf w0 ws = ws := by unfold restOf; rw [if_neg (fun e => absurd (h3.1.symm.trans e.1) (by decide))]
        rw [hr] at hws
        have e : row = lineL endP [nm l 0] := by
          rw [hrow, hws, h3.1, List.flatMap_map]
          rw [← one_of l h3.2]; rfl
        rw [hT.2, e, joinN_app _ [lineL endP [nm l 0]], joinN_one, List.append_assoc]
      · cases h
/-- WHAT IS READ IS WRITTEN AS IT WAS -/
theorem readA_back {text : List UInt8} {route : Int} {ws : List Wing} {r : Int} (h : readA text = ((route, ws), r, 0)) : r = 0 ∧ check route ws = 0 ∧ joinN (linesAll route ws) = text := by
  unfold readA at h
  split at h
  · cases h
  · split at h
    · cases h
    · rename_i hs
      obtain ⟨q, qs, hq⟩ := cutL_ne 10 text
      have hj := cutL_join 10 text q qs hq
      rw [hq] at h hs
      have hl : (q :: qs).length - 1 = qs.length := rfl
      rw [hl] at h hs
      obtain ⟨s, hr⟩ := stopS_run stepP noPSt (rows := q :: qs) (n := qs.length) (by simp) hs
      rw [hr] at h
      dsimp only at h
      split at h
      · have : (1 : Int) = 0 := by simpa using congrArg (fun x => x.2.2) h
        cases this
      · rename_i he
        split at h
        · have : (1 : Int) = 0 := by simpa using congrArg (fun x => x.2.2) h
          cases this
        · rename_i hm
          split at h
          · rename_i hv
            cases h
            refine ⟨rfl, hv, ?_⟩
            have hR := foldS_law stepP RenA ren_step _ 0 noPSt s [] hr (.inl ⟨rfl, rfl, rfl⟩)
            have he1 : s.stop ≠ 0 := fun e => he (.inl e)
            have he2 : rowOf (q :: qs) qs.length = [] := by
              rcases Decidable.em (rowOf (q :: qs) qs.length = []) with e | e
              · exact e
              · exact absurd (.inr e) he
            have hm' : s.many = (s.wings.length : Int) := by simpa using hm
            rw [hj, join_last qs q he2]
            rcases hR with ⟨_, e, _⟩ | ⟨_, e, _⟩ | ⟨_, _, e⟩
            · rw [e] at he1; exact absurd rfl he1
            · exact absurd e he1
            · rw [List.nil_append] at e
              rw [e, hm']
              rfl
          · rename_i hv
            have : check s.route s.wings = 0 := by simpa using congrArg (fun x => x.2.2) h
            exact absurd this hv
theorem readA_bad {text : List UInt8} (h : (readA text).2.2 ≠ 0) : (readA text).1 = (0, []) := by
  unfold readA at h ⊢
  split
  · rfl
  · rename_i h1
    rw [if_neg h1] at h
    split
    · rfl
    · rename_i h2
      rw [h2] at h
      dsimp only at h
      split
      · rfl
      · rename_i s h3
        rw [h3] at h
        dsimp only at h
        split
        · rfl
        · rename_i h4
          rw [if_neg h4] at h
          split
          · rfl
          · rename_i h5
            rw [if_neg h5] at h
            split
            · rename_i h6
              rw [if_pos h6] at h
              exact absurd rfl h
            · rfl
end Go.Proofs.YtefdopifebhgiaaGreatDoor
