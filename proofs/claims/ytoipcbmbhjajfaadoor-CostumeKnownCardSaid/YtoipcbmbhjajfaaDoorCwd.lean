/-
  WALKS: what a person does in a minute: on, At.
-/
import Derived.Test.YtoipcbmbhjajfaaDoorCwc
namespace Go.Proofs.YtoipcbmbhjajfaaDoor
open Go.RowKit

def onP (x : Part) (minute : Int) : Bool := inB minute x.start (x.stop - 1)
def hitP (n minute : Int) (x : Part) : Bool := decide (x.person = n) && onP x minute
/-- the first of k that is so, or -1 -/
def firstAt (f : Nat → Bool) : Nat → Int
  | 0 => -1
  | k + 1 => if 0 ≤ firstAt f k then firstAt f k else if f k = true then (k : Int) else -1
theorem firstAt_none {f : Nat → Bool} {k : Nat} (h : ∀ j, j < k → f j = false) : firstAt f k = -1 := by
  induction k with
  | zero => rfl
  | succ k ih =>
    have := ih (fun j hj => h j (by omega))
    simp only [firstAt, this, h k (by omega)]
    rfl
theorem firstAt_at {f : Nat → Bool} {k : Nat} (h : ∀ j, j < k → f j = false) (hk : f k = true) : ∀ n, k < n → firstAt f n = k := by
  intro n
  induction n with
  | zero => intro h0; omega
  | succ n ih =>
    intro hn
    by_cases e : k = n
    · subst e
      simp only [firstAt, firstAt_none h, hk]
      rfl
    · have := ih (by omega)
      simp only [firstAt, this]
      rw [if_pos (by omega)]
def personE (p : Plot) (n : Int) : Int := if plotErr p = 0 then (if inB n 0 ((p.persons.length : Int) - 1) = false then 7 else 0) else plotErr p
def atErr (p : Plot) (n minute : Int) : Int := if personE p n = 0 then (if inB minute 0 1440 = false then 2 else 0) else personE p n
def atRes (p : Plot) (n minute : Int) : Int := if atErr p n minute = 0 then firstAt (fun i => hitP n minute (pt p.parts i)) p.parts.length else 0

set_option maxHeartbeats 1000000 in
set_option maxRecDepth 100000 in
theorem on_any (x : Part) (minute : Int) (w : World) (ht : Timed x) :
    Calls Tryd.prog 27 #[partV x, .int .i64 minute] w fun e w' => e = .returned (.bool (onP x minute)) ∧ Below w.heap.size w w' := by
  have hb := hid (below_alloc w (.cells #[.int .i64 x.person, .int .i64 x.place, .int .i64 x.kind, .int .i64 x.start, .int .i64 x.stop] 30))
  have z1 : IntKind.i64.wrap (x.stop - 1) = x.stop - 1 := IntWalk.i64_in _ (by have := ht.2.2; omega)
  go_enter Tryd.func27, Tryd.ntmps27
  go_wp2_with (go_at_call 28; refine (cin_any _ _ _ _).mono ?_; rintro e w' ⟨rfl, rfl⟩)
  go_ret
  exact ⟨rfl, hb.out⟩

set_option maxHeartbeats 1000000 in
set_option maxRecDepth 100000 in
theorem at1_any (x : Part) (n minute : Int) (A B : Nat) (w : World) (ht : Timed x) (hA : w.cell? ⟨A, 0, none⟩ = some (.int .i64 n)) (hB : w.cell? ⟨B, 0, none⟩ = some (.int .i64 minute)) :
    Calls Tryd.prog 26 #[partV x, .pointer (some ⟨A, 0, none⟩), .pointer (some ⟨B, 0, none⟩)] w fun e w' => e = .returned (.bool (hitP n minute x)) ∧ Below w.heap.size w w' := by
  have K := hid ((HK.start w).box5 (n := w.heap.size) rfl (.int .i64 x.person) (.int .i64 x.place) (.int .i64 x.kind) (.int .i64 x.start) (.int .i64 x.stop) 30)
  have hAl := World.block_lt_of_cell? w ⟨A, 0, none⟩ hA
  have hBl := World.block_lt_of_cell? w ⟨B, 0, none⟩ hB
  by_cases hp : x.person = n
  · obtain ⟨e1, e2⟩ := eq_bool hp
    have hh : hitP n minute x = onP x minute := by unfold hitP; rw [decide_eq_true hp]; rfl
    rw [hh]
    clear hh hp
    go_enter Tryd.func26, Tryd.ntmps26
    go_wp2_with (go_at_call 27; refine (on_any x minute _ ht).mono ?_; rintro e w2 ⟨rfl, hb2⟩; have K := hid (K.out.later hb2); clear hb2)
    go_ret
    exact ⟨rfl, K.out.below⟩
  · obtain ⟨e1, e2⟩ := ne_bool hp
    have hh : hitP n minute x = false := by unfold hitP; rw [decide_eq_false hp]; rfl
    rw [hh]
    clear hh hp
    go_enter Tryd.func26, Tryd.ntmps26
    go_wp2_with fail
    go_ret
    exact ⟨rfl, K.out.below⟩

set_option maxHeartbeats 1000000 in
set_option maxRecDepth 100000 in
theorem idxP_any (xs : List Part) (n minute : Int) (A B : Nat) (v : Value) (w : World) (hX : PartsAt none w v xs) (hn : xs.length ≤ 30) (ht : ∀ i, i < xs.length → Timed (pt xs i)) (hA : w.cell? ⟨A, 0, none⟩ = some (.int .i64 n)) (hB : w.cell? ⟨B, 0, none⟩ = some (.int .i64 minute)) :
    Calls Tryd.prog 25 #[v, .func (.func 26) #[] #[.pointer (some ⟨A, 0, none⟩), .pointer (some ⟨B, 0, none⟩)]] w fun e w' => e = .returned (.int .i64 (firstAt (fun i => hitP n minute (pt xs i)) xs.length)) ∧ Below w.heap.size w w' := by
  have HX := hid hX
  have HT := hid ht
  have hAl := World.block_lt_of_cell? w ⟨A, 0, none⟩ hA
  have hBl := World.block_lt_of_cell? w ⟨B, 0, none⟩ hB
  have HA := hid (fun (W' : World) (hb : Below w.heap.size w W') => (⟨cell_back hb hAl hA, cell_back hb hBl hB⟩ : W'.cell? ⟨A, 0, none⟩ = some (.int .i64 n) ∧ W'.cell? ⟨B, 0, none⟩ = some (.int .i64 minute)))
  obtain ⟨a, c, rfl, _⟩ := hX
  clear ht hA hB
  go_enter Tryd.func25, Tryd.ntmps25
  go_wp2
  go_loopw [8] (fun j wr => ∃ m : Nat, m ≤ xs.length ∧ j = .int .i64 m ∧ (∀ j, j < m → hitP n minute (pt xs j) = false) ∧ Below w.heap.size w wr) (fun j _ => xs.length - (intOf j).toNat)
  case atStart => exact ⟨0, by omega, rfl, fun j hj => absurd hj (by omega), Below.refl _ _⟩
  case round =>
    obtain ⟨m, hm, rfl, hf, hbel⟩ := hrel
    have HF := hid hf
    have Hb := hid hbel
    clear hf hbel
    by_cases hlt : m < xs.length
    · have hcc := PartsAt.cells (HX.out.below Hb.out) hlt
      obtain ⟨bq, oq, e, hbq, d0, d1, d2, d3, d4⟩ := hcc
      cases e
      have i1 : (m : Int) < (xs.length : Int) := by omega
      have z1 : IntKind.i64.wrap ((m : Int) + 1) = (m : Int) + 1 := IntWalk.i64_in _ (by omega)
      have hxt := HT.out m hlt
      have HC := hid (fun W' hb => at1_any (pt xs m) n minute A B W' hxt (HA.out W' hb).1 (HA.out W' hb).2)
      cases hq : hitP n minute (pt xs m) with
      | true =>
        have HE := hid (firstAt_at HF.out hq xs.length hlt)
        rw [hq] at HC
        obtain ⟨y, hy⟩ : ∃ y, pt xs m = y := ⟨_, rfl⟩
        rw [hy] at d0 d1 d2 d3 d4 HC
        clear hy hq hxt
        go_wp2_with (go_at_call 26; refine (HC.out _ Hb.out).mono ?_; rintro e w2 ⟨rfl, hb2⟩; have Hb := hid (Hb.out.trans (hb2.mono Hb.out.size)); clear hb2)
        go_ret
        exact ⟨ret_int HE.out.symm, Hb.out⟩
      | false =>
        have HN := hid (show ∀ j, j < m + 1 → hitP n minute (pt xs j) = false from fun j hj => by
          by_cases e : j = m
          · rw [e]; exact hq
          · exact HF.out j (by omega))
        rw [hq] at HC
        obtain ⟨y, hy⟩ : ∃ y, pt xs m = y := ⟨_, rfl⟩
        rw [hy] at d0 d1 d2 d3 d4 HC
        clear hy hq hxt
        go_wp2_with (go_at_call 26; refine (HC.out _ Hb.out).mono ?_; rintro e w2 ⟨rfl, hb2⟩; have Hb := hid (Hb.out.trans (hb2.mono Hb.out.size)); clear hb2)
        go_roundw
        case rel => exact ⟨m + 1, by omega, by go_num, HN.out, Hb.out⟩
        case measure => simp [intOf] <;> omega
    · obtain rfl : m = xs.length := by omega
      have HE := hid (firstAt_none HF.out)
      go_wp2
      go_ret
      exact ⟨ret_int HE.out.symm, Hb.out⟩

set_option maxHeartbeats 2000000 in
set_option maxRecDepth 100000 in
/-- at a valid plot, a person and a minute that there are -/
theorem at_fine (p : Plot) (n minute : Int) (vp vw vd vq : Value) (w : World) (h : PlotAt none w vp vw vd vq p) (hv : plotErr p = 0) (hn : inB n 0 ((p.persons.length : Int) - 1) = true) (hm : inB minute 0 1440 = true) :
    Calls Tryd.prog 7 #[plotV vp vw vd vq, .int .i64 n, .int .i64 minute] w fun e w' => e = .returned (.tuple #[.int .i64 (firstAt (fun i => hitP n minute (pt p.parts i)) p.parts.length), .int .i64 0]) ∧ Below w.heap.size w w' := by
  have H := hid h
  have V := hid (plotErr_zero.1 hv)
  have HC := hid (fun a b c d W' g => ccheck_any p a b c d W' g)
  rw [hv] at HC
  obtain ⟨ap, cp, rfl⟩ := h.persons.form
  obtain ⟨aw, cw, rfl⟩ := h.walk.form
  obtain ⟨ad, cd, rfl, _⟩ := h.dress
  obtain ⟨aq, cq, rfl, _⟩ := h.parts
  have hl := V.out.persons.2
  have zl1 : IntKind.i64.wrap ((p.persons.length : Int) - 1) = (p.persons.length : Int) - 1 := IntWalk.i64_in _ (by omega)
  have hHP := hid (show ∀ W' : World, PlotAt none W' (.slice ap p.persons.length cp) (.slice aw p.walk.length cw) (.slice ad p.dress.length cd) (.slice aq p.parts.length cq) p →
      Calls Tryd.prog 24 #[plotV (.slice ap p.persons.length cp) (.slice aw p.walk.length cw) (.slice ad p.dress.length cd) (.slice aq p.parts.length cq), .int .i64 n] W' fun e w' => e = .returned (.int .i64 0) ∧ Below W'.heap.size W' w' from fun W' hW' => by
    have HW' := hid hW'
    have K := hid ((HK.start W').box4m (n := W'.heap.size) rfl (.slice ap p.persons.length cp) (.slice aw p.walk.length cw) (.slice ad p.dress.length cd) (.slice aq p.parts.length cq) 27)
    clear hW' h hv hm
    go_enter Tryd.func24, Tryd.ntmps24
    go_wp2_with (first
      | (go_at_call 6; refine (HC.out _ _ _ _ _ (HW'.out.below K.out.below)).mono ?_; rintro e w2 ⟨rfl, hb2⟩; have K := hid (K.out.later hb2); clear hb2; have p0 := K.out.c (b := W'.heap.size) (o := 0) (v := .slice ap p.persons.length cp) (by simp))
      | (go_at_call 28; refine (cin_any _ _ _ _).mono ?_; rintro e w' ⟨rfl, rfl⟩; rw [hn]))
    go_ret
    exact ⟨rfl, K.out.below⟩)
  have hmf : ∀ (fn : Fn) (first cap : Array Value) (w : World), (Instr.makeFunc fn first cap).run Tryd.prog w = .ok (.func fn first cap) w := fun _ _ _ _ => rfl
  have hts := hid (fun i hi => alone_timed (V.out.parts i hi))
  have hfew := V.out.few
  have K := hid ((((HK.start w).box4m (n := w.heap.size) rfl (.slice ap p.persons.length cp) (.slice aw p.walk.length cw) (.slice ad p.dress.length cd) (.slice aq p.parts.length cq) 27).box1n (n := w.heap.size + 1) (by simp) (.int .i64 n) 3).box1n (n := w.heap.size + 1 + 1) (by simp) (.int .i64 minute) 3)
  clear h hv
  go_enter Tryd.func7, Tryd.ntmps7
  go_wp2_with (first
    | (go_at_call 24; refine (hHP.out _ (H.out.below K.out.below)).mono ?_; rintro e w2 ⟨rfl, hb2⟩; have K := hid (K.out.later hb2); clear hb2; have p3 := K.out.c (b := w.heap.size) (o := 3) (v := .slice aq p.parts.length cq) (by simp); have q0 := K.out.c (b := w.heap.size + 1) (o := 0) (v := .int .i64 n) (by simp); have q1 := K.out.c (b := w.heap.size + 1 + 1) (o := 0) (v := .int .i64 minute) (by simp))
    | (go_at_call 20; refine (minute_any _ _).mono ?_; rintro e w' ⟨rfl, rfl⟩; rw [hm])
    | (go_at_call 25; refine (idxP_any p.parts n minute _ _ _ _ (H.out.below K.out.below).parts hfew hts.out q0 q1).mono ?_; rintro e w4 ⟨rfl, hb2⟩; have K := hid (K.out.later hb2); clear hb2))
  refine bodyPost_ret (v := .tuple #[.int .i64 (firstAt (fun i => hitP n minute (pt p.parts i)) p.parts.length), .int .i64 0]) (by simp [results, Tryd.results7, go_sem]) rfl ⟨rfl, K.out.below⟩
end Go.Proofs.YtoipcbmbhjajfaaDoor
