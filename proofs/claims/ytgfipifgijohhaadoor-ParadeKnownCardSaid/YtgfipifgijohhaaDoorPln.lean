/-
  PLAIN: all plans of a school, and the one with the narrowest gaps. No program in sight.
  PLAIN: what is known of the best one of some plans. No program in sight.
-/
import Derived.Test.YtgfipifgijohhaaDoorGga
import Derived.Test.YtgfipifgijohhaaDoorMad
namespace Go.Proofs.YtgfipifgijohhaaDoor

/-- over the first n waits of the wing behind those whose starts are known -/
def plansW (ws : List Wing) (F : List Int → List (List Int)) (b : List Int) : Nat → List (List Int)
  | 0 => []
  | n + 1 => plansW ws F b n ++ (if leastOf ws b b.length + (n : Int) ≤ 20000 then F (b ++ [leastOf ws b b.length + (n : Int)]) else [])
/-- how many waits there may be -/
def waitsOf (b : List Int) : Nat := if b.length = 0 then 1 else 4
/-- all plans that begin so, r wings being left -/
def plansR (ws : List Wing) : Nat → List Int → List (List Int)
  | 0, b => [b]
  | r + 1, b => plansW ws (plansR ws r) b (waitsOf b)

theorem waitsOf_le (b : List Int) : waitsOf b ≤ 4 := by unfold waitsOf; split <;> omega

theorem plansW_length {ws : List Wing} {F : List Int → List (List Int)} {b : List Int} {K : Nat} (h : ∀ x, (F x).length ≤ K) (n : Nat) : (plansW ws F b n).length ≤ n * K := by
  induction n with
  | zero => simp [plansW]
  | succ n ih =>
    simp only [plansW, List.length_append, Nat.add_mul, Nat.one_mul]
    have : (if leastOf ws b b.length + (n : Int) ≤ 20000 then F (b ++ [leastOf ws b b.length + (n : Int)]) else []).length ≤ K := by
      split
      · exact h _
      · simp
    omega
theorem plansR_length (ws : List Wing) : ∀ (r : Nat) (b : List Int), (plansR ws r b).length ≤ 4 ^ r := by
  intro r
  induction r with
  | zero => intro b; simp [plansR]
  | succ r ih =>
    intro b
    have h1 := plansW_length (ws := ws) (b := b) ih (waitsOf b)
    have h2 := Nat.mul_le_mul_right (4 ^ r) (waitsOf_le b)
    simp only [plansR]
    rw [Nat.pow_succ]
    omega

/-- starts that are begun well -/
structure Begun (ws : List Wing) (b : List Int) : Prop where
  le : b.length ≤ ws.length
  fine : ∀ i, i < b.length → 0 ≤ nm b i ∧ nm b i ≤ 20000 ∧ leastOf ws b i ≤ nm b i

theorem Begun.nil (ws : List Wing) : Begun ws [] := ⟨by simp, fun i hi => by simp at hi⟩
theorem Begun.snoc {ws : List Wing} {b : List Int} (h : Begun ws b) (hs : Small ws) (hl : b.length < ws.length) {n : Nat} (hn : leastOf ws b b.length + (n : Int) ≤ 20000) : Begun ws (b ++ [leastOf ws b b.length + (n : Int)]) := by
  have h0 := leastOf_nonneg hs (Nat.le_of_lt hl) (st := b) (k := b.length) (fun i hi => (h.fine i hi).1)
  have hext : ∀ i, i ≤ b.length → leastOf ws (b ++ [leastOf ws b b.length + (n : Int)]) i = leastOf ws b i := fun i hi => leastOf_ext (fun j hj => by rw [nm_snoc, if_pos (by omega)])
  refine ⟨by simp; omega, fun i hi => ?_⟩
  have hi' : i ≤ b.length := by simp at hi; omega
  rw [hext i hi', nm_snoc]
  by_cases e : i < b.length
  · rw [if_pos e]; exact h.fine i e
  · have e2 : i = b.length := by omega
    subst e2
    rw [if_neg (by omega), if_pos rfl]
    omega
theorem Begun.whole {route : Int} {ws : List Wing} {b : List Int} (h : Begun ws b) (hc : check route ws = 0) (hl : b.length = ws.length) : checkStarts route ws b = 0 :=
  starts_ok hc hl (fun i hi => by
    have := h.fine i hi
    unfold startErr
    rw [if_neg (by rw [inB_true.2 ⟨by omega, by omega⟩]; simp), if_neg (by omega)])

theorem plansW_mem {ws : List Wing} {F : List Int → List (List Int)} {b : List Int} {p : List Int} : ∀ {n : Nat}, p ∈ plansW ws F b n → ∃ k : Nat, k < n ∧ leastOf ws b b.length + (k : Int) ≤ 20000 ∧ p ∈ F (b ++ [leastOf ws b b.length + (k : Int)]) := by
  intro n
  induction n with
  | zero => intro h; simp [plansW] at h
  | succ n ih =>
    intro h
    simp only [plansW, List.mem_append] at h
    rcases h with h | h
    · obtain ⟨k, h1, h2⟩ := ih h
      exact ⟨k, by omega, h2⟩
    · split at h
      · rename_i h1
        exact ⟨n, by omega, h1, h⟩
      · simp at h
theorem plansR_mem {ws : List Wing} (hs : Small ws) : ∀ {r : Nat} {b p : List Int}, Begun ws b → b.length + r = ws.length → p ∈ plansR ws r b → Begun ws p ∧ p.length = ws.length := by
  intro r
  induction r with
  | zero => intro b p hb hl hp; simp only [plansR, List.mem_singleton] at hp; subst hp; exact ⟨hb, by omega⟩
  | succ r ih =>
    intro b p hb hl hp
    obtain ⟨k, _, h2, h3⟩ := plansW_mem hp
    exact ih (hb.snoc hs (by omega) h2) (by simp; omega) h3
theorem plansR_pos {ws : List Wing} : ∀ {r : Nat} {b p : List Int}, p ∈ plansR ws r b → b.length ≤ p.length := by
  intro r
  induction r with
  | zero => intro b p hp; simp only [plansR, List.mem_singleton] at hp; subst hp; exact Nat.le_refl _
  | succ r ih =>
    intro b p hp
    obtain ⟨k, _, _, h3⟩ := plansW_mem hp
    have := ih h3
    simp at this; omega

/-- whether a plan surely keeps the time -/
def keeps (route : Int) (ws : List Wing) (a b : Int) (p : List Int) : Bool := decide (a ≤ longOf route ws p (Hi ws)) && decide (longOf route ws p (Lo ws) ≤ b)
/-- the better one of a plan that was found, with its widest gap, and another plan -/
def pickS (route : Int) (ws : List Wing) (a b : Int) (bg : List Int × Int) (p : List Int) : List Int × Int :=
  if keeps route ws a b p = true ∧ (bg.1 = [] ∨ (mostN route ws p (ws.length - 1)).2.2 < bg.2) then (p, (mostN route ws p (ws.length - 1)).2.2) else bg
/-- the best one of some plans -/
def bestP (route : Int) (ws : List Wing) (a b : Int) (bg : List Int × Int) (l : List (List Int)) : List Int × Int := l.foldl (pickS route ws a b) bg
theorem bestP_nil (route : Int) (ws : List Wing) (a b : Int) (bg : List Int × Int) : bestP route ws a b bg [] = bg := rfl
theorem bestP_append (route : Int) (ws : List Wing) (a b : Int) (bg : List Int × Int) (l l' : List (List Int)) : bestP route ws a b bg (l ++ l') = bestP route ws a b (bestP route ws a b bg l) l' := by unfold bestP; rw [List.foldl_append]
theorem bestP_one (route : Int) (ws : List Wing) (a b : Int) (bg : List Int × Int) (p : List Int) : bestP route ws a b bg [p] = pickS route ws a b bg p := rfl

/-- what Plan answers -/
def planErr (route : Int) (ws : List Wing) (a b c : Int) : Int :=
  if check route ws = 0 then (if 5 < ws.length then 5 else if rulesErr a b c = 0 then (if (bestP route ws a b ([], 0) (plansR ws ws.length [])).1 = [] then 7 else 0) else rulesErr a b c) else check route ws
def planRes (route : Int) (ws : List Wing) (a b c : Int) : List Int × Int :=
  if planErr route ws a b c = 0 then bestP route ws a b ([], 0) (plansR ws ws.length []) else ([], 0)
end Go.Proofs.YtgfipifgijohhaaDoor

namespace Go.Proofs.YtgfipifgijohhaaDoor

/-- the widest gap of a plan -/
def gapP (route : Int) (ws : List Wing) (p : List Int) : Int := (mostN route ws p (ws.length - 1)).2.2

theorem pick_take {route : Int} {ws : List Wing} {a b : Int} {bg : List Int × Int} {p : List Int} (hk : keeps route ws a b p = true) (h : bg.1 = [] ∨ gapP route ws p < bg.2) : pickS route ws a b bg p = (p, gapP route ws p) := if_pos ⟨hk, h⟩
theorem pick_not {route : Int} {ws : List Wing} {a b : Int} {bg : List Int × Int} {p : List Int} (h : ¬ (keeps route ws a b p = true ∧ (bg.1 = [] ∨ gapP route ws p < bg.2))) : pickS route ws a b bg p = bg := if_neg h
theorem bestP_cons (route : Int) (ws : List Wing) (a b : Int) (bg : List Int × Int) (p : List Int) (l : List (List Int)) : bestP route ws a b bg (p :: l) = bestP route ws a b (pickS route ws a b bg p) l := rfl

theorem best_stays {route : Int} {ws : List Wing} {a b : Int} {bg : List Int × Int} (h0 : bg.1 ≠ []) : ∀ {l : List (List Int)}, (∀ p, p ∈ l → keeps route ws a b p = true → bg.2 ≤ gapP route ws p) → bestP route ws a b bg l = bg := by
  intro l
  induction l with
  | nil => intro _; rfl
  | cons p l ih =>
    intro h
    rw [bestP_cons, pick_not]
    · exact ih (fun q hq => h q (List.mem_cons_of_mem _ hq))
    · rintro ⟨hk, h1 | h1⟩
      · exact h0 h1
      · have := h p (List.mem_cons_self ..) hk; omega

theorem best_mem {route : Int} {ws : List Wing} {a b : Int} : ∀ {l : List (List Int)} {bg : List Int × Int}, bestP route ws a b bg l = bg ∨ ∃ p, p ∈ l ∧ keeps route ws a b p = true ∧ bestP route ws a b bg l = (p, gapP route ws p) := by
  intro l
  induction l with
  | nil => intro bg; exact .inl rfl
  | cons p l ih =>
    intro bg
    rw [bestP_cons]
    by_cases hk : keeps route ws a b p = true ∧ (bg.1 = [] ∨ gapP route ws p < bg.2)
    · rw [pick_take hk.1 hk.2]
      rcases ih (bg := (p, gapP route ws p)) with h | ⟨q, h1, h2, h3⟩
      · exact .inr ⟨p, List.mem_cons_self .., hk.1, h⟩
      · exact .inr ⟨q, List.mem_cons_of_mem _ h1, h2, h3⟩
    · rw [pick_not hk]
      rcases ih (bg := bg) with h | ⟨q, h1, h2, h3⟩
      · exact .inl h
      · exact .inr ⟨q, List.mem_cons_of_mem _ h1, h2, h3⟩

/-- a plan that was found is never worse later -/
theorem best_le {route : Int} {ws : List Wing} {a b : Int} : ∀ {l : List (List Int)} {bg : List Int × Int}, (∀ p, p ∈ l → p ≠ []) → bg.1 ≠ [] → (bestP route ws a b bg l).1 ≠ [] ∧ (bestP route ws a b bg l).2 ≤ bg.2 := by
  intro l
  induction l with
  | nil => intro bg _ h; exact ⟨h, Int.le_refl _⟩
  | cons p l ih =>
    intro bg hl h
    rw [bestP_cons]
    have hl' : ∀ q, q ∈ l → q ≠ [] := fun q hq => hl q (List.mem_cons_of_mem _ hq)
    by_cases hk : keeps route ws a b p = true ∧ (bg.1 = [] ∨ gapP route ws p < bg.2)
    · rw [pick_take hk.1 hk.2]
      have h1 : gapP route ws p < bg.2 := by rcases hk.2 with h2 | h2; exact absurd h2 h; exact h2
      have := ih (bg := (p, gapP route ws p)) hl' (hl p (List.mem_cons_self ..))
      exact ⟨this.1, Int.le_trans this.2 (by show gapP route ws p ≤ _; omega)⟩
    · rw [pick_not hk]
      exact ih hl' h

/-- each plan that keeps the time is looked at -/
theorem best_all {route : Int} {ws : List Wing} {a b : Int} : ∀ {l : List (List Int)} {bg : List Int × Int} {p : List Int}, (∀ p, p ∈ l → p ≠ []) → p ∈ l → keeps route ws a b p = true → (bestP route ws a b bg l).1 ≠ [] ∧ (bestP route ws a b bg l).2 ≤ gapP route ws p := by
  intro l
  induction l with
  | nil => intro bg p _ h; simp at h
  | cons q l ih =>
    intro bg p hl hp hk
    rw [bestP_cons]
    have hl' : ∀ q, q ∈ l → q ≠ [] := fun q hq => hl q (List.mem_cons_of_mem _ hq)
    rcases List.mem_cons.1 hp with rfl | hp
    · by_cases hk2 : keeps route ws a b p = true ∧ (bg.1 = [] ∨ gapP route ws p < bg.2)
      · rw [pick_take hk2.1 hk2.2]
        exact best_le hl' (hl p (List.mem_cons_self ..))
      · rw [pick_not hk2]
        have h1 : bg.1 ≠ [] := fun e => hk2 ⟨hk, .inl e⟩
        have h2 : bg.2 ≤ gapP route ws p := by
          by_cases h : gapP route ws p < bg.2
          · exact absurd ⟨hk, .inr h⟩ hk2
          · omega
        have := best_le (route := route) (ws := ws) (a := a) (b := b) hl' h1
        exact ⟨this.1, Int.le_trans this.2 h2⟩
    · exact ih hl' hp hk

/-- the first one of those with the narrowest widest gap is taken -/
theorem best_first {route : Int} {ws : List Wing} {a b : Int} {l : List (List Int)} (hl : ∀ p, p ∈ l → p ≠ []) {k : Nat} {p : List Int} (hp : l[k]? = some p) (hk : keeps route ws a b p = true)
    (hg : gapP route ws p = (bestP route ws a b ([], 0) l).2) (hn : ¬ ∃ q, q ∈ l.take k ∧ keeps route ws a b q = true ∧ gapP route ws q = (bestP route ws a b ([], 0) l).2) : (bestP route ws a b ([], 0) l).1 = p := by
  have hall : ∀ q, q ∈ l → keeps route ws a b q = true → (bestP route ws a b ([], 0) l).2 ≤ gapP route ws q := fun q hq hkq => (best_all (bg := ([], 0)) hl hq hkq).2
  obtain ⟨hkl, hpe⟩ := List.getElem?_eq_some_iff.1 hp
  have hsplit : l = l.take k ++ p :: l.drop (k + 1) := by
    rw [← hpe, ← List.drop_eq_getElem_cons hkl]
    exact (List.take_append_drop k l).symm
  obtain ⟨G, hG⟩ : ∃ G, (bestP route ws a b ([], 0) l).2 = G := ⟨_, rfl⟩
  rw [hG] at hg hn hall
  have hd : bestP route ws a b ([], 0) l = bestP route ws a b (pickS route ws a b (bestP route ws a b ([], 0) (l.take k)) p) (l.drop (k + 1)) :=
    (congrArg (bestP route ws a b ([], 0)) hsplit).trans ((bestP_append ..).trans (bestP_cons ..))
  have hpk : pickS route ws a b (bestP route ws a b ([], 0) (l.take k)) p = (p, gapP route ws p) := by
    refine pick_take hk ?_
    rcases best_mem (route := route) (ws := ws) (a := a) (b := b) (l := l.take k) (bg := ([], 0)) with h | ⟨q, h1, h2, h3⟩
    · exact .inl (by rw [h])
    · refine .inr ?_
      rw [h3]
      have h4 := hall q (List.mem_of_mem_take h1) h2
      have h5 : gapP route ws q ≠ G := fun e => hn ⟨q, h1, h2, e⟩
      show gapP route ws p < gapP route ws q
      omega
  rw [hd, hpk, best_stays]
  · exact hl p (List.mem_of_getElem? hp)
  · intro q hq hkq
    have := hall q (List.mem_of_mem_drop hq) hkq
    show gapP route ws p ≤ _
    omega

theorem keeps_wider {route : Int} {ws : List Wing} {a b a' b' : Int} {p : List Int} (h : keeps route ws a b p = true) (ha : a' ≤ a) (hb : b ≤ b') : keeps route ws a' b' p = true := by
  unfold keeps at h ⊢
  simp only [Bool.and_eq_true, decide_eq_true_eq] at h ⊢
  omega

/-- with wider rules there is a plan whose gap is no wider -/
theorem best_wider {route : Int} {ws : List Wing} {a b a' b' : Int} {l : List (List Int)} (hl : ∀ p, p ∈ l → p ≠ []) (ha : a' ≤ a) (hb : b ≤ b') (h : (bestP route ws a b ([], 0) l).1 ≠ []) :
    (bestP route ws a' b' ([], 0) l).1 ≠ [] ∧ (bestP route ws a' b' ([], 0) l).2 ≤ (bestP route ws a b ([], 0) l).2 := by
  rcases best_mem (route := route) (ws := ws) (a := a) (b := b) (l := l) (bg := ([], 0)) with h1 | ⟨q, h1, h2, h3⟩
  · rw [h1] at h; exact absurd rfl h
  · rw [h3]
    exact best_all hl h1 (keeps_wider h2 ha hb)
/-- what is found was found among them -/
theorem best_found {route : Int} {ws : List Wing} {a b : Int} {l : List (List Int)} (h : (bestP route ws a b ([], 0) l).1 ≠ []) : ∃ q, q ∈ l ∧ keeps route ws a b q = true ∧ gapP route ws q = (bestP route ws a b ([], 0) l).2 := by
  rcases best_mem (route := route) (ws := ws) (a := a) (b := b) (l := l) (bg := ([], 0)) with h1 | ⟨q, h1, h2, h3⟩
  · rw [h1] at h; exact absurd rfl h
  · exact ⟨q, h1, h2, by rw [h3]⟩

theorem planRes_len {route : Int} {ws : List Wing} {a b c : Int} {OL : List Int} {OG : Int} (h : planRes route ws a b c = (OL, OG)) (hn : ws.length ≤ 100) : OL.length ≤ 1000000 := by
  unfold planRes at h
  by_cases he : planErr route ws a b c = 0
  · rw [if_pos he] at h
    have hc : check route ws = 0 := by
      apply Decidable.byContradiction
      intro hc
      unfold planErr at he
      rw [if_neg hc] at he
      exact hc he
    rcases best_mem (route := route) (ws := ws) (a := a) (b := b) (l := plansR ws ws.length []) (bg := ([], 0)) with h1 | ⟨q, h1, _, h3⟩
    · rw [h1] at h; cases h; simp
    · rw [h3] at h
      cases h
      have := (plansR_mem (Small.of_check hc) (Begun.nil ws) (by simp) h1).2
      omega
  · rw [if_neg he] at h
    cases h
    simp

/-- whether among the first k plans there is one that keeps the time and has this widest gap -/
def seen (route : Int) (ws : List Wing) (a b G : Int) (l : List (List Int)) (k : Nat) : Bool := (l.take k).any fun q => keeps route ws a b q && decide (gapP route ws q = G)
theorem seen_zero (route : Int) (ws : List Wing) (a b G : Int) (l : List (List Int)) : seen route ws a b G l 0 = false := rfl
theorem seen_succ (route : Int) (ws : List Wing) (a b G : Int) (l : List (List Int)) {k : Nat} (h : k < l.length) : seen route ws a b G l (k + 1) = (seen route ws a b G l k || (keeps route ws a b l[k] && decide (gapP route ws l[k] = G))) := by
  unfold seen
  have e : l.take (k + 1) = l.take k ++ [l[k]] := by rw [List.take_succ_eq_append_getElem h]
  rw [e, List.any_append]
  simp
theorem seen_spec {route : Int} {ws : List Wing} {a b G : Int} {l : List (List Int)} {k : Nat} : seen route ws a b G l k = true ↔ ∃ q, q ∈ l.take k ∧ keeps route ws a b q = true ∧ gapP route ws q = G := by
  unfold seen
  simp only [List.any_eq_true, Bool.and_eq_true, decide_eq_true_eq]

theorem plan_nonempty {route : Int} {ws : List Wing} (hc : check route ws = 0) : ∀ p, p ∈ plansR ws ws.length [] → p ≠ [] := fun p hp e => by
  have h1 := (plansR_mem (Small.of_check hc) (Begun.nil ws) (by simp) hp).2
  have h2 := (check_zero hc).2.2.1
  rw [e] at h1
  simp at h1
  omega

structure PlanFacts (route : Int) (ws : List Wing) (a b c : Int) (l : List (List Int)) (E G : Int) (best : List Int) : Prop where
  err : E = 0 ∨ E = 7
  round : ∀ k (h : k < l.length), keeps route ws a b l[k] = true → E = 0 ∧ G ≤ gapP route ws l[k] ∧ (gapP route ws l[k] = G → seen route ws a b G l k = false → best = l[k])
  last : seen route ws a b G l l.length = decide (E = 0)

theorem plan_facts {route : Int} {ws : List Wing} {a b c : Int} (hc : check route ws = 0) (h5 : ws.length ≤ 5) (hr : rulesErr a b c = 0) :
    PlanFacts route ws a b c (plansR ws ws.length []) (planErr route ws a b c) (planRes route ws a b c).2 (planRes route ws a b c).1 := by
  have hl := plan_nonempty hc
  have hE : planErr route ws a b c = if (bestP route ws a b ([], 0) (plansR ws ws.length [])).1 = [] then 7 else 0 := by unfold planErr; rw [if_pos hc, if_neg (by omega), if_pos hr]
  obtain ⟨l, hlr⟩ : ∃ l, plansR ws ws.length [] = l := ⟨_, rfl⟩
  have hR : planRes route ws a b c = if planErr route ws a b c = 0 then bestP route ws a b ([], 0) (plansR ws ws.length []) else ([], 0) := rfl
  rw [hlr] at hl hE hR ⊢
  by_cases hz : (bestP route ws a b ([], 0) l).1 = []
  · rw [if_pos hz] at hE
    rw [hE] at hR ⊢
    have hnone : ∀ q, q ∈ l → keeps route ws a b q = true → False := fun q hq hk => (best_all (bg := ([], 0)) hl hq hk).1 hz
    refine ⟨.inr rfl, fun k h hk => (hnone _ (List.getElem_mem h) hk).elim, ?_⟩
    rw [Bool.eq_iff_iff, seen_spec]
    constructor
    · rintro ⟨q, h1, h2, _⟩
      exact (hnone q (List.mem_of_mem_take h1) h2).elim
    · intro h; simp at h
  · rw [if_neg hz] at hE
    rw [hE, if_pos rfl] at hR
    rw [hE, hR]
    refine ⟨.inl rfl, fun k h hk => ⟨rfl, (best_all (bg := ([], 0)) hl (List.getElem_mem h) hk).2, fun hg hs => ?_⟩, ?_⟩
    · refine best_first hl (List.getElem?_eq_getElem h) hk hg (fun hex => ?_)
      have := seen_spec.2 hex
      rw [hs] at this
      cases this
    · rw [Bool.eq_iff_iff, seen_spec, List.take_length]
      constructor
      · intro _; rfl
      · intro _; exact best_found hz

theorem plan_wider {route : Int} {ws : List Wing} {a b c a' b' c' : Int} (hc : check route ws = 0) (h5 : ws.length ≤ 5) (hr : rulesErr a b c = 0) (hr' : rulesErr a' b' c' = 0) (ha : a' ≤ a) (hb : b ≤ b') (h : planErr route ws a b c = 0) :
    planErr route ws a' b' c' = 0 ∧ (planRes route ws a' b' c').2 ≤ (planRes route ws a b c).2 := by
  have hE : planErr route ws a b c = if (bestP route ws a b ([], 0) (plansR ws ws.length [])).1 = [] then 7 else 0 := by unfold planErr; rw [if_pos hc, if_neg (by omega), if_pos hr]
  have hE' : planErr route ws a' b' c' = if (bestP route ws a' b' ([], 0) (plansR ws ws.length [])).1 = [] then 7 else 0 := by unfold planErr; rw [if_pos hc, if_neg (by omega), if_pos hr']
  have hz : (bestP route ws a b ([], 0) (plansR ws ws.length [])).1 ≠ [] := fun e => by rw [if_pos e] at hE; omega
  obtain ⟨w1, w2⟩ := best_wider (plan_nonempty hc) ha hb hz
  have h' : planErr route ws a' b' c' = 0 := by rw [hE', if_neg w1]
  refine ⟨h', ?_⟩
  unfold planRes
  rw [if_pos h, if_pos h']
  exact w2

theorem rules_wide {a b c : Int} (h1 : 0 ≤ a) (h2 : a ≤ b) (h3 : b ≤ 100000) (h4 : 0 ≤ c) (h5 : c ≤ 20000) : rulesErr a b c = 0 := by
  unfold rulesErr
  rw [if_neg (by rw [inB_true.2 ⟨by omega, by omega⟩]; simp), if_neg (by rw [inB_true.2 ⟨by omega, by omega⟩]; simp), if_neg (by rw [inB_true.2 ⟨by omega, by omega⟩]; simp), if_neg (by omega)]
end Go.Proofs.YtgfipifgijohhaaDoor
