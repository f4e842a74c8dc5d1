/-
  PLAIN: who is on in a minute, first and last; how many parts a person has.
-/
import Derived.Test.YtdcinngdilfpnaaCpx
import Derived.Test.YtdcinngdilfpnaaCwd
namespace Go.Proofs.Ytdcinngdilfpnaa

def lastAt (f : Nat → Bool) : Nat → Int
  | 0 => -1
  | k + 1 => if f k = true then (k : Int) else lastAt f k
theorem firstAt_orP (f : Nat → Bool) : ∀ n, firstAt f n = -1 ∨ ∃ i, i < n ∧ f i = true ∧ firstAt f n = (i : Int) := by
  intro n
  induction n with
  | zero => exact .inl rfl
  | succ n ih =>
    simp only [firstAt]
    rcases ih with ih | ⟨i, h1, h2, h3⟩
    · rw [ih, if_neg (by omega)]
      by_cases hf : f n = true
      · rw [if_pos hf]; exact .inr ⟨n, by omega, hf, rfl⟩
      · rw [if_neg hf]; exact .inl rfl
    · rw [h3, if_pos (by omega)]; exact .inr ⟨i, by omega, h2, rfl⟩
/-- where at most one is so, the first is the last, and there is one at most -/
theorem one_last {f : Nat → Bool} : ∀ {n : Nat}, (∀ i, i < n → ∀ k, k < n → f i = true → f k = true → i = k) → lastAt f n = firstAt f n ∧ 0 ≤ cnt f n ∧ cnt f n ≤ 1 ∧ (firstAt f n = -1 → cnt f n = 0) := by
  intro n
  induction n with
  | zero => intro _; exact ⟨rfl, by simp [cnt], by simp [cnt], fun _ => rfl⟩
  | succ n ih =>
    intro h
    obtain ⟨h1, h2, h3, h4⟩ := ih fun i hi k hk => h i (by omega) k (by omega)
    simp only [lastAt, firstAt, cnt]
    by_cases hf : f n = true
    · rw [if_pos hf, if_pos hf, if_pos hf]
      rcases firstAt_orP f n with e | ⟨i, q1, q2, q3⟩
      · have := h4 e
        rw [e, if_neg (by omega)]
        exact ⟨rfl, by omega, by omega, fun e => by omega⟩
      · have := h i (by omega) n (by omega) q2 hf
        omega
    · rw [if_neg hf, if_neg hf, if_neg hf]
      rcases firstAt_orP f n with e | ⟨i, q1, q2, q3⟩
      · rw [e, if_neg (by omega)]
        rw [e] at h1
        exact ⟨h1, h2, h3, fun _ => h4 e⟩
      · rw [if_pos (by omega)]
        exact ⟨h1, h2, h3, h4⟩
theorem hit_one {p : Plot} (v : Valid p) (n m : Int) : ∀ i, i < p.parts.length → ∀ k, k < p.parts.length → hitP n m (pt p.parts i) = true → hitP n m (pt p.parts k) = true → i = k := by
  intro i hi k hk h1 h2
  unfold hitP at h1 h2
  simp only [Bool.and_eq_true, decide_eq_true_eq] at h1 h2
  exact on_one v (m := m) hi hk (h1.1.trans h2.1.symm) h1.2 h2.2
theorem filter_insD (f : Int → Int) (x : Int) (l : List Int) (P : Int → Bool) : (((insD f x l).filter P).length : Int) = ((l.filter P).length : Int) + if P x = true then 1 else 0 := by
  unfold insD
  obtain ⟨k, hk⟩ : ∃ k, posD f x l l.length = k := ⟨_, rfl⟩
  rw [hk, List.filter_append, List.filter_cons]
  have e : (l.filter P).length = ((l.take k).filter P).length + ((l.drop k).filter P).length := by rw [← List.length_append, ← List.filter_append, List.take_append_drop]
  by_cases hp : P x = true
  · rw [if_pos hp, if_pos hp]; simp only [List.length_append, List.length_cons]; omega
  · rw [if_neg hp, if_neg hp]; simp only [List.length_append]; omega
theorem filter_sortD (f : Int → Int) (P : Int → Bool) : ∀ n : Nat, (((sortD f n).filter P).length : Int) = cnt (fun i => P (i : Int)) n := by
  intro n
  induction n with
  | zero => rfl
  | succ n ih =>
    simp only [sortD, filter_insD, ih, cnt]
    split <;> omega
theorem dayL_count (p : Plot) (n : Int) : ((dayL p n).length : Int) = cnt (fun i => decide ((pt p.parts i).person = n)) p.parts.length := by
  unfold dayL
  rw [filter_sortD]
  exact cnt_congr fun i _ => by simp [ofPerson]
end Go.Proofs.Ytdcinngdilfpnaa
