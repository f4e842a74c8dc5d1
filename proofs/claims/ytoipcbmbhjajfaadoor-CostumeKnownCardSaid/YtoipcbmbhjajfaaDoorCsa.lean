/-
  WALKS: the program's members, before, and the law's before.
-/
import Derived.Test.YtoipcbmbhjajfaaDoorCsv
import Derived.Laws.Bits128
namespace Go.Proofs.YtoipcbmbhjajfaaDoor
open Go.RowKit

theorem i64_and1 (n : Int) : bits .and .i64 n 1 = n % 2 := by
  have h1 : (BitVec.ofInt 64 1).toNat = 2 ^ 1 - 1 := by decide
  have key : (BitVec.ofInt 64 n &&& BitVec.ofInt 64 1).toNat = (n % ((2 ^ 64 : Nat) : Int)).toNat % 2 ^ 1 := by
    rw [BitVec.toNat_and, BitVec.toNat_ofInt, h1, Nat.and_two_pow_sub_one_eq_mod]
  show IntKind.i64.wrap ((BitVec.ofInt 64 n &&& BitVec.ofInt 64 1).toNat : Nat) = n % 2
  rw [key, IntKind.wrap_i64]
  omega

def MembersPost (l : List Int) (w : World) (e : Ending) (w' : World) : Prop := ∃ v', e = .returned v' ∧ OwnInts w.heap.size w' v' l ∧ (l = [] → v' = .slice none 0 0) ∧ Below w.heap.size w w'

set_option maxHeartbeats 4000000 in
theorem members_any (s n : Nat) (hn : n ≤ 30) (hs : s < 2 ^ n) (w : World) : Calls Tryd.prog 35 #[.int .i64 s] w (MembersPost (memL s n) w) := by
  have h30 : s < 2 ^ 30 := Nat.lt_of_lt_of_le hs (Nat.pow_le_pow_right (by omega) hn)
  have h30' : s < 1073741824 := h30
  have HSn := hid hs
  clear hs h30
  go_enter Tryd.func35, Tryd.ntmps35
  go_wp2_with fail
  go_loopw [3, 4] (fun a i wr => ∃ k : Nat, k ≤ n ∧ i = .int .i64 k ∧ OwnR encInt 1 3 w.heap.size wr a (memL s k) ∧ (memL s k = [] → a = .slice none 0 0) ∧ Below w.heap.size w wr) (fun _ i _ => n - (intOf i).toNat)
  case atStart => exact ⟨0, by omega, rfl, OwnR.nil _ _ _ _ _, fun _ => rfl, Below.refl _ _⟩
  case round =>
    obtain ⟨k, hk, rfl, ho, hz, hb⟩ := hrel
    obtain ⟨wo, rfl⟩ : ∃ wo : World, wo = wr := ⟨_, rfl⟩
    have HO := hid ho
    have HZ := hid hz
    have HB := hid hb
    have hsz : w.heap.size ≤ wo.heap.size := hb.size
    obtain ⟨sa, sc, e⟩ := ho.form
    have hll : (memL s k).length ≤ k := inc_length (memL_inc s k)
    subst e
    clear ho hz hb
    obtain ⟨D, hD⟩ : ∃ D, s / 2 ^ k = D := ⟨_, rfl⟩
    have hDl : D ≤ s := by rw [← hD]; exact Nat.div_le_self _ _
    have q1 : Op.shift .shr .i64 (s : Int) .i64 (k : Int) = pure (.int .i64 (D : Int)) := by
      rw [shift_shr .i64 .i64 (s : Int) (k : Int) (by omega) (by show (k : Int) ≤ 64; omega), ← hD]
      simp
    have q2 : (s : Int) / 2 ^ k = (D : Int) := by rw [← hD]; simp
    have z1 : IntKind.i64.wrap ((k : Int) + 1) = (k : Int) + 1 := IntWalk.i64_in _ (by omega)
    by_cases h0 : D = 0
    · have hsk : s < 2 ^ k := by
        have := Nat.div_add_mod s (2 ^ k)
        have h2 := Nat.mod_lt s (show 0 < 2 ^ k from Nat.pow_pos (by omega))
        rw [hD, h0] at this
        omega
      have HE := hid (show memL s n = memL s k from by have := memL_high hsk (n - k); rwa [show k + (n - k) = n by omega] at this)
      have HD := hid hD
      subst h0
      clear hD hDl hsk
      go_wp2_with fail
      go_ret
      exact ⟨_, rfl, by rw [HE.out]; exact own_int.1 HO.out, by rw [HE.out]; exact HZ.out, HB.out⟩
    have hkn : k < n := by
      refine Classical.byContradiction fun h => h0 ?_
      rw [← hD]
      exact Nat.div_eq_of_lt (Nat.lt_of_lt_of_le HSn.out (Nat.pow_le_pow_right (by omega) (by omega)))
    have hpos : (D : Int) > 0 := by omega
    by_cases h1 : D % 2 = 1
    · have q3 : bits .and .i64 (D : Int) 1 = 1 := by rw [i64_and1]; omega
      have HE := hid (show memL s (k + 1) = memL s k ++ [(k : Int)] from by simp only [memL]; rw [hD, if_pos h1])
      clear hD h1 h0 hDl
      go_wp2_with (at_builtin; refine wpList_app encInt Tryd.underlying24 infoInt' (by decide) (by decide) (fun _ => rfl) rfl _ _ rfl w.heap.size (memL s k) [(k : Int)] (fun y _ => encInt_one y) _ _ rfl rfl (HO.out.later (below_alloc _ _)) (Src.lit encInt wo (k : Int) _ 1 rfl) (by simp; omega) (by simp; omega) ?_; intro v' w2 hown' hg _ _; obtain ⟨a2, c2, e2⟩ := hown'.form; rw [List.length_append, List.length_singleton] at e2; subst e2; rw [← HE.out] at hown'; have HO2 := hid hown'; have HB2 := hid ((HB.out.trans ((below_alloc wo _).mono hsz)).trans (OwnR.below (HO.out.later (below_alloc wo _)) hg (by simp; omega))); clear hown' hg)
      go_roundw
      case rel => exact ⟨k + 1, by omega, by go_num, HO2.out, (by rw [HE.out]; intro h; simp at h), HB2.out⟩
      case measure => simp [intOf] <;> omega
    · have q3 : bits .and .i64 (D : Int) 1 = 0 := by rw [i64_and1]; omega
      have HE := hid (show memL s (k + 1) = memL s k from by simp only [memL]; rw [hD, if_neg h1])
      clear hD h1 h0 hDl
      go_wp2_with fail
      go_roundw
      case rel => exact ⟨k + 1, by omega, by go_num, by rw [HE.out]; exact HO.out, by rw [HE.out]; exact HZ.out, HB.out⟩
      case measure => simp [intOf] <;> omega

theorem lexB_step {a b : List Int} : ∀ {k : Nat}, k < a.length → a.length = b.length → (∀ j, j < k → nm a j = nm b j) → lexB a b = lexB (a.drop k) (b.drop k) := by
  induction a generalizing b with
  | nil => intro k h; simp at h
  | cons x xs ih =>
    intro k hk hl h
    cases b with
    | nil => simp at hl
    | cons y ys =>
      cases k with
      | zero => rfl
      | succ k =>
        have e : x = y := h 0 (by omega)
        subst e
        simp only [lexB, if_true, List.drop_succ_cons]
        exact ih (by simpa using hk) (by simpa using hl) (fun j hj => h (j + 1) (by omega))
theorem lexB_at {a b : List Int} {k : Nat} (hk : k < a.length) (hl : a.length = b.length) (h : ∀ j, j < k → nm a j = nm b j) (hne : nm a k ≠ nm b k) : lexB a b = decide (nm a k < nm b k) := by
  rw [lexB_step hk hl h]
  have e1 : a.drop k = nm a k :: a.drop (k + 1) := by
    rw [List.drop_eq_getElem_cons hk]; congr 1; unfold nm; rw [List.getD_eq_getElem?_getD, List.getElem?_eq_getElem hk]; rfl
  have e2 : b.drop k = nm b k :: b.drop (k + 1) := by
    rw [List.drop_eq_getElem_cons (by omega)]; congr 1; unfold nm; rw [List.getD_eq_getElem?_getD, List.getElem?_eq_getElem (by omega)]; rfl
  rw [e1, e2]
  simp only [lexB]
  rw [if_neg hne]
theorem lexB_same {a b : List Int} (hl : a.length = b.length) (h : ∀ j, j < a.length → nm a j = nm b j) : lexB a b = false := by
  have e : a = b := by
    apply List.ext_getElem hl
    intro i h1 h2
    have := h i h1
    unfold nm at this
    rw [List.getD_eq_getElem?_getD, List.getD_eq_getElem?_getD, List.getElem?_eq_getElem h1, List.getElem?_eq_getElem h2] at this
    exact this
  rw [e]; exact lexB_irrefl b

set_option maxHeartbeats 4000000 in
theorem before_any (a b : List Int) (va vb : Value) (w : World) (hA : IntsAt none w va a) (hB : IntsAt none w vb b) (hl : a.length ≤ 1000) :
    Calls Tryd.prog 36 #[va, vb] w fun e w' => e = .returned (.bool (befB a b)) ∧ Below w.heap.size w w' := by
  have HA := hid hA
  have HB := hid hB
  obtain ⟨aa, ca, rfl, _⟩ := hA
  obtain ⟨ab, cb, rfl, _⟩ := hB
  by_cases hlen : a.length = b.length
  rotate_left
  · obtain ⟨e1, e2⟩ := ne_bool (a := (a.length : Int)) (b := (b.length : Int)) (by omega)
    by_cases hlt : a.length < b.length
    · have HE := hid (show befB a b = true from by unfold befB; rw [if_neg hlen, decide_eq_true hlt])
      have i1 : (a.length : Int) < (b.length : Int) := by omega
      clear hlen hlt
      go_enter Tryd.func36, Tryd.ntmps36
      go_wp2_with fail
      go_ret
      exact ⟨ret_bool HE.out.symm, Below.refl _ _⟩
    · have HE := hid (show befB a b = false from by unfold befB; rw [if_neg hlen, decide_eq_false hlt])
      have i1 : ¬ (a.length : Int) < (b.length : Int) := by omega
      clear hlen hlt
      go_enter Tryd.func36, Tryd.ntmps36
      go_wp2_with fail
      go_ret
      exact ⟨ret_bool HE.out.symm, Below.refl _ _⟩
  obtain ⟨e1, e2⟩ := eq_bool (a := (a.length : Int)) (b := (b.length : Int)) (by omega)
  have HE := hid (show befB a b = lexB a b from by unfold befB; rw [if_pos hlen])
  have HL := hid hlen
  clear hlen
  go_enter Tryd.func36, Tryd.ntmps36
  go_wp2_with fail
  clear e1 e2
  go_loopw [18] (fun i wr => ∃ k : Nat, k ≤ a.length ∧ i = .int .i64 k ∧ (∀ j, j < k → nm a j = nm b j) ∧ Below w.heap.size w wr) (fun i _ => a.length - (intOf i).toNat)
  case atStart => exact ⟨0, by omega, rfl, fun j hj => by omega, Below.refl _ _⟩
  case round =>
    obtain ⟨k, hk, rfl, hf, hb⟩ := hrel
    obtain ⟨wo, rfl⟩ : ∃ wo : World, wo = wr := ⟨_, rfl⟩
    have HF := hid hf
    have HB2 := hid hb
    clear hf hb
    by_cases hlt : k < a.length
    rotate_left
    · obtain rfl : k = a.length := by omega
      have HR := hid (HE.out.trans (lexB_same HL.out HF.out))
      go_wp2_with fail
      go_ret
      exact ⟨ret_bool HR.out.symm, HB2.out⟩
    have hlb : k < b.length := by have := HL.out; omega
    have hA1 := HA.out.below HB2.out
    have hB1 := HB.out.below HB2.out
    obtain ⟨ba, oa, ca', e, _, _⟩ := hA1.slice (by omega)
    cases e
    obtain ⟨bb, ob, cb', e, _, _⟩ := hB1.slice (by omega)
    cases e
    have c0 := hA1.cell hlt
    have c1 := hB1.cell hlb
    have i1 : (k : Int) < (a.length : Int) := by omega
    have i2 : (k : Int) < (b.length : Int) := by omega
    have z1 : IntKind.i64.wrap ((k : Int) + 1) = (k : Int) + 1 := IntWalk.i64_in _ (by omega)
    have HX := hid (fun h => HE.out.trans (lexB_at hlt HL.out HF.out h))
    have HN := hid (fun (h : nm a k = nm b k) (j : Nat) (hj : j < k + 1) => show nm a j = nm b j from by
      by_cases e : j = k
      · subst e; exact h
      · exact HF.out j (by omega))
    have HK := hid (fun W' (hb : Below wo.heap.size wo W') => (⟨cell_now hb c0, cell_now hb c1⟩ : W'.cell? ⟨ba, oa + k, none⟩ = some (.int .i64 (nm a k)) ∧ W'.cell? ⟨bb, ob + k, none⟩ = some (.int .i64 (nm b k))))
    obtain ⟨x, hx⟩ : ∃ x, nm a k = x := ⟨_, rfl⟩
    obtain ⟨y, hy⟩ : ∃ y, nm b k = y := ⟨_, rfl⟩
    rw [hx] at c0 HX HN HK
    rw [hy] at c1 HX HN HK
    clear hx hy hA1 hB1
    by_cases hxy : x = y
    · obtain ⟨e1, e2⟩ := eq_bool hxy
      have HG := hid (HN.out hxy)
      clear hxy HX HN
      go_upto_region 6 with fail
      go_quiet (fail)
      have HB2 := hid (HB2.out.trans ((below_drewN (Below.refl wo.heap.size wo) nq).mono HB2.out.size))
      go_wp2_with fail
      go_roundw
      case rel => exact ⟨k + 1, by omega, by go_num, HG.out, HB2.out⟩
      case measure => simp [intOf] <;> omega
    · obtain ⟨e1, e2⟩ := ne_bool hxy
      have HR := hid (HX.out hxy)
      clear hxy HX HN
      go_upto_region 6 with fail
      go_quiet (fail)
      by_cases hlt2 : x < y
      · rw [decide_eq_true hlt2] at HR
        go_upto_region 7 with fail
        go_quiet (fail)
        go_wp2_with fail
        go_ret
        first
        | exact ⟨ret_bool HR.out.symm, HB2.out.trans ((below_drewN (Below.refl wo.heap.size wo) _).mono HB2.out.size)⟩
        | exact ⟨ret_bool HR.out.symm, HB2.out.trans ((below_drewN (below_drewN (Below.refl wo.heap.size wo) _) _).mono HB2.out.size)⟩
      · rw [decide_eq_false hlt2] at HR
        go_upto_region 7 with fail
        go_quiet (fail)
        go_wp2_with fail
        go_ret
        first
        | exact ⟨ret_bool HR.out.symm, HB2.out.trans ((below_drewN (Below.refl wo.heap.size wo) _).mono HB2.out.size)⟩
        | exact ⟨ret_bool HR.out.symm, HB2.out.trans ((below_drewN (below_drewN (Below.refl wo.heap.size wo) _) _).mono HB2.out.size)⟩

end Go.Proofs.YtoipcbmbhjajfaaDoor
