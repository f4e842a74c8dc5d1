/-
  WALKS: DeleteFunc, person, Day.
-/
import Derived.Test.YtoipcbmbhjajfaaGreatDoorCdy
namespace Go.Proofs.YtoipcbmbhjajfaaGreatDoor
open Go.RowKit

theorem firstAt_or (f : Nat → Bool) (n : Nat) : ((∀ j, j < n → f j = false) ∧ firstAt f n = -1) ∨ ∃ i, i < n ∧ f i = true ∧ (∀ j, j < i → f j = false) ∧ firstAt f n = i := by
  by_cases h : ∃ i, i < n ∧ f i = true
  · right
    obtain ⟨i, hi⟩ := h
    induction i using Nat.strongRecOn with
    | _ i ih =>
      by_cases hm : ∃ j, j < i ∧ f j = true
      · obtain ⟨j, hj, h2⟩ := hm
        exact ih j hj ⟨by omega, h2⟩
      · have hb : ∀ j, j < i → f j = false := fun j hj => by
          cases e : f j with
          | false => rfl
          | true => exact absurd ⟨j, hj, e⟩ hm
        exact ⟨i, hi.1, hi.2, hb, firstAt_at hb hi.2 n hi.1⟩
  · left
    have hb : ∀ j, j < n → f j = false := fun j hj => by
      cases e : f j with
      | false => rfl
      | true => exact absurd ⟨j, hj, e⟩ h
    exact ⟨hb, firstAt_none hb⟩
theorem take_snocD {xs : List Int} {j : Nat} (h : j < xs.length) : xs.take (j + 1) = xs.take j ++ [nm xs j] := by
  rw [List.take_succ_eq_append_getElem h, nm_get h]
theorem filter_snoc (k : Int → Bool) {xs : List Int} {j : Nat} (h : j < xs.length) : (xs.take (j + 1)).filter k = (xs.take j).filter k ++ (if k (nm xs j) = true then [nm xs j] else []) := by
  rw [take_snocD h, List.filter_append]
  by_cases e : k (nm xs j) = true
  · rw [if_pos e]; simp [e]
  · rw [if_neg e]; simp [e]
theorem filter_all (k : Int → Bool) {xs : List Int} : ∀ j, j ≤ xs.length → (∀ t, t < j → k (nm xs t) = true) → (xs.take j).filter k = xs.take j := by
  intro j
  induction j with
  | zero => intro _ _; simp
  | succ j ih =>
    intro hj h
    rw [filter_snoc k (by omega), ih (by omega) (fun t ht => h t (by omega)), if_pos (h j (by omega)), ← take_snocD (by omega)]
theorem set_take {ys : List Int} {m : Nat} (h : m < ys.length) (z : Int) : (ys.set m z).take (m + 1) = ys.take m ++ [z] := by
  rw [take_snocD (by simpa using h)]
  have e1 : (ys.set m z).take m = ys.take m := by rw [List.take_set]; exact List.set_eq_of_length_le (by simp; omega)
  have e2 : nm (ys.set m z) m = z := by rw [nm_get (by simpa using h)]; simp
  rw [e1, e2]
theorem OwnInts.setI {base : Nat} {w : World} {g n c i : Nat} {ys : List Int} (h : OwnInts base w (.slice (some ⟨g, 0, none⟩) n c) ys) (_ : i < ys.length) (z : Int) : OwnInts base (w.setCell ⟨g, i, none⟩ (.int .i64 z)) (.slice (some ⟨g, 0, none⟩) n c) (ys.set i z) := by
  have hl : n = ys.length := by
    rcases h.blk with ⟨e, _⟩ | ⟨g', c', cur, e, _⟩
    · cases e
    · simp only [Value.slice.injEq] at e; exact e.2.1
  subst hl
  have := (World.ownsRow.stored (h := (h : w.ownsRow base 3 1 (.slice (some ⟨g, 0, none⟩) ys.length c) ys.length (ys.map (Value.int .i64)))) i (.int .i64 z)).1
  unfold OwnInts
  rw [List.length_set, List.map_set]
  exact this
theorem gone_of {p : Plot} {n x : Int} : gone p n x = false ↔ ofPerson p n x = true := by unfold gone; cases ofPerson p n x <;> simp

set_option linter.unusedVariables false in
set_option maxHeartbeats 4000000 in
set_option maxRecDepth 100000 in
theorem delete_any (p : Plot) (n : Int) (xs : List Int) (v vq : Value) (A B base : Nat) (w : World) (h : OwnInts base w v xs) (hb : base ≤ w.heap.size) (hn : xs.length ≤ 30) (hin : InParts p xs)
    (hP : ∀ W', Below base w W' → PartsAt none W' vq p.parts ∧ W'.cell? ⟨A, 3, none⟩ = some vq ∧ W'.cell? ⟨B, 0, none⟩ = some (.int .i64 n)) :
    Calls Tryz.prog 43 #[v, .func (.func 44) #[] #[.pointer (some ⟨A, 0, none⟩), .pointer (some ⟨B, 0, none⟩)]] w fun e w' => ∃ v', e = .returned v' ∧ OwnInts base w' v' (xs.filter (ofPerson p n)) ∧ Below base w w' := by
  have HO := hid h
  have HI := hid hin
  have HP := hid hP
  have HIx := hid (idxD_any p n xs v vq A B w (h.at (d := none) (by simp)) hn hin (fun W' hb' => hP W' (hb'.mono hb)))
  clear hin hP
  rcases firstAt_or (fun j => gone p n (nm xs j)) xs.length with ⟨hall, hf⟩ | ⟨i, hi, hgi, hbf, hf⟩
  · have hfl : xs.filter (ofPerson p n) = xs := by
      have := filter_all (ofPerson p n) (xs := xs) xs.length (Nat.le_refl _) (fun t ht => gone_of.1 (hall t ht))
      rwa [List.take_length] at this
    rw [hfl]
    rw [hf] at HIx
    obtain ⟨a, c, rfl⟩ := (own_int.2 h).form
    clear h hall hf hfl
    go_enter Tryz.func43, Tryz.ntmps43
    go_wp2_with (go_at_call 65; refine HIx.out.mono ?_; rintro e w2 ⟨rfl, hb2⟩; have HO := hid (HO.out.later hb2); have HB := hid (hb2.mono hb); clear hb2)
    go_ret
    exact ⟨_, rfl, HO.out, HB.out⟩
  · rcases h.blk with ⟨rfl, rfl⟩ | ⟨g, cap, cur, rfl, hbg, hh, h1, hm, hs, hc⟩
    · simp at hi
    rw [hf] at HIx
    have Hst := hid (show xs.take i = (xs.take (i + 1)).filter (ofPerson p n) from by
      rw [filter_snoc _ hi, filter_all _ i (by omega) (fun t ht => gone_of.1 (hbf t ht)), if_neg (by intro e; rw [gone_of.2 e] at hgi; cases hgi), List.append_nil])
    have hne : (( (i : Int) == -1) = false) := beq_eq_false_iff_ne.2 (by omega)
    clear h hh hs hc hgi hbf hf
    have hcap : cap ≤ 9223372036854775807 := by unfold maxLen at hm; omega
    go_enter Tryz.func43, Tryz.ntmps43
    go_wp2_with (go_at_call 65; refine HIx.out.mono ?_; rintro e w2 ⟨rfl, hb2⟩; have HO := hid (HO.out.later hb2); have HB := hid (hb2.mono hb); clear hb2)
    clear hne
    go_loopw [5, 6] (fun a b wr => ∃ (m j : Nat) (ys : List Int), a = .int .i64 m ∧ b = .int .i64 j ∧ m < j ∧ j ≤ xs.length ∧ ys.length = xs.length ∧ ys.take m = (xs.take j).filter (ofPerson p n) ∧ (∀ t, j ≤ t → t < xs.length → nm ys t = nm xs t) ∧ OwnInts base wr (.slice (some ⟨g, 0, none⟩) xs.length cap) ys ∧ Below base w wr)
      (fun _ b _ => xs.length - (intOf b).toNat)
    case atStart => exact ⟨i, i + 1, xs, rfl, by go_num, by omega, by omega, rfl, Hst.out, fun t _ _ => rfl, HO.out, HB.out⟩
    case round =>
      obtain ⟨m, j, ys, rfl, rfl, hmj, hj, hyl, hyt, hyr, hown, hbel⟩ := hrel
      have HO := hid hown
      have HB := hid hbel
      have HYt := hid hyt
      have HYr := hid hyr
      have HYl := hid hyl
      clear hown hbel hyt hyr hyl
      obtain ⟨wo, rfl⟩ : ∃ wo : World, wo = wr := ⟨_, rfl⟩
      have hmy : m < ys.length := by have := HYl.out; omega
      by_cases hlt : j < xs.length
      · have hjy : j < ys.length := by rw [HYl.out]; exact hlt
        have cj := (HO.out.at (d := none) (by simp)).cell hjy
        rw [HYr.out j (Nat.le_refl _) hlt, Nat.zero_add] at cj
        have hz := HI.out j hlt
        have HFs := hid (filter_snoc (ofPerson p n) hlt)
        obtain ⟨z, hze⟩ : ∃ z, nm xs j = z := ⟨_, rfl⟩
        rw [hze] at cj hz HFs
        obtain ⟨jn, rfl⟩ := Int.eq_ofNat_of_zero_le hz.1
        have hjn : jn < p.parts.length := by omega
        have i1 : (j : Int) < (xs.length : Int) := by omega
        have i2 : (m : Int) < (xs.length : Int) := by omega
        have z1 : IntKind.i64.wrap ((j : Int) + 1) = (j : Int) + 1 := IntWalk.i64_in _ (by omega)
        have z2 : IntKind.i64.wrap ((m : Int) + 1) = (m : Int) + 1 := IntWalk.i64_in _ (by omega)
        have HC := hid (fun W' hb => day2_any p n jn A B vq W' hjn (HP.out W' hb).1 (HP.out W' hb).2.1 (HP.out W' hb).2.2)
        have hbo : base ≤ wo.heap.size := Nat.le_trans hb HB.out.size
        clear hze hz
        cases hg : gone p n (jn : Int) with
        | true =>
          have HF := hid (HYt.out.trans (show _ = (xs.take (j + 1)).filter (ofPerson p n) from by rw [HFs.out, if_neg (by intro e; rw [gone_of.2 e] at hg; cases hg), List.append_nil]))
          rw [hg] at HC
          clear hg
          go_wp2_with (go_at_call 44; refine (HC.out _ HB.out).mono ?_; rintro e w2 ⟨rfl, hb2⟩; have HO := hid (HO.out.later hb2); have HB := hid (HB.out.trans (hb2.mono hbo)); clear hb2)
          go_roundw
          case rel => exact ⟨m, j + 1, ys, rfl, by go_num, by omega, by omega, HYl.out, HF.out, fun t h1 h2 => HYr.out t (by omega) h2, HO.out, HB.out⟩
          case measure => simp [intOf] <;> omega
        | false =>
          have HF := hid (show (ys.set m (jn : Int)).take (m + 1) = (xs.take (j + 1)).filter (ofPerson p n) from by rw [set_take hmy, HFs.out, HYt.out, if_pos (gone_of.1 hg)])
          rw [hg] at HC
          clear hg
          go_wp2_with (go_at_call 44; refine (HC.out _ HB.out).mono ?_; rintro e w2 ⟨rfl, hb2⟩; have HO := hid (HO.out.later hb2); have HB := hid (HB.out.trans (hb2.mono hbo)); clear hb2; have cm := (HO.out.at (d := none) (by simp)).cell hmy; have fm := (own_int.2 HO.out).thaw rfl m; rw [Nat.zero_add] at cm)
          go_roundw
          case rel => exact ⟨m + 1, j + 1, ys.set m (jn : Int), by go_num, by go_num, by omega, by omega, by rw [List.length_set]; exact HYl.out, HF.out, fun t h1 h2 => by rw [nm_setD hmy, if_neg (by omega)]; exact HYr.out t (by omega) h2, HO.out.setI hmy _, HB.out.setCell (p := ⟨g, m, none⟩) hbg _⟩
          case measure => simp [intOf] <;> omega
      · obtain rfl : j = xs.length := by omega
        have hcl : ∀ ty, (Builtin.clear_ #[24] ty #[.slice (some ⟨g, m, none⟩) (xs.length - m) (cap - m)]).run Tryz.prog wo = .ok (.tuple #[]) (wo.setCells g m (List.replicate (xs.length - m) (.int .i64 0))) := fun ty => by
          refine Lib.run_clear_slice wo 24 3 ty (.int .i64 0) Tryz.underlying24 (fun w => by kernel_rfl) rfl rfl g m (xs.length - m) (cap - m) (by omega) (fun t ht => ?_) (fun t ht => (own_int.2 HO.out).thaw rfl _)
          have := (HO.out.at (d := none) (by simp)).cell (i := m + t) (by rw [HYl.out]; omega)
          rw [Nat.zero_add] at this
          rw [this]; rfl
        have HR := hid (show OwnInts base (wo.setCells g m (List.replicate (xs.length - m) (.int .i64 0))) (.slice (some ⟨g, 0, none⟩) m cap) (xs.filter (ofPerson p n)) ∧ Below base w (wo.setCells g m (List.replicate (xs.length - m) (.int .i64 0))) from by
          have hfin := HYt.out
          rw [List.take_length] at hfin
          rw [← hfin]
          refine ⟨?_, Below.setCellsB hbg _ _ _ HB.out⟩
          rcases HO.out.blk with ⟨e, _⟩ | ⟨g', c', cur, e, q1, q2, q3, q4, q5, q6⟩
          · cases e
          · simp only [Value.slice.injEq, Option.some.injEq, Addr.mk.injEq, and_true] at e
            obtain ⟨rfl, _, rfl⟩ := e
            obtain ⟨c1, a1, a2, a3⟩ := heap_setCells (t := 3) (List.replicate (xs.length - m) (Value.int .i64 0)) m wo cur q2
            refine OwnInts.ofBlock q1 a1 (by omega) q4 (by rw [a2, q5]) (by simp; omega) (fun t ht => ?_)
            rw [a3 t (by omega), if_neg (by omega), q6 t (by omega)]
            simp [nm, List.getD_eq_getElem?_getD, ht])
        have i1 : (m : Int) ≤ (xs.length : Int) := by omega
        have i2 : (m : Int) ≤ (cap : Int) := by omega
        have i3 : ¬ cap = m := by omega
        go_wp2_with (simp only [hcl])
        go_ret
        exact ⟨_, rfl, HR.out.1, HR.out.2⟩
where
  nm_setD {ys : List Int} {i : Nat} {y : Int} {j : Nat} (hi : i < ys.length) : nm (ys.set i y) j = if j = i then y else nm ys j := by
    unfold nm
    rw [List.getD_eq_getElem?_getD, List.getElem?_set]
    by_cases e : i = j
    · subst e; simp [hi]
    · rw [if_neg e, if_neg (Ne.symm e), List.getD_eq_getElem?_getD]

theorem dayL_sortD (p : Plot) (n : Int) : dayL p n = (sortD (startF p.parts) p.parts.length).filter (ofPerson p n) := rfl

set_option maxHeartbeats 2000000 in
set_option maxRecDepth 100000 in
theorem person_any (p : Plot) (n : Int) (vp vw vd vq : Value) (w : World) (h : PlotAt none w vp vw vd vq p) :
    Calls Tryz.prog 40 #[plotV vp vw vd vq, .int .i64 n] w fun e w' => e = .returned (.int .i64 (personE p n)) ∧ Below w.heap.size w w' := by
  have HC := hid (fun W' hb => ccheck_any p vp vw vd vq W' (h.below hb))
  obtain ⟨ap, cp, rfl⟩ := h.persons.form
  have K := hid ((HK.start w).box4m (n := w.heap.size) rfl (.slice ap p.persons.length cp) vw vd vq 27)
  clear h
  by_cases hv : plotErr p = 0
  · have hl := (plotErr_zero.1 hv).persons.2
    have zl1 : IntKind.i64.wrap ((p.persons.length : Int) - 1) = (p.persons.length : Int) - 1 := IntWalk.i64_in _ (by omega)
    rw [hv] at HC
    cases hn : inB n 0 ((p.persons.length : Int) - 1) with
    | true =>
      have HE := hid (show personE p n = 0 from by unfold personE; rw [if_pos hv, if_neg (by simp [hn])])
      clear hv
      go_enter Tryz.func40, Tryz.ntmps40
      go_wp2_with (first
        | (go_at_call 26; refine (HC.out _ K.out.below).mono ?_; rintro e w2 ⟨rfl, hb2⟩; have K := hid (K.out.later hb2); clear hb2; have p0 := K.out.c (b := w.heap.size) (o := 0) (v := .slice ap p.persons.length cp) (by simp))
        | (go_at_call 46; refine (cin_any _ _ _ _).mono ?_; rintro e w' ⟨rfl, rfl⟩; rw [hn]))
      go_ret
      exact ⟨ret_int HE.out.symm, K.out.below⟩
    | false =>
      have HE := hid (show personE p n = 7 from by unfold personE; rw [if_pos hv, if_pos hn])
      clear hv
      go_enter Tryz.func40, Tryz.ntmps40
      go_wp2_with (first
        | (go_at_call 26; refine (HC.out _ K.out.below).mono ?_; rintro e w2 ⟨rfl, hb2⟩; have K := hid (K.out.later hb2); clear hb2; have p0 := K.out.c (b := w.heap.size) (o := 0) (v := .slice ap p.persons.length cp) (by simp))
        | (go_at_call 46; refine (cin_any _ _ _ _).mono ?_; rintro e w' ⟨rfl, rfl⟩; rw [hn]))
      go_ret
      exact ⟨ret_int HE.out.symm, K.out.below⟩
  · have HE := hid (show personE p n = plotErr p from by unfold personE; rw [if_neg hv])
    obtain ⟨e1, e2⟩ := ne_bool hv
    clear hv
    go_enter Tryz.func40, Tryz.ntmps40
    go_wp2_with (go_at_call 26; refine (HC.out _ K.out.below).mono ?_; rintro e w2 ⟨rfl, hb2⟩; have K := hid (K.out.later hb2); clear hb2)
    go_ret
    exact ⟨ret_int HE.out.symm, K.out.below⟩

def dayRes (p : Plot) (n : Int) : List Int := if personE p n = 0 then dayL p n else []

set_option maxHeartbeats 2000000 in
set_option maxRecDepth 100000 in
theorem day_any (p : Plot) (n : Int) (vp vw vd vq : Value) (w : World) (h : PlotAt none w vp vw vd vq p) :
    Calls Tryz.prog 15 #[plotV vp vw vd vq, .int .i64 n] w fun e w' => ∃ v', e = .returned (.tuple #[v', .int .i64 (personE p n)]) ∧ OwnInts w.heap.size w' v' (dayRes p n) ∧ Below w.heap.size w w' := by
  have H := hid h
  have HP := hid (fun W' hb => person_any p n vp vw vd vq W' (h.below hb))
  obtain ⟨ap, cp, rfl⟩ := h.persons.form
  obtain ⟨aw, cw, rfl⟩ := h.walk.form
  obtain ⟨ad, cd, ed, _⟩ := h.dress
  subst ed
  obtain ⟨aq, cq, rfl⟩ := h.parts.form
  have K := hid (((HK.start w).box4m (n := w.heap.size) rfl (.slice ap p.persons.length cp) (.slice aw p.walk.length cw) (.slice ad p.dress.length cd) (.slice aq p.parts.length cq) 27).box1n (n := w.heap.size + 1) (by simp) (.int .i64 n) 3)
  clear h
  by_cases hz : personE p n = 0
  · have hv : plotErr p = 0 := by
      by_cases hv : plotErr p = 0
      · exact hv
      · unfold personE at hz; rw [if_neg hv] at hz; exact hz
    have hfew := (plotErr_zero.1 hv).few
    have HR := hid (show dayRes p n = dayL p n from by unfold dayRes; rw [if_pos hz])
    rw [hz] at HP ⊢
    have Hin := hid (show InParts p (sortD (startF p.parts) p.parts.length) from fun j hj => by
      have h1 : nm (sortD (startF p.parts) p.parts.length) j ∈ sortD (startF p.parts) p.parts.length := by rw [nm_get hj]; exact List.getElem_mem _
      exact (sortD_mem _ _ _).1 h1)
    have Hsl := hid (sortD_length (startF p.parts) p.parts.length)
    have hmf : ∀ (fn : Fn) (first cap : Array Value) (w : World), (Instr.makeFunc fn first cap).run Tryz.prog w = .ok (.func fn first cap) w := fun _ _ _ _ => rfl
    clear hz hv
    go_enter Tryz.func15, Tryz.ntmps15
    go_wp2_with (first
      | (go_at_call 40; refine (HP.out _ K.out.below).mono ?_; rintro e w2 ⟨rfl, hb2⟩; have K := hid (K.out.later hb2); clear hb2; have p3 := K.out.c (b := w.heap.size) (o := 3) (v := .slice aq p.parts.length cq) (by simp))
      | (go_at_call 41; refine (sorted_any p.parts _ _ (RecAt.below H.out.parts K.out.below) hfew).mono ?_; rintro e w3 ⟨vs, rfl, hso, hb3⟩; have HS := hid hso; have hA := K.out.clt (b := w.heap.size) (o := 3) (v := .slice aq p.parts.length cq) (by simp); have hB := K.out.clt (b := w.heap.size + 1) (o := 0) (v := .int .i64 n) (by simp); have K2 := K; have hb23 := hid hb3; have K := hid (K.out.later hb3); clear hb3 hso p3; obtain ⟨sa, sc, es⟩ := (own_int.2 HS.out).form; subst es))
    have hPP : ∀ W', Below w2.heap.size w3 W' → PartsAt none W' (.slice aq p.parts.length cq) p.parts ∧ W'.cell? ⟨w.heap.size, 3, none⟩ = some (.slice aq p.parts.length cq) ∧ W'.cell? ⟨w.heap.size + 1, 0, none⟩ = some (.int .i64 n) := fun W' hb => by
      have h1 : Below w2.heap.size w2 W' := hb23.out.trans hb
      have K3 := K2.out.later h1
      exact ⟨RecAt.below H.out.parts K3.below, K3.c (by simp), K3.c (by simp)⟩
    have HDl := hid (delete_any p n _ _ (.slice aq p.parts.length cq) w.heap.size (w.heap.size + 1) w2.heap.size w3 HS.out hb23.out.size (by rw [Hsl.out]; exact hfew) Hin.out hPP)
    have hw2 := hid K2.out.below
    clear hPP
    go_wp2_with (go_at_call 43; refine HDl.out.mono ?_; rintro e w4 ⟨v', rfl, h4, hb4⟩; have H4 := hid h4; have HB4 := hid hb4; clear h4 hb4)
    refine bodyPost_ret (v := .tuple #[v', .int .i64 0]) (by simp [results, Tryz.results15, go_sem]) rfl ⟨v', rfl, ?_, hw2.out.trans ((hb23.out.trans HB4.out).mono hw2.out.size)⟩
    rw [HR.out, dayL_sortD]
    exact OwnInts.base' H4.out hw2.out.size
  · obtain ⟨e1, e2⟩ := ne_bool hz
    have HR := hid (show dayRes p n = [] from by unfold dayRes; rw [if_neg hz])
    clear hz
    go_enter Tryz.func15, Tryz.ntmps15
    go_wp2_with (go_at_call 40; refine (HP.out _ K.out.below).mono ?_; rintro e w2 ⟨rfl, hb2⟩; have K := hid (K.out.later hb2); clear hb2)
    refine bodyPost_ret (v := .tuple #[.slice none 0 0, .int .i64 (personE p n)]) (by simp [results, Tryz.results15, go_sem]) rfl ⟨_, rfl, by rw [HR.out]; exact own_nil _ _, K.out.below⟩
end Go.Proofs.YtoipcbmbhjajfaaGreatDoor
