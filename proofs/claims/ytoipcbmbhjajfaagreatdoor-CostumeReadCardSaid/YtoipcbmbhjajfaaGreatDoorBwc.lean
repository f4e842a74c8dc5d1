/-
  WALKS: costume.Write.
-/
import Derived.Test.YtoipcbmbhjajfaaGreatDoorBww
namespace Go.Proofs.YtoipcbmbhjajfaaGreatDoor
open Go.RowKit

theorem Bd.grown {B b base : Nat} {l : List UInt8} {w w' : World} {v : Value} {xs : List Int} (h : Bd B b l w) (ho : OwnInts base w v xs) (hg : w.grownBy w' v.ownBlock) : Bd B b l w' := by
  have hty : ∀ g, v.ownBlock = some g → ∃ cur, w.heap[g]? = some (.cells cur 3 (0, 0)) := fun g hgv => by
    rcases ho.2 with ⟨rfl, _⟩ | ⟨g', cap, cur, rfl, _, hh, _⟩
    · cases hgv
    · cases (Option.some.inj hgv : g' = g); exact ⟨cur, hh⟩
  have go : ∀ p, Lib.BuilderAtF 69 5 B b p (Lib.byteCells l) w → Lib.BuilderAtF 69 5 B b p (Lib.byteCells l) w' := fun p ⟨h1, u, h2, h3, h4⟩ => by
    have hlt : b < w.heap.size := by
      rcases Nat.lt_or_ge b w.heap.size with h' | h'
      · exact h'
      · rw [Array.getElem?_eq_none h'] at h2; cases h2
    refine ⟨h1, u, (hg.block b hlt (fun e => ?_)).trans h2, h3.kept hg ?_, h4⟩
    · obtain ⟨cur, hh⟩ := hty b e.symm
      rw [hh] at h2
      cases h2
    · rcases h3.2 with ⟨rfl, _⟩ | ⟨g, cap, cur, fz', rfl, hb', hgg, _⟩
      · exact .inl rfl
      · refine .inr (fun e => ?_)
        obtain ⟨cur', hh⟩ := hty g e.symm
        rw [hh] at hgg
        cases hgg
  exact h.elim (fun x => .inl (go _ x)) (fun x => .inr (go _ x))

/-- what stays while a sheet is written -/
structure WC (b : Nat) (l : List UInt8) (wS w : World) : Prop where
  bd : Bd b b l w
  below : Below b wS w
theorem WC.wrote {b : Nat} {l l' : List UInt8} {wS w w' : World} (k : WC b l wS w) (h : Wrote b b l' w w') : WC b l' wS w' := ⟨h.bd, k.below.trans h.below⟩
theorem WC.later {b : Nat} {l : List UInt8} {wS w w' : World} (k : WC b l wS w) (h : Below w.heap.size w w') : WC b l wS w' := ⟨k.bd.later h, k.below.trans (h.mono (Nat.le_of_lt k.bd.lt))⟩

theorem run_five_n (w : World) (x0 x1 x2 x3 x4 : Int) : (Instr.buildSlice 24 5 #[(0, .int .i64 x0), (1, .int .i64 x1), (2, .int .i64 x2), (3, .int .i64 x3), (4, .int .i64 x4)]).run Tryz.prog w =
    .ok (.slice (some ⟨w.heap.size, 0, none⟩) 5 5) (w.alloc (.cells #[.int .i64 x0, .int .i64 x1, .int .i64 x2, .int .i64 x3, .int .i64 x4] 3)) := by
  kernel_rfl
theorem wpList_five_n {w : World} {ops : Array Oper} {rest : List Oper} {a : Act} {Q : Exit → Act → World → Prop} {o : Oper} (hgd : o.guard = none) (s0 s1 s2 s3 s4 : Operand) (x0 x1 x2 x3 x4 : Int)
    (ho : o.op = .buildSlice 24 5 #[(0, s0), (1, s1), (2, s2), (3, s3), (4, s4)])
    (h0 : a.eval s0 = .int .i64 x0) (h1 : a.eval s1 = .int .i64 x1) (h2 : a.eval s2 = .int .i64 x2) (h3 : a.eval s3 = .int .i64 x3) (h4 : a.eval s4 = .int .i64 x4)
    (h : wpList Tryz.prog ops Q rest (a.put o.dst (.slice (some ⟨w.heap.size, 0, none⟩) 5 5)) (w.alloc (.cells #[.int .i64 x0, .int .i64 x1, .int .i64 x2, .int .i64 x3, .int .i64 x4] 3))) :
    wpList Tryz.prog ops Q (o :: rest) a w := wpList_plain hgd fun _ hK => by
  unfold Oper.wp execOp
  simp only [ho]
  have e : (#[(0, s0), (1, s1), (2, s2), (3, s3), (4, s4)].map fun (p : Nat × Operand) => (p.1, a.eval p.2)) = #[(0, .int .i64 x0), (1, .int .i64 x1), (2, .int .i64 x2), (3, .int .i64 x3), (4, .int .i64 x4)] := by
    simp [h0, h1, h2, h3, h4]
  rw [e]
  simp only [Sem.run_bind, Sem.run_pure, Result.andThen_ok, run_five_n]
  exact hK _ _ h

set_option maxHeartbeats 8000000 in
set_option maxRecDepth 100000 in
theorem cwrite_any (p : Plot) (vp vw vd vq : Value) (w : World) (h : PlotAt none w vp vw vd vq p) (ht : Tab w) :
    Calls Tryz.prog 9 #[plotV vp vw vd vq] w fun e w' => e = .returned (.tuple #[.string ⟨(sheetRes p).toArray⟩, .int .i64 (plotErr p)]) ∧ Below w.heap.size w w' := by
  have H := hid h
  have HT := hid ht
  have HC := hid (fun W' hb => ccheck_any p vp vw vd vq W' (H.out.below hb))
  obtain ⟨ap, cp, rfl⟩ := h.persons.form
  obtain ⟨aw, cw, rfl⟩ := h.walk.form
  obtain ⟨ad, cd, ed, _⟩ := h.dress
  subst ed
  obtain ⟨aq, cq, rfl⟩ := h.parts.form
  clear h ht
  have K := hid ((HK.start w).box4m (n := w.heap.size) rfl (.slice ap p.persons.length cp) (.slice aw p.walk.length cw) (.slice ad p.dress.length cd) (.slice aq p.parts.length cq) 27)
  by_cases hc : plotErr p = 0
  rotate_left
  · obtain ⟨e1, e2⟩ := ne_bool hc
    have hr : sheetRes p = [] := by unfold sheetRes; rw [if_neg hc]
    rw [hr]
    obtain ⟨ce, hce⟩ : ∃ ce, plotErr p = ce := ⟨_, rfl⟩
    rw [hce] at HC e1 e2 ⊢
    clear hc hr hce
    go_enter Tryz.func9, Tryz.ntmps9
    go_wp2_with (go_at_call 26; refine (HC.out _ K.out.below).mono ?_; rintro e w1 ⟨rfl, hb1⟩; have K := hid (K.out.later hb1); clear hb1)
    go_ret2
    exact ⟨rfl, K.out.below⟩
  · have HV := hid (plotErr_zero.1 hc)
    have hr : sheetRes p = sheetL p := by unfold sheetRes; rw [if_pos hc]
    rw [hr, hc]
    rw [hc] at HC
    have hmf : ∀ (fn : Fn) (first cap : Array Value) (w : World), (Instr.makeFunc fn first cap).run Tryz.prog w = .ok (.func fn first cap) w := fun _ _ _ _ => rfl
    clear hr hc
    go_enter Tryz.func9, Tryz.ntmps9
    go_wp2_with (go_at_call 26; refine (HC.out _ K.out.below).mono ?_; rintro e w1 ⟨rfl, hb1⟩; have K := hid (K.out.later hb1); clear hb1; have c0 := cell_up (X := .cells #[.pointer none, .slice none 0 0] 69) (K.out.c (b := w.heap.size) (o := 0) (v := .slice ap p.persons.length cp) (by simp)))
    have x0 := K.out.c (b := w.heap.size) (o := 0) (v := .slice ap p.persons.length cp) (by simp)
    have x1 := K.out.c (b := w.heap.size) (o := 1) (v := .slice aw p.walk.length cw) (by simp)
    have x2 := K.out.c (b := w.heap.size) (o := 2) (v := .slice ad p.dress.length cd) (by simp)
    have x3 := K.out.c (b := w.heap.size) (o := 3) (v := .slice aq p.parts.length cq) (by simp)
    have hTl := World.block_lt_of_cell? w1 ⟨w.heap.size, 0, none⟩ x0
    have HX1 := hid (fun (W' : World) (hb : Below w1.heap.size w1 W') => cell_back hb hTl x1)
    have HX2 := hid (fun (W' : World) (hb : Below w1.heap.size w1 W') => cell_back hb hTl x2)
    have HX3 := hid (fun (W' : World) (hb : Below w1.heap.size w1 W') => cell_back hb hTl x3)
    have HP := hid (fun (W' : World) (hb : Below w1.heap.size w1 W') => (H.out.below K.out.below).below hb)
    have HP1 := hid (H.out.below K.out.below)
    have HTB := hid (fun (W' : World) (hb : Below w1.heap.size w1 W') => (((Tb.of HT.out).go K.out.below).up K.out.below.size).go hb)
    have HBW := hid (fun (W' : World) (hb : Below w1.heap.size w1 W') => below_trans K.out.below hb)
    have KW := hid (show WC w1.heap.size [] w1 (w1.alloc (.cells #[.pointer none, .slice none 0 0] 69)) from ⟨Bd.fresh w1, below_alloc _ _⟩)
    clear x0 x1 x2 x3 hTl c0
    go_loopw [7, 23] (fun s i wr => ∃ k : Nat, k ≤ p.persons.length ∧ i = .int .i64 k ∧ OwnInts w1.heap.size wr s (sizesL (p.persons.take k)) ∧ WC w1.heap.size [] w1 wr) (fun _ i _ => p.persons.length - (intOf i).toNat)
    case atStart => exact ⟨0, by omega, rfl, own_nil _ _, KW.out⟩
    case round =>
      obtain ⟨k, hk, rfl, ho, hkw⟩ := hrel
      obtain ⟨wo, rfl⟩ : ∃ wo : World, wo = wr := ⟨_, rfl⟩
      have KR := hid hkw
      have HO := hid ho
      have HPl := hid HV.out.persons
      obtain ⟨sa, sc, es⟩ := (own_int.2 ho).form
      have hsl : (sizesL (p.persons.take k)).length = 2 * k := by rw [sizesL_length, List.length_take]; omega
      rw [hsl] at es
      subst es
      clear hkw ho hsl
      by_cases hlt : k < p.persons.length
      · have hg := SpansAt.cells (HP.out _ KR.out.below).persons hlt
        obtain ⟨bp, op, rfl, _, q0, q1⟩ := hg
        have i1 : (k : Int) < (p.persons.length : Int) := by omega
        have z2 : IntKind.i64.wrap ((k : Int) + 1) = (k : Int) + 1 := IntWalk.i64_in _ (by have := HPl.out; omega)
        have HST := hid (sizesL_take p.persons hlt)
        obtain ⟨lo, hlo⟩ : ∃ lo, (sp p.persons k).1 = lo := ⟨_, rfl⟩
        obtain ⟨hi, hhi⟩ : ∃ hi, (sp p.persons k).2 = hi := ⟨_, rfl⟩
        rw [hlo] at q0 HST
        rw [hhi] at q1 HST
        have BA := hid (below_trans (below_alloc wo (.cells #[.int .i64 lo, .int .i64 hi] 58)) (below_alloc _ (.cells #[.int .i64 lo, .int .i64 hi] 3)))
        have HI := hid (OwnInts.at (d := none) (own_lit (wo.alloc (.cells #[.int .i64 lo, .int .i64 hi] 58)) [lo, hi] #[.int .i64 lo, .int .i64 hi] rfl (by simp) (n := 2) (g := wo.heap.size + 1) rfl (by simp)) (by simp))
        have HQ1 := hid (show (sizesL (p.persons.take k)).length + [lo, hi].length ≤ 1000000 from by rw [sizesL_length, List.length_take]; have := HPl.out; simp; omega)
        have HQ2 := hid (show w1.heap.size ≤ ((wo.alloc (.cells #[.int .i64 lo, .int .i64 hi] 58)).alloc (.cells #[.int .i64 lo, .int .i64 hi] 3)).heap.size from Nat.le_trans (Nat.le_of_lt KR.out.bd.lt) BA.out.size)
        clear hlo hhi
        have HOW := hid (own_int.2 (HO.out.later BA.out))
        have HSR := hid (Src.ints HI.out (IntsAt.soundI HI.out (by simp)))
        have HLN := hid (show (sizesL (p.persons.take k) ++ [lo, hi]).length = 2 * k + 2 from by rw [List.length_append, sizesL_length, List.length_take, Nat.min_eq_left hk]; rfl)
        have HBL := hid (fun v' w2 (hown' : OwnR encInt 1 3 w1.heap.size w2 v' (sizesL (p.persons.take k) ++ [lo, hi])) (hg : ((wo.alloc (.cells #[.int .i64 lo, .int .i64 hi] 58)).alloc (.cells #[.int .i64 lo, .int .i64 hi] 3)).grownBy w2 (Value.slice sa (2 * k) sc).ownBlock) => (show OwnInts w1.heap.size w2 v' (sizesL (p.persons.take (k + 1))) ∧ WC w1.heap.size [] w1 w2 from ⟨by rw [HST.out]; exact own_int.1 hown', ((KR.out.later BA.out).bd).grown (HO.out.later BA.out) hg, (KR.out.later BA.out).below.grown hg HQ2.out (fun j hj => ((own_int.2 HO.out).lt hj).1)⟩))
        go_wp2_with (at_builtin; refine wpList_app encInt Tryz.underlying24 infoInt' (by decide) (by decide) (fun _ => rfl) rfl _ _ rfl w1.heap.size (sizesL (p.persons.take k)) [lo, hi] (fun y _ => encInt_one y) _ _ rfl rfl HOW.out HSR.out HQ1.out HQ2.out ?_; intro v' w2 hown' hg _ _; have hbl := HBL.out v' w2 hown' hg; obtain ⟨a2, c2, e2⟩ := hown'.form; rw [HLN.out] at e2; subst e2; have KR := hid hbl.2; have HO := hid hbl.1; clear hown' hg hbl)
        go_roundw
        case rel => exact ⟨k + 1, by omega, by go_num, HO.out, KR.out⟩
        case measure => simp [intOf] <;> omega
      obtain rfl : k = p.persons.length := by omega
      rw [List.take_length] at HO
      go_wp2_with fail
      refine (row_any personsW (sizesL p.persons) _ w1.heap.size w1.heap.size [] _ (Stay.own HO.out KR.out.bd) (fine_sizes HV.out) KR.out.bd (HTB.out _ KR.out.below) ?_ (Nat.le_of_lt KR.out.bd.lt)).mono ?_
      · rw [sizesL_length]; have := HPl.out; simp [personsW]; omega
      rintro e w3 ⟨rfl, g⟩
      have KR := hid (show WC w1.heap.size (upToWalk p) w1 w3 from KR.out.wrote g)
      have y1 := HX1.out _ KR.out.below
      have HWl := hid HV.out.walk
      clear g HO
      go_wp2_with fail
      go_loopw [41] (fun i wr => ∃ k : Nat, k ≤ p.walk.length ∧ i = .int .i64 k ∧ WC w1.heap.size (walksL p.walk (upToWalk p) k) w1 wr) (fun i _ => p.walk.length - (intOf i).toNat)
      case atStart => exact ⟨0, by omega, rfl, KR.out⟩
      case round =>
        obtain ⟨k, hk, rfl, hkw⟩ := hrel
        obtain ⟨wo, rfl⟩ : ∃ wo : World, wo = wr := ⟨_, rfl⟩
        have KR := hid hkw
        have HL := hid (walksL_len HV.out (b := upToWalk p) hk)
        have HL1 := hid (upToWalk_len HV.out)
        clear hkw
        by_cases hlt : k < p.walk.length
        · obtain ⟨bw, ow, u, rfl, hbw, q1, hrow⟩ := ListsAt.row HP1.out.walk hlt
          have q0 := cell_back KR.out.below hbw q1
          have HS := hid (Stay.low (b := w1.heap.size) hrow KR.out.below rfl)
          obtain ⟨au, cu, eu, _⟩ := hrow
          subst eu
          have i1 : (k : Int) < (p.walk.length : Int) := by omega
          have z2 : IntKind.i64.wrap ((k : Int) + 1) = (k : Int) + 1 := IntWalk.i64_in _ (by have := HWl.out; omega)
          have HF := hid (fine_walk HV.out hlt)
          clear q1 hbw
          go_wp2_with fail
          refine (row_any walkW (lst p.walk k) _ w1.heap.size w1.heap.size (walksL p.walk (upToWalk p) k) _ HS.out HF.out.1 KR.out.bd (HTB.out _ KR.out.below) ?_ (Nat.le_of_lt KR.out.bd.lt)).mono ?_
          · have := HL.out; have := HL1.out; have := HF.out.2; have := HWl.out; simp [walkW]; omega
          rintro e w4 ⟨rfl, g⟩
          have KR := hid (show WC w1.heap.size (walksL p.walk (upToWalk p) (k + 1)) w1 w4 from KR.out.wrote g)
          clear g q0
          go_wp2_with fail
          go_roundw
          case rel => exact ⟨k + 1, by omega, by go_num, KR.out⟩
          case measure => simp [intOf] <;> omega
        obtain rfl : k = p.walk.length := by omega
        have KR := hid (show WC w1.heap.size (upToDress p) w1 wo from KR.out)
        have y2 := HX2.out _ KR.out.below
        have HDl := hid HV.out.dress
        have HL2 := hid (upToDress_len HV.out)
        go_wp2_with fail
        refine (row_any dressW p.dress _ w1.heap.size w1.heap.size (upToDress p) _ (Stay.low HP1.out.dress KR.out.below rfl) (fine_dress HV.out) KR.out.bd (HTB.out _ KR.out.below) ?_ (Nat.le_of_lt KR.out.bd.lt)).mono ?_
        · have := HL2.out; have := HDl.out; simp [dressW]; omega
        rintro e w5 ⟨rfl, g⟩
        have KR := hid (show WC w1.heap.size (upToParts p) w1 w5 from KR.out.wrote g)
        have y3 := HX3.out _ KR.out.below
        have HQl := hid HV.out.few
        have HL3 := hid (upToParts_len HV.out)
        clear g y1 y2
        go_wp2_with fail
        go_loopw [56] (fun i wr => ∃ k : Nat, k ≤ p.parts.length ∧ i = .int .i64 k ∧ WC w1.heap.size (partsL p.parts (upToParts p) k) w1 wr) (fun i _ => p.parts.length - (intOf i).toNat)
        case atStart => exact ⟨0, by omega, rfl, KR.out⟩
        case round =>
          obtain ⟨k, hk, rfl, hkw⟩ := hrel
          obtain ⟨wp, rfl⟩ : ∃ wp : World, wp = wr := ⟨_, rfl⟩
          have KR := hid hkw
          have HL := hid (partsL_len HV.out (b := upToParts p) hk)
          clear hkw
          by_cases hlt : k < p.parts.length
          · have hg := PartsAt.cells (HP.out _ KR.out.below).parts hlt
            obtain ⟨bq, oq, rfl, _, d0, d1, d2, d3, d4⟩ := hg
            have i1 : (k : Int) < (p.parts.length : Int) := by omega
            have z2 : IntKind.i64.wrap ((k : Int) + 1) = (k : Int) + 1 := IntWalk.i64_in _ (by have := HQl.out; omega)
            have HF := hid (fine_part HV.out hlt)
            have HST := hid (show partsL p.parts (upToParts p) (k + 1) = rowL partW (partN (pt p.parts k)) (partsL p.parts (upToParts p) k) from rfl)
            obtain ⟨x, hx⟩ : ∃ x, pt p.parts k = x := ⟨_, rfl⟩
            rw [hx] at d0 d1 d2 d3 d4 HF HST
            have HLT := hid hlt
            clear hx
            have BA := hid (below_trans (below_alloc wp (.cells #[.int .i64 x.person, .int .i64 x.place, .int .i64 x.kind, .int .i64 x.start, .int .i64 x.stop] 60)) (below_alloc _ (.cells #[.int .i64 x.person, .int .i64 x.place, .int .i64 x.kind, .int .i64 x.start, .int .i64 x.stop] 3)))
            have HI := hid (own_lit (wp.alloc (.cells #[.int .i64 x.person, .int .i64 x.place, .int .i64 x.kind, .int .i64 x.start, .int .i64 x.stop] 60)) (partN x) #[.int .i64 x.person, .int .i64 x.place, .int .i64 x.kind, .int .i64 x.start, .int .i64 x.stop] rfl (by simp [partN]) (n := 5) (g := wp.heap.size + 1) rfl (by simp))
            have KR := hid (KR.out.later BA.out)
            go_wp2_with (refine wpList_five_n rfl _ _ _ _ _ _ _ _ _ _ rfl rfl rfl rfl rfl rfl ?_)
            refine (row_any partW (partN x) _ w1.heap.size w1.heap.size (partsL p.parts (upToParts p) k) _ (Stay.own HI.out KR.out.bd) HF.out KR.out.bd (HTB.out _ KR.out.below) ?_ (Nat.le_of_lt KR.out.bd.lt)).mono ?_
            · have := HL.out; have := HL3.out; have := HQl.out; have := HLT.out; simp [partW, partN]; omega
            rintro e w6 ⟨rfl, g⟩
            have KR := hid (show WC w1.heap.size (partsL p.parts (upToParts p) (k + 1)) w1 w6 from by rw [HST.out]; exact KR.out.wrote g)
            clear g d0 d1 d2 d3 d4
            go_wp2_with fail
            go_roundw
            case rel => exact ⟨k + 1, by omega, by go_num, KR.out⟩
            case measure => simp [intOf] <;> omega
          obtain rfl : k = p.parts.length := by omega
          have y4 := HX3.out _ KR.out.below
          have HI := hid (own_lit wp [(p.parts.length : Int)] #[.int .i64 p.parts.length] rfl (by simp) (n := 1) (g := wp.heap.size) rfl rfl)
          have KR := hid (KR.out.later (below_alloc wp (.cells #[.int .i64 p.parts.length] 3)))
          go_wp2_with fail
          refine (row_any endW [(p.parts.length : Int)] _ w1.heap.size w1.heap.size (partsL p.parts (upToParts p) p.parts.length) _ (Stay.own HI.out KR.out.bd) ?_ KR.out.bd (HTB.out _ KR.out.below) ?_ (Nat.le_of_lt KR.out.bd.lt)).mono ?_
          · intro i hi
            obtain rfl : i = 0 := by have : i < 1 := hi; omega
            show 0 ≤ (p.parts.length : Int) ∧ (p.parts.length : Int) ≤ 1000000
            have := HQl.out
            omega
          · have := HL.out; have := HL3.out; have := HQl.out; simp [endW]; omega
          rintro e w7 ⟨rfl, g⟩
          have KR := hid (show WC w1.heap.size (sheetL p) w1 w7 from KR.out.wrote g)
          clear g y4
          go_wp2_with fail
          refine (str_any _ _ _ _ KR.out.bd (Nat.le_of_lt KR.out.bd.lt)).mono ?_
          rintro e w8 ⟨rfl, g⟩
          have KB := hid (HBW.out _ (KR.out.below.trans g))
          clear g
          go_wp2_with fail
          go_ret2
          exact ⟨rfl, KB.out⟩
end Go.Proofs.YtoipcbmbhjajfaaGreatDoor
