/-
  ParadePapers: whatever school, text, list of numbers, place, way and byte come in, the call returns true and leaves them as they were: the program's programs are the reference's, and what is read of a text, or which error there is, and where, is what the reference reads.
  CONDITIONS: none on the input; the listed tables and errors of the library read as the program's text lays them (the card ties that); internal/bytealg.MaxLen holds some number.
-/
import Derived.Test.YtefdopifebhgiaaGreatDoorLpq
import Derived.Test.YtefdopifebhgiaaGreatDoorRaw
import Derived.Test.YtefdopifebhgiaaGreatDoorTie
import Derived.Test.YtefdopifebhgiaaGreatDoorCards
import Derived.Lib.LaidTab
import Derived.HandedShaped
import Derived.Shelf.Vars
namespace Go.Proofs.YtefdopifebhgiaaGreatDoor
open Go.ChangeShapes Go.WideShapes Go.ChangeAt Go.WideMaps Go.WideElems Go.RowKit

def laidR : List (String × DataW Unit) := Rows.paradePapersRow.laid
theorem laidR_fits (os : Os) : (World.holding Tryz.prog os ⟨#[], #[], []⟩).layFits Tryz.prog laidR [] = true := by kernel_rfl
theorem laidR_ifaces (os : Os) : (World.holding Tryz.prog os ⟨#[], #[], []⟩).layIfaces Tryz.prog laidR (World.laidAll Tryz.prog os laidR) = true := by kernel_rfl
theorem laidR_met (os : Os) (args : Array Value) : laidMetH Tryz.prog laidR ((World.laidAll Tryz.prog os laidR).forCall (fun _ _ => 0) ⟨#[], args, []⟩).memory := by
  rw [MakeChecks.laidMetH_plain _ _ _ (by kernel_rfl)]
  exact laidMet_laidAll args (laidR_fits os) (laidR_ifaces os)
theorem laidR_shaped (os : Os) (args : Array Value) : ((World.laidAll Tryz.prog os laidR).forCall (fun _ _ => 0) ⟨#[], args, []⟩).Shaped Tryz.prog := World.shaped_of_ZipB (by kernel_rfl) (by kernel_rfl)

theorem pow_data : (Rows.laid_internal_strconv_uint64pow10 : DataW Unit) = Lib.tabData .u64 Lib.pow10Tab := by rfl
theorem pow_named : Tryz.prog.globalNamed "internal/strconv.uint64pow10" = some 0 := by kernel_rfl
theorem pow_type : (Tryz.prog.globals[0]?).map (·.type) = some 146 := by kernel_rfl
theorem pow_elem : Tryz.prog.cellsOf 62 = 1 := by kernel_rfl
theorem pow_cells : Tryz.prog.cellsOf 146 = 20 := by kernel_rfl
theorem rng_named : Tryz.prog.globalNamed "strconv.ErrRange" = some 3 := by kernel_rfl
theorem rng_type : (Tryz.prog.globals[3]?).map (·.type) = some 73 := by kernel_rfl
theorem syn_named : Tryz.prog.globalNamed "strconv.ErrSyntax" = some 2 := by kernel_rfl
theorem syn_type : (Tryz.prog.globals[2]?).map (·.type) = some 73 := by kernel_rfl
/-- what reads as a value of an interface is one -/
theorem iface_of_trod {P : Program} {W : World} {base fuel : Nat} {sp : Nat → Bool} {held : Bool} {t : TypeId} {ms : Array (String × TypeId)} (ht : P.underlying t = some (.interface ms)) {H : Type} {enc : TypeId × Value → H} {l : List Value} {x : DataW H × List MemPlace}
    (h : DataW.trod enc P W base sp held fuel t l = some x) : ∃ v, l = [v] ∧ (v = .nilIface ∨ ∃ u y, v = .iface u y) := by
  cases fuel with
  | zero => simp [DataW.trod] at h
  | succ n =>
    cases l with
    | nil => simp [DataW.trod, ht] at h
    | cons c r =>
      cases r with
      | cons d r => simp [DataW.trod, ht] at h
      | nil =>
        refine ⟨c, rfl, ?_⟩
        cases c with
        | nilIface => exact .inl rfl
        | iface u y => exact .inr ⟨u, y, rfl⟩
        | _ => simp [DataW.trod, ht] at h
theorem big_of_shape {W : World} (h : W.ShapedOpen Tryz.prog) : ∃ m, W.cell? ⟨1, 0, none⟩ = some (.int .i64 m) := Tryz.laysM146.s1_3 W h
set_option maxRecDepth 100000 in
theorem env_of_laid {W : World} (h : laidMetH Tryz.prog laidR W) (hs : W.ShapedOpen Tryz.prog) : Env W := by
  rw [MakeChecks.laidMetH_plain _ _ _ (by kernel_rfl)] at h
  obtain ⟨ps, h0, _⟩ := h
  have h1 : DataW.LaidVars Tryz.prog W [("math/bits.deBruijn32tab", Rows.laid_math_bits_deBruijn32tab), ("math/bits.deBruijn64tab", Rows.laid_math_bits_deBruijn64tab), ("internal/strconv.uint64pow10", Rows.laid_internal_strconv_uint64pow10), ("unicode/utf8.acceptRanges", Rows.laid_unicode_utf8_acceptRanges), ("strconv.ErrRange", Rows.laid_strconv_ErrRange), ("strconv.ErrSyntax", Rows.laid_strconv_ErrSyntax), ("unicode/utf8.first", Rows.laid_unicode_utf8_first)] ps := h0
  obtain ⟨_, _, _, _, _, _, _, _, _, _, h2, _⟩ := h1
  obtain ⟨_, _, _, _, _, _, _, _, _, _, h3, _⟩ := h2
  obtain ⟨g', t', cs, fuel, p, q, hg', ht', hvar, hd, h4, _⟩ := h3
  obtain rfl := Option.some.inj (pow_named.symm.trans hg')
  obtain rfl := Option.some.inj (pow_type.symm.trans ht')
  rw [pow_data] at hd
  obtain ⟨_, _, _, _, _, _, _, _, _, _, h5, _⟩ := h4
  obtain ⟨g5, t5, cs5, fuel5, p5, q5, hg5, ht5, hvar5, hd5, h6, _⟩ := h5
  obtain rfl := Option.some.inj (rng_type.symm.trans (by rw [← Option.some.inj (rng_named.symm.trans hg5)] at ht5; exact ht5))
  obtain ⟨g6, t6, cs6, fuel6, p6, q6, hg6, ht6, hvar6, hd6, _, _⟩ := h6
  obtain rfl := Option.some.inj (syn_type.symm.trans (by rw [← Option.some.inj (syn_named.symm.trans hg6)] at ht6; exact ht6))
  obtain ⟨v5, e5, k5⟩ := iface_of_trod Tryz.underlying73 hd5
  obtain ⟨v6, e6, k6⟩ := iface_of_trod Tryz.underlying73 hd6
  refine ⟨?_, big_of_shape hs, ⟨v6, ?_, k6⟩, ⟨v5, ?_, k5⟩⟩
  · unfold Tab Lib.TabIs
    rw [hvar, ← Lib.cells_of_tab Tryz.underlying146 Tryz.underlying62 pow_elem pow_cells hd]
  · rw [World.var?_cell syn_named hvar6 0, ← Array.getElem?_toList, e6]; rfl
  · rw [World.var?_cell rng_named hvar5 0, ← Array.getElem?_toList, e5]; rfl

/-- the row's wrap, with what is laid and with the world's shape -/
theorem handed_laid_shaped {H : Type} {enc : TypeId × Value → H} {a : Assume} {C : Checked} {os : Os} {f : FuncId} {fn : Func} {s : ChangeSpec} {conds : List PathCond} {apart fresh handsOn again : Bool} {X : World → Array Value → Prop}
    (hX : ∀ (w w' : World) (args : Array Value), w.heap = w'.heap → X w args → X w' args)
    (own : ownKnob C.prog.godebug = none) (started : os.Started) (noInit : C.prog.inits.idxOf? f = none) (hfn : C.prog.funcs[f]? = some fn)
    (witness : ∃ (w : World) (tape : Tape) (i : Input), w.os = os ∧ (w.forCall tape i).Shaped C.prog ∧ i.vars = [] ∧ Input.okWide C.prog (w.forCall tape i) .any w.heap.size f i ∧
      ((s.pre enc C.prog fn conds apart (w.forCall tape i).memory i.args ∧ X (w.forCall tape i).memory i.args) ∧ sizedMet enc C.prog fn (OpenSpec.ofChange s) apart (w.forCall tape i).memory i.args) ∧ a.holds C.prog (lone (Frame.enter C.prog f i.args .normal) [] (w.forCall tape i)))
    (walk : ∀ (W : World) (base : Nat) (args : Array Value) (ds gs : List (DataW H)) (before : List MemPlace), (∀ (j : Nat) t v, fn.params[j]? = some t → args[j]? = some v → Value.okWide C.prog W .any base t v) →
      DataW.Whole enc C.prog fn.params.toList s.vars apart W args.toList ds gs before → X W args → W.ShapedOpen C.prog → Calls C.prog f args W fun e W' => ∃ v, e = .returned v ∧ s.post enc C.prog fn apart fresh handsOn again W args v W') :
    ReturnsInHanded a C os f .any (fun w args => (s.pre enc C.prog fn conds apart w args ∧ X w args) ∧ sizedMet enc C.prog fn (OpenSpec.ofChange s) apart w args) (s.post enc C.prog fn apart fresh handsOn again) := by
  refine returnsInHanded_of_calls own started noInit witness fun w tape i _ hsh _ hok hpre _ => ?_
  obtain ⟨_, _, _, fn', hfn', _, _, _, _, hval⟩ := hok
  cases Option.some.inj (hfn'.symm.trans hfn)
  obtain ⟨⟨⟨ds, gs, before, hw, _⟩, hx⟩, _⟩ := hpre
  refine (walk _ w.heap.size i.args ds gs before hval (DataW.Whole.of_heap (w' := w.forCall tape i) (by rfl) hw) (hX _ _ _ (by rfl) hx) hsh).mono ?_
  rintro e W' ⟨v, rfl, hp⟩
  exact ChangeSpec.post_blind hp

set_option maxRecDepth 100000 in
theorem open_byte {W : World} {base b0 : Nat} {sp : Nat → Bool} {held : Bool} {H : Type} {enc : TypeId × Value → H} {v : Value} {d : DataW H} {p : List MemPlace} (h : DataW.Trod enc Tryz.prog W base sp held 5 v d p) (hv : Value.okWide Tryz.prog W .any b0 5 v) : ∃ z : Int, v = .int .u8 z ∧ (0 ≤ z ∧ z ≤ 255) := by
  obtain ⟨z, rfl, rfl, rfl, hw⟩ := open_int Tryz.underlying5 hv h
  exact ⟨z, rfl, bounds_u8 hw⟩
theorem text_back (s : ByteArray) : s = ⟨s.data.toList.toArray⟩ := by cases s; simp

set_option maxRecDepth 100000 in
theorem paradePapers_lifted (os : Os) (started : os.Started) (H : Type) (enc : TypeId × Value → H) :
    ReturnsInHanded {} Tryz.checked os 3 .any (fun w args => (Rows.paradePapersSpec.pre enc Tryz.prog Tryz.f3 [] false w args ∧ laidMetH Tryz.prog laidR w) ∧ sizedMet enc Tryz.prog Tryz.f3 (OpenSpec.ofChange Rows.paradePapersSpec) false w args)
      (Rows.paradePapersSpec.post enc Tryz.prog Tryz.f3 false true false false) := by
  refine handed_laid_shaped (C := Tryz.checked) (X := fun w _ => laidMetH Tryz.prog laidR w) (fun _ _ _ hh h => h.of_heap hh) own started (by kernel_rfl) Tryz.func3
    (ChangeSpec.witness_shaped (enc := enc) (C := Tryz.checked) (os := os) (X := fun w _ => laidMetH Tryz.prog laidR w) false (World.laidAll Tryz.prog os laidR) #[.agg #[.int .i64 0, .slice none 0 0], .string ByteArray.empty, .slice none 0 0, .int .i64 0, .int .i64 0, .int .u8 0] 8 rfl (laidR_shaped os _) (by kernel_rfl) (by kernel_rfl) (by kernel_rfl) (laidR_met os _)) ?_
  intro W base args ds gs before hval0 hW hL hSh
  have hval : ∀ (j : Nat) t v, Tryz.f3.params[j]? = some t → args[j]? = some v → Value.okWide Tryz.prog W .any base t v := hval0
  have hW' := hW
  obtain ⟨p, q, hA0, hV, rfl, hfz, hnd⟩ := hW
  have hA : DataW.TrodAll enc Tryz.prog W 0 (fun _ => true) true Tryz.f3.params.toList args.toList ds p := hA0
  rw [Tryz.params3] at hA hval
  obtain ⟨rfl, rfl⟩ := trodVars_none hV
  have hpb : ∀ x ∈ p, x.block < W.heap.size := fun x hx => by simpa using hW'.lt x (by simpa using hx)
  obtain ⟨v0, r0, d0, s0, p0, q0, hr0, rfl, rfl, h0, hA0x⟩ := trodAll_cons hA
  obtain ⟨v1, r1, d1, s1, p1, q1, rfl, rfl, rfl, h1, hA1x⟩ := trodAll_cons hA0x
  obtain ⟨v2, r2, d2, s2, p2, q2, rfl, rfl, rfl, h2, hA2x⟩ := trodAll_cons hA1x
  obtain ⟨v3, r3, d3, s3, p3, q3, rfl, rfl, rfl, h3, hA3x⟩ := trodAll_cons hA2x
  obtain ⟨v4, r4, d4, s4, p4, q4, rfl, rfl, rfl, h4, hA4x⟩ := trodAll_cons hA3x
  obtain ⟨v5, r5, d5, s5, p5, q5, rfl, rfl, rfl, h5, hA5x⟩ := trodAll_cons hA4x
  obtain ⟨rfl, rfl, rfl⟩ := trodAll_nil hA5x
  obtain rfl : args = #[v0, v1, v2, v3, v4, v5] := by cases args; simp_all
  obtain ⟨route, vw, ws, rfl, hW0, _⟩ := open_school h0 (hval 0 24 v0 rfl rfl)
  obtain ⟨s, rfl, _, _, _⟩ := Go.ChangeMaps.open_string Tryz.underlying9 (hval 1 9 v1 rfl rfl) h1
  obtain ⟨xs2, hX2, hn2⟩ := open_nums' h2 (hval 2 25 v2 rfl rfl)
  obtain ⟨z3, rfl, hz3⟩ := open_num h3 (hval 3 3 v3 rfl rfl)
  obtain ⟨z4, rfl, hz4⟩ := open_num h4 (hval 4 3 v4 rfl rfl)
  obtain ⟨z5, rfl, hz5⟩ := open_byte h5 (hval 5 5 v5 rfl rfl)
  have hwalk := ppapers_law route ws vw s.data.toList xs2 v2 z3 z4 z5 W hW0 hX2 hn2 hz3 hz4 hz5 (env_of_laid hL hSh)
  rw [← text_back s] at hwalk
  refine hwalk.mono fun e W' ⟨he, hb⟩ => ?_
  subst he
  have e1 : Rows.paradePapersSpec.fn H ([d0, d1, d2, d3, d4, d5] ++ []) = { results := [.lit (.bool true)], args := [d0, d1, d2, d3, d4, d5] } := rfl
  refine ⟨_, rfl, _, _, _, [], p0 ++ (p1 ++ (p2 ++ (p3 ++ (p4 ++ (p5 ++ ([])))))), [], hW', ?_, ?_, ?_, ?_, fun h => by cases h⟩
  · rw [e1]; exact trodAll_mk1 (shut_bool Tryz.underlying4 true)
  · rw [e1]; exact trodAll_cons_mk (Below.trod laidOut (by kernel_rfl) (of_decide_eq_true (by kernel_rfl)) h0 hb (fun x hx => hpb x (by simp [hx]))) (trodAll_cons_mk (Below.trod laidOut (by kernel_rfl) (of_decide_eq_true (by kernel_rfl)) h1 hb (fun x hx => hpb x (by simp [hx]))) (trodAll_cons_mk (Below.trod laidOut (by kernel_rfl) (of_decide_eq_true (by kernel_rfl)) h2 hb (fun x hx => hpb x (by simp [hx]))) (trodAll_cons_mk (Below.trod laidOut (by kernel_rfl) (of_decide_eq_true (by kernel_rfl)) h3 hb (fun x hx => hpb x (by simp [hx]))) (trodAll_cons_mk (Below.trod laidOut (by kernel_rfl) (of_decide_eq_true (by kernel_rfl)) h4 hb (fun x hx => hpb x (by simp [hx]))) (trodAll_cons_mk (Below.trod laidOut (by kernel_rfl) (of_decide_eq_true (by kernel_rfl)) h5 hb (fun x hx => hpb x (by simp [hx]))) (trodAll_mk0))))))
  · rw [e1]; rfl
  · exact hb.frame _

theorem paradePapers_holds : Rows.ParadePapersSaid :=
  OpenClaim.holds_of_wide 3 Tryz.f3 rfl rfl rfl rfl rfl rfl rfl ⟨rfl, rfl, rfl, rfl, rfl⟩ rfl rfl rfl rfl rfl (by kernel_rfl) Tryz.func3 (by kernel_rfl)
    (of_decide_eq_true (by kernel_rfl)) (by unfold Func.isWrapper; first | (rw [if_pos (by decide +kernel)]; kernel_rfl) | (rw [if_neg (by decide +kernel)]; exact ⟨rfl, rfl⟩))
    (fun os started H enc _ => paradePapers_lifted os started H enc)

theorem paradePapers_card : Rows.ParadePapersCardSaid :=
  Claim7.holds_tied_plain_at .later [] [.data, .data, .data, .data, .sentinel, .sentinel, .pinned] true (true, "4bddab9245b73bed5c0f4609374c7af7ac1e0d1f4b8c5bb988a5bf65246eec21") true
    paradePapers_holds (fun _ h => by cases h) (by kernel_rfl) (fun _ h => by cases h) paradePapers_row_tie rfl ⟨rfl, rfl⟩ (by kernel_rfl) rfl
    (fun f fn hf hfn => by
      obtain rfl : f = 3 := Option.some.inj ((show Tryz.prog.funcNamed Rows.paradePapersRow.func = some 3 by kernel_rfl).symm.trans hf) |>.symm
      obtain rfl : fn = Tryz.f3 := (Option.some.inj (Tryz.func3.symm.trans hfn)).symm
      exact ⟨by kernel_rfl, fun j t ht => by
        rw [Tryz.params3] at ht
        have hm : t ∈ [24, 9, 25, 3, 5] := by have := Array.mem_of_getElem? ht; simp at this ⊢; omega
        have hall : ([24, 9, 25, 3, 5].all fun u => !Tryz.prog.wantsStandIn u) = true := by kernel_rfl
        exact (show Tryz.prog.wantsStandIn t = false by simpa using List.all_eq_true.1 hall t hm)⟩)
    (by kernel_rfl)
end Go.Proofs.YtefdopifebhgiaaGreatDoor
