/-
  A SET OF NUMBERS that a call keeps in a map of structs of one number: what it holds, asked and added to. Over any program.
  WALKS: what a wear costs: cost.
-/
import Derived.Maps.Own
import Derived.RowKit
import Derived.Test.YtoipcbmbhjajfaaGreatDoorCwe
import Derived.DeepKeys4
import Derived.WideKeyArgs
namespace Go.Proofs.YtoipcbmbhjajfaaGreatDoor
open Go.RowKit Go.Maps Go.ChangeMaps

def oneKey (n : Int) : Value := .agg #[.int .i64 n]
/-- block b is a map whose keys are the numbers xs, each true -/
def NumSet (w : World) (b : Nat) (xs : List Int) : Prop :=
  ∃ es clock, w.heap[b]? = some (.map es clock) ∧ es.toList.map (·.key) = xs.map oneKey ∧ ∀ e, e ∈ es.toList → e.val = .bool true
theorem NumSet.made (w : World) : NumSet (w.alloc (.map #[] 0)) w.heap.size [] := ⟨#[], 0, (MapKept.heap_alloc w _).1, rfl, fun e h => by simp at h⟩
theorem NumSet.lt {w : World} {b : Nat} {xs : List Int} (h : NumSet w b xs) : b < w.heap.size := by
  obtain ⟨es, c, hb, _⟩ := h
  exact (Array.getElem?_eq_some_iff.1 hb).1
theorem NumSet.kept {w w' : World} {b : Nat} {xs : List Int} {row : Option Nat} (h : NumSet w b xs) (hg : w.grownBy w' row) (hne : some b ≠ row) : NumSet w' b xs := by
  have hlt := h.lt
  obtain ⟨es, c, hb, h1, h2⟩ := h
  exact ⟨es, c, (hg.block b hlt hne).trans hb, h1, h2⟩
theorem oneKey_inj {a b : Int} (h : oneKey a = oneKey b) : a = b := by unfold oneKey at h; simpa using h
theorem NumSet.find {P : Program} {k : TypeId} (K : Keyed P k) (hk : ∀ n, -9223372036854775808 ≤ n → n ≤ 9223372036854775807 → ∃ l, keyOf P k (oneKey n) = some l) {es : Array MapEntry} {xs : List Int} (hx : ∀ n, n ∈ xs → -9223372036854775808 ≤ n ∧ n ≤ 9223372036854775807)
    (h1 : es.toList.map (·.key) = xs.map oneKey) (n : Int) (hn1 : -9223372036854775808 ≤ n) (hn2 : n ≤ 9223372036854775807) (w : World) :
    (n ∉ xs ∧ (Instr.findKey k (oneKey n) es.toList).run P w = .ok none w) ∨ (n ∈ xs ∧ ∃ j e, (Instr.findKey k (oneKey n) es.toList).run P w = .ok (some (j, e.val)) w ∧ e ∈ es.toList) := by
  obtain ⟨l, hl⟩ := hk n hn1 hn2
  have hkeys : ∀ e, e ∈ es.toList → ∃ m, m ∈ xs ∧ e.key = oneKey m := fun e he => by
    have : e.key ∈ es.toList.map (·.key) := List.mem_map_of_mem he
    rw [h1, List.mem_map] at this
    obtain ⟨m, hm, e2⟩ := this
    exact ⟨m, hm, e2.symm⟩
  rcases K.find w hl es.toList (fun e he => by
    obtain ⟨m, hm, e2⟩ := hkeys e he
    rw [e2]
    exact hk m (hx m hm).1 (hx m hm).2) with ⟨hr, hno⟩ | ⟨j, e, hr, hj, hek⟩
  · refine .inl ⟨fun hmem => ?_, hr⟩
    have : oneKey n ∈ es.toList.map (·.key) := by rw [h1]; exact List.mem_map_of_mem hmem
    obtain ⟨e, he, e2⟩ := List.mem_map.1 this
    exact hno e he e2
  · have he : e ∈ es.toList := List.mem_of_getElem? hj
    obtain ⟨m, hm, e2⟩ := hkeys e he
    have : m = n := oneKey_inj (e2.symm.trans hek)
    exact .inr ⟨this ▸ hm, j, e, hr, he⟩

/-- asked -/
theorem NumSet.ask {P : Program} {t k e : TypeId} (K : Keyed P k) (ht : P.underlying t = some (.map k e)) (hk : ∀ n, -9223372036854775808 ≤ n → n ≤ 9223372036854775807 → ∃ l, keyOf P k (oneKey n) = some l) {w : World} {b : Nat} {xs : List Int}
    (hz : (zeroValue e).run P w = .ok (.bool false) w) (h : NumSet w b xs) (hx : ∀ n, n ∈ xs → -9223372036854775808 ≤ n ∧ n ≤ 9223372036854775807) (n : Int) (hn1 : -9223372036854775808 ≤ n) (hn2 : n ≤ 9223372036854775807) :
    (Instr.lookup t (.map (some b)) (oneKey n) false).run P w = .ok (.bool (decide (n ∈ xs))) w := by
  obtain ⟨es, c, hb, h1, h2⟩ := h
  obtain ⟨l, hl⟩ := hk n hn1 hn2
  have hc := fun em => K.check w em hl
  rcases NumSet.find K hk hx h1 n hn1 hn2 w with ⟨hno, hr⟩ | ⟨hyes, j, e0, hr, he⟩
  · simp [Instr.lookup, run_underlying ht, MapKept.run_getObj_map hb, hc, hr, hz, Result.andThen, hno]
  · simp [Instr.lookup, run_underlying ht, MapKept.run_getObj_map hb, hc, hr, Result.andThen, hyes, h2 e0 he]

/-- added to -/
theorem NumSet.add {P : Program} {t k e : TypeId} (K : Keyed P k) (ht : P.underlying t = some (.map k e)) (hk : ∀ n, -9223372036854775808 ≤ n → n ≤ 9223372036854775807 → ∃ l, keyOf P k (oneKey n) = some l) {w : World} {b : Nat} {xs : List Int}
    (h : NumSet w b xs) (hx : ∀ n, n ∈ xs → -9223372036854775808 ≤ n ∧ n ≤ 9223372036854775807) (n : Int) (hn1 : -9223372036854775808 ≤ n) (hn2 : n ≤ 9223372036854775807) (hno : n ∉ xs) :
    ∃ w', (Instr.mapUpdate t (.map (some b)) (oneKey n) (.bool true)).run P w = .ok () w' ∧ NumSet w' b (xs ++ [n]) ∧ w.grownBy w' (some b) := by
  obtain ⟨es, c, hb, h1, h2⟩ := h
  obtain ⟨l, hl⟩ := hk n hn1 hn2
  have hc := fun em => K.check w em hl
  rcases NumSet.find K hk hx h1 n hn1 hn2 w with ⟨_, hr⟩ | ⟨hyes, _⟩
  · refine ⟨setBlock w b (.map (es.push { key := oneKey n, val := .bool true, born := c }) (c + 1)), ?_, ⟨_, _, heap_setBlock_same hb _, ?_, fun e he => ?_⟩, ⟨rfl, rfl, rfl, by simp [setBlock], fun i _ hi => heap_setBlock_other hb _ (fun e => hi (by rw [e]))⟩⟩
    · simp [Instr.mapUpdate, run_underlying ht, MapKept.run_getObj_map hb, hc, hr, MapKept.run_setObj_map _ hb, Result.andThen, setBlock]
    · simp [h1]
    · rcases (by simpa using he : e ∈ es.toList ∨ e = _) with he | rfl
      · exact h2 e he
      · rfl
  · exact absurd hyes hno
end Go.Proofs.YtoipcbmbhjajfaaGreatDoor

namespace Go.Proofs.YtoipcbmbhjajfaaGreatDoor
open Go.RowKit Go.Maps Go.WideMaps

set_option maxRecDepth 100000
theorem mapWorn : Tryz.prog.underlying 131 = some (.map 133 4) := by kernel_rfl
theorem laidOutA : laidOutB Tryz.prog = true := by kernel_rfl
theorem rowWorn : (133 : TypeId) < Tryz.prog.types.size := of_decide_eq_true (by kernel_rfl)
theorem wideWorn : (match Tryz.prog.underlying 133 with | some (.array _ _) | some (.struct _) => true | _ => false) = true := by kernel_rfl
theorem lawWorn : KeyLaw Tryz.prog 133 := deep_law_laid laidOutA (m := 2) (by omega) rowWorn (by kernel_rfl) wideWorn
theorem keyedWorn : Keyed Tryz.prog 133 := Keyed.of_law lawWorn
theorem litsInt (d : Nat) (n : Int) (hw : (Lit.int .i64 n).wf = true) : Tryz.prog.keyLits (d + 1) 3 [.int .i64 n] = some [.int .i64 n] := by
  unfold Program.keyLits
  rw [Tryz.underlying3]
  exact if_pos ⟨rfl, hw⟩
theorem litsWorn (d : Nat) (n : Int) (hw : (Lit.int .i64 n).wf = true) : (Tryz.prog.keyLits (d + 1 + 1) 133 [.int .i64 n]).isSome = true := by
  unfold Program.keyLits
  rw [Tryz.underlying133]
  have h1 : Tryz.prog.cellsOf 133 = 1 := by kernel_rfl
  have h2 : Tryz.prog.cellsOf 3 = 1 := by kernel_rfl
  have h3 := litsInt d n hw
  simp only []
  rw [if_pos ⟨by rw [h1]; rfl, by simp⟩]
  simp [h2, h3]
theorem keyWorn (n : Int) (h1 : -9223372036854775808 ≤ n) (h2 : n ≤ 9223372036854775807) : ∃ l, keyOf Tryz.prog 133 (oneKey n) = some l := by
  have hf : (oneKey n).formed Tryz.prog 133 = true := by
    simp [oneKey, Value.formed, Tryz.underlying133, show Tryz.prog.cellsOf 133 = 1 from by kernel_rfl]
  have hk : Tryz.prog.keyType 133 = true := by kernel_rfl
  have hs : Tryz.prog.types.size = (Tryz.prog.types.size - 1) + 1 := by kernel_rfl
  have hw : (Lit.int .i64 n).wf = true := by simp [Lit.wf, IntKind.min, IntKind.max, IntKind.signed, IntKind.bits]; omega
  rw [← Option.isSome_iff_exists]
  unfold keyOf
  rw [Tryz.underlying133]
  simp only [hf, hk, Bool.and_self, if_true, Option.isSome_map]
  rw [hs]
  exact litsWorn _ n hw

attribute [local go_sem] Oper.semAt_some
theorem wornZero (w : World) : (zeroValue 4).run Tryz.prog w = .ok (.bool false) w := by kernel_rfl

set_option maxHeartbeats 4000000 in
/-- what a wear costs: each item once -/
theorem cost_any (items : List Item) (b : List Int) (vi vb : Value) (w : World) (hI : ItemsAt none w vi items) (hB : IntsAt none w vb b) (hw : Within items b) (hp : Priced items) (hlen : b.length ≤ 100) (hil : items.length ≤ 1000) :
    Calls Tryz.prog 70 #[vi, vb] w fun e w' => e = .returned (.int .i64 (costW items b)) ∧ Below w.heap.size w w' := by
  have HI := hid hI
  have HBv := hid hB
  have HW := hid hw
  have HP := hid hp
  obtain ⟨ai, ci, rfl⟩ := hI.form
  obtain ⟨ab, cb, rfl, _⟩ := hB
  clear hI hw hp
  have hmm := @run_makeMap Tryz.prog
  go_enter Tryz.func70, Tryz.ntmps70
  go_wp2_with fail
  have HN := hid (NumSet.made w)
  have hB0 := hid (show Below w.heap.size w (w.alloc (.map #[] 0)) from below_alloc w _)
  clear hmm
  go_loopw [6, 12] (fun s i wr => ∃ q : Nat, q ≤ b.length ∧ s = .int .i64 (sumN (costAt items b) q) ∧ i = .int .i64 q ∧ (∃ xs, NumSet wr w.heap.size xs ∧ ∀ n, n ∈ xs ↔ hasN b n q = true) ∧ Below w.heap.size w wr) (fun _ i _ => b.length - (intOf i).toNat)
  case atStart => exact ⟨0, by omega, rfl, rfl, ⟨[], HN.out, fun n => by simp [hasN]⟩, hB0.out⟩
  case round =>
    obtain ⟨q, hq, rfl, rfl, ⟨xs, hxs, hmem⟩, hbel⟩ := hrel
    have HX := hid hxs
    have HM := hid hmem
    have HB := hid hbel
    clear hxs hmem hbel
    have hsb := sumN_bound (f := costAt items b) (n := q) (M := 1000000) fun k hk => costAt_bd HP.out HW.out (by omega)
    by_cases hlt : q < b.length
    rotate_left
    · obtain rfl : q = b.length := by omega
      go_wp2_with fail
      go_ret
      exact ⟨rfl, HB.out⟩
    obtain ⟨bb, ob, c', e, hcl, hcm⟩ := (IntsAt.below HBv.out HB.out).slice (by omega)
    cases e
    have hcell := IntsAt.cell (IntsAt.below HBv.out HB.out) hlt
    have hwi := HW.out q hlt
    obtain ⟨m, hm⟩ := Int.eq_ofNat_of_zero_le hwi.1
    have hml : m < items.length := by omega
    have hcc := ItemsAt.cells (HI.out.below HB.out) hml
    obtain ⟨bi, oi, e, hbi, g0, g1, g2, g3, g4⟩ := hcc
    subst e
    have i1 : (q : Int) < (b.length : Int) := by omega
    have i2 : (m : Int) < (items.length : Int) := by omega
    have z1 : IntKind.i64.wrap ((q : Int) + 1) = (q : Int) + 1 := IntWalk.i64_in _ (by omega)
    have hpm := HP.out m hml
    have z2 : IntKind.i64.wrap (sumN (costAt items b) q + (it items m).cost) = sumN (costAt items b) q + (it items m).cost := IntWalk.i64_in _ (by omega)
    have hstep := hid (show sumN (costAt items b) (q + 1) = sumN (costAt items b) q + (if hasN b (nm b q) q = true then 0 else (it items (nm b q).toNat).cost) from rfl)
    have hxb : ∀ n, n ∈ xs → -9223372036854775808 ≤ n ∧ n ≤ 9223372036854775807 := fun n hn => by
      obtain ⟨j, hj, e⟩ := hasN_true.1 ((HM.out n).1 hn)
      have := HW.out j (by omega)
      rw [e] at this
      omega
    have hask := NumSet.ask keyedWorn mapWorn keyWorn (wornZero wr) HX.out hxb (m : Int) (by omega) (by omega)
    have hadd := hid (NumSet.add keyedWorn mapWorn keyWorn HX.out hxb (m : Int) (by omega) (by omega))
    have hnext := hid (show ∀ n, hasN b n (q + 1) = (hasN b n q || decide (nm b q = n)) from fun n => rfl)
    rw [hm] at hcell hnext hstep
    rw [Int.toNat_natCast] at hstep
    have hmx := HM.out (m : Int)
    clear hm hwi
    by_cases hin : (m : Int) ∈ xs
    · rw [decide_eq_true hin] at hask
      have HS := hid (hstep.out.trans (by rw [if_pos (hmx.1 hin), Int.add_zero]))
      have hhm := hid (hmx.1 hin)
      clear hstep hmx hadd hin
      unfold oneKey at hask
      go_wp2_with fail
      go_roundw
      case rel => exact ⟨q + 1, by omega, by rw [HS.out], by go_num, ⟨xs, HX.out, fun n => by rw [HM.out, hnext.out, Bool.or_eq_true]; exact ⟨.inl, fun h => h.elim id (fun h => by obtain rfl := of_decide_eq_true h; exact hhm.out)⟩⟩, HB.out⟩
      case measure => simp [intOf] <;> omega
    · rw [decide_eq_false hin] at hask
      have HS := hid (hstep.out.trans (by rw [if_neg (fun h => hin (hmx.2 h))]))
      obtain ⟨w3, hrun, hs3, hg3⟩ := hadd.out hin
      have hB3 : Below w.heap.size w w3 := HB.out.trans ((Below.refl w.heap.size wr).grown hg3 (Nat.le_trans HB.out.size (Nat.le_refl _)) (fun k e => by cases e; exact Nat.le_refl _))
      have HB3 := hid hB3
      have HS3 := hid hs3
      have hcc := ItemsAt.cells (HI.out.below hB3) hml
      obtain ⟨bi', oi', e, hbi', g0', g1', g2', g3', g4'⟩ := hcc
      cases e
      clear hstep hmx hadd hin hs3 hg3 hB3
      unfold oneKey at hask hrun
      go_wp2_with fail
      go_roundw
      case rel => exact ⟨q + 1, by omega, by rw [HS.out], by go_num, ⟨xs ++ [(m : Int)], HS3.out, fun n => by
        rw [hnext.out, Bool.or_eq_true, List.mem_append, HM.out, List.mem_singleton]
        exact ⟨fun h => h.elim .inl (fun h => .inr (decide_eq_true h.symm)), fun h => h.elim .inl (fun h => .inr (of_decide_eq_true h).symm)⟩⟩, HB3.out⟩
      case measure => simp [intOf] <;> omega
end Go.Proofs.YtoipcbmbhjajfaaGreatDoor
