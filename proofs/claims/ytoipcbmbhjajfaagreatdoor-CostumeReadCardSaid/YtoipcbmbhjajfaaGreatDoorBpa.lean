/-
  WALKS: costume.parse.
-/
import Derived.Test.YtoipcbmbhjajfaaGreatDoorBsh
import Derived.Test.YtoipcbmbhjajfaaGreatDoorBwc
namespace Go.Proofs.YtoipcbmbhjajfaaGreatDoor
open Go.RowKit

theorem itoaW (n : Int) (w : World) (h0 : 0 ≤ n) (h1 : n ≤ 9223372036854775807) (ht : Tab w) :
    Calls Tryz.prog 29 #[.int .i64 n] w fun e w' => e = .returned (.string ⟨(Lib.itoa n).toArray⟩) ∧ Below w.heap.size w w' :=
  (Tryz.strconv_Itoa n (by omega) (by omega) w ht).mono fun e w' ⟨h, k, os, hw⟩ => ⟨h, by
    subst hw
    exact (below_drewN (Below.refl _ w) k).trans (grow_below (w := w.drewN k) os)⟩
def wordAt (ws : List (List UInt8)) (i : Nat) : List UInt8 := ws.getD i []
theorem word_take (ws : List (List UInt8)) {k : Nat} (hk : k < ws.length) : ws.take (k + 1) = ws.take k ++ [wordAt ws k] := by
  rw [List.take_add_one, List.getElem?_eq_getElem hk]
  simp [wordAt, List.getD_eq_getElem?_getD, List.getElem?_eq_getElem hk]
theorem numsOf_stop {ws : List (List UInt8)} {k : Nat} (hk : k < ws.length) (hn : numOf (wordAt ws k) = none) : numsOf ws = none := by
  have e : numsOf (ws.take (k + 1)) = none := by
    rw [word_take ws hk, numsOf_snoc, hn]
    cases numsOf (ws.take k) <;> rfl
  rw [← List.take_append_drop (k + 1) ws]
  exact numsOf_none_app e
theorem numsOf_go {ws : List (List UInt8)} {k : Nat} {l : List Int} {n : Int} (hk : k < ws.length) (hl : numsOf (ws.take k) = some l) (hn : numOf (wordAt ws k) = some n) : numsOf (ws.take (k + 1)) = some (l ++ [n]) := by
  rw [word_take ws hk, numsOf_snoc, hl, hn]
theorem numsOf_len : ∀ {ws : List (List UInt8)} {l : List Int}, numsOf ws = some l → l.length = ws.length := by
  intro ws l h
  rw [(numsOf_some h).1, List.length_map]

theorem app_one {B : Nat} {w0 w : World} {sv : Value} {l : List Int} (v : Int) (ho : OwnInts B w sv l) (hb : Below B w0 w) (hB : B ≤ w.heap.size) :
    OwnR encInt 1 3 B (w.alloc (.cells #[.int .i64 v] 3)) sv l ∧ Src encInt (w.alloc (.cells #[.int .i64 v] 3)) (.slice (some ⟨w.heap.size, 0, none⟩) 1 1) [v] ∧ B ≤ (w.alloc (.cells #[.int .i64 v] 3)).heap.size ∧
      ∀ v' w2, OwnR encInt 1 3 B w2 v' (l ++ [v]) → (w.alloc (.cells #[.int .i64 v] 3)).grownBy w2 sv.ownBlock → OwnInts B w2 v' (l ++ [v]) ∧ Below B w0 w2 := by
  have hi := OwnInts.at (d := none) (own_lit w [v] #[.int .i64 v] rfl (by simp) (n := 1) (g := w.heap.size) rfl rfl) (by simp)
  have hs : B ≤ (w.alloc (.cells #[.int .i64 v] 3)).heap.size := by simp; omega
  have ho2 := ho.later (below_alloc w (.cells #[.int .i64 v] 3))
  exact ⟨own_int.2 ho2, Src.ints hi (hi.soundI (by simp)), hs, fun v' w2 h1 hg => ⟨own_int.1 h1, (hb.alloc hB _).grown hg hs (fun j hj => ((own_int.2 ho2).lt hj).1)⟩⟩

/-- what parse answers -/
def ParsePost (row : List UInt8) (w : World) (e : Ending) (w' : World) : Prop :=
  match parseL row with
  | none => e = .returned (.tuple #[.string ⟨#[]⟩, .slice none 0 0, .bool false]) ∧ Below w.heap.size w w'
  | some (wd, l) => ∃ v, e = .returned (.tuple #[.string ⟨wd.toArray⟩, v, .bool true]) ∧ OwnInts w.heap.size w' v l ∧ Below w.heap.size w w'

set_option maxRecDepth 100000 in
theorem iface_ne (t : TypeId) (N : Nat) (w : World) : Sem.run Tryz.prog (Go.binOp .neq 71 (.iface t (.pointer (some ⟨N, 0, none⟩))) .nilIface) w = .ok (.bool true) w := rfl
set_option maxRecDepth 100000 in
theorem nil_eq (w : World) : Sem.run Tryz.prog (Go.binOp .neq 71 .nilIface .nilIface) w = .ok (.bool false) w := rfl

set_option maxHeartbeats 8000000 in
set_option maxRecDepth 100000 in
theorem parse_any (row : List UInt8) (w : World) (hr : row.length ≤ 2000) (h : Env w) : Calls Tryz.prog 34 #[.string ⟨row.toArray⟩] w (ParsePost row w) := by
  have HE := hid h
  have HR := hid hr
  obtain ⟨p0, ws, hcut⟩ := cutL_ne 32 row
  have HCut := hid hcut
  have hbd := cutL_bound 32 row
  rw [hcut] at hbd
  have HWl := hid (show ws.length ≤ 2000 ∧ ∀ k, (wordAt ws k).length ≤ 2000 from ⟨by have := hbd.1; simp at this; omega, fun k => by
    unfold wordAt
    rw [List.getD_eq_getElem?_getD]
    rcases Nat.lt_or_ge k ws.length with hk | hk
    · rw [List.getElem?_eq_getElem hk]; have := hbd.2 ws[k] (by simp); simp; omega
    · rw [List.getElem?_eq_none hk]; simp⟩)
  have hsp := split_any ⟨row.toArray⟩ 32 w h (by simp [ByteArray.size]; omega)
  have e0 : (⟨row.toArray⟩ : ByteArray).data.toList = row := by simp
  rw [e0, hcut] at hsp
  have HS := hid hsp
  obtain ⟨w1, hw1⟩ : ∃ w1, w.alloc (.cells ((p0 :: ws).map strV).toArray 9) = w1 := ⟨_, rfl⟩
  have HB1 := hid (show Below w.heap.size w w1 from hw1 ▸ below_alloc _ _)
  have HC0 := hid (show ∀ W', Below w1.heap.size w1 W' → W'.cell? ⟨w.heap.size, 0, none⟩ = some (.string ⟨p0.toArray⟩) from fun W' hb => cell_back hb (by rw [← hw1]; simp) (by rw [← hw1]; exact cell_at rfl (by simp [strV])))
  have HCk := hid (show ∀ k, k < ws.length → ∀ W', Below w1.heap.size w1 W' → W'.cell? ⟨w.heap.size, 1 + k, none⟩ = some (.string ⟨(wordAt ws k).toArray⟩) from fun k hk W' hb => cell_back hb (by rw [← hw1]; simp) (by
    rw [← hw1]
    refine cell_at rfl ?_
    rw [Nat.add_comm 1 k]
    simp [strV, wordAt, List.getD_eq_getElem?_getD, List.getElem?_eq_getElem hk]))
  rw [hw1] at HS
  clear h hr hcut hbd hsp e0 hw1
  have HPL := hid (show parseL row = match numsOf ws with | none => none | some l => some (p0, l) from by unfold parseL; rw [HCut.out]; rfl)
  by_cases hw : ws.length = 0
  · have hz : ws = [] := List.eq_nil_of_length_eq_zero hw
    subst hz
    clear hw HCk HWl
    have HPL := hid (show parseL row = some (p0, []) from HPL.out)
    go_enter Tryz.func34, Tryz.ntmps34
    go_wp2_with (go_at_call 33; refine HS.out.mono ?_; rintro e w2 ⟨rfl, rfl⟩)
    go_loopw [6, 16] (fun s i wr => s = .slice none 0 0 ∧ i = .int .i64 0 ∧ wr = w1) (fun _ _ _ => 0)
    case atStart => exact ⟨rfl, rfl, rfl⟩
    case round =>
      obtain ⟨rfl, rfl, rfl⟩ := hrel
      have c0 := HC0.out _ (Below.refl _ _)
      go_wp2_with fail
      refine bodyPost_ret (v := .tuple #[.string ⟨p0.toArray⟩, .slice none 0 0, .bool true]) (by simp [results, Tryz.results34, go_sem]) rfl ?_
      unfold ParsePost
      rw [HPL.out]
      exact ⟨_, rfl, own_nil _ _, HB1.out⟩
  have i0 : 0 < ws.length := by omega
  clear hw
  go_enter Tryz.func34, Tryz.ntmps34
  go_wp2_with (go_at_call 33; refine HS.out.mono ?_; rintro e w2 ⟨rfl, rfl⟩)
  case inl h => exact absurd i0 (by rw [h]; simp)
  go_loopw [6, 16] (fun s i wr => ∃ (k : Nat) (l : List Int), k ≤ ws.length ∧ i = .int .i64 k ∧ numsOf (ws.take k) = some l ∧ OwnInts w1.heap.size wr s l ∧ Below w1.heap.size w1 wr) (fun _ i _ => ws.length - (intOf i).toNat)
  case atStart => exact ⟨0, [], by omega, rfl, rfl, own_nil _ _, Below.refl _ _⟩
  case round =>
    obtain ⟨k, l, hk, rfl, hl, ho, hb⟩ := hrel
    obtain ⟨wo, rfl⟩ : ∃ wo : World, wo = wr := ⟨_, rfl⟩
    have KB := hid hb
    have HO := hid ho
    have HLl := hid hl
    obtain ⟨sa, sc, es⟩ := (own_int.2 ho).form
    have hll : l.length = k := by rw [numsOf_len hl, List.length_take]; omega
    rw [hll] at es
    subst es
    have HLn := hid hll
    clear hl ho hb hll
    have HEo := hid (HE.out.go (below_trans HB1.out KB.out))
    by_cases hlt : k < ws.length
    · have n0 := HCk.out k hlt wo KB.out
      have HSt := hid (fun h => numsOf_stop hlt h)
      have HGo := hid (fun n h => numsOf_go (n := n) hlt HLl.out h)
      have HWs := hid (HWl.out.2 k)
      obtain ⟨s, hs⟩ : ∃ s, wordAt ws k = s := ⟨_, rfl⟩
      rw [hs] at n0 HSt HGo HWs
      have i1 : (k : Int) < (ws.length : Int) := by omega
      have z2 : IntKind.i64.wrap ((k : Int) + 1) = (k : Int) + 1 := IntWalk.i64_in _ (by have := HWl.out.1; omega)
      have hat := atoi_any ⟨s.toArray⟩ wo HEo.out (by have := HWs.out; simp [ByteArray.size]; omega)
      unfold AtoiPost at hat
      have e0 : (⟨s.toArray⟩ : ByteArray).data.toList = s := by simp
      rw [e0] at hat
      have hsz : (⟨s.toArray⟩ : ByteArray).size = s.length := by simp [ByteArray.size]
      clear hs e0
      cases hr : Lib.atoiAll s with
      | ok v =>
        rw [hr] at hat
        have HA := hid hat
        have HRr := hid hr
        clear hat hr
        by_cases hv : v < 0
        · have HP0 := hid (show parseL row = none from by rw [HPL.out, HSt.out (by unfold numOf; rw [HRr.out]; exact if_neg (fun h => absurd h.1 (by omega)))])
          have d1 : decide (v < 0) = true := by simpa using hv
          have HVn := hid hv
          clear hv
          go_wp2_with (go_at_call 62; refine HA.out.mono ?_; rintro e w3 ⟨rfl, hb⟩; have KB := hid (KB.out.trans (hb.mono KB.out.size)); have HO := hid (HO.out.later hb); have HEo := hid (HEo.out.go hb); clear hb n0)
          refine bodyPost_ret (v := .tuple #[.string ⟨#[]⟩, .slice none 0 0, .bool false]) (by simp [results, Tryz.results34, go_sem]) rfl ?_
          unfold ParsePost
          rw [HP0.out]
          exact ⟨rfl, below_trans HB1.out KB.out⟩
        by_cases h6 : 6 < s.length
        · have HP0 := hid (show parseL row = none from by rw [HPL.out, HSt.out (by unfold numOf; rw [HRr.out]; exact if_neg (fun h => absurd h.2.1 (by omega)))])
          have d1 : decide (v < 0) = false := by simpa using hv
          have d2 : decide (6 < (s.length : Int)) = true := decide_eq_true (by omega)
          clear hv h6
          go_wp2_with (go_at_call 62; refine HA.out.mono ?_; rintro e w3 ⟨rfl, hb⟩; have KB := hid (KB.out.trans (hb.mono KB.out.size)); have HO := hid (HO.out.later hb); have HEo := hid (HEo.out.go hb); clear hb n0)
          refine bodyPost_ret (v := .tuple #[.string ⟨#[]⟩, .slice none 0 0, .bool false]) (by simp [results, Tryz.results34, go_sem]) rfl ?_
          unfold ParsePost
          rw [HP0.out]
          exact ⟨rfl, below_trans HB1.out KB.out⟩
        have d1 : decide (v < 0) = false := by simpa using hv
        have d2 : decide (6 < (s.length : Int)) = false := decide_eq_false (by omega)
        by_cases hi : Lib.itoa v = s
        · have HG := hid (HGo.out v (by unfold numOf; rw [HRr.out]; exact if_pos ⟨by omega, by omega, hi⟩))
          have HVb := hid (Lib.atoiAll_bounds HRr.out)
          have hI := itoaW v
          rw [hi] at hI
          have HI := hid hI
          have HVn := hid hv
          have HLk := hid (show (l ++ [v]).length = k + 1 from by rw [List.length_append, HLn.out]; rfl)
          have HQ1 := hid (show l.length + [v].length ≤ 1000000 from by rw [HLn.out]; have := HWl.out.1; simp; omega)
          clear h6 hi hI hv
          go_wp2_with (first
            | (go_at_call 62; refine HA.out.mono ?_; rintro e w3 ⟨rfl, hb⟩; have KB := hid (KB.out.trans (hb.mono KB.out.size)); have HO := hid (HO.out.later hb); have HEo := hid (HEo.out.go hb); clear hb n0)
            | (go_at_call 29; refine (HI.out _ (by have := HVn.out; omega) HVb.out.2 HEo.out.tab).mono ?_; rintro e w4 ⟨rfl, hb⟩; have KB := hid (KB.out.trans (hb.mono KB.out.size)); have HO := hid (HO.out.later hb); have HEo := hid (HEo.out.go hb); clear hb)
            | (at_builtin; have ha := app_one v HO.out KB.out KB.out.size; refine wpList_app encInt Tryz.underlying24 infoInt' (by decide) (by decide) (fun _ => rfl) rfl _ _ rfl w1.heap.size l [v] (fun y _ => encInt_one y) _ _ rfl rfl ha.1 ha.2.1 HQ1.out ha.2.2.1 ?_; intro v' w5 hown' hg _ _; have hbl := ha.2.2.2 v' w5 hown' hg; obtain ⟨a2, c2, e2⟩ := hown'.form; rw [HLk.out] at e2; subst e2; have KB := hid hbl.2; have HO := hid hbl.1; clear hown' hg hbl ha))
          go_roundw
          case rel => exact ⟨k + 1, l ++ [v], by omega, by go_num, HG.out, HO.out, KB.out⟩
          case measure => simp [intOf] <;> omega
        · have HP0 := hid (show parseL row = none from by rw [HPL.out, HSt.out (by unfold numOf; rw [HRr.out]; exact if_neg (fun h => hi h.2.2))])
          have HVb := hid (Lib.atoiAll_bounds HRr.out)
          have HI := hid (itoaW v)
          have hnb : (Lib.itoa v == s) = false := beq_eq_false_iff_ne.2 hi
          have HVn := hid hv
          clear h6 hi hv
          go_wp2_with (first
            | (go_at_call 62; refine HA.out.mono ?_; rintro e w3 ⟨rfl, hb⟩; have KB := hid (KB.out.trans (hb.mono KB.out.size)); have HO := hid (HO.out.later hb); have HEo := hid (HEo.out.go hb); clear hb n0)
            | (go_at_call 29; refine (HI.out _ (by have := HVn.out; omega) HVb.out.2 HEo.out.tab).mono ?_; rintro e w4 ⟨rfl, hb⟩; have KB := hid (KB.out.trans (hb.mono KB.out.size)); have HO := hid (HO.out.later hb); have HEo := hid (HEo.out.go hb); clear hb))
          refine bodyPost_ret (v := .tuple #[.string ⟨#[]⟩, .slice none 0 0, .bool false]) (by simp [results, Tryz.results34, go_sem]) rfl ?_
          unfold ParsePost
          rw [HP0.out]
          exact ⟨rfl, below_trans HB1.out KB.out⟩
      | «syntax» =>
        rw [hr] at hat
        have HA := hid hat
        have HRr := hid hr
        clear hat hr
        have HP0 := hid (show parseL row = none from by rw [HPL.out, HSt.out (by unfold numOf; rw [HRr.out])])
        have hne := iface_ne
        go_wp2_with (go_at_call 62; refine HA.out.mono ?_; rintro e w3 ⟨n, ty, N, rfl, hb⟩; have KB := hid (KB.out.trans (hb.mono KB.out.size)); clear hb n0)
        refine bodyPost_ret (v := .tuple #[.string ⟨#[]⟩, .slice none 0 0, .bool false]) (by simp [results, Tryz.results34, go_sem]) rfl ?_
        unfold ParsePost
        rw [HP0.out]
        exact ⟨rfl, below_trans HB1.out KB.out⟩
      | range =>
        rw [hr] at hat
        have HA := hid hat
        have HRr := hid hr
        clear hat hr
        have HP0 := hid (show parseL row = none from by rw [HPL.out, HSt.out (by unfold numOf; rw [HRr.out])])
        have hne := iface_ne
        go_wp2_with (go_at_call 62; refine HA.out.mono ?_; rintro e w3 ⟨n, ty, N, rfl, hb⟩; have KB := hid (KB.out.trans (hb.mono KB.out.size)); clear hb n0)
        refine bodyPost_ret (v := .tuple #[.string ⟨#[]⟩, .slice none 0 0, .bool false]) (by simp [results, Tryz.results34, go_sem]) rfl ?_
        unfold ParsePost
        rw [HP0.out]
        exact ⟨rfl, below_trans HB1.out KB.out⟩
    · obtain rfl : k = ws.length := by omega
      have HP1 := hid (show parseL row = some (p0, l) from by rw [HPL.out]; have := HLl.out; rw [List.take_length] at this; rw [this])
      have c0 := HC0.out _ KB.out
      go_wp2_with fail
      refine bodyPost_ret (v := .tuple #[.string ⟨p0.toArray⟩, .slice sa ws.length sc, .bool true]) (by simp [results, Tryz.results34, go_sem]) rfl ?_
      unfold ParsePost
      rw [HP1.out]
      exact ⟨_, rfl, HO.out.base' HB1.out.size, below_trans HB1.out KB.out⟩
end Go.Proofs.YtoipcbmbhjajfaaGreatDoor
