/-
  WALK: wears, all lists of so many numbers of items that begin so.
-/
import Derived.Test.YtdcinngdilfpnaaKpl
import Derived.Test.YtdcinngdilfpnaaCon
namespace Go.Proofs.Ytdcinngdilfpnaa
open Go.RowKit

/-- a list of rows, the list being the call's own, each row a list of its own somewhere -/
structure RowsY (base : Nat) (w : World) (v : Value) (vs : List Value) (rs : List (List Int)) : Prop where
  own : OwnR encV 1 22 base w v vs
  len : vs.length = rs.length
  row : ∀ j, j < rs.length → OwnR encInt 1 3 0 w (vs.getD j undef) (lst rs j)
theorem RowsY.nil (base : Nat) (w : World) : RowsY base w (.slice none 0 0) [] [] := ⟨OwnR.nil _ _ _ _ _, rfl, fun j hj => by simp at hj⟩
theorem RowsY.later {base : Nat} {w w' : World} {v : Value} {vs : List Value} {rs : List (List Int)} (h : RowsY base w v vs rs) (hb : Below w.heap.size w w') : RowsY base w' v vs rs := ⟨h.own.later hb, h.len, fun j hj => (h.row j hj).later hb⟩
theorem RowsY.base {base b' : Nat} {w : World} {v : Value} {vs : List Value} {rs : List (List Int)} (h : RowsY base w v vs rs) (hb : b' ≤ base) : RowsY b' w v vs rs := ⟨h.own.base' hb, h.len, h.row⟩
theorem lst_app_old {a b : List (List Int)} {j : Nat} (h : j < a.length) : lst (a ++ b) j = lst a j := by
  unfold lst; rw [List.getD_eq_getElem?_getD, List.getD_eq_getElem?_getD, List.getElem?_append_left h]
theorem lst_app_new {a b : List (List Int)} {j : Nat} (h : a.length ≤ j) : lst (a ++ b) j = lst b (j - a.length) := by
  unfold lst; rw [List.getD_eq_getElem?_getD, List.getD_eq_getElem?_getD, List.getElem?_append_right h]
theorem getV_old {a b : List Value} {j : Nat} (h : j < a.length) : (a ++ b).getD j undef = a.getD j undef := by
  rw [List.getD_eq_getElem?_getD, List.getD_eq_getElem?_getD, List.getElem?_append_left h]
theorem getV_new {a b : List Value} {j : Nat} (h : a.length ≤ j) : (a ++ b).getD j undef = b.getD (j - a.length) undef := by
  rw [List.getD_eq_getElem?_getD, List.getD_eq_getElem?_getD, List.getElem?_append_right h]
/-- more rows behind -/
theorem RowsY.app {base base2 : Nat} {w w' : World} {v v' u : Value} {vs us : List Value} {rs ss : List (List Int)} (h : RowsY base w v vs rs) (h2 : RowsY base2 w u us ss)
    (hown : OwnR encV 1 22 base w' v' (vs ++ us)) (hg : w.grownBy w' v.ownBlock) : RowsY base w' v' (vs ++ us) (rs ++ ss) := by
  refine ⟨hown, by simp [h.len, h2.len], fun j hj => ?_⟩
  rw [List.length_append] at hj
  by_cases e : j < rs.length
  · rw [getV_old (by rw [h.len]; exact e), lst_app_old e]
    exact (h.row j e).kept hg ((h.row j e).apart h.own (by decide))
  · rw [getV_new (by rw [h.len]; omega), lst_app_new (by omega), h.len]
    exact (h2.row _ (by omega)).kept hg ((h2.row _ (by omega)).apart h.own (by decide))
theorem RowsY.form {base : Nat} {w : World} {v : Value} {vs : List Value} {rs : List (List Int)} (h : RowsY base w v vs rs) : ∃ a c, v = .slice a rs.length c := by
  obtain ⟨a, c, e⟩ := h.own.form
  rw [h.len] at e
  exact ⟨a, c, e⟩
theorem RowsY.lists {base : Nat} {w : World} {v : Value} {vs : List Value} {rs : List (List Int)} (h : RowsY base w v vs rs) : ListsAt none w v rs := by
  have := h.own.recs (d := none) undef (fun x _ => x) (fun _ => rfl) (fun x j hj => by obtain rfl : j = 0 := (by omega); rfl) (by simp)
  rw [h.len] at this
  exact ⟨fun i => vs.getD i undef, this, fun i hi => OwnInts.at (own_int.1 (h.row i hi)) (by simp)⟩
theorem RowsY.src {base : Nat} {w : World} {v : Value} {vs : List Value} {rs : List (List Int)} (h : RowsY base w v vs rs) : Src encV w v vs := by
  have := h.own.recs (d := none) undef (fun x _ => x) (fun _ => rfl) (fun x j hj => by obtain rfl : j = 0 := (by omega); rfl) (by simp)
  exact Src.ofRec (k := 1) (d := none) undef (fun x _ => x) (by decide) (fun _ => rfl) (fun x j hj => by obtain rfl : j = 0 := (by omega); rfl) this h.own.sound

theorem RowsY.one {base : Nat} {w : World} {v : Value} {vs : List Value} {rs : List (List Int)} (h : RowsY base w v vs rs) {j : Nat} (hj : j < vs.length) : vs[j].oneCell' = true := by
  have hr := h.row j (by rw [← h.len]; exact hj)
  obtain ⟨a, c, e⟩ := hr.form
  have e2 : vs.getD j undef = vs[j] := by rw [List.getD_eq_getElem?_getD, List.getElem?_eq_getElem hj]; rfl
  rw [← e2, e]
  rfl
def WearsPost (n m : Nat) (b : List Int) (w : World) (e : Ending) (w' : World) : Prop := ∃ v' vs, e = .returned v' ∧ RowsY w.heap.size w' v' vs (allW n m b) ∧ Below w.heap.size w w'

set_option maxHeartbeats 8000000 in
set_option maxRecDepth 100000 in
theorem wears_any (n : Nat) (hn : n ≤ 4) : ∀ (m many : Nat) (b : List Int) (v : Value) (w : World), OwnR encInt 1 3 0 w v b → b.length + m = many → many ≤ 3 →
    Calls Try.prog 39 #[v, .int .i64 many, .int .i64 n] w (WearsPost n m b w) := by
  intro m
  induction m with
  | zero =>
    intro many b v w hb hl hm
    have HB := hid hb
    obtain ⟨a, c, rfl⟩ := hb.form
    obtain ⟨e1, e2⟩ := eq_bool (a := (b.length : Int)) (b := (many : Int)) (by omega)
    clear hb
    go_enter Try.func39, Try.ntmps39
    go_wp2_with fail
    refine bodyPost_ret (v := .slice (some ⟨w.heap.size, 0, none⟩) 1 1) (by simp [results, Try.results39, go_sem]) rfl ?_
    refine ⟨_, [.slice a b.length c], rfl, ⟨?_, rfl, fun j hj => ?_⟩, below_alloc _ _⟩
    · exact ⟨rfl, .inr ⟨w.heap.size, 1, #[.slice a b.length c], rfl, Nat.le_refl _, Array.getElem?_push_size, Nat.le_refl _, by unfold maxLen; omega, rfl, rfl⟩⟩
    · obtain rfl : j = 0 := by simpa [allW] using hj
      exact HB.out.later (below_alloc _ _)
  | succ m ih =>
    intro many b v w hb hl hm
    have HB := hid hb
    obtain ⟨a, c, rfl⟩ := hb.form
    obtain ⟨e1, e2⟩ := ne_bool (a := (b.length : Int)) (b := (many : Int)) (by omega)
    have hp4 : n ^ m ≤ 64 := by
      have hm2 : m ≤ 2 := by omega
      calc n ^ m ≤ 4 ^ m := Nat.pow_le_pow_left hn m
        _ ≤ 4 ^ 2 := Nat.pow_le_pow_right (by decide) hm2
        _ ≤ 64 := by decide
    have HP := hid hp4
    clear hb hp4
    go_enter Try.func39, Try.ntmps39
    go_wp2_with fail
    clear e1 e2
    go_loopw [7, 8] (fun s i wr => ∃ (k : Nat) (vs : List Value), k ≤ n ∧ i = .int .i64 k ∧ RowsY w.heap.size wr s vs ((List.range k).flatMap fun (i : Nat) => allW n m (b ++ [(i : Int)])) ∧ Below w.heap.size w wr) (fun _ i _ => n - (intOf i).toNat)
    case atStart => exact ⟨0, [], by omega, rfl, RowsY.nil _ _, Below.refl _ _⟩
    case round =>
      obtain ⟨k, vs, hk, rfl, hr, hbl⟩ := hrel
      obtain ⟨wo, rfl⟩ : ∃ wo : World, wo = wr := ⟨_, rfl⟩
      have HR := hid hr
      have HL := hid hbl
      obtain ⟨sa, sc, es⟩ := hr.own.form
      have hsz : vs.length = k * n ^ m := by rw [hr.len, flat_size]
      subst es
      clear hr hbl
      by_cases hlt : k < n
      rotate_left
      · obtain rfl : k = n := by omega
        go_wp2_with fail
        refine bodyPost_ret (v := .slice sa vs.length sc) (by simp [results, Try.results39, go_sem]) rfl ?_
        exact ⟨_, vs, rfl, HR.out, HL.out⟩
      have hkb : k * n ^ m ≤ 4 * 64 := Nat.mul_le_mul (by omega) HP.out
      have HSz := hid hsz
      have hbln : b.length ≤ 3 := by omega
      have i1 : (k : Int) < (n : Int) := by omega
      have z1 : IntKind.i64.wrap ((k : Int) + 1) = (k : Int) + 1 := IntWalk.i64_in _ (by omega)
      clear hsz
      go_wp2_with (first
        | (go_at_call 34; refine (copyInts_any b _ none _ (OwnInts.at (own_int.1 (HB.out.later (w' := wo) (HL.out))) (by simp)) (HB.out.sound) (by omega)).mono ?_; rintro e w2 ⟨v2, rfl, ho2, hb2⟩; have HO := hid (own_int.2 ho2); obtain ⟨a2, c2, rfl⟩ := HO.out.form; have HB2 := hid hb2; clear ho2 hb2)
        | (at_builtin; have hguard := HR4.out; clear hguard; refine wpList_app encV Try.underlying26 infoSl' (by decide) (by decide) (fun _ => rfl) rfl _ _ rfl w.heap.size vs us (fun y hy u hu => by obtain ⟨j, hj, rfl⟩ := List.mem_iff_getElem.1 hy; rw [List.mem_singleton.1 hu]; exact HR4.out.one hj) _ _ rfl rfl HR.out.own HR4.out.src (by have := HSz.out; have := HU.out; have := HP.out; omega) HL.out.size ?_; intro v' w5 hown' hg hnil hat; obtain ⟨a5, c5, e5⟩ := hown'.form; rw [List.length_append] at e5; subst e5; have HR5 := hid (HR.out.app HR4.out hown' hg); have HL := hid (HL.out.trans (HR.out.own.below hg HL.out.size)); clear hown' hg hnil hat)
        | (go_at_call 39; refine (ih many (b ++ [(k : Int)]) _ _ (HO3.out.base' (Nat.zero_le _)) (by simp; omega) hm).mono ?_; rintro e w4 ⟨v4, us, rfl, hr4, hb4⟩; have HR4 := hid hr4; have HR := hid (HR.out.later hb4); have HL := hid (HL.out.trans (hb4.mono HL.out.size)); have HU := hid (show us.length = n ^ m from by rw [hr4.len, allW_len]); obtain ⟨a4, c4, e4⟩ := hr4.own.form; subst e4; clear hr4 hb4)
        | (at_builtin; refine wpList_app encInt Try.underlying22 infoInt' (by decide) (by decide) (fun _ => rfl) rfl _ _ rfl wo.heap.size b [(k : Int)] (fun y _ => encInt_one y) _ _ rfl rfl (HO.out.later (below_alloc _ _)) (Src.lit encInt w2 (k : Int) _ 1 rfl) (by simp; omega) (by have := HB2.out.size; simp; omega) ?_; intro v' w' hown' hg hnil hat; obtain ⟨a3, c3, e3⟩ := hown'.form; rw [List.length_append, List.length_singleton] at e3; subst e3; have HO3 := hid hown'; have HG3 : Hid ((w2.alloc (.cells (encInt (k : Int)).toArray 3)).grownBy w' (Value.slice a2 b.length c2).ownBlock) := hid hg; have HB3 := hid (HB2.out.trans (((below_alloc w2 (.cells (encInt (k : Int)).toArray 3)).mono HB2.out.size).trans (OwnR.below (HO.out.later (below_alloc w2 _)) HG3.out (by have := HB2.out.size; simp; omega)))); have HR := hid (HR.out.later HB3.out); have HL := hid (HL.out.trans (HB3.out.mono HL.out.size)); clear hown' hg hnil hat))
      go_roundw
      case rel => exact ⟨k + 1, _, by omega, by go_num, by rw [flat_take]; exact HR5.out, HL.out⟩
      case measure => simp [intOf] <;> omega
end Go.Proofs.Ytdcinngdilfpnaa
