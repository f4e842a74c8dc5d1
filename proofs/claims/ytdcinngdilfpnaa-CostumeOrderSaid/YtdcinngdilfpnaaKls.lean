/-
  WALK: Lists, the copy of a list of lists.
-/
import Derived.Test.YtdcinngdilfpnaaKop
namespace Go.Proofs.Ytdcinngdilfpnaa
open Go.RowKit

theorem lst_take {rs : List (List Int)} {k : Nat} (h : k < rs.length) : rs.take (k + 1) = rs.take k ++ [lst rs k] := by
  rw [List.take_succ_eq_append_getElem h]
  congr 1
  unfold lst
  rw [List.getD_eq_getElem?_getD, List.getElem?_eq_getElem h]
  rfl
set_option maxHeartbeats 4000000 in
set_option maxRecDepth 100000 in
theorem lists_any (rs : List (List Int)) (v : Value) (d : Option Nat) (w : World) (hX : ListsS d w v rs) (hn : rs.length ≤ 1000) (hr : ∀ i, i < rs.length → (lst rs i).length ≤ 1000000) :
    Calls Try.prog 63 #[v] w fun e w' => ∃ v' vs, e = .returned v' ∧ RowsO w.heap.size w' v' vs rs ∧ Below w.heap.size w w' := by
  have HX := hid hX
  have HR := hid hr
  obtain ⟨a, c, rfl⟩ := hX.form
  clear hX hr
  go_enter Try.func63, Try.ntmps63
  go_wp2_with fail
  go_loopw [3, 4] (fun s i wr => ∃ (k : Nat) (vs : List Value), k ≤ rs.length ∧ i = .int .i64 k ∧ RowsO w.heap.size wr s vs (rs.take k) ∧ Below w.heap.size w wr)
    (fun _ i _ => rs.length - (intOf i).toNat)
  case atStart => exact ⟨0, [], by omega, rfl, by simpa using RowsO.nil _ _, Below.refl _ _⟩
  case round =>
    obtain ⟨k, vs, hk, rfl, hro, hb⟩ := hrel
    obtain ⟨wo, rfl⟩ : ∃ wo : World, wo = wr := ⟨_, rfl⟩
    have RO := hid hro
    have HB := hid hb
    have HB0 := hid hb.size
    obtain ⟨sa, sc, es⟩ := hro.own.form
    have hvl : vs.length = k := by rw [hro.len, List.length_take]; omega
    rw [hvl] at es
    subst es
    clear hro hb
    by_cases hlt : k < rs.length
    rotate_left
    · obtain rfl : k = rs.length := by omega
      go_wp2_with fail
      go_ret
      have := RO.out
      rw [List.take_length] at this
      exact ⟨_, vs, rfl, this, HB.out⟩
    have hxk := HX.out.kept (gb_below HB.out d)
    obtain ⟨f, hf1, hf2⟩ := hxk
    have hrow := (ListsAt.row (show ListsAt d wo (.slice a rs.length c) rs from ⟨f, hf1, fun i hi => (hf2 i hi).1⟩) hlt)
    obtain ⟨b, o, u, e, _, x1, h1⟩ := hrow
    cases e
    have hfk : f k = u := by
      obtain ⟨a', c', e', hh⟩ := hf1
      cases e'
      obtain ⟨b', o', e2, _, _, _, _, h5⟩ := hh (by omega)
      cases e2
      have := h5 k hlt 0 (by omega)
      rw [Nat.mul_one, Nat.add_zero, x1] at this
      exact (Option.some.inj this).symm
    have hsu := (hf2 k hlt).2
    rw [hfk] at hsu
    have HU := hid h1
    have HSu := hid hsu
    have hrk := HR.out k hlt
    obtain ⟨ua, uc, eu, _⟩ := h1
    subst eu
    have i1 : (k : Int) < (rs.length : Int) := by omega
    have z1 : IntKind.i64.wrap ((k : Int) + 1) = (k : Int) + 1 := IntWalk.i64_in _ (by omega)
    clear hf1 hf2 hfk hsu
    go_wp2_with (first
      | (go_at_call 34; refine (copyInts_any _ _ _ _ HU.out HSu.out hrk).mono ?_; rintro e w2 ⟨v2, rfl, ho2, hb2⟩; have RO := hid (RO.out.later hb2); have HB := hid (HB.out.trans (hb2.mono HB.out.size)); have HO2 := hid (own_int.2 ho2); obtain ⟨a2, c2, rfl⟩ := HO2.out.form; have HO2 := hid (HO2.out.base' HB0.out); clear ho2 hb2)
      | (at_builtin; refine wpList_app encV Try.underlying26 infoSl' (by decide) (by decide) (fun _ => rfl) rfl _ _ rfl w.heap.size vs [.slice a2 (lst rs k).length c2] (fun y hy u hu => by rw [List.mem_singleton.1 hy] at hu; rw [List.mem_singleton.1 hu]; rfl) _ _ rfl rfl (RO.out.own.later (below_alloc _ _)) (Src.lit encV w2 (.slice a2 (lst rs k).length c2) _ 1 rfl) (by simp; omega) (by have := HB.out.size; simp; omega) ?_; intro v' w' hown' hg hnil hat; obtain ⟨a', c', e⟩ := hown'.form; rw [List.length_append, List.length_singleton, hvl] at e; subst e; have HOn := hid hown'; have HGr : Hid ((w2.alloc (.cells (encV (.slice a2 (lst rs k).length c2)).toArray 22)).grownBy w' (Value.slice sa k sc).ownBlock) := hid hg; clear hown' hg hnil hat))
    have HBa := hid (OwnR.below (RO.out.own.later (below_alloc w2 (.cells (encV (.slice a2 (lst rs k).length c2)).toArray 22))) HGr.out (by have := HB.out.size; simp; omega))
    have RO2 := hid ((RO.out.later (below_alloc w2 (.cells (encV (.slice a2 (lst rs k).length c2)).toArray 22))).snoc (HO2.out.later (below_alloc w2 _)) HOn.out HGr.out)
    go_roundw
    case rel => exact ⟨k + 1, _, by omega, by go_num, by rw [lst_take hlt]; exact RO2.out, (HB.out.trans ((below_alloc w2 _).mono HB.out.size)).trans HBa.out⟩
    case measure => simp [intOf] <;> omega
end Go.Proofs.Ytdcinngdilfpnaa
