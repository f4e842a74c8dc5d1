/-
  A ROW OF NUMBERS into which a number is put, in place. Plain over worlds; no program in sight.
  slices.Insert of one number into a list of the call's own, in the words of own lists.
-/
import Derived.Test.YtoipcbmbhjajfaaGreatDoorRep
import Derived.Laws.IdiomCopy
import Derived.Test.YtoipcbmbhjajfaaGreatDoorShi
import Derived.Test.YtoipcbmbhjajfaaGreatDoorKd
namespace Go.Proofs.YtoipcbmbhjajfaaGreatDoor
open Go.RowKit

theorem heap_setOne {w : World} {g i : Nat} {cs : Array Value} {t : TypeId} {u : Value} (h : w.heap[g]? = some (.cells cs t (0, 0))) : (w.setCell ⟨g, i, none⟩ u).heap[g]? = some (.cells (cs.setIfInBounds i u) t (0, 0)) := by
  simp [World.setCell, Array.getElem?_modify, h]
theorem heap_setCells {g : Nat} {t : TypeId} : ∀ (vs : List Value) (o : Nat) (w : World) (cur : Array Value), w.heap[g]? = some (.cells cur t (0, 0)) →
    ∃ cur', (w.setCells g o vs).heap[g]? = some (.cells cur' t (0, 0)) ∧ cur'.size = cur.size ∧ ∀ j, j < cur.size → cur'[j]? = if o ≤ j ∧ j < o + vs.length then vs[j - o]? else cur[j]? := by
  intro vs
  induction vs with
  | nil => intro o w cur h; exact ⟨cur, h, rfl, fun j _ => by rw [if_neg (by simp)]⟩
  | cons v vs ih =>
    intro o w cur h
    obtain ⟨cur', h1, h2, h3⟩ := ih (o + 1) (w.setCell ⟨g, o, none⟩ v) _ (heap_setOne h)
    refine ⟨cur', h1, by rw [h2]; simp, fun j hj => ?_⟩
    rw [h3 j (by simpa using hj)]
    by_cases e : j = o
    · subst e
      rw [if_neg (by omega), if_pos (by simp)]
      simp [hj]
    · by_cases h4 : o + 1 ≤ j ∧ j < o + 1 + vs.length
      · rw [if_pos h4, if_pos (by simp; omega)]
        obtain ⟨k, rfl⟩ : ∃ k, j = o + 1 + k := ⟨j - (o + 1), by omega⟩
        rw [show o + 1 + k - (o + 1) = k by omega, show o + 1 + k - o = k + 1 by omega]
        simp
      · rw [if_neg h4, if_neg (by simp; omega), Array.getElem?_setIfInBounds, if_neg (Ne.symm e)]

theorem OwnInts.ofBlock {base : Nat} {w : World} {g n cap : Nat} {cur : Array Value} {ys : List Int} (hb : base ≤ g) (hh : w.heap[g]? = some (.cells cur 3 (0, 0))) (hn : n ≤ cap) (hm : cap ≤ maxLen) (hs : cur.size = cap) (hl : ys.length = n) (hc : ∀ j, j < n → cur[j]? = some (.int .i64 (nm ys j))) :
    OwnInts base w (.slice (some ⟨g, 0, none⟩) n cap) ys := by
  subst hl
  refine ⟨by simp, .inr ⟨g, cap, cur, rfl, hb, hh, hn, hm, by rw [hs, Nat.mul_one], ?_⟩⟩
  apply List.ext_getElem?
  intro j
  rw [Nat.mul_one, List.getElem?_take, List.getElem?_map]
  by_cases hj : j < ys.length
  · rw [if_pos hj, Array.getElem?_toList, hc j hj, List.getElem?_eq_getElem hj]
    simp [nm, List.getD_eq_getElem?_getD, List.getElem?_eq_getElem hj]
  · rw [if_neg hj, List.getElem?_eq_none (by omega)]
    rfl
theorem OwnInts.blk {base : Nat} {w : World} {v : Value} {ys : List Int} (h : OwnInts base w v ys) : (v = .slice none 0 0 ∧ ys = []) ∨
    ∃ g cap cur, v = .slice (some ⟨g, 0, none⟩) ys.length cap ∧ base ≤ g ∧ w.heap[g]? = some (.cells cur 3 (0, 0)) ∧ ys.length ≤ cap ∧ cap ≤ maxLen ∧ cur.size = cap ∧ ∀ j, j < ys.length → cur[j]? = some (.int .i64 (nm ys j)) := by
  obtain ⟨_, h2⟩ := h
  rcases h2 with ⟨rfl, h0⟩ | ⟨g, cap, cur, rfl, hb, hh, h1, hm, hs, ht⟩
  · exact .inl ⟨rfl, List.eq_nil_of_length_eq_zero h0⟩
  · refine .inr ⟨g, cap, cur, rfl, hb, hh, h1, hm, by rw [hs, Nat.mul_one], fun j hj => ?_⟩
    have : (cur.toList.take (ys.length * 1))[j]? = (ys.map (Value.int .i64))[j]? := by rw [ht]
    rw [List.getElem?_take, if_pos (by omega), List.getElem?_map, List.getElem?_eq_getElem hj, Array.getElem?_toList] at this
    rw [this]
    simp [nm, List.getD_eq_getElem?_getD, List.getElem?_eq_getElem hj]
theorem nm_ins (xs : List Int) (x : Int) {i : Nat} (hi : i ≤ xs.length) (j : Nat) : nm (xs.take i ++ x :: xs.drop i) j = if j < i then nm xs j else if j = i then x else nm xs (j - 1) := by
  unfold nm
  simp only [List.getD_eq_getElem?_getD]
  by_cases h1 : j < i
  · rw [if_pos h1, List.getElem?_append_left (by simp; omega), List.getElem?_take, if_pos h1]
  · rw [if_neg h1, List.getElem?_append_right (by simp; omega)]
    have e0 : (xs.take i).length = i := by simp [hi]
    rw [e0]
    by_cases h2 : j = i
    · subst h2; rw [if_pos rfl]; simp
    · rw [if_neg h2]
      obtain ⟨m, rfl⟩ : ∃ m, j = i + 1 + m := ⟨j - (i + 1), by omega⟩
      rw [show i + 1 + m - i = m + 1 by omega, List.getElem?_cons_succ, List.getElem?_drop, show i + 1 + m - 1 = i + m by omega]
theorem ins_length (xs : List Int) (x : Int) {i : Nat} (hi : i ≤ xs.length) : (xs.take i ++ x :: xs.drop i).length = xs.length + 1 := by simp; omega
theorem drop_at {xs : List Int} {i : Nat} (j : Nat) (hj : i + j < xs.length) : ((xs.map (Value.int .i64)).drop i)[j]? = some (.int .i64 (nm xs (i + j))) := by
  rw [List.getElem?_drop, List.getElem?_map, List.getElem?_eq_getElem hj]
  simp [nm, List.getD_eq_getElem?_getD, List.getElem?_eq_getElem hj]
end Go.Proofs.YtoipcbmbhjajfaaGreatDoor

namespace Go.Proofs.YtoipcbmbhjajfaaGreatDoor
open Go.RowKit

theorem Below.setCellsB {B : Nat} {a : World} {g : Nat} (hg : B ≤ g) : ∀ (vs : List Value) (o : Nat) (w : World), Below B a w → Below B a (w.setCells g o vs)
  | [], _, _, h => h
  | v :: vs, o, _, h => Below.setCellsB hg vs (o + 1) _ (h.setCell (p := ⟨g, o, none⟩) hg v)

theorem insert_own (base : Nat) (xs : List Int) (x : Int) (i : Nat) (v : Value) (B : Nat) (w : World) (h : OwnInts base w v xs) (hi : i ≤ xs.length) (hB : w.heap[B]? = some (.cells #[.int .i64 x] 3 (0, 0))) (hne : ∀ g, v.ownBlock = some g → B ≠ g) (hn : xs.length ≤ 1000) (hb : base ≤ w.heap.size) :
    Calls Tryz.prog 64 #[v, .int .i64 i, .slice (some ⟨B, 0, none⟩) 1 1] w fun e w' => ∃ v', e = .returned v' ∧ OwnInts base w' v' (xs.take i ++ x :: xs.drop i) ∧ Below base w w' := by
  have hcx : ∀ (j : Nat) (u : Value), [Value.int .i64 x][j]? = some u → w.cell? ⟨B, 0 + j, none⟩ = some u := fun j u hj => by
    cases j with
    | zero => simp at hj; subst hj; simp [World.cell?, hB]
    | succ j => simp at hj
  have hone : ∀ u ∈ [Value.int .i64 x], u.oneCell' = true := fun u hu => by rw [List.mem_singleton.1 hu]; rfl
  have honex : ∀ u ∈ xs.map (Value.int .i64), u.oneCell' = true := fun u hu => by obtain ⟨z, _, rfl⟩ := List.mem_map.1 hu; rfl
  have hfro : ∀ {W : World} {g o : Nat} {cs : Array Value} {t : TypeId}, W.heap[g]? = some (.cells cs t (0, 0)) → W.frozen? ⟨g, o, none⟩ = false := fun hh => by unfold World.frozen?; rw [hh]; simp
  have hlen := ins_length xs x hi
  rcases h.blk with ⟨rfl, rfl⟩ | ⟨g, cap, cur, rfl, hbg, hh, h1, hm, hs, hc⟩
  · obtain rfl : i = 0 := by simpa using hi
    refine (Any2.slices_Insert_int_end_grow Tryz.lays21 none 0 0 B 0 1 1 [] [.int .i64 x] w (by decide) (by decide) (by decide) (by decide) rfl rfl (fun _ => rfl) (fun a e => by cases e) hcx hone).mono ?_
    rintro e w' ⟨rfl, rfl⟩
    have hge := grownCap_ge w 1 0 3
    obtain ⟨C, hC⟩ : ∃ C, grownCap w 1 0 3 = C := ⟨_, rfl⟩
    have hCm : C ≤ maxLen := by rw [← hC]; exact grownCap_le_maxLen w 1 0 _ (by decide)
    have e3 : grownCap w (0 + 1) 0 (Tryz.lays21_ren.t 3) = C := hC
    rw [e3]
    refine ⟨_, rfl, OwnInts.ofBlock (g := w.heap.size) hb (box_newA _ _ _) (by omega) hCm ?_ rfl (fun j hj => ?_), (Below.refl _ w).drew.alloc hb _⟩
    · simp [Builtin.zeroCells, Value.cells]; omega
    · obtain rfl : j = 0 := by omega
      rw [Array.getElem?_append_left (by simp)]
      simp [nm]
  · have hcell : ∀ o, o < cap → (w.cell? ⟨g, 0 + o, none⟩).isSome = true := fun o ho => by simp [World.cell?, hh, hs, ho]
    have hcs : ∀ (j : Nat) (u : Value), (xs.map (Value.int .i64))[j]? = some u → w.cell? ⟨g, 0 + j, none⟩ = some u := fun j u hj => by
      have hjl : j < xs.length := by have := (List.getElem?_eq_some_iff.1 hj).1; simpa using this
      rw [List.getElem?_map, List.getElem?_eq_getElem hjl] at hj
      simp at hj
      subst hj
      simp only [World.cell?, hh, Nat.zero_add]
      rw [hc j hjl]
      simp [nm, List.getD_eq_getElem?_getD, List.getElem?_eq_getElem hjl]
    have hBg : B ≠ g := hne g rfl
    have hm63 : cap ≤ 9223372036854775807 := by unfold maxLen at hm; omega
    by_cases hroom : xs.length + 1 ≤ cap
    · by_cases hin : i < xs.length
      · refine (Any2.slices_Insert_int_shift Tryz.lays21 g 0 xs.length cap i B 0 1 1 (xs.map (Value.int .i64)) [.int .i64 x] w hin (by decide) hroom hm63 hBg (by simp) rfl hcs (fun j hj => hcell j (by omega)) (fun j hj => hfro hh) hcx honex hone 3 3 1 cap
          (by simp [World.shape?, hB]) (by simp [World.shape?, hh, hs]) (by omega) (hfro hB) (hfro hB)).mono ?_
        rintro e w' ⟨rfl, rfl⟩
        obtain ⟨c1, a1, a2, a3⟩ := heap_setCells (t := 3) ((xs.map (Value.int .i64)).drop i) (0 + (i + 1)) w.drew cur hh
        obtain ⟨c2, b1, b2, b3⟩ := heap_setCells (t := 3) [Value.int .i64 x] (0 + i) _ c1 a1
        refine ⟨_, rfl, OwnInts.ofBlock hbg b1 hroom hm (by rw [b2, a2, hs]) hlen (fun j hj => ?_), Below.setCellsB hbg _ _ _ (Below.setCellsB hbg _ _ _ (Below.refl _ w).drew)⟩
        rw [b3 j (by rw [a2, hs]; omega), nm_ins xs x hi]
        by_cases e1 : j < i
        · rw [if_pos e1, if_neg (by simp; omega), a3 j (by rw [hs]; omega), if_neg (by omega), hc j (by omega)]
        · rw [if_neg e1]
          by_cases e2 : j = i
          · subst e2
            rw [if_pos rfl, if_pos (by simp)]
            simp
          · rw [if_neg e2, if_neg (by simp; omega), a3 j (by rw [hs]; omega), if_pos (by simp; omega), drop_at _ (by omega)]
            congr 3; omega
      · obtain rfl : i = xs.length := by omega
        refine (Any2.slices_Insert_int_end_room Tryz.lays21 g 0 xs.length cap B 0 1 1 [.int .i64 x] w (by decide) hroom hm63 rfl (fun j hj => by rw [Nat.zero_add]; simpa using hcell (xs.length + j) (by omega)) (fun j hj => hfro hh) hcx hone).mono ?_
        rintro e w' ⟨rfl, rfl⟩
        obtain ⟨c2, b1, b2, b3⟩ := heap_setCells (t := 3) [Value.int .i64 x] (0 + xs.length) w cur hh
        refine ⟨_, rfl, OwnInts.ofBlock hbg b1 hroom hm (by rw [b2, hs]) hlen (fun j hj => ?_), Below.setCellsB hbg _ _ _ (Below.refl _ w)⟩
        rw [b3 j (by rw [hs]; omega), nm_ins xs x hi]
        by_cases e1 : j < xs.length
        · rw [if_pos e1, if_neg (by simp; omega), hc j e1]
        · obtain rfl : j = xs.length := by omega
          rw [if_pos (by simp), if_neg (by omega), if_pos rfl]
          simp
    · by_cases hin : i < xs.length
      · refine (Any2.slices_Insert_int_grow Tryz.lays21 g 0 xs.length cap i B 0 1 1 (xs.map (Value.int .i64)) [.int .i64 x] w hin (by decide) h1 (by omega) (by omega) (by simp) rfl hcs hcx honex hone).mono ?_
        rintro e w' ⟨rfl, rfl⟩
        have hge := grownCap_ge w (xs.length + 1) cap 3
        obtain ⟨C, hC⟩ : ∃ C, grownCap w (xs.length + 1) cap 3 = C := ⟨_, rfl⟩
        have hCm : C ≤ maxLen := by rw [← hC]; exact grownCap_le_maxLen w (xs.length + 1) cap _ (by unfold maxLen; omega)
        have hh0 : (w.alloc (.cells (((xs.map (Value.int .i64)).take i).toArray ++ Builtin.zeroCells (Value.int .i64 0).cells (xs.length + 1 - i) ++ Builtin.zeroCells (Value.int .i64 0).cells (C - (xs.length + 1))) 3)).drew.heap[w.heap.size]? = _ := box_newA w _ _
        obtain ⟨c1, a1, a2, a3⟩ := heap_setCells (t := 3) [Value.int .i64 x] i _ _ hh0
        have hBW := Below.setCellsB hb [Value.int .i64 x] i _ ((Below.refl base w).alloc hb (.cells (((xs.map (Value.int .i64)).take i).toArray ++ Builtin.zeroCells (Value.int .i64 0).cells (xs.length + 1 - i) ++ Builtin.zeroCells (Value.int .i64 0).cells (C - (xs.length + 1))) 3)).drew
        have e3 : grownCap w (xs.length + 1) cap (Tryz.lays21_ren.t 3) = C := hC
        rw [e3]
        obtain ⟨W1, hW1⟩ : ∃ W1 : World, (w.alloc (.cells (((xs.map (Value.int .i64)).take i).toArray ++ Builtin.zeroCells (Value.int .i64 0).cells (xs.length + 1 - i) ++ Builtin.zeroCells (Value.int .i64 0).cells (C - (xs.length + 1))) 3)).drew.setCells w.heap.size i [Value.int .i64 x] = W1 := ⟨_, rfl⟩
        have hW1' : (w.alloc (.cells (((xs.map (Value.int .i64)).take i).toArray ++ Builtin.zeroCells (Value.int .i64 0).cells (xs.length + 1 - i) ++ Builtin.zeroCells (Value.int .i64 0).cells (C - (xs.length + 1))) (Tryz.lays21_ren.t 3))).drew.setCells w.heap.size i [Value.int .i64 x] = W1 := hW1
        rw [hW1] at a1 hBW
        rw [hW1']
        obtain ⟨c2, b1, b2, b3⟩ := heap_setCells (t := 3) ((xs.map (Value.int .i64)).drop i) (i + 1) W1.drew c1 a1
        have hsz : (((xs.map (Value.int .i64)).take i).toArray ++ Builtin.zeroCells (Value.int .i64 0).cells (xs.length + 1 - i) ++ Builtin.zeroCells (Value.int .i64 0).cells (C - (xs.length + 1)) : Array Value).size = C := by
          simp [Builtin.zeroCells, Value.cells]; omega
        refine ⟨_, rfl, OwnInts.ofBlock hb b1 (by omega) hCm (by rw [b2, a2, hsz]) hlen (fun j hj => ?_), Below.setCellsB hb _ _ _ hBW.drew⟩
        rw [b3 j (by rw [a2, hsz]; omega), nm_ins xs x hi]
        by_cases e1 : j < i
        · rw [if_pos e1, if_neg (by omega), a3 j (by rw [hsz]; omega), if_neg (by omega)]
          rw [Array.getElem?_append_left (by simp; omega), Array.getElem?_append_left (by simp; omega)]
          simp [e1, nm, List.getD_eq_getElem?_getD, List.getElem?_eq_getElem (show j < xs.length by omega)]
        · rw [if_neg e1]
          by_cases e2 : j = i
          · subst e2
            rw [if_pos rfl, if_neg (by omega), a3 j (by rw [hsz]; omega), if_pos (by simp)]
            simp
          · rw [if_neg e2, if_pos (by simp; omega), drop_at _ (by omega)]
            congr 3; omega
      · obtain rfl : i = xs.length := by omega
        refine (Any2.slices_Insert_int_end_grow Tryz.lays21 (some ⟨g, 0, none⟩) xs.length cap B 0 1 1 (xs.map (Value.int .i64)) [.int .i64 x] w (by decide) h1 (by omega) (by omega) (by simp) rfl (fun e => by cases e) (fun a e j u hj => by cases e; have := hcs j u hj; rw [addr_offI]; exact this) hcx hone).mono ?_
        rintro e w' ⟨rfl, rfl⟩
        have hge := grownCap_ge w (xs.length + 1) cap 3
        obtain ⟨C, hC⟩ : ∃ C, grownCap w (xs.length + 1) cap 3 = C := ⟨_, rfl⟩
        have hCm : C ≤ maxLen := by rw [← hC]; exact grownCap_le_maxLen w (xs.length + 1) cap _ (by unfold maxLen; omega)
        have e3 : grownCap w (xs.length + 1) cap (Tryz.lays21_ren.t 3) = C := hC
        rw [e3]
        refine ⟨_, rfl, OwnInts.ofBlock (g := w.heap.size) hb (box_newA _ _ _) (by omega) hCm ?_ hlen (fun j hj => ?_), (Below.refl _ w).drew.alloc hb _⟩
        · simp [Builtin.zeroCells, Value.cells]; omega
        · rw [nm_ins xs x hi, Array.getElem?_append_left (by simp; omega)]
          by_cases e1 : j < xs.length
          · rw [if_pos e1]
            simp [e1, List.getElem?_append_left, nm, List.getD_eq_getElem?_getD]
          · obtain rfl : j = xs.length := by omega
            rw [if_neg (by omega), if_pos rfl]
            simp
where
  box_newA (w : World) (cs : Array Value) (t : TypeId) : (w.alloc (.cells cs t)).heap[w.heap.size]? = some (.cells cs t (0, 0)) := by
    show (w.heap.push _)[w.heap.size]? = _
    simp
  addr_offI (b off j : Nat) : (⟨b, off, none⟩ : Addr).add j = ⟨b, off + j, none⟩ := by
    unfold Addr.add
    split
    · rename_i h; subst h; rfl
    · rfl
end Go.Proofs.YtoipcbmbhjajfaaGreatDoor
