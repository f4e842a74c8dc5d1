/-
  WALKS: strings.Split and strconv.Atoi, as a sheet's reading calls them.
  WALKS: what the reading of numbers wants: a numeral of any number, an error that is none, a number more in a list.
-/
import Derived.Test.YtefdopifebhgiaaGreatDoorShr
import Derived.Test.YtefdopifebhgiaaGreatDoorBld
import Derived.Test.YtefdopifebhgiaaGreatDoorCut
namespace Go.Proofs.YtefdopifebhgiaaGreatDoor
open Go.RowKit

/-- what a text's reading wants of the library's variables -/
structure Env (w : World) : Prop where
  tab : Tab w
  big : ∃ m, w.cell? ⟨1, 0, none⟩ = some (.int .i64 m)
  syn : ∃ ev, w.cell? ⟨2, 0, none⟩ = some ev ∧ (ev = .nilIface ∨ ∃ te pe, ev = .iface te pe)
  rng : ∃ ev, w.cell? ⟨3, 0, none⟩ = some ev ∧ (ev = .nilIface ∨ ∃ te pe, ev = .iface te pe)
theorem Env.go {w w' : World} (h : Env w) (hb : Below w.heap.size w w') : Env w' := by
  obtain ⟨h1, ⟨m, h2⟩, ⟨a, h3, h4⟩, ⟨b, h5, h6⟩⟩ := h
  exact ⟨h1.base (Nat.le_refl _) hb, ⟨m, cell_back hb (World.block_lt_of_cell? w _ h2) h2⟩, ⟨a, cell_back hb (World.block_lt_of_cell? w _ h3) h3, h4⟩, ⟨b, cell_back hb (World.block_lt_of_cell? w _ h5) h5, h6⟩⟩

def strV (l : List UInt8) : Value := .string ⟨l.toArray⟩
theorem strV_map (xs : List ByteArray) : xs.map Value.string = (xs.map (·.data.toList)).map strV := by
  rw [List.map_map]
  refine List.map_congr_left fun x _ => ?_
  simp [strV]
theorem split_any (s : ByteArray) (c : UInt8) (w : World) (h : Env w) (hs : s.size ≤ 1000000) :
    Calls Tryz.prog 35 #[.string s, .string ⟨#[c]⟩] w fun e w' => e = .returned (.slice (some ⟨w.heap.size, 0, none⟩) (cutL c s.data.toList).length (cutL c s.data.toList).length) ∧ w.alloc (.cells ((cutL c s.data.toList).map strV).toArray 9) = w' := by
  obtain ⟨m, hm⟩ := h.big
  have hc : (Lib.splitB ⟨#[c]⟩ 0 (Lib.countB s ⟨#[c]⟩) s).map (·.data.toList) = cutL c s.data.toList := by
    rw [Lib.splitB_data]; exact split_cut c _
  have hl : (cutL c s.data.toList).length = Lib.countB s ⟨#[c]⟩ + 1 := by
    rw [← hc, List.length_map]; exact Lib.splitB_all _ (by simp [ByteArray.size]) 0 _ s rfl
  refine (Any.strings_Split { Tryz.laysM146 with } Tryz.laysM146.i9 s ⟨#[c]⟩ m w (by omega) hm (by simp [ByteArray.size])).mono ?_
  rintro e w' ⟨rfl, rfl⟩
  rw [hl, ← hc, ← strV_map]
  exact ⟨rfl, rfl⟩

/-- how strconv.Atoi ends -/
def AtoiPost (s : ByteArray) (w : World) (e : Ending) (w' : World) : Prop :=
  match Lib.atoiAll s.data.toList with
  | .ok v => e = .returned (.tuple #[.int .i64 v, .nilIface]) ∧ Below w.heap.size w w'
  | _ => ∃ n t N, e = .returned (.tuple #[.int .i64 n, .iface t (.pointer (some ⟨N, 0, none⟩))]) ∧ Below w.heap.size w w'
theorem atoi_any (s : ByteArray) (w : World) (h : Env w) (hs : s.size ≤ 1000000) : Calls Tryz.prog 55 #[.string s] w (AtoiPost s w) := by
  unfold AtoiPost
  cases hr : Lib.atoiAll s.data.toList with
  | ok v =>
    refine (Any.strconv_Atoi_ok Tryz.laysC172 s (by omega) v hr w).mono ?_
    rintro e w' ⟨rfl, hw⟩
    refine ⟨rfl, ?_⟩
    rcases hw with rfl | ⟨t, rfl⟩
    · exact Below.refl _ _
    · exact Lib.bytesWorld_below _ _ _
  | range =>
    obtain ⟨ev, h1, h2⟩ := h.rng
    refine (Any.strconv_Atoi_range Tryz.laysC172 s (by omega) hr ev w h1 h2).mono ?_
    rintro e w' ⟨N, rfl, _, _, hb⟩
    exact ⟨_, _, _, rfl, hb⟩
  | _ =>
    obtain ⟨ev, h1, h2⟩ := h.syn
    refine (Any.strconv_Atoi_syntax Tryz.laysC172 s (by omega) hr ev w h1 h2).mono ?_
    rintro e w' ⟨N, rfl, _, _, hb⟩
    exact ⟨_, _, _, rfl, hb⟩
end Go.Proofs.YtefdopifebhgiaaGreatDoor

namespace Go.Proofs.YtefdopifebhgiaaGreatDoor
open Go.RowKit

theorem itoaW (n : Int) (w : World) (h0 : 0 ≤ n) (h1 : n ≤ 9223372036854775807) (ht : Tab w) :
    Calls Tryz.prog 30 #[.int .i64 n] w fun e w' => e = .returned (.string ⟨(Lib.itoa n).toArray⟩) ∧ Below w.heap.size w w' :=
  (Tryz.strconv_Itoa n (by omega) (by omega) w ht).mono fun e w' ⟨h, k, os, hw⟩ => ⟨h, by
    subst hw
    exact (below_drewN (Below.refl _ w) k).trans (grow_below (w := w.drewN k) os)⟩
theorem app_one {B : Nat} {w0 w : World} {sv : Value} {l : List Int} (v : Int) (ho : OwnInts B w sv l) (hb : Below B w0 w) (hB : B ≤ w.heap.size) :
    OwnR encInt 1 3 B (w.alloc (.cells #[.int .i64 v] 3)) sv l ∧ Src encInt (w.alloc (.cells #[.int .i64 v] 3)) (.slice (some ⟨w.heap.size, 0, none⟩) 1 1) [v] ∧ B ≤ (w.alloc (.cells #[.int .i64 v] 3)).heap.size ∧
      ∀ v' w2, OwnR encInt 1 3 B w2 v' (l ++ [v]) → (w.alloc (.cells #[.int .i64 v] 3)).grownBy w2 sv.ownBlock → OwnInts B w2 v' (l ++ [v]) ∧ Below B w0 w2 := by
  have hi := OwnInts.at (d := none) (own_lit w [v] #[.int .i64 v] rfl (by simp) (n := 1) (g := w.heap.size) rfl rfl) (by simp)
  have hs : B ≤ (w.alloc (.cells #[.int .i64 v] 3)).heap.size := by simp; omega
  have ho2 := ho.later (below_alloc w (.cells #[.int .i64 v] 3))
  exact ⟨own_int.2 ho2, Src.ints hi (hi.soundI (by simp)), hs, fun v' w2 h1 hg => ⟨own_int.1 h1, (hb.alloc hB _).grown hg hs (fun j hj => ((own_int.2 ho2).lt hj).1)⟩⟩
set_option maxRecDepth 100000 in
theorem iface_ne (t : TypeId) (N : Nat) (w : World) : Sem.run Tryz.prog (Go.binOp .neq 73 (.iface t (.pointer (some ⟨N, 0, none⟩))) .nilIface) w = .ok (.bool true) w := rfl
set_option maxRecDepth 100000 in
theorem nil_eq (w : World) : Sem.run Tryz.prog (Go.binOp .neq 73 .nilIface .nilIface) w = .ok (.bool false) w := rfl
end Go.Proofs.YtefdopifebhgiaaGreatDoor
