import Derived.Test.YtcgopilkajfghaaGreatDoorProg
import Derived.Test.YtcgopilkajfghaaGreatDoorMPlain
import Derived.Lib.Hide
import Derived.Laws.Rows
import Derived.Shelf.Abstract
import Derived.Deep.QuietTactic
import Derived.BigQuiet
import Derived.Deep.MidRow
import Derived.StillTailTactics
import Derived.Deep.RegionHeld3
import Derived.IntWalk
import Derived.Outline
import Derived.Laws.CopyOwn
import Derived.Deep.RegionLaw
import Derived.Maps.AppendAt
set_option linter.unusedVariables false
set_option linter.unusedSimpArgs false

section
/- bits.RotateLeft32 and digest.mixed. -/
namespace Go.Proofs.YtcgopilkajfghaaGreatDoor
open Go.RowKit

theorem u32_shl (x : UInt32) (k : Nat) (hk : k < 32) : (w32 x * ((2 ^ k : Nat) : Int)) % (4294967296 : Int) = w32 (x <<< UInt32.ofNat k) := by
  unfold w32
  rw [UInt32.toNat_shiftLeft, UInt32.toNat_ofNat_of_lt' (by show k < 4294967296; omega), Nat.mod_eq_of_lt hk, Nat.shiftLeft_eq]
  rw [← Int.natCast_mul]
  generalize x.toNat * 2 ^ k = q
  omega
theorem rot_or (x : UInt32) (n : Nat) (hn : n < 32) (hn0 : 0 < n) : bits .or .u32 (w32 x * ((2 ^ (32 - n) : Nat) : Int) % 4294967296) (w32 x / ((2 ^ n : Nat) : Int)) = w32 (rotr x n) := by
  rw [u32_shl x _ (by omega), u32_shr x _ hn, u32_or, UInt32.or_comm]
  rfl
def rots : List Nat := [2, 6, 7, 11, 13, 17, 18, 19, 22, 25]

set_option maxRecDepth 100000 in
theorem rot_2 (x : UInt32) (w : World) : Calls Tryz.prog 100 #[.int .u32 (w32 x), .int .i64 (-2)] w fun e w' => e = .returned (.int .u32 (w32 (rotr x 2))) ∧ w = w' := by
  have h1 : bits BinOp.and IntKind.u64 (IntKind.u64.wrap (-2)) 31 = 30 := by decide
  have H := Lib.hid (rot_or x 2 (by decide) (by decide))
  go_enter Tryz.func100, Tryz.ntmps100
  go_wp2
  go_ret
  exact ⟨by rw [← H.out]; rfl, rfl⟩
set_option maxRecDepth 100000 in
theorem rot_6 (x : UInt32) (w : World) : Calls Tryz.prog 100 #[.int .u32 (w32 x), .int .i64 (-6)] w fun e w' => e = .returned (.int .u32 (w32 (rotr x 6))) ∧ w = w' := by
  have h1 : bits BinOp.and IntKind.u64 (IntKind.u64.wrap (-6)) 31 = 26 := by decide
  have H := Lib.hid (rot_or x 6 (by decide) (by decide))
  go_enter Tryz.func100, Tryz.ntmps100
  go_wp2
  go_ret
  exact ⟨by rw [← H.out]; rfl, rfl⟩
set_option maxRecDepth 100000 in
theorem rot_7 (x : UInt32) (w : World) : Calls Tryz.prog 100 #[.int .u32 (w32 x), .int .i64 (-7)] w fun e w' => e = .returned (.int .u32 (w32 (rotr x 7))) ∧ w = w' := by
  have h1 : bits BinOp.and IntKind.u64 (IntKind.u64.wrap (-7)) 31 = 25 := by decide
  have H := Lib.hid (rot_or x 7 (by decide) (by decide))
  go_enter Tryz.func100, Tryz.ntmps100
  go_wp2
  go_ret
  exact ⟨by rw [← H.out]; rfl, rfl⟩
set_option maxRecDepth 100000 in
theorem rot_11 (x : UInt32) (w : World) : Calls Tryz.prog 100 #[.int .u32 (w32 x), .int .i64 (-11)] w fun e w' => e = .returned (.int .u32 (w32 (rotr x 11))) ∧ w = w' := by
  have h1 : bits BinOp.and IntKind.u64 (IntKind.u64.wrap (-11)) 31 = 21 := by decide
  have H := Lib.hid (rot_or x 11 (by decide) (by decide))
  go_enter Tryz.func100, Tryz.ntmps100
  go_wp2
  go_ret
  exact ⟨by rw [← H.out]; rfl, rfl⟩
set_option maxRecDepth 100000 in
theorem rot_13 (x : UInt32) (w : World) : Calls Tryz.prog 100 #[.int .u32 (w32 x), .int .i64 (-13)] w fun e w' => e = .returned (.int .u32 (w32 (rotr x 13))) ∧ w = w' := by
  have h1 : bits BinOp.and IntKind.u64 (IntKind.u64.wrap (-13)) 31 = 19 := by decide
  have H := Lib.hid (rot_or x 13 (by decide) (by decide))
  go_enter Tryz.func100, Tryz.ntmps100
  go_wp2
  go_ret
  exact ⟨by rw [← H.out]; rfl, rfl⟩
set_option maxRecDepth 100000 in
theorem rot_17 (x : UInt32) (w : World) : Calls Tryz.prog 100 #[.int .u32 (w32 x), .int .i64 (-17)] w fun e w' => e = .returned (.int .u32 (w32 (rotr x 17))) ∧ w = w' := by
  have h1 : bits BinOp.and IntKind.u64 (IntKind.u64.wrap (-17)) 31 = 15 := by decide
  have H := Lib.hid (rot_or x 17 (by decide) (by decide))
  go_enter Tryz.func100, Tryz.ntmps100
  go_wp2
  go_ret
  exact ⟨by rw [← H.out]; rfl, rfl⟩
set_option maxRecDepth 100000 in
theorem rot_18 (x : UInt32) (w : World) : Calls Tryz.prog 100 #[.int .u32 (w32 x), .int .i64 (-18)] w fun e w' => e = .returned (.int .u32 (w32 (rotr x 18))) ∧ w = w' := by
  have h1 : bits BinOp.and IntKind.u64 (IntKind.u64.wrap (-18)) 31 = 14 := by decide
  have H := Lib.hid (rot_or x 18 (by decide) (by decide))
  go_enter Tryz.func100, Tryz.ntmps100
  go_wp2
  go_ret
  exact ⟨by rw [← H.out]; rfl, rfl⟩
set_option maxRecDepth 100000 in
theorem rot_19 (x : UInt32) (w : World) : Calls Tryz.prog 100 #[.int .u32 (w32 x), .int .i64 (-19)] w fun e w' => e = .returned (.int .u32 (w32 (rotr x 19))) ∧ w = w' := by
  have h1 : bits BinOp.and IntKind.u64 (IntKind.u64.wrap (-19)) 31 = 13 := by decide
  have H := Lib.hid (rot_or x 19 (by decide) (by decide))
  go_enter Tryz.func100, Tryz.ntmps100
  go_wp2
  go_ret
  exact ⟨by rw [← H.out]; rfl, rfl⟩
set_option maxRecDepth 100000 in
theorem rot_22 (x : UInt32) (w : World) : Calls Tryz.prog 100 #[.int .u32 (w32 x), .int .i64 (-22)] w fun e w' => e = .returned (.int .u32 (w32 (rotr x 22))) ∧ w = w' := by
  have h1 : bits BinOp.and IntKind.u64 (IntKind.u64.wrap (-22)) 31 = 10 := by decide
  have H := Lib.hid (rot_or x 22 (by decide) (by decide))
  go_enter Tryz.func100, Tryz.ntmps100
  go_wp2
  go_ret
  exact ⟨by rw [← H.out]; rfl, rfl⟩
set_option maxRecDepth 100000 in
theorem rot_25 (x : UInt32) (w : World) : Calls Tryz.prog 100 #[.int .u32 (w32 x), .int .i64 (-25)] w fun e w' => e = .returned (.int .u32 (w32 (rotr x 25))) ∧ w = w' := by
  have h1 : bits BinOp.and IntKind.u64 (IntKind.u64.wrap (-25)) 31 = 7 := by decide
  have H := Lib.hid (rot_or x 25 (by decide) (by decide))
  go_enter Tryz.func100, Tryz.ntmps100
  go_wp2
  go_ret
  exact ⟨by rw [← H.out]; rfl, rfl⟩
theorem rot_any (x : UInt32) (n : Nat) (hn : n ∈ rots) (w : World) : Calls Tryz.prog 100 #[.int .u32 (w32 x), .int .i64 (-(n : Int))] w fun e w' => e = .returned (.int .u32 (w32 (rotr x n))) ∧ w = w' := by
  have h : n = 2 ∨ n = 6 ∨ n = 7 ∨ n = 11 ∨ n = 13 ∨ n = 17 ∨ n = 18 ∨ n = 19 ∨ n = 22 ∨ n = 25 := by simpa [rots] using hn
  rcases h with rfl | rfl | rfl | rfl | rfl | rfl | rfl | rfl | rfl | rfl
  · exact rot_2 x w
  · exact rot_6 x w
  · exact rot_7 x w
  · exact rot_11 x w
  · exact rot_13 x w
  · exact rot_17 x w
  · exact rot_18 x w
  · exact rot_19 x w
  · exact rot_22 x w
  · exact rot_25 x w
theorem mix_snoc (x : UInt32) (l : List Nat) (n : Nat) : mix x (l ++ [n]) = mix x l ^^^ rotr x n := by unfold mix; rw [List.foldl_append]; rfl
theorem take_getD {α : Type} (l : List α) (d : α) (j : Nat) (h : j < l.length) : l.take (j + 1) = l.take j ++ [l.getD j d] := by
  rw [List.take_succ_eq_append_getElem h, List.getD_eq_getElem?_getD, List.getElem?_eq_getElem h]; rfl
theorem getD_mem' {α : Type} (l : List α) (d : α) (i : Nat) (h : i < l.length) : l.getD i d ∈ l := by
  rw [List.getD_eq_getElem?_getD, List.getElem?_eq_getElem h]; exact List.getElem_mem h
attribute [local go_sem] u32_signed u32_xor
set_option maxRecDepth 100000 in
theorem mixed_any (x : UInt32) (l : List Nat) (hl : ∀ n ∈ l, n ∈ rots) (hl8 : l.length ≤ 8) (g cap m : Nat) (hm : l.length = m) (w : World) (hc : ∀ j, j < l.length → w.cell? ⟨g, j, none⟩ = some (.int .i64 ((l.getD j 0 : Nat) : Int))) :
    Calls Tryz.prog 96 #[.int .u32 (w32 x), .slice (some ⟨g, 0, none⟩) m cap] w fun e w' => e = .returned (.int .u32 (w32 (mix x l))) ∧ w = w' := by
  have HC := Lib.hid hc
  have HL := Lib.hid hl
  have hm8 : m ≤ 8 := by omega
  have HM := Lib.hid hm
  clear hc hl hm hl8
  go_enter Tryz.func96, Tryz.ntmps96
  go_wp2
  go_loop [5, 10] (fun o i => ∃ j : Nat, j ≤ m ∧ i = .int .i64 j ∧ o = .int .u32 (w32 (mix x (l.take j)))) (fun _ i => m - (intOf i).toNat)
  case atStart => exact ⟨0, Nat.zero_le _, rfl, rfl⟩
  case round =>
    obtain ⟨j, hj, rfl, rfl⟩ := hrel
    by_cases hlt : j < m
    · have c1 := HC.out j (by rw [HM.out]; exact hlt)
      have HS : Hid (mix x (l.take (j + 1)) = mix x (l.take j) ^^^ rotr x (l.getD j 0)) := by show _ = _; rw [take_getD l 0 j (by rw [HM.out]; exact hlt), mix_snoc]
      have HI : Hid (l.getD j 0 ∈ rots) := HL.out _ (getD_mem' _ _ _ (by rw [HM.out]; exact hlt))
      generalize l.getD j 0 = n at c1 HS HI
      have hn : n ≤ 31 := by have h := HI.out; simp [rots] at h; omega
      have jj : (j : Int) < (m : Int) := by omega
      go_wp2_with (go_at_call 100; refine (rot_any x n HI.out _).mono ?_; rintro e w' ⟨rfl, rfl⟩)
      go_round
      case rel => exact ⟨j + 1, by omega, by go_num, by rw [HS.out]⟩
      case measure => simp [intOf]; omega
    · obtain rfl : j = m := by omega
      have HF : Hid (mix x (l.take j) = mix x l) := by show _ = _; rw [List.take_of_length_le (by rw [HM.out]; exact Nat.le_refl _)]
      go_wp2
      go_ret
      exact ⟨by rw [← HF.out]; rfl, rfl⟩

theorem mixed_7_18 (x : UInt32) (g cap : Nat) (w : World) (c0 : w.cell? ⟨g, 0, none⟩ = some (.int .i64 7)) (c1 : w.cell? ⟨g, 1, none⟩ = some (.int .i64 18)) : Calls Tryz.prog 96 #[.int .u32 (w32 x), .slice (some ⟨g, 0, none⟩) 2 cap] w fun e w' => e = .returned (.int .u32 (w32 (mix x [7, 18]))) ∧ w = w' :=
  mixed_any x [7, 18] (by decide) (by decide) g cap 2 rfl w fun j hj => by
    have h : j = 0 ∨ j = 1 := by have : j < 2 := hj; omega
    rcases h with rfl | rfl <;> assumption
theorem mixed_17_19 (x : UInt32) (g cap : Nat) (w : World) (c0 : w.cell? ⟨g, 0, none⟩ = some (.int .i64 17)) (c1 : w.cell? ⟨g, 1, none⟩ = some (.int .i64 19)) : Calls Tryz.prog 96 #[.int .u32 (w32 x), .slice (some ⟨g, 0, none⟩) 2 cap] w fun e w' => e = .returned (.int .u32 (w32 (mix x [17, 19]))) ∧ w = w' :=
  mixed_any x [17, 19] (by decide) (by decide) g cap 2 rfl w fun j hj => by
    have h : j = 0 ∨ j = 1 := by have : j < 2 := hj; omega
    rcases h with rfl | rfl <;> assumption
theorem mixed_6_11_25 (x : UInt32) (g cap : Nat) (w : World) (c0 : w.cell? ⟨g, 0, none⟩ = some (.int .i64 6)) (c1 : w.cell? ⟨g, 1, none⟩ = some (.int .i64 11)) (c2 : w.cell? ⟨g, 2, none⟩ = some (.int .i64 25)) : Calls Tryz.prog 96 #[.int .u32 (w32 x), .slice (some ⟨g, 0, none⟩) 3 cap] w fun e w' => e = .returned (.int .u32 (w32 (mix x [6, 11, 25]))) ∧ w = w' :=
  mixed_any x [6, 11, 25] (by decide) (by decide) g cap 3 rfl w fun j hj => by
    have h : j = 0 ∨ j = 1 ∨ j = 2 := by have : j < 3 := hj; omega
    rcases h with rfl | rfl | rfl <;> assumption
theorem mixed_2_13_22 (x : UInt32) (g cap : Nat) (w : World) (c0 : w.cell? ⟨g, 0, none⟩ = some (.int .i64 2)) (c1 : w.cell? ⟨g, 1, none⟩ = some (.int .i64 13)) (c2 : w.cell? ⟨g, 2, none⟩ = some (.int .i64 22)) : Calls Tryz.prog 96 #[.int .u32 (w32 x), .slice (some ⟨g, 0, none⟩) 3 cap] w fun e w' => e = .returned (.int .u32 (w32 (mix x [2, 13, 22]))) ∧ w = w' :=
  mixed_any x [2, 13, 22] (by decide) (by decide) g cap 3 rfl w fun j hj => by
    have h : j = 0 ∨ j = 1 ∨ j = 2 := by have : j < 3 := hj; omega
    rcases h with rfl | rfl | rfl <;> assumption
end Go.Proofs.YtcgopilkajfghaaGreatDoor
end

section
/- Blocks that are rows of words. -/
namespace Go.Proofs.YtcgopilkajfghaaGreatDoor
open Go.RowKit

/-- The cells of words. -/
def uCells (l : List UInt32) : Array Value := (l.map fun x => Value.int .u32 (w32 x)).toArray
theorem uCells_size (l : List UInt32) : (uCells l).size = l.length := by simp [uCells]
theorem uCells_get (l : List UInt32) (j : Nat) (h : j < l.length) : (uCells l)[j]? = some (.int .u32 (w32 (l.getD j 0))) := by
  simp [uCells, h]
/-- Block B holds these words, and may be written. -/
def URow (W : World) (B : Nat) (t : TypeId) (l : List UInt32) : Prop := W.heap[B]? = some (.cells (uCells l) t (0, 0))
theorem URow.lt {W : World} {B : Nat} {t : TypeId} {l : List UInt32} (h : URow W B t l) : B < W.heap.size := (Array.getElem?_eq_some_iff.1 h).1
theorem URow.cell {W : World} {B : Nat} {t : TypeId} {l : List UInt32} (h : URow W B t l) (j : Nat) (hj : j < l.length) : W.cell? ⟨B, j, none⟩ = some (.int .u32 (w32 (l.getD j 0))) := by
  rw [cell_of_row W B j _ t _ h, uCells_get l j hj]
theorem URow.frozen {W : World} {B : Nat} {t : TypeId} {l : List UInt32} (h : URow W B t l) (j : Nat) : W.frozen? ⟨B, j, none⟩ = false := frozen_of_row W B j _ t h
theorem uCells_set (l : List UInt32) (j : Nat) (x : UInt32) : (uCells l).setIfInBounds j (.int .u32 (w32 x)) = uCells (l.set j x) := by
  unfold uCells
  rw [List.setIfInBounds_toArray, List.map_set]
theorem URow.set {W : World} {B : Nat} {t : TypeId} {l : List UInt32} (h : URow W B t l) (j : Nat) (x : UInt32) : URow (W.setCell ⟨B, j, none⟩ (.int .u32 (w32 x))) B t (l.set j x) := by
  unfold URow
  rw [heap_setCell_same W B j _ t _ h, uCells_set]
theorem URow.below {W W' : World} {B C : Nat} {t : TypeId} {l : List UInt32} (h : URow W B t l) (hb : Below C W W') (hC : B < C) : URow W' B t l := (hb.block B hC).trans h
theorem URow.drew {W : World} {B : Nat} {t : TypeId} {l : List UInt32} (h : URow W B t l) : URow W.drew B t l := h
theorem URow.drewN {W : World} {B : Nat} {t : TypeId} {l : List UInt32} (h : URow W B t l) (n : Nat) : URow (W.drewN n) B t l := h
theorem URow.alloc {W : World} {B : Nat} {t : TypeId} {l : List UInt32} (h : URow W B t l) (o : Obj) : URow (W.alloc o) B t l := h.below ((Below.refl (B + 1) W).alloc h.lt o) (by omega)
theorem URow.new (W : World) (t : TypeId) (l : List UInt32) : URow (W.alloc (.cells (uCells l) t)) W.heap.size t l := heap_alloc_new W _
theorem URow.other {W : World} {B g j : Nat} {t : TypeId} {l : List UInt32} {v : Value} (h : URow W B t l) (hne : B ≠ g) : URow (W.setCell ⟨g, j, none⟩ v) B t l := (heap_setCell_other W _ B v hne).trans h
theorem URow.there {W : World} {B : Nat} {t : TypeId} {l : List UInt32} (h : URow W B t l) : W.there B 0 l.length := fun j hj => by
  rw [Nat.zero_add]
  exact ⟨by rw [h.cell j hj]; rfl, h.frozen j⟩
theorem uCells_one (l : List UInt32) : (uCells l).all (·.oneCell') = true := by
  unfold uCells
  apply all_oneCell_toArray
  intro v hv
  obtain ⟨x, _, rfl⟩ := List.mem_map.1 hv
  rfl
/-- The whole row is written. -/
theorem setCells_row (B : Nat) (t : TypeId) : ∀ (l' : List UInt32) (o : Nat) (l : List UInt32) (W : World), URow W B t l → o + l'.length = l.length → URow (W.setCells B o (uCells l').toList) B t (l.take o ++ l')
  | [], o, l, W, h, ho => by
    have e : l.take o ++ [] = l := by rw [List.append_nil, List.take_of_length_le (by simp at ho; omega)]
    rw [e]
    exact h
  | x :: l', o, l, W, h, ho => by
    have ho' : o + 1 + l'.length = l.length := by simp at ho; omega
    have h1 := setCells_row B t l' (o + 1) (l.set o x) _ (h.set o x) (by rw [List.length_set]; exact ho')
    have e : (l.set o x).take (o + 1) ++ l' = l.take o ++ x :: l' := by
      rw [List.take_succ_eq_append_getElem (by rw [List.length_set]; omega), List.take_set_of_le (Nat.le_refl _), List.getElem_set_self, List.append_assoc]
      rfl
    rw [e] at h1
    exact h1
theorem URow.setAll {W : World} {B : Nat} {t : TypeId} {l l' : List UInt32} (h : URow W B t l) (hl : l'.length = l.length) : URow (W.setCells B 0 (uCells l').toList) B t l' := by
  have := setCells_row B t l' 0 l W h (by omega)
  simpa using this
theorem below_setCells {C B : Nat} : ∀ (vs : List Value) (o : Nat) {w W : World}, Below C w W → C ≤ B → Below C w (W.setCells B o vs)
  | [], _, _, _, h, _ => h
  | v :: r, o, _, _, h, hC => below_setCells r (o + 1) (h.setCell (p := ⟨B, o, none⟩) hC v) hC
end Go.Proofs.YtcgopilkajfghaaGreatDoor
end

section
/- digest.schedule. -/
namespace Go.Proofs.YtcgopilkajfghaaGreatDoor
open Go.RowKit

theorem u32_shr3 (x : UInt32) : w32 x / (8 : Int) = w32 (x >>> 3) := u32_shr x 3 (by omega)
theorem u32_shr10 (x : UInt32) : w32 x / (1024 : Int) = w32 (x >>> 10) := u32_shr x 10 (by omega)
theorem u32_shl8 (x : UInt32) : w32 x * (256 : Int) % (4294967296 : Int) = w32 (x <<< 8) := u32_shl x 8 (by omega)
theorem u32_shl16 (x : UInt32) : w32 x * (65536 : Int) % (4294967296 : Int) = w32 (x <<< 16) := u32_shl x 16 (by omega)
theorem u32_shl24 (x : UInt32) : w32 x * (16777216 : Int) % (4294967296 : Int) = w32 (x <<< 24) := u32_shl x 24 (by omega)
theorem u32w_u8 (b : UInt8) : IntKind.u32.wrap (b.toNat : Int) = w32 b.toUInt32 := by rw [IntKind.wrap_u32', u32_of_u8]
theorem u32w_shl8 (x : UInt32) : IntKind.u32.wrap (w32 x * 256) = w32 (x <<< 8) := by rw [IntKind.wrap_u32', u32_shl8]
theorem u32w_shl16 (x : UInt32) : IntKind.u32.wrap (w32 x * 65536) = w32 (x <<< 16) := by rw [IntKind.wrap_u32', u32_shl16]
theorem u32w_shl24 (x : UInt32) : IntKind.u32.wrap (w32 x * 16777216) = w32 (x <<< 24) := by rw [IntKind.wrap_u32', u32_shl24]
theorem u32w_add (x y : UInt32) : IntKind.u32.wrap (w32 x + w32 y) = w32 (x + y) := by rw [IntKind.wrap_u32', u32_add]
attribute [local go_sem] u32w_u8 u32w_shl8 u32w_shl16 u32w_shl24 u32w_add
attribute [local go_sem] u32_signed u32_xor u32_or u32_add u32_shr3 u32_shr10 u32_shl8 u32_shl16 u32_shl24 u32_of_u8

/-- The words so far, the others zero. -/
def schedRow (b : Bytes) (j : Nat) : List UInt32 := schedTo b j ++ List.replicate (64 - j) 0
theorem schedRow_length (b : Bytes) (j : Nat) (hj : j ≤ 64) : (schedRow b j).length = 64 := by
  unfold schedRow
  rw [List.length_append, schedTo_length, List.length_replicate]
  omega
theorem schedRow_get (b : Bytes) (j i : Nat) (hi : i < j) : (schedRow b j).getD i 0 = (schedTo b j).getD i 0 := by
  unfold schedRow
  rw [List.getD_eq_getElem?_getD, List.getElem?_append_left (by rw [schedTo_length]; exact hi), ← List.getD_eq_getElem?_getD]
theorem schedRow_set (b : Bytes) (j : Nat) (hj : j < 64) (x : UInt32) (hx : schedTo b (j + 1) = schedTo b j ++ [x]) : (schedRow b j).set j x = schedRow b (j + 1) := by
  unfold schedRow
  rw [hx, List.set_append_right _ _ (by rw [schedTo_length]; exact Nat.le_refl _), schedTo_length, Nat.sub_self, List.append_assoc]
  congr 1
  obtain ⟨n, hn⟩ : ∃ n, 64 - j = n + 1 := ⟨63 - j, by omega⟩
  rw [hn, show 64 - (j + 1) = n from by omega]
  rfl
theorem schedTo_word (b : Bytes) (j : Nat) (hj : j < 16) : schedTo b (j + 1) = schedTo b j ++ [word b j] := by simp only [schedTo, if_pos hj]
theorem schedTo_next (b : Bytes) (j : Nat) (hj : ¬ j < 16) : schedTo b (j + 1) = schedTo b j ++ [schedNext (schedTo b j) j] := by simp only [schedTo, if_neg hj]
theorem below_drewN0 {B : Nat} {w W : World} (h : Below B w W) (n : Nat) : Below B w (W.drewN n) := ⟨h.os, h.tape, h.output, h.size, h.block⟩
theorem below_alloc0 {w W : World} (h : Below w.heap.size w W) (o : Obj) : Below w.heap.size w (W.alloc o) := h.alloc h.size o
theorem cell_a1 {W : World} {g j : Nat} {cs : Array Value} {t : TypeId} {v : Value} (hg : g = W.heap.size) (h : cs[j]? = some v) : (W.alloc (.cells cs t)).cell? ⟨g, j, none⟩ = some v := by
  subst hg
  rw [cell_of_row _ _ j cs t (0, 0) (heap_alloc_new W _), h]
theorem cell_a2 {W : World} {g j : Nat} {cs : Array Value} {t : TypeId} {v : Value} {o : Obj} (hg : g = W.heap.size) (h : cs[j]? = some v) : ((W.alloc (.cells cs t)).alloc o).cell? ⟨g, j, none⟩ = some v := by
  subst hg
  rw [cell_of_row _ _ j cs t (0, 0) (heap_alloc2_old W _ _), h]
/-- What a cell holds, whatever it is. -/
def oldAt (W : World) (a : Addr) : Value := (W.cell? a).getD undef
/-- What the statement that reckons a further word reads and writes. -/
def SchedS (B j : Nat) (x16 x7 : UInt32) (W : World) : Prop :=
  W.cell? ⟨B, j - 16, none⟩ = some (.int .u32 (w32 x16)) ∧ W.cell? ⟨B, j - 7, none⟩ = some (.int .u32 (w32 x7)) ∧ W.cell? ⟨B, j, none⟩ = some (oldAt W ⟨B, j, none⟩) ∧ W.frozen? ⟨B, j, none⟩ = false
theorem schedS_of {W : World} {B j : Nat} {t : TypeId} {l : List UInt32} {x16 x7 : UInt32}
    (hk : ∀ W' : World, URow W' B t l → W'.cell? ⟨B, j - 16, none⟩ = some (.int .u32 (w32 x16)) ∧ W'.cell? ⟨B, j - 7, none⟩ = some (.int .u32 (w32 x7))) (hj : j < l.length) (hU : URow W B t l) : SchedS B j x16 x7 W := by
  refine ⟨(hk W hU).1, (hk W hU).2, ?_, hU.frozen j⟩
  unfold oldAt
  rw [hU.cell j hj]
  rfl
theorem schedS_set {W : World} {B j : Nat} {x16 x7 : UInt32} {v : Value} (h16 : 16 ≤ j) (h : SchedS B j x16 x7 W) : SchedS B j x16 x7 (W.setCell ⟨B, j, none⟩ v) := by
  obtain ⟨h1, h2, h3, h4⟩ := h
  refine ⟨?_, ?_, ?_, by rw [World.frozen?_setCell]; exact h4⟩
  · rw [World.cell?_setCell_other]
    · exact h1
    · intro e; injection e with _ e2 _; omega
  · rw [World.cell?_setCell_other]
    · exact h2
    · intro e; injection e with _ e2 _; omega
  · unfold oldAt
    rw [World.cell?_setCell_same' _ _ _ (by rw [h3]; rfl)]
    rfl
set_option maxRecDepth 100000 in
set_option maxHeartbeats 2000000 in
theorem schedule_any (b : Bytes) (g o cap : Nat) (w : World) (hg : g < w.heap.size) (hc : ∀ j, j < 64 → w.cell? ⟨g, o + j, none⟩ = some (.int .u8 ((b.getD j 0).toNat : Int))) :
    Calls Tryz.prog 95 #[.slice (some ⟨g, o, none⟩) 64 cap] w fun e w' => e = .returned (.agg (uCells (schedTo b 64))) ∧ Below w.heap.size w w' := by
  have HC := Lib.hid hc
  clear hc
  go_enter Tryz.func95, Tryz.ntmps95
  go_wp2
  generalize hW : w.alloc _ = W
  have hU : URow W w.heap.size 146 (schedRow b 0) := by rw [← hW]; exact heap_alloc_new w _
  have hB : Below w.heap.size w W := by rw [← hW]; exact (Below.refl _ _).alloc (Nat.le_refl _) _
  have hsz : W.heap.size = w.heap.size + 1 := by rw [← hW]; simp
  clear hW
  go_loopw [7] (fun i wr => ∃ j : Nat, j ≤ 16 ∧ i = .int .i64 j ∧ Below w.heap.size w wr ∧ URow wr w.heap.size 146 (schedRow b j)) (fun i _ => 16 - (intOf i).toNat)
  case atStart => exact ⟨0, Nat.zero_le _, rfl, hB, hU⟩
  case round =>
    obtain ⟨j, hj, rfl, hBr, hUr⟩ := hrel
    by_cases hlt : j < 16
    · have c0 := (hBr.cell (p := ⟨g, o + 4 * j, none⟩) hg).trans (HC.out (4 * j) (by omega))
      have c1 := (hBr.cell (p := ⟨g, o + (4 * j + 1), none⟩) hg).trans (HC.out (4 * j + 1) (by omega))
      have c2 := (hBr.cell (p := ⟨g, o + (4 * j + 2), none⟩) hg).trans (HC.out (4 * j + 2) (by omega))
      have c3 := (hBr.cell (p := ⟨g, o + (4 * j + 3), none⟩) hg).trans (HC.out (4 * j + 3) (by omega))
      have HX : Hid (word b j = (b.getD (4 * j) 0).toUInt32 <<< 24 ||| (b.getD (4 * j + 1) 0).toUInt32 <<< 16 ||| (b.getD (4 * j + 2) 0).toUInt32 <<< 8 ||| (b.getD (4 * j + 3) 0).toUInt32) := rfl
      generalize b.getD (4 * j) 0 = b0 at c0 HX
      generalize b.getD (4 * j + 1) 0 = b1 at c1 HX
      generalize b.getD (4 * j + 2) 0 = b2 at c2 HX
      generalize b.getD (4 * j + 3) 0 = b3 at c3 HX
      have jj : (j : Int) < 16 := by omega
      have j0 : 0 ≤ (j : Int) := by omega
      have j64 : (j : Int) < 64 := by omega
      have m0 : IntKind.i64.wrap (4 * (j : Int)) = 4 * (j : Int) := IntWalk.i64_in _ (by omega)
      have m1 : IntKind.i64.wrap (4 * (j : Int) + 1) = 4 * (j : Int) + 1 := IntWalk.i64_in _ (by omega)
      have m2 : IntKind.i64.wrap (4 * (j : Int) + 2) = 4 * (j : Int) + 2 := IntWalk.i64_in _ (by omega)
      have m3 : IntKind.i64.wrap (4 * (j : Int) + 3) = 4 * (j : Int) + 3 := IntWalk.i64_in _ (by omega)
      have p0 : 0 ≤ 4 * (j : Int) := by omega
      have p1 : 0 ≤ 4 * (j : Int) + 1 := by omega
      have p2 : 0 ≤ 4 * (j : Int) + 2 := by omega
      have p3 : 0 ≤ 4 * (j : Int) + 3 := by omega
      have q0 : 4 * (j : Int) < 64 := by omega
      have q1 : 4 * (j : Int) + 1 < 64 := by omega
      have q2 : 4 * (j : Int) + 2 < 64 := by omega
      have q3 : 4 * (j : Int) + 3 < 64 := by omega
      have n0 : (4 * (j : Int)).toNat = 4 * j := by omega
      have n1 : (4 * (j : Int) + 1).toNat = 4 * j + 1 := by omega
      have n2 : (4 * (j : Int) + 2).toNat = 4 * j + 2 := by omega
      have n3 : (4 * (j : Int) + 3).toNat = 4 * j + 3 := by omega
      go_wp2
      go_still_tail 35, (by kernel_rfl)
      change wpList _ _ _ _ _ wr.drew
      have hU2 : URow wr.drew w.heap.size 146 (schedRow b j) := hUr
      have hB2 : Below w.heap.size w wr.drew := hBr.drew
      generalize wr.drew = w2 at hU2 hB2
      have cw := hU2.cell j (by rw [schedRow_length _ _ (by omega)]; omega)
      have fw := hU2.frozen j
      go_wp2
      go_roundw
      case rel => exact ⟨j + 1, by omega, by go_num, hB2.setCell (Nat.le_refl _) _, by rw [← schedRow_set b j (by omega) _ (schedTo_word b j hlt), HX.out]; exact hU2.set j _⟩
      case measure => simp [intOf]; omega
    · obtain rfl : j = 16 := by omega
      clear hU hB hsz hlt hj
      go_wp2
      rw [show (((16 : Nat) : Int)) = (16 : Int) from rfl]
      go_loopw [4] (fun i wr => ∃ j : Nat, 16 ≤ j ∧ j ≤ 64 ∧ i = .int .i64 j ∧ Below w.heap.size w wr ∧ URow wr w.heap.size 146 (schedRow b j)) (fun i _ => 64 - (intOf i).toNat)
      case atStart => exact ⟨16, Nat.le_refl _, by omega, rfl, hBr, hUr⟩
      case round =>
        obtain ⟨j, hj16, hj, rfl, hBy, hUy⟩ := hrel
        by_cases hlt : j < 64
        · have jj : (j : Int) < 64 := by omega
          have j0 : 0 ≤ (j : Int) := by omega
          have w15 : IntKind.i64.wrap ((j : Int) - 15) = (j : Int) - 15 := IntWalk.i64_in _ (by omega)
          have w2 : IntKind.i64.wrap ((j : Int) - 2) = (j : Int) - 2 := IntWalk.i64_in _ (by omega)
          have w16 : IntKind.i64.wrap ((j : Int) - 16) = (j : Int) - 16 := IntWalk.i64_in _ (by omega)
          have w7 : IntKind.i64.wrap ((j : Int) - 7) = (j : Int) - 7 := IntWalk.i64_in _ (by omega)
          have z15 : 15 ≤ (j : Int) := by omega
          have z2 : 2 ≤ (j : Int) := by omega
          have z16 : 16 ≤ (j : Int) := by omega
          have z7 : 7 ≤ (j : Int) := by omega
          have y15 : 0 ≤ (j : Int) - 15 := by omega
          have y2 : 0 ≤ (j : Int) - 2 := by omega
          have y16 : 0 ≤ (j : Int) - 16 := by omega
          have y7 : 0 ≤ (j : Int) - 7 := by omega
          have l15 : (j : Int) - 15 < 64 := by omega
          have l2 : (j : Int) - 2 < 64 := by omega
          have l16 : (j : Int) - 16 < 64 := by omega
          have l7 : (j : Int) - 7 < 64 := by omega
          have n15 : ((j : Int) - 15).toNat = j - 15 := by omega
          have n2 : ((j : Int) - 2).toNat = j - 2 := by omega
          have n16 : ((j : Int) - 16).toNat = j - 16 := by omega
          have n7 : ((j : Int) - 7).toNat = j - 7 := by omega
          have hlen := schedRow_length b j hj
          have c15 := hUy.cell (j - 15) (by omega)
          have c2 := hUy.cell (j - 2) (by omega)
          have c16 := hUy.cell (j - 16) (by omega)
          have c7 := hUy.cell (j - 7) (by omega)
          rw [schedRow_get _ _ _ (by omega)] at c15 c2 c16 c7
          have HN : Hid (schedNext (schedTo b j) j = (schedTo b j).getD (j - 16) 0 + (mix ((schedTo b j).getD (j - 15) 0) [7, 18] ^^^ (schedTo b j).getD (j - 15) 0 >>> 3) + (schedTo b j).getD (j - 7) 0 + (mix ((schedTo b j).getD (j - 2) 0) [17, 19] ^^^ (schedTo b j).getD (j - 2) 0 >>> 10)) := rfl
          generalize (schedTo b j).getD (j - 15) 0 = x15 at c15 HN
          generalize (schedTo b j).getD (j - 2) 0 = x2 at c2 HN
          have HK : Hid (∀ W' : World, URow W' w.heap.size 146 (schedRow b j) → W'.cell? ⟨w.heap.size, j - 16, none⟩ = some (.int .u32 (w32 ((schedTo b j).getD (j - 16) 0))) ∧ W'.cell? ⟨w.heap.size, j - 7, none⟩ = some (.int .u32 (w32 ((schedTo b j).getD (j - 7) 0)))) := fun W' h => by
            have e16 := h.cell (j - 16) (by omega)
            have e7 := h.cell (j - 7) (by omega)
            rw [schedRow_get _ _ _ (by omega)] at e16 e7
            exact ⟨e16, e7⟩
          generalize (schedTo b j).getD (j - 16) 0 = x16 at c16 HN HK
          generalize (schedTo b j).getD (j - 7) 0 = x7 at c7 HN HK
          have HJ : Hid (j < (schedRow b j).length) := by show _ < _; omega
          have HB := Lib.hid hBy
          have HUy := Lib.hid hUy
          clear hlen
          go_wp2
          go_quiet (fail)
          go_wp2
          go_region_held3 (fun W' => W'.cell? ⟨w.heap.size, j - 16, none⟩ = some (.int .u32 (w32 x16)) ∧ W'.cell? ⟨w.heap.size, j - 7, none⟩ = some (.int .u32 (w32 x7)) ∧ W'.cell? ⟨w.heap.size, j, none⟩ = some (oldAt W' ⟨w.heap.size, j, none⟩) ∧ W'.frozen? ⟨w.heap.size, j, none⟩ = false)
            (first | (refine schedS_of HK.out HJ.out ?_; (repeat (first | exact HUy.out | apply URow.drew | apply URow.drewN | apply URow.alloc)); done) | (refine schedS_set hj16 (schedS_of HK.out HJ.out ?_); (repeat (first | exact HUy.out | apply URow.drew | apply URow.drewN | apply URow.alloc)); done))
            (first | (go_at_call 96; (with_reducible refine (mixed_7_18 x15 _ _ _ ?_ ?_).mono ?_); (first | exact cell_a1 (by simp) rfl | exact cell_a2 (by simp) rfl); (first | exact cell_a1 (by simp) rfl | exact cell_a2 (by simp) rfl); rintro e w' ⟨rfl, rfl⟩) | (go_at_call 96; (with_reducible refine (mixed_17_19 x2 _ _ _ ?_ ?_).mono ?_); (first | exact cell_a1 (by simp) rfl | exact cell_a2 (by simp) rfl); (first | exact cell_a1 (by simp) rfl | exact cell_a2 (by simp) rfl); rintro e w' ⟨rfl, rfl⟩))
          all_goals
            rename_i hHeld
            clear hHeld c15 c2 c16 c7
            go_wp2
            go_roundw
            case rel =>
              refine ⟨j + 1, by omega, by omega, by go_num, ?_, ?_⟩
              · refine Below.setCell (p := ⟨w.heap.size, j, none⟩) ?_ (Nat.le_refl _) _
                repeat (first | exact HB.out | apply below_alloc0 | apply below_drewN0 | apply Below.drew)
              · rw [← schedRow_set b j hlt _ (schedTo_next b j (by omega)), HN.out]
                refine URow.set ?_ j _
                repeat (first | exact HUy.out | apply URow.drew | apply URow.drewN | apply URow.alloc)
            case measure => simp [intOf]; omega
        · obtain rfl : j = 64 := by omega
          have HU : Hid (wr.heap[w.heap.size]? = some (.cells (uCells (schedRow b 64)) 146 (0, 0))) := hUy
          have HSz : Hid ((Tryz.prog.info? 146).map (·.size) = some (uCells (schedRow b 64)).size) := by show _ = _; rw [uCells_size, schedRow_length _ _ (Nat.le_refl _)]; kernel_rfl
          have HF : Hid (schedTo b 64 = schedRow b 64) := by show _ = _; unfold schedRow; simp
          clear hlt hj hj16 hUr hBr
          generalize hcs : uCells (schedRow b 64) = cs at HU HSz
          have HCs := Lib.hid hcs
          clear hcs
          have HTh : Hid (wr.there w.heap.size 0 cs.size) := by show wr.there _ _ _; rw [← HCs.out, uCells_size]; exact hUy.there
          have HOne : Hid (cs.all (·.oneCell') = true) := by show _ = _; rw [← HCs.out]; exact uCells_one _
          have HU2 : Hid ((wr.setCells w.heap.size 0 cs.toList).heap[w.heap.size]? = some (.cells cs 146 (0, 0))) := by
            show _ = _
            rw [← HCs.out]
            exact hUy.setAll rfl
          clear hUy
          go_wp2_with (first | ((with_reducible refine wpList_load_row ?_ 146 (.tmp 2) ?_ w.heap.size ?_ 146 cs (0, 0) _ HU.out Tryz.underlying146 ?_ HSz.out ?_); exact rfl; exact rfl; exact rfl; exact rfl) | ((with_reducible refine wpList_store_mid ?_ 146 (.tmp 2) (.tmp 83) ?_ w.heap.size 0 cs ?_ ?_ HTh.out HSz.out HOne.out ?_); exact rfl; exact rfl; exact rfl; exact rfl))
          refine bodyPost_ret (v := .agg cs) (results_cell_row rfl _ _ w.heap.size 146 cs (0, 0) _ rfl HU2.out Tryz.underlying146 rfl HSz.out) rfl ⟨?_, below_setCells _ _ hBy (Nat.le_refl _)⟩
          rw [HF.out, HCs.out]
end Go.Proofs.YtcgopilkajfghaaGreatDoor
end

section
/- (*digest.words).add. -/
namespace Go.Proofs.YtcgopilkajfghaaGreatDoor
open Go.RowKit

attribute [local go_sem] u32_signed u32_xor u32_or u32_and u32_add u32_not u32w_add
theorem kTab_length : kTab.length = 64 := rfl
theorem tm_asInt (k : IntKind) (n : Int) (w : World) (P : Program) : (asIntOf (.int k n)).run P w = .ok (k, n) w := rfl
/-- An element of an array of words. -/
theorem idx_words (l : List UInt32) (hl : l.length = 64) (j : Nat) (hj : j < 64) (w : World) : (Instr.index 146 (.agg (uCells l)) (.int .i64 (j : Int))).run Tryz.prog w = .ok (.int .u32 (w32 (l.getD j 0))) w := by
  have hc := uCells_get l j (by omega)
  have h0 : (0 : Int) ≤ (j : Int) := by omega
  have h1 : (j : Int) < 64 := by omega
  have hs : ∀ w, (sizeOf 129).run Tryz.prog w = .ok 1 w := fun _ => by kernel_rfl
  have ha : ∀ w, (isAgg 129).run Tryz.prog w = .ok false w := fun _ => by kernel_rfl
  unfold Instr.index
  simp [Sem.run_bind, tm_asInt, run_underlying Tryz.underlying146, part, hs, ha, hc, h0, h1]
/-- The package-level table of words. -/
def Rounds (w : World) : Prop := ∀ j, j < 64 → w.cell? ⟨0, j, none⟩ = some (.int .u32 (w32 (kTab.getD j 0)))
theorem Rounds.range {w : World} (h : Rounds w) : w.rangeAt 0 0 (uCells kTab).toList := fun j v hv => by
  have hj : j < 64 := by
    have := (List.getElem?_eq_some_iff.1 hv).1
    simpa [uCells_size, kTab_length] using this
  rw [Nat.zero_add, h j hj]
  rw [Array.getElem?_toList, uCells_get kTab j hj] at hv
  exact hv
theorem Rounds.lt {w : World} (h : Rounds w) : 0 < w.heap.size := World.block_lt_of_cell? w _ (h 0 (by decide))
theorem Rounds.below {w w' : World} {B : Nat} (h : Rounds w) (hb : Below B w w') (hB : w.heap.size ≤ B) : Rounds w' := fun j hj => by
  have := h.lt
  exact (hb.cell (p := ⟨0, j, none⟩) (by show 0 < B; omega)).trans (h j hj)
theorem there_new {W : World} {cs : Array Value} {t : TypeId} {n : Nat} (hn : n ≤ cs.size) : (W.alloc (.cells cs t)).there W.heap.size 0 n := fun j hj => by
  have h := heap_alloc_new W (.cells cs t)
  rw [Nat.zero_add]
  refine ⟨?_, frozen_of_row _ _ j _ _ h⟩
  rw [cell_of_row _ _ j cs t (0, 0) h, Array.getElem?_eq_getElem (by omega)]
  rfl
theorem setCells_new (W : World) (l l' : List UInt32) (t : TypeId) (h : l'.length = l.length) : URow ((W.alloc (.cells (uCells l) t)).setCells W.heap.size 0 (uCells l').toList) W.heap.size t l' := (URow.new W t l).setAll h
theorem size_setCells (B : Nat) : ∀ (vs : List Value) (o : Nat) (W : World), (W.setCells B o vs).heap.size = W.heap.size
  | [], _, _ => rfl
  | v :: r, o, W => by
    show ((W.setCell ⟨B, o, none⟩ v).setCells B (o + 1) r).heap.size = _
    rw [size_setCells B r (o + 1)]
    simp
theorem infoU32 : (Tryz.prog.info? 129).map (·.size) = some 1 := by kernel_rfl
theorem zero8 : uCells (List.replicate 8 0) = #[.int .u32 0, .int .u32 0, .int .u32 0, .int .u32 0, .int .u32 0, .int .u32 0, .int .u32 0, .int .u32 0] := rfl
/-- The world of a walk becomes a letter. -/
theorem wp_gen {P : Program} {c : Code} {Q : Exit → Act → World → Prop} {a : Act} {W : World} (R : World → Prop) (h : R W) (k : ∀ W', R W' → c.wp P Q a W') : c.wp P Q a W := k W h
/-- The cells of eight words. -/
theorem URow.eight {W : World} {B : Nat} {t : TypeId} {xa xb xc xd xe xf xg xh : UInt32} (h : URow W B t (H8.mk xa xb xc xd xe xf xg xh).list) :
    W.cell? ⟨B, 0, none⟩ = some (.int .u32 (w32 xa)) ∧ W.cell? ⟨B, 1, none⟩ = some (.int .u32 (w32 xb)) ∧ W.cell? ⟨B, 2, none⟩ = some (.int .u32 (w32 xc)) ∧ W.cell? ⟨B, 3, none⟩ = some (.int .u32 (w32 xd)) ∧
    W.cell? ⟨B, 4, none⟩ = some (.int .u32 (w32 xe)) ∧ W.cell? ⟨B, 5, none⟩ = some (.int .u32 (w32 xf)) ∧ W.cell? ⟨B, 6, none⟩ = some (.int .u32 (w32 xg)) ∧ W.cell? ⟨B, 7, none⟩ = some (.int .u32 (w32 xh)) :=
  ⟨h.cell 0 (show 0 < 8 by decide), h.cell 1 (show 1 < 8 by decide), h.cell 2 (show 2 < 8 by decide), h.cell 3 (show 3 < 8 by decide), h.cell 4 (show 4 < 8 by decide), h.cell 5 (show 5 < 8 by decide), h.cell 6 (show 6 < 8 by decide), h.cell 7 (show 7 < 8 by decide)⟩
theorem info64 : (Tryz.prog.info? 146).map (·.size) = some 64 := by kernel_rfl
theorem infoWords : (Tryz.prog.info? 131).map (·.size) = some 8 := by kernel_rfl
theorem zero64 : uCells (List.replicate 64 0) = #[.int .u32 0, .int .u32 0, .int .u32 0, .int .u32 0, .int .u32 0, .int .u32 0, .int .u32 0, .int .u32 0, .int .u32 0, .int .u32 0, .int .u32 0, .int .u32 0, .int .u32 0, .int .u32 0, .int .u32 0, .int .u32 0, .int .u32 0, .int .u32 0, .int .u32 0, .int .u32 0, .int .u32 0, .int .u32 0, .int .u32 0, .int .u32 0, .int .u32 0, .int .u32 0, .int .u32 0, .int .u32 0, .int .u32 0, .int .u32 0, .int .u32 0, .int .u32 0, .int .u32 0, .int .u32 0, .int .u32 0, .int .u32 0, .int .u32 0, .int .u32 0, .int .u32 0, .int .u32 0, .int .u32 0, .int .u32 0, .int .u32 0, .int .u32 0, .int .u32 0, .int .u32 0, .int .u32 0, .int .u32 0, .int .u32 0, .int .u32 0, .int .u32 0, .int .u32 0, .int .u32 0, .int .u32 0, .int .u32 0, .int .u32 0, .int .u32 0, .int .u32 0, .int .u32 0, .int .u32 0, .int .u32 0, .int .u32 0, .int .u32 0, .int .u32 0] := rfl

theorem grownBy_below {w W W' : World} {B : Nat} {row : Option Nat} (h : Below B w W) (hB : w.heap.size ≤ B) (hg : W.grownBy W' row) : w.grownBy W' row :=
  ⟨hg.os.trans h.os, hg.tape.trans h.tape, hg.output.trans h.output, Nat.le_trans h.size hg.size, fun k hk hr => (hg.block k (Nat.lt_of_lt_of_le hk h.size) hr).trans (h.block k (Nat.lt_of_lt_of_le hk hB))⟩
theorem grownBy_drew0 {w W : World} {row : Option Nat} (h : w.grownBy W row) : w.grownBy W.drew row := ⟨h.os, h.tape, h.output, h.size, h.block⟩
theorem grownBy_set {w W : World} {B j : Nat} {v : Value} (h : w.grownBy W (some B)) : w.grownBy (W.setCell ⟨B, j, none⟩ v) (some B) :=
  ⟨h.os, h.tape, h.output, by simpa using h.size, fun k hk hr => (heap_setCell_other W _ k v (fun e => hr (by rw [e]))).trans (h.block k hk hr)⟩
theorem URow.grown {W W' : World} {B : Nat} {row : Option Nat} {t : TypeId} {l : List UInt32} (h : URow W B t l) (hg : W.grownBy W' row) (hr : some B ≠ row) : URow W' B t l := (hg.block B h.lt hr).trans h
/-- The sums so far. -/
def plusRow (s v : H8) (i : Nat) : List UInt32 := (plusH s v).list.take i ++ s.list.drop i
theorem plusRow_length (s v : H8) (i : Nat) (h : i ≤ 8) : (plusRow s v i).length = 8 := by
  unfold plusRow
  rw [List.length_append, List.length_take, List.length_drop]
  show min i 8 + (8 - i) = 8
  omega
theorem plusRow_get (s v : H8) (i : Nat) (h : i < 8) : (plusRow s v i).getD i 0 = s.list.getD i 0 := by
  unfold plusRow
  rw [List.getD_eq_getElem?_getD, List.getElem?_append_right (by rw [List.length_take]; omega), List.length_take, List.getElem?_drop, List.getD_eq_getElem?_getD]
  congr 2
  show i + (i - min i 8) = i
  omega
theorem plusRow_set (s v : H8) (i : Nat) (h : i < 8) : (plusRow s v i).set i (s.list.getD i 0 + v.list.getD i 0) = plusRow s v (i + 1) := by
  have h8 : i = 0 ∨ i = 1 ∨ i = 2 ∨ i = 3 ∨ i = 4 ∨ i = 5 ∨ i = 6 ∨ i = 7 := by omega
  rcases h8 with rfl | rfl | rfl | rfl | rfl | rfl | rfl | rfl <;> rfl
/-- 'copy(v[1:], v[:7])'. -/
theorem copy_shift {W : World} {V : Nat} {xa xb xc xd xe xf xg xh : UInt32} (h : URow W V 131 (H8.mk xa xb xc xd xe xf xg xh).list) :
    ∃ W', (Builtin.copy_ #[137, 137] 3 #[.slice (some ⟨V, 1, none⟩) 7 7, .slice (some ⟨V, 0, none⟩) 7 8]).run Tryz.prog W = .ok (.int .i64 7) W' ∧ URow W' V 131 [xa, xa, xb, xc, xd, xe, xf, xg] ∧ Below V W W' := by
  refine ⟨_, run_copy_row _ W 137 137 3 129 V 1 7 7 ⟨V, 0, none⟩ 7 8 _ 131 (uCells [xa, xb, xc, xd, xe, xf, xg]).toList Tryz.underlying137 infoU32 h rfl ?_ (show 8 ≤ 8 by decide) ?_, setRow_heap W V _ _ _ _ h, below_setRow (Below.refl _ _) (Nat.le_refl _) _⟩
  · intro j v hv
    have hj : j < 7 := (List.getElem?_eq_some_iff.1 hv).1
    rw [Addr.add_mid, Nat.zero_add, h.cell j (show j < 8 by omega)]
    rw [Array.getElem?_toList, uCells_get [xa, xb, xc, xd, xe, xf, xg] j hj] at hv
    rw [← hv]
    congr 2
    have e : (H8.mk xa xb xc xd xe xf xg xh).list = [xa, xb, xc, xd, xe, xf, xg] ++ [xh] := rfl
    rw [e, List.getD_eq_getElem?_getD, List.getElem?_append_left (show j < 7 from hj), ← List.getD_eq_getElem?_getD]
  · intro v hv
    obtain ⟨x, _, rfl⟩ := List.mem_map.1 hv
    rfl
set_option maxRecDepth 100000 in
set_option maxHeartbeats 400000 in
theorem add_any (s : H8) (b : Bytes) (Bh g o cap : Nat) (w : World) (hg : g < w.heap.size) (hc : ∀ j, j < 64 → w.cell? ⟨g, o + j, none⟩ = some (.int .u8 ((b.getD j 0).toNat : Int))) (hU : URow w Bh 131 s.list) (hT : Rounds w) :
    Calls Tryz.prog 84 #[.pointer (some ⟨Bh, 0, none⟩), .slice (some ⟨g, o, none⟩) 64 cap] w fun e w' => (∃ v, e = .returned v) ∧ URow w' Bh 131 (blockH s b).list ∧ w.grownBy w' (some Bh) := by
  have HC := Lib.hid hc
  have HT := Lib.hid hT
  have HU := Lib.hid hU
  clear hc hT hU
  go_enter Tryz.func84, Tryz.ntmps84
  have HSz : Hid ((Tryz.prog.info? 146).map (·.size) = some (uCells (schedTo b 64)).size) := by show _ = _; rw [uCells_size, schedTo_length]; exact info64
  have HOne := Lib.hid (uCells_one (schedTo b 64))
  have HLen := Lib.hid (schedTo_length b 64)
  generalize hws : schedTo b 64 = ws at *
  have HWs := Lib.hid hws
  have HSch := Lib.hid (schedule_any b g o cap w hg HC.out)
  rw [hws] at HSch
  clear hws
  have HSw : Hid ((Tryz.prog.info? 131).map (·.size) = some (uCells s.list).size) := infoWords
  have HOw := Lib.hid (uCells_one s.list)
  have HSk : Hid ((Tryz.prog.info? 146).map (·.size) = some (uCells kTab).toList.length) := info64
  have hBh := HU.out.lt
  go_wp2_with (first
    | (go_at_call 95; refine HSch.out.mono ?_; rintro e w1 ⟨rfl, hb1⟩)
    | ((with_reducible refine wpList_store_mid ?_ 146 (.tmp 4) (.tmp 14) ?_ w1.heap.size 0 (uCells ws) ?_ ?_ (there_new ?_) HSz.out HOne.out ?_); exact rfl; exact rfl; exact rfl; exact rfl; (rw [uCells_size, HLen.out]; exact Nat.le_refl 64); rw [← zero64]; have hz1 := hb1.size; have HU2 := Lib.hid (setCells_new w1 (List.replicate 64 0) ws 146 HLen.out); have HB2 := Lib.hid (below_setCells (C := w1.heap.size) (B := w1.heap.size) (uCells ws).toList 0 ((Below.refl w1.heap.size w1).alloc (Nat.le_refl _) (.cells (uCells (List.replicate 64 0)) 146)) (Nat.le_refl _)); have hz2 := (size_setCells w1.heap.size (uCells ws).toList 0 (w1.alloc (.cells (uCells (List.replicate 64 0)) 146))).trans (World.size_alloc _ _); generalize World.setCells _ _ _ _ = W2 at HU2 HB2 hz2 ⊢; have HZ2 := Lib.hid hz2; replace hz2 : w1.heap.size < W2.heap.size := (by omega); have HUh : Hid (W2.heap[Bh]? = some (.cells (uCells s.list) 131 (0, 0))) := (HU.out.below hb1 hBh).below HB2.out (by omega))
    | ((with_reducible refine wpList_load_row ?_ 131 (.tmp 16) ?_ Bh ?_ 131 (uCells s.list) (0, 0) _ HUh.out Tryz.underlying131 ?_ HSw.out ?_); exact rfl; exact rfl; exact rfl; exact rfl)
    | ((with_reducible refine wpList_store_mid ?_ 131 (.tmp 5) (.tmp 17) ?_ W2.heap.size 0 (uCells s.list) ?_ ?_ (there_new ?_) HSw.out HOw.out ?_); exact rfl; exact rfl; exact rfl; exact rfl; exact Nat.le_refl 8; rw [← zero8]; have HU3 := Lib.hid (setCells_new W2 (List.replicate 8 0) s.list 131 rfl); have HB3 := Lib.hid (below_setCells (C := W2.heap.size) (B := W2.heap.size) (uCells s.list).toList 0 ((Below.refl W2.heap.size W2).alloc (Nat.le_refl _) (.cells (uCells (List.replicate 8 0)) 131)) (Nat.le_refl _)); have hz3 := (size_setCells W2.heap.size (uCells s.list).toList 0 (W2.alloc (.cells (uCells (List.replicate 8 0)) 131))).trans (World.size_alloc _ _); generalize World.setCells _ _ _ _ = W3 at HU3 HB3 hz3 ⊢; have HZ3 := Lib.hid hz3; replace hz3 : W2.heap.size < W3.heap.size := (by omega); have HT3 := Lib.hid (((HT.out.below hb1 (Nat.le_refl _)).below HB2.out (Nat.le_refl _)).below HB3.out (Nat.le_refl _)))
    | ((with_reducible refine wpList_load_mid ?_ 146 (.global 0) ?_ 0 0 ?_ (uCells kTab).toList _ HT3.out.range Tryz.underlying146 ?_ HSk.out ?_); exact rfl; exact rfl; exact rfl; exact rfl)
    | fail)
  have HUw := Lib.hid (HU2.out.below HB3.out (by omega))
  have HB0 : Hid (Below w.heap.size w W3) := hb1.trans ((HB2.out.mono hb1.size).trans (HB3.out.mono (by omega)))
  have HUh3 : Hid (URow W3 Bh 131 s.list) := (show URow W2 Bh 131 s.list from HUh.out).below HB3.out (by omega)
  clear HB2 HU2 HB3 HZ2 HZ3 HT3 HSz HOne HOw HSw HSk HUh HSch
  obtain ⟨V, hV⟩ : ∃ V, V = W2.heap.size := ⟨_, rfl⟩
  obtain ⟨Wb, hWb⟩ : ∃ Wb, Wb = w1.heap.size := ⟨_, rfl⟩
  have hVW : V < W3.heap.size := by omega
  have hBV : w.heap.size ≤ V := by omega
  have hWV : Wb < V := by omega
  have hBW : w.heap.size ≤ Wb := by omega
  rw [← hV] at HU3 ⊢
  rw [← hWb] at HUw ⊢
  clear hV hWb hz2 hz3 hz1 hb1
  go_loopw [19] (fun i wr => ∃ j : Nat, j ≤ 64 ∧ i = .int .i64 j ∧ Below V W3 wr ∧ URow wr V 131 (rnds s ws j).list) (fun i _ => 64 - (intOf i).toNat)
  case atStart => exact ⟨0, Nat.zero_le _, rfl, Below.refl _ _, HU3.out⟩
  case round =>
    obtain ⟨j, hj, rfl, hBr, hUr⟩ := hrel
    by_cases hlt : j < 64
    · have HS : Hid (rnds s ws (j + 1) = rnd (rnds s ws j) (kTab.getD j 0, ws.getD j 0)) := rfl
      have hUws : URow wr Wb 146 ws := HUw.out.below hBr hWV
      have hlw := HLen.out
      have cw := hUws.cell j (by omega)
      have hidx := fun W => idx_words kTab rfl j hlt W
      generalize kTab.getD j 0 = kj at hidx HS
      generalize hwj : ws.getD j 0 = wj at cw HS
      have HWj := Lib.hid hwj
      clear hwj hlw
      generalize rnds s ws j = x at hUr HS
      obtain ⟨xa, xb, xc, xd, xe, xf, xg, xh⟩ := x
      have HUr := Lib.hid hUr
      have HUs := Lib.hid hUws
      have HBr := Lib.hid hBr
      have c0 : wr.cell? ⟨V, 0, none⟩ = some (.int .u32 (w32 xa)) := hUr.cell 0 (show 0 < 8 by decide)
      have c4 : wr.cell? ⟨V, 4, none⟩ = some (.int .u32 (w32 xe)) := hUr.cell 4 (show 4 < 8 by decide)
      have jj : (j : Int) < 64 := by omega
      have j0 : 0 ≤ (j : Int) := by omega
      clear hUr hUws hBr
      go_wp2
      go_quiet (fail)
      go_wp2
      have HK : Hid (∀ W' : World, URow W' V 131 (H8.mk xa xb xc xd xe xf xg xh).list → URow W' Wb 146 ws → W'.cell? ⟨V, 7, none⟩ = some (.int .u32 (w32 xh)) ∧ W'.cell? ⟨V, 5, none⟩ = some (.int .u32 (w32 xf)) ∧ W'.cell? ⟨V, 6, none⟩ = some (.int .u32 (w32 xg)) ∧ W'.cell? ⟨Wb, j, none⟩ = some (.int .u32 (w32 wj))) := fun W' h1 h2 => ⟨h1.eight.2.2.2.2.2.2.2, h1.eight.2.2.2.2.2.1, h1.eight.2.2.2.2.2.2.1, by rw [h2.cell j (by rw [HLen.out]; exact hlt), HWj.out]⟩
      clear cw c0 c4 hidx
      go_region_held3 (fun W' => W'.cell? ⟨V, 7, none⟩ = some (.int .u32 (w32 xh)) ∧ W'.cell? ⟨V, 5, none⟩ = some (.int .u32 (w32 xf)) ∧ W'.cell? ⟨V, 6, none⟩ = some (.int .u32 (w32 xg)) ∧ W'.cell? ⟨Wb, j, none⟩ = some (.int .u32 (w32 wj)))
        (refine HK.out _ ?_ ?_ <;> ((repeat (first | exact HUr.out | exact HUs.out | apply URow.alloc | apply URow.drewN | apply URow.drew)); done))
        (first | (go_at_call 96; (with_reducible refine (mixed_6_11_25 xe _ _ _ ?_ ?_ ?_).mono ?_); exact cell_a1 (by simp) rfl; exact cell_a1 (by simp) rfl; exact cell_a1 (by simp) rfl; rintro e w' ⟨rfl, rfl⟩))
      rename_i hHeld
      clear hHeld HK
      go_wp2
      have HT' : Hid (tU ⟨xa, xb, xc, xd, xe, xf, xg, xh⟩ kj wj = xh + mix xe [6, 11, 25] + ((xe &&& xf) ^^^ (~~~xe &&& xg)) + kj + wj) := rfl
      have HUu : Hid (uU ⟨xa, xb, xc, xd, xe, xf, xg, xh⟩ = mix xa [2, 13, 22] + ((xa &&& xb) ^^^ (xa &&& xc) ^^^ (xb &&& xc))) := rfl
      have hszr := HBr.out.size
      refine wp_gen (fun W' => URow W' V 131 (H8.mk xa xb xc xd xe xf xg xh).list ∧ Below V W3 W') ⟨by repeat (first | exact HUr.out | exact HUs.out | apply URow.alloc | apply URow.drewN | apply URow.drew), by repeat (first | exact HBr.out | (refine Below.alloc ?_ (by first | omega | (simp; omega)) _) | apply below_drewN0 | apply Below.drew)⟩ ?_
      rintro W4 ⟨hU4, hB4⟩
      have HUr2 := Lib.hid hU4
      have HBr2 := Lib.hid hB4
      have HK : Hid (∀ W' : World, URow W' V 131 (H8.mk xa xb xc xd xe xf xg xh).list → W'.cell? ⟨V, 1, none⟩ = some (.int .u32 (w32 xb)) ∧ W'.cell? ⟨V, 2, none⟩ = some (.int .u32 (w32 xc))) := fun W' h1 => ⟨h1.eight.2.1, h1.eight.2.2.1⟩
      clear hU4 hB4
      go_region_held3 (fun W' => W'.cell? ⟨V, 1, none⟩ = some (.int .u32 (w32 xb)) ∧ W'.cell? ⟨V, 2, none⟩ = some (.int .u32 (w32 xc)))
        (refine HK.out _ ?_ <;> ((repeat (first | exact HUr2.out | apply URow.alloc | apply URow.drewN | apply URow.drew)); done))
        (first | (go_at_call 96; (with_reducible refine (mixed_2_13_22 xa _ _ _ ?_ ?_ ?_).mono ?_); exact cell_a1 (by simp) rfl; exact cell_a1 (by simp) rfl; exact cell_a1 (by simp) rfl; rintro e w' ⟨rfl, rfl⟩))
      rename_i hHeld
      clear hHeld HK
      go_wp2
      have hszr2 := HBr2.out.size
      refine wp_gen (fun W' => URow W' V 131 (H8.mk xa xb xc xd xe xf xg xh).list ∧ Below V W3 W') ⟨by repeat (first | exact HUr2.out | apply URow.alloc | apply URow.drewN | apply URow.drew), by repeat (first | exact HBr2.out | (refine Below.alloc ?_ (by first | omega | (simp; omega)) _) | apply below_drewN0 | apply Below.drew)⟩ ?_
      rintro W5 ⟨hU5, hB5⟩
      clear HUr2 HBr2 hszr2 HUr HBr hszr HUs
      obtain ⟨W6, hrun, hU6, hb6⟩ := copy_shift (W := W5.drew) hU5
      have HU6 := Lib.hid hU6
      have HB6 := Lib.hid (hB5.drew.trans hb6)
      clear hU5 hB5 hU6 hb6
      go_region
      all_goals
        clear hrun
        have q0 : W6.cell? ⟨V, 0, none⟩ = some (.int .u32 (w32 xa)) := HU6.out.cell 0 (show 0 < 8 by decide)
        have q4 : W6.cell? ⟨V, 4, none⟩ = some (.int .u32 (w32 xd)) := HU6.out.cell 4 (show 4 < 8 by decide)
        have f0 : W6.frozen? ⟨V, 0, none⟩ = false := HU6.out.frozen 0
        have f4 : W6.frozen? ⟨V, 4, none⟩ = false := HU6.out.frozen 4
        go_wp2
        go_roundw
        case rel =>
          refine ⟨j + 1, by omega, by go_num, Below.setCell (p := ⟨V, 4, none⟩) (Below.setCell (p := ⟨V, 0, none⟩) HB6.out (Nat.le_refl _) _) (Nat.le_refl _) _, ?_⟩
          rw [HS.out]
          exact (HU6.out.set 0 _).set 4 _
        case measure => simp [intOf]; omega
    · obtain rfl : j = 64 := by omega
      have hUh : URow wr Bh 131 s.list := HUh3.out.below hBr (by omega)
      have HBw : Hid (Below w.heap.size w wr) := HB0.out.trans (hBr.mono hBV)
      have HBlk : Hid (blockH s b = plusH s (rnds s ws 64)) := by show _ = _; rw [← HWs.out]; rfl
      generalize rnds s ws 64 = v at hUr HBlk
      have HUv := Lib.hid hUr
      have HUh := Lib.hid hUh
      have hne : Bh ≠ V := by omega
      have hVr : V < wr.heap.size := hUr.lt
      clear hUr hUh hBr hlt hj HU3 HUw HUh3 HB0
      go_wp2
      obtain ⟨wo, hwo⟩ : ∃ wo : World, wo = wr := ⟨_, rfl⟩
      rw [← hwo] at HBw HUv HUh hVr ⊢
      clear hwo
      rw [show (((64 : Nat) : Int)) = (64 : Int) from rfl]
      go_loopw [82] (fun i wy => ∃ j : Nat, j ≤ 8 ∧ i = .int .i64 j ∧ wo.grownBy wy (some Bh) ∧ URow wy Bh 131 (plusRow s v j)) (fun i _ => 8 - (intOf i).toNat)
      case atStart => exact ⟨0, Nat.zero_le _, rfl, World.grownBy.refl _ _, HUh.out⟩
      case round =>
        obtain ⟨j, hj, rfl, hGy, hUy⟩ := hrel
        by_cases hlt : j < 8
        · have hUv := (HUv.out.grown hGy (by simp; omega))
          have cv := hUv.cell j (show j < 8 from hlt)
          have ch := hUy.cell j (by rw [plusRow_length _ _ _ hj]; exact hlt)
          have fh := hUy.frozen j
          rw [plusRow_get _ _ _ hlt] at ch
          have HS := Lib.hid (plusRow_set s v j hlt)
          generalize s.list.getD j 0 = x at ch HS
          generalize v.list.getD j 0 = y at cv HS
          have jj : (j : Int) < 8 := by omega
          have j0 : 0 ≤ (j : Int) := by omega
          have HUy := Lib.hid hUy
          have HGy := Lib.hid hGy
          clear hUv hUy hGy
          go_wp2
          go_still_tail 11, (by kernel_rfl)
          change wpList _ _ _ _ _ wr.drew
          go_wp2
          go_roundw
          case rel => exact ⟨j + 1, by omega, by go_num, grownBy_set (grownBy_drew0 HGy.out), by rw [← HS.out]; exact HUy.out.drew.set j _⟩
          case measure => simp [intOf]; omega
        · obtain rfl : j = 8 := by omega
          go_wp2
          go_end0
          refine ⟨⟨_, rfl⟩, ?_, grownBy_below HBw.out (Nat.le_refl _) hGy⟩
          rw [HBlk.out]
          exact hUy
end Go.Proofs.YtcgopilkajfghaaGreatDoor
end

section
/- (digest.words).digest: the words as bytes. -/
namespace Go.Proofs.YtcgopilkajfghaaGreatDoor
open Go.RowKit

/-- The cells of bytes. -/
def yCells (l : List UInt8) : Array Value := (l.map fun x => Value.int .u8 (x.toNat : Int)).toArray
theorem yCells_size (l : List UInt8) : (yCells l).size = l.length := by simp [yCells]
theorem yCells_get (l : List UInt8) (j : Nat) (h : j < l.length) : (yCells l)[j]? = some (.int .u8 ((l.getD j 0).toNat : Int)) := by
  simp [yCells, h]
/-- Block B holds these bytes, and may be written. -/
def YRow (W : World) (B : Nat) (t : TypeId) (l : List UInt8) : Prop := W.heap[B]? = some (.cells (yCells l) t (0, 0))
theorem YRow.lt {W : World} {B : Nat} {t : TypeId} {l : List UInt8} (h : YRow W B t l) : B < W.heap.size := (Array.getElem?_eq_some_iff.1 h).1
theorem YRow.cell {W : World} {B : Nat} {t : TypeId} {l : List UInt8} (h : YRow W B t l) (j : Nat) (hj : j < l.length) : W.cell? ⟨B, j, none⟩ = some (.int .u8 ((l.getD j 0).toNat : Int)) := by
  rw [cell_of_row W B j _ t _ h, yCells_get l j hj]
theorem YRow.frozen {W : World} {B : Nat} {t : TypeId} {l : List UInt8} (h : YRow W B t l) (j : Nat) : W.frozen? ⟨B, j, none⟩ = false := frozen_of_row W B j _ t h
theorem yCells_set (l : List UInt8) (j : Nat) (x : UInt8) : (yCells l).setIfInBounds j (.int .u8 (x.toNat : Int)) = yCells (l.set j x) := by
  unfold yCells
  rw [List.setIfInBounds_toArray, List.map_set]
theorem YRow.set {W : World} {B : Nat} {t : TypeId} {l : List UInt8} (h : YRow W B t l) (j : Nat) (x : UInt8) : YRow (W.setCell ⟨B, j, none⟩ (.int .u8 (x.toNat : Int))) B t (l.set j x) := by
  unfold YRow
  rw [heap_setCell_same W B j _ t _ h, yCells_set]
theorem YRow.below {W W' : World} {B C : Nat} {t : TypeId} {l : List UInt8} (h : YRow W B t l) (hb : Below C W W') (hC : B < C) : YRow W' B t l := (hb.block B hC).trans h
theorem YRow.drew {W : World} {B : Nat} {t : TypeId} {l : List UInt8} (h : YRow W B t l) : YRow W.drew B t l := h
theorem YRow.drewN {W : World} {B : Nat} {t : TypeId} {l : List UInt8} (h : YRow W B t l) (n : Nat) : YRow (W.drewN n) B t l := h
theorem YRow.alloc {W : World} {B : Nat} {t : TypeId} {l : List UInt8} (h : YRow W B t l) (o : Obj) : YRow (W.alloc o) B t l := h.below ((Below.refl (B + 1) W).alloc h.lt o) (by omega)
theorem YRow.new (W : World) (t : TypeId) (l : List UInt8) : YRow (W.alloc (.cells (yCells l) t)) W.heap.size t l := heap_alloc_new W _
theorem YRow.other {W : World} {B g j : Nat} {t : TypeId} {l : List UInt8} {v : Value} (h : YRow W B t l) (hne : B ≠ g) : YRow (W.setCell ⟨g, j, none⟩ v) B t l := (heap_setCell_other W _ B v hne).trans h
theorem YRow.there {W : World} {B : Nat} {t : TypeId} {l : List UInt8} (h : YRow W B t l) : W.there B 0 l.length := fun j hj => by
  rw [Nat.zero_add]
  exact ⟨by rw [h.cell j hj]; rfl, h.frozen j⟩
theorem yCells_one (l : List UInt8) : (yCells l).all (·.oneCell') = true := by
  unfold yCells
  apply all_oneCell_toArray
  intro v hv
  obtain ⟨x, _, rfl⟩ := List.mem_map.1 hv
  rfl
/-- The whole row is written. -/
theorem setCells_yrow (B : Nat) (t : TypeId) : ∀ (l' : List UInt8) (o : Nat) (l : List UInt8) (W : World), YRow W B t l → o + l'.length = l.length → YRow (W.setCells B o (yCells l').toList) B t (l.take o ++ l')
  | [], o, l, W, h, ho => by
    have e : l.take o ++ [] = l := by rw [List.append_nil, List.take_of_length_le (by simp at ho; omega)]
    rw [e]
    exact h
  | x :: l', o, l, W, h, ho => by
    have ho' : o + 1 + l'.length = l.length := by simp at ho; omega
    have h1 := setCells_yrow B t l' (o + 1) (l.set o x) _ (h.set o x) (by rw [List.length_set]; exact ho')
    have e : (l.set o x).take (o + 1) ++ l' = l.take o ++ x :: l' := by
      rw [List.take_succ_eq_append_getElem (by rw [List.length_set]; omega), List.take_set_of_le (Nat.le_refl _), List.getElem_set_self, List.append_assoc]
      rfl
    rw [e] at h1
    exact h1
theorem YRow.setAll {W : World} {B : Nat} {t : TypeId} {l l' : List UInt8} (h : YRow W B t l) (hl : l'.length = l.length) : YRow (W.setCells B 0 (yCells l').toList) B t l' := by
  have := setCells_yrow B t l' 0 l W h (by omega)
  simpa using this

theorem u8w_u32 (x : UInt32) : IntKind.u8.wrap (w32 x) = (x.toUInt8.toNat : Int) := by
  unfold w32
  rw [IntKind.wrap_u8, UInt32.toNat_toUInt8]
  omega
theorem shr24 (x : UInt32) : w32 x / (16777216 : Int) = w32 (x >>> 24) := u32_shr x 24 (by omega)
theorem shr16 (x : UInt32) : w32 x / (65536 : Int) = w32 (x >>> 16) := u32_shr x 16 (by omega)
theorem shr8 (x : UInt32) : w32 x / (256 : Int) = w32 (x >>> 8) := u32_shr x 8 (by omega)
theorem outH_get (s : H8) (i k : Nat) (hi : i < 8) (hk : k < 4) : (outH s).getD (4 * i + k) 0 = (bytes4 (s.list.getD i 0)).getD k 0 := by
  have h8 : i = 0 ∨ i = 1 ∨ i = 2 ∨ i = 3 ∨ i = 4 ∨ i = 5 ∨ i = 6 ∨ i = 7 := by omega
  have h4 : k = 0 ∨ k = 1 ∨ k = 2 ∨ k = 3 := by omega
  rcases h8 with rfl | rfl | rfl | rfl | rfl | rfl | rfl | rfl <;> rcases h4 with rfl | rfl | rfl | rfl <;> rfl
/-- The bytes so far. -/
def outRow (s : H8) (n : Nat) : Bytes := (outH s).take n ++ List.replicate (32 - n) 0
theorem outRow_length (s : H8) (n : Nat) (h : n ≤ 32) : (outRow s n).length = 32 := by
  unfold outRow
  rw [List.length_append, List.length_take, List.length_replicate, outH_length]
  omega
theorem outRow_set (s : H8) (n : Nat) (h : n < 32) : (outRow s n).set n ((outH s).getD n 0) = outRow s (n + 1) := by
  have hl := outH_length s
  unfold outRow
  rw [List.set_append_right _ _ (by rw [List.length_take]; omega), List.length_take, hl, show n - min n 32 = 0 from by omega, take_getD (outH s) 0 n (by omega), List.append_assoc]
  congr 1
  obtain ⟨m, hm⟩ : ∃ m, 32 - n = m + 1 := ⟨31 - n, by omega⟩
  rw [hm, show 32 - (n + 1) = m from by omega]
  rfl
theorem outRow_full (s : H8) : outRow s 32 = outH s := by
  unfold outRow
  rw [List.take_of_length_le (by rw [outH_length]; exact Nat.le_refl _)]
  simp
theorem bytes4_get (x : UInt32) (k : Nat) (hk : k < 4) : (bytes4 x).getD k 0 = (x >>> UInt32.ofNat (24 - 8 * k)).toUInt8 := by
  have h4 : k = 0 ∨ k = 1 ∨ k = 2 ∨ k = 3 := by omega
  rcases h4 with rfl | rfl | rfl | rfl
  · rfl
  · rfl
  · rfl
  · show x.toUInt8 = (x >>> 0).toUInt8
    simp
theorem u8m_u32 (x : UInt32) : w32 x % (256 : Int) = (x.toUInt8.toNat : Int) := by
  unfold w32
  rw [UInt32.toNat_toUInt8]
  omega
theorem byte_of (x : UInt32) (k : Nat) (hk : k < 4) : w32 x / (2 : Int) ^ (24 - 8 * k) % (256 : Int) = ((x >>> UInt32.ofNat (24 - 8 * k)).toUInt8.toNat : Int) := by
  rw [show ((2 : Int) ^ (24 - 8 * k)) = ((2 ^ (24 - 8 * k) : Nat) : Int) from by push_cast; rfl, u32_shr x _ (by omega), u8m_u32]
attribute [local go_sem] u8w_u32 u8m_u32 u32_signed
/-- An element of eight words. -/
theorem idx_eight (l : List UInt32) (hl : l.length = 8) (j : Nat) (hj : j < 8) (w : World) : (Instr.index 131 (.agg (uCells l)) (.int .i64 (j : Int))).run Tryz.prog w = .ok (.int .u32 (w32 (l.getD j 0))) w := by
  have hc := uCells_get l j (by omega)
  have h0 : (0 : Int) ≤ (j : Int) := by omega
  have h1 : (j : Int) < 8 := by omega
  have hs : ∀ w, (sizeOf 129).run Tryz.prog w = .ok 1 w := fun _ => by kernel_rfl
  have ha : ∀ w, (isAgg 129).run Tryz.prog w = .ok false w := fun _ => by kernel_rfl
  unfold Instr.index
  simp [Sem.run_bind, tm_asInt, run_underlying Tryz.underlying131, part, hs, ha, hc, h0, h1]
theorem zero32 : yCells (List.replicate 32 0) = #[.int .u8 0, .int .u8 0, .int .u8 0, .int .u8 0, .int .u8 0, .int .u8 0, .int .u8 0, .int .u8 0, .int .u8 0, .int .u8 0, .int .u8 0, .int .u8 0, .int .u8 0, .int .u8 0, .int .u8 0, .int .u8 0, .int .u8 0, .int .u8 0, .int .u8 0, .int .u8 0, .int .u8 0, .int .u8 0, .int .u8 0, .int .u8 0, .int .u8 0, .int .u8 0, .int .u8 0, .int .u8 0, .int .u8 0, .int .u8 0, .int .u8 0, .int .u8 0] := rfl
set_option maxRecDepth 100000 in
set_option maxHeartbeats 400000 in
theorem digest_any (s : H8) (w : World) :
    Calls Tryz.prog 85 #[.agg (uCells s.list)] w fun e w' => e = .returned (.string ⟨(outH s).toArray⟩) ∧ Below w.heap.size w w' := by
  have HSw : Hid ((Tryz.prog.info? 131).map (·.size) = some (uCells s.list).size) := infoWords
  have hl8 : s.list.length = 8 := rfl
  have hU0 : URow (w.alloc (.cells (uCells s.list) 131)) w.heap.size 131 s.list := URow.new _ _ _
  have hidx := fun j hj W => idx_eight s.list hl8 j hj W
  have hget := fun i k hi hk => outH_get s i k hi hk
  have HGet := Lib.hid hget
  have HIdx := Lib.hid hidx
  clear hget hidx hl8
  obtain ⟨xa, xb, xc, xd, xe, xf, xg, xh⟩ := s
  have HU0 : Hid ((w.alloc (.cells #[.int .u32 (w32 xa), .int .u32 (w32 xb), .int .u32 (w32 xc), .int .u32 (w32 xd), .int .u32 (w32 xe), .int .u32 (w32 xf), .int .u32 (w32 xg), .int .u32 (w32 xh)] 131)).heap[w.heap.size]? = some (.cells (uCells (H8.mk xa xb xc xd xe xf xg xh).list) 131 (0, 0))) := hU0
  clear hU0
  show Calls _ _ #[.agg #[.int .u32 (w32 xa), .int .u32 (w32 xb), .int .u32 (w32 xc), .int .u32 (w32 xd), .int .u32 (w32 xe), .int .u32 (w32 xf), .int .u32 (w32 xg), .int .u32 (w32 xh)]] w _
  go_enter Tryz.func85, Tryz.ntmps85
  go_wp2_with (fail)
  rw [← zero32]
  refine wp_gen (fun W' => YRow W' (w.heap.size + 1) 149 (outRow ⟨xa, xb, xc, xd, xe, xf, xg, xh⟩ 0) ∧ Below w.heap.size w W') ⟨by have := YRow.new (w.alloc (.cells #[.int .u32 (w32 xa), .int .u32 (w32 xb), .int .u32 (w32 xc), .int .u32 (w32 xd), .int .u32 (w32 xe), .int .u32 (w32 xf), .int .u32 (w32 xg), .int .u32 (w32 xh)] 131)) 149 (List.replicate 32 0); rwa [World.size_alloc] at this, ((Below.refl _ _).alloc (Nat.le_refl _) _).alloc (by simp) _⟩ ?_
  rintro W1 ⟨hY1, hB1⟩
  have HIdx2 : Hid (∀ j : Nat, j < 8 → ∀ W, (Instr.index 131 (.agg #[.int .u32 (w32 xa), .int .u32 (w32 xb), .int .u32 (w32 xc), .int .u32 (w32 xd), .int .u32 (w32 xe), .int .u32 (w32 xf), .int .u32 (w32 xg), .int .u32 (w32 xh)]) (.int .i64 (j : Int))).run Tryz.prog W = .ok (.int .u32 (w32 ((H8.mk xa xb xc xd xe xf xg xh).list.getD j 0))) W) := HIdx.out
  clear HIdx HU0 HSw
  generalize (#[.int .u32 (w32 xa), .int .u32 (w32 xb), .int .u32 (w32 xc), .int .u32 (w32 xd), .int .u32 (w32 xe), .int .u32 (w32 xf), .int .u32 (w32 xg), .int .u32 (w32 xh)] : Array Value) = cs at *
  generalize hs0 : H8.mk xa xb xc xd xe xf xg xh = s at *
  have HS0 := Lib.hid hs0
  clear hs0
  go_loopw [8] (fun i wr => ∃ j : Nat, j ≤ 8 ∧ i = .int .i64 j ∧ Below w.heap.size w wr ∧ YRow wr (w.heap.size + 1) 149 (outRow s (4 * j))) (fun i _ => 8 - (intOf i).toNat)
  case atStart => exact ⟨0, Nat.zero_le _, rfl, hB1, hY1⟩
  case round =>
    obtain ⟨j, hj, rfl, hBr, hYr⟩ := hrel
    by_cases hlt : j < 8
    · have hidx := HIdx2.out j hlt
      have HG := Lib.hid (fun k hk => HGet.out j k hlt hk)
      generalize s.list.getD j 0 = x at hidx HG
      have jj : (j : Int) < 8 := by omega
      have HHidx := Lib.hid hidx
      go_wp2
      clear hidx
      obtain ⟨wo, hwo⟩ : ∃ wo : World, wo = wr := ⟨_, rfl⟩
      rw [← hwo] at hBr hYr ⊢
      clear hwo
      go_loopw [12] (fun i wy => ∃ k : Nat, k ≤ 4 ∧ i = .int .i64 k ∧ Below w.heap.size w wy ∧ YRow wy (w.heap.size + 1) 149 (outRow s (4 * j + k))) (fun i _ => 4 - (intOf i).toNat)
      case atStart => exact ⟨0, Nat.zero_le _, rfl, hBr, hYr⟩
      case round =>
        obtain ⟨k, hk, rfl, hBy, hYy⟩ := hrel
        by_cases hk4 : k < 4
        · have HE := Lib.hid (byte_of x k hk4)
          have cy := hYy.cell (4 * j + k) (by rw [outRow_length _ _ (by omega)]; omega)
          have fy := hYy.frozen (4 * j + k)
          have HS : Hid (outRow s (4 * j + k + 1) = (outRow s (4 * j + k)).set (4 * j + k) (x >>> UInt32.ofNat (24 - 8 * k)).toUInt8) := by show _ = _; rw [← outRow_set s (4 * j + k) (by omega), HG.out k hk4, bytes4_get x k hk4]
          have n1 : (4 * (j : Int) + (k : Int)).toNat = 4 * j + k := by omega
          have n2 : 0 ≤ 4 * (j : Int) + (k : Int) := by omega
          have n3 : 4 * (j : Int) + (k : Int) < 32 := by omega
          have kk : (k : Int) < 4 := by omega
          have HYy := Lib.hid hYy
          clear hYy
          go_wp2
          go_roundw
          case rel => exact ⟨k + 1, by omega, by go_num, Below.setCell (p := ⟨w.heap.size + 1, 4 * j + k, none⟩) hBy (Nat.le_succ _) _, by rw [← Nat.add_assoc, HS.out, HE.out]; exact HYy.out.set _ _⟩
          case measure => simp [intOf]; omega
        · obtain rfl : k = 4 := by omega
          go_wp2
          go_roundw
          case rel => exact ⟨j + 1, by omega, by go_num, hBy, by rw [show 4 * (j + 1) = 4 * j + 4 from by omega]; exact hYy⟩
          case measure => simp [intOf]; omega
    · obtain rfl : j = 8 := by omega
      rw [show 4 * 8 = 32 from rfl, outRow_full] at hYr
      have hconv : (convert 93 9 (.slice (some ⟨w.heap.size + 1, 0, none⟩) 32 32)).run Tryz.prog wr = .ok (.string ⟨(outH s).toArray⟩) wr := by
        refine run_convert_bytes_back wr 93 9 5 ⟨w.heap.size + 1, 0, none⟩ 32 (outH s) Tryz.underlying93 Tryz.underlying5 Tryz.underlying9 fun j hj => ?_
        rw [Addr.add_mid, Nat.zero_add, hYr.cell j hj, List.getD_eq_getElem?_getD, List.getElem?_eq_getElem hj]
        rfl
      generalize hos : (outH s).toArray = os at *
      have HOs := Lib.hid hos
      clear hos
      go_wp2
      go_ret
      exact ⟨by rw [HS0.out, HOs.out]; rfl, hBr⟩
end Go.Proofs.YtcgopilkajfghaaGreatDoor
end
