/- bits.RotateLeft32 and digest.mixed. -/
import Derived.Test.YteemhemnkdgehaaDoorProg
import Derived.Test.YteemhemnkdgehaaDoorBits
import Derived.Test.YteemhemnkdgehaaDoorDTree
import Derived.Lib.Hide
namespace Go.Proofs.YteemhemnkdgehaaDoor
open Go.RowKit

theorem u32_shl (x : UInt32) (k : Nat) (hk : k < 32) : (w32 x * ((2 ^ k : Nat) : Int)) % (4294967296 : Int) = w32 (x <<< UInt32.ofNat k) := by
  unfold w32
  rw [UInt32.toNat_shiftLeft, UInt32.toNat_ofNat_of_lt' (by show k < 4294967296; omega), Nat.mod_eq_of_lt hk, Nat.shiftLeft_eq]
  rw [← Int.natCast_mul]
  generalize x.toNat * 2 ^ k = q
  omega
theorem rot_or (x : UInt32) (n : Nat) (hn : n < 32) (hn0 : 0 < n) : bits .or .u32 (w32 x * ((2 ^ (32 - n) : Nat) : Int) % 4294967296) (w32 x / ((2 ^ n : Nat) : Int)) = w32 (rotr x n) := by
  rw [u32_shl x _ (by omega), u32_shr x _ hn, u32_or, UInt32.or_comm]
  rfl
def rots : List Nat := [2, 6, 7, 11, 13, 17, 18, 19, 22, 25]

set_option maxRecDepth 100000 in
theorem rot_2 (x : UInt32) (w : World) : Calls Tryd.prog 77 #[.int .u32 (w32 x), .int .i64 (-2)] w fun e w' => e = .returned (.int .u32 (w32 (rotr x 2))) ∧ w = w' := by
  have h1 : bits BinOp.and IntKind.u64 (IntKind.u64.wrap (-2)) 31 = 30 := by decide
  have H := Lib.hid (rot_or x 2 (by decide) (by decide))
  go_enter Tryd.func77, Tryd.ntmps77
  go_wp2
  go_ret
  exact ⟨by rw [← H.out]; rfl, rfl⟩
set_option maxRecDepth 100000 in
theorem rot_6 (x : UInt32) (w : World) : Calls Tryd.prog 77 #[.int .u32 (w32 x), .int .i64 (-6)] w fun e w' => e = .returned (.int .u32 (w32 (rotr x 6))) ∧ w = w' := by
  have h1 : bits BinOp.and IntKind.u64 (IntKind.u64.wrap (-6)) 31 = 26 := by decide
  have H := Lib.hid (rot_or x 6 (by decide) (by decide))
  go_enter Tryd.func77, Tryd.ntmps77
  go_wp2
  go_ret
  exact ⟨by rw [← H.out]; rfl, rfl⟩
set_option maxRecDepth 100000 in
theorem rot_7 (x : UInt32) (w : World) : Calls Tryd.prog 77 #[.int .u32 (w32 x), .int .i64 (-7)] w fun e w' => e = .returned (.int .u32 (w32 (rotr x 7))) ∧ w = w' := by
  have h1 : bits BinOp.and IntKind.u64 (IntKind.u64.wrap (-7)) 31 = 25 := by decide
  have H := Lib.hid (rot_or x 7 (by decide) (by decide))
  go_enter Tryd.func77, Tryd.ntmps77
  go_wp2
  go_ret
  exact ⟨by rw [← H.out]; rfl, rfl⟩
set_option maxRecDepth 100000 in
theorem rot_11 (x : UInt32) (w : World) : Calls Tryd.prog 77 #[.int .u32 (w32 x), .int .i64 (-11)] w fun e w' => e = .returned (.int .u32 (w32 (rotr x 11))) ∧ w = w' := by
  have h1 : bits BinOp.and IntKind.u64 (IntKind.u64.wrap (-11)) 31 = 21 := by decide
  have H := Lib.hid (rot_or x 11 (by decide) (by decide))
  go_enter Tryd.func77, Tryd.ntmps77
  go_wp2
  go_ret
  exact ⟨by rw [← H.out]; rfl, rfl⟩
set_option maxRecDepth 100000 in
theorem rot_13 (x : UInt32) (w : World) : Calls Tryd.prog 77 #[.int .u32 (w32 x), .int .i64 (-13)] w fun e w' => e = .returned (.int .u32 (w32 (rotr x 13))) ∧ w = w' := by
  have h1 : bits BinOp.and IntKind.u64 (IntKind.u64.wrap (-13)) 31 = 19 := by decide
  have H := Lib.hid (rot_or x 13 (by decide) (by decide))
  go_enter Tryd.func77, Tryd.ntmps77
  go_wp2
  go_ret
  exact ⟨by rw [← H.out]; rfl, rfl⟩
set_option maxRecDepth 100000 in
theorem rot_17 (x : UInt32) (w : World) : Calls Tryd.prog 77 #[.int .u32 (w32 x), .int .i64 (-17)] w fun e w' => e = .returned (.int .u32 (w32 (rotr x 17))) ∧ w = w' := by
  have h1 : bits BinOp.and IntKind.u64 (IntKind.u64.wrap (-17)) 31 = 15 := by decide
  have H := Lib.hid (rot_or x 17 (by decide) (by decide))
  go_enter Tryd.func77, Tryd.ntmps77
  go_wp2
  go_ret
  exact ⟨by rw [← H.out]; rfl, rfl⟩
set_option maxRecDepth 100000 in
theorem rot_18 (x : UInt32) (w : World) : Calls Tryd.prog 77 #[.int .u32 (w32 x), .int .i64 (-18)] w fun e w' => e = .returned (.int .u32 (w32 (rotr x 18))) ∧ w = w' := by
  have h1 : bits BinOp.and IntKind.u64 (IntKind.u64.wrap (-18)) 31 = 14 := by decide
  have H := Lib.hid (rot_or x 18 (by decide) (by decide))
  go_enter Tryd.func77, Tryd.ntmps77
  go_wp2
  go_ret
  exact ⟨by rw [← H.out]; rfl, rfl⟩
set_option maxRecDepth 100000 in
theorem rot_19 (x : UInt32) (w : World) : Calls Tryd.prog 77 #[.int .u32 (w32 x), .int .i64 (-19)] w fun e w' => e = .returned (.int .u32 (w32 (rotr x 19))) ∧ w = w' := by
  have h1 : bits BinOp.and IntKind.u64 (IntKind.u64.wrap (-19)) 31 = 13 := by decide
  have H := Lib.hid (rot_or x 19 (by decide) (by decide))
  go_enter Tryd.func77, Tryd.ntmps77
  go_wp2
  go_ret
  exact ⟨by rw [← H.out]; rfl, rfl⟩
set_option maxRecDepth 100000 in
theorem rot_22 (x : UInt32) (w : World) : Calls Tryd.prog 77 #[.int .u32 (w32 x), .int .i64 (-22)] w fun e w' => e = .returned (.int .u32 (w32 (rotr x 22))) ∧ w = w' := by
  have h1 : bits BinOp.and IntKind.u64 (IntKind.u64.wrap (-22)) 31 = 10 := by decide
  have H := Lib.hid (rot_or x 22 (by decide) (by decide))
  go_enter Tryd.func77, Tryd.ntmps77
  go_wp2
  go_ret
  exact ⟨by rw [← H.out]; rfl, rfl⟩
set_option maxRecDepth 100000 in
theorem rot_25 (x : UInt32) (w : World) : Calls Tryd.prog 77 #[.int .u32 (w32 x), .int .i64 (-25)] w fun e w' => e = .returned (.int .u32 (w32 (rotr x 25))) ∧ w = w' := by
  have h1 : bits BinOp.and IntKind.u64 (IntKind.u64.wrap (-25)) 31 = 7 := by decide
  have H := Lib.hid (rot_or x 25 (by decide) (by decide))
  go_enter Tryd.func77, Tryd.ntmps77
  go_wp2
  go_ret
  exact ⟨by rw [← H.out]; rfl, rfl⟩
theorem rot_any (x : UInt32) (n : Nat) (hn : n ∈ rots) (w : World) : Calls Tryd.prog 77 #[.int .u32 (w32 x), .int .i64 (-(n : Int))] w fun e w' => e = .returned (.int .u32 (w32 (rotr x n))) ∧ w = w' := by
  have h : n = 2 ∨ n = 6 ∨ n = 7 ∨ n = 11 ∨ n = 13 ∨ n = 17 ∨ n = 18 ∨ n = 19 ∨ n = 22 ∨ n = 25 := by simpa [rots] using hn
  rcases h with rfl | rfl | rfl | rfl | rfl | rfl | rfl | rfl | rfl | rfl
  · exact rot_2 x w
  · exact rot_6 x w
  · exact rot_7 x w
  · exact rot_11 x w
  · exact rot_13 x w
  · exact rot_17 x w
  · exact rot_18 x w
  · exact rot_19 x w
  · exact rot_22 x w
  · exact rot_25 x w
theorem mix_snoc (x : UInt32) (l : List Nat) (n : Nat) : mix x (l ++ [n]) = mix x l ^^^ rotr x n := by unfold mix; rw [List.foldl_append]; rfl
theorem take_getD {α : Type} (l : List α) (d : α) (j : Nat) (h : j < l.length) : l.take (j + 1) = l.take j ++ [l.getD j d] := by
  rw [List.take_succ_eq_append_getElem h, List.getD_eq_getElem?_getD, List.getElem?_eq_getElem h]; rfl
theorem getD_mem' {α : Type} (l : List α) (d : α) (i : Nat) (h : i < l.length) : l.getD i d ∈ l := by
  rw [List.getD_eq_getElem?_getD, List.getElem?_eq_getElem h]; exact List.getElem_mem h
attribute [local go_sem] u32_signed u32_xor
set_option maxRecDepth 100000 in
theorem mixed_any (x : UInt32) (l : List Nat) (hl : ∀ n ∈ l, n ∈ rots) (hl8 : l.length ≤ 8) (g cap m : Nat) (hm : l.length = m) (w : World) (hc : ∀ j, j < l.length → w.cell? ⟨g, j, none⟩ = some (.int .i64 ((l.getD j 0 : Nat) : Int))) :
    Calls Tryd.prog 68 #[.int .u32 (w32 x), .slice (some ⟨g, 0, none⟩) m cap] w fun e w' => e = .returned (.int .u32 (w32 (mix x l))) ∧ w = w' := by
  have HC := Lib.hid hc
  have HL := Lib.hid hl
  have hm8 : m ≤ 8 := by omega
  have HM := Lib.hid hm
  clear hc hl hm hl8
  go_enter Tryd.func68, Tryd.ntmps68
  go_wp2
  go_loop [5, 10] (fun o i => ∃ j : Nat, j ≤ m ∧ i = .int .i64 j ∧ o = .int .u32 (w32 (mix x (l.take j)))) (fun _ i => m - (intOf i).toNat)
  case atStart => exact ⟨0, Nat.zero_le _, rfl, rfl⟩
  case round =>
    obtain ⟨j, hj, rfl, rfl⟩ := hrel
    by_cases hlt : j < m
    · have c1 := HC.out j (by rw [HM.out]; exact hlt)
      have HS : Hid (mix x (l.take (j + 1)) = mix x (l.take j) ^^^ rotr x (l.getD j 0)) := by show _ = _; rw [take_getD l 0 j (by rw [HM.out]; exact hlt), mix_snoc]
      have HI : Hid (l.getD j 0 ∈ rots) := HL.out _ (getD_mem' _ _ _ (by rw [HM.out]; exact hlt))
      generalize l.getD j 0 = n at c1 HS HI
      have hn : n ≤ 31 := by have h := HI.out; simp [rots] at h; omega
      have jj : (j : Int) < (m : Int) := by omega
      go_wp2_with (go_at_call 77; refine (rot_any x n HI.out _).mono ?_; rintro e w' ⟨rfl, rfl⟩)
      go_round
      case rel => exact ⟨j + 1, by omega, by go_num, by rw [HS.out]⟩
      case measure => simp [intOf]; omega
    · obtain rfl : j = m := by omega
      have HF : Hid (mix x (l.take j) = mix x l) := by show _ = _; rw [List.take_of_length_le (by rw [HM.out]; exact Nat.le_refl _)]
      go_wp2
      go_ret
      exact ⟨by rw [← HF.out]; rfl, rfl⟩

theorem mixed_7_18 (x : UInt32) (g cap : Nat) (w : World) (c0 : w.cell? ⟨g, 0, none⟩ = some (.int .i64 7)) (c1 : w.cell? ⟨g, 1, none⟩ = some (.int .i64 18)) : Calls Tryd.prog 68 #[.int .u32 (w32 x), .slice (some ⟨g, 0, none⟩) 2 cap] w fun e w' => e = .returned (.int .u32 (w32 (mix x [7, 18]))) ∧ w = w' :=
  mixed_any x [7, 18] (by decide) (by decide) g cap 2 rfl w fun j hj => by
    have h : j = 0 ∨ j = 1 := by have : j < 2 := hj; omega
    rcases h with rfl | rfl <;> assumption
theorem mixed_17_19 (x : UInt32) (g cap : Nat) (w : World) (c0 : w.cell? ⟨g, 0, none⟩ = some (.int .i64 17)) (c1 : w.cell? ⟨g, 1, none⟩ = some (.int .i64 19)) : Calls Tryd.prog 68 #[.int .u32 (w32 x), .slice (some ⟨g, 0, none⟩) 2 cap] w fun e w' => e = .returned (.int .u32 (w32 (mix x [17, 19]))) ∧ w = w' :=
  mixed_any x [17, 19] (by decide) (by decide) g cap 2 rfl w fun j hj => by
    have h : j = 0 ∨ j = 1 := by have : j < 2 := hj; omega
    rcases h with rfl | rfl <;> assumption
theorem mixed_6_11_25 (x : UInt32) (g cap : Nat) (w : World) (c0 : w.cell? ⟨g, 0, none⟩ = some (.int .i64 6)) (c1 : w.cell? ⟨g, 1, none⟩ = some (.int .i64 11)) (c2 : w.cell? ⟨g, 2, none⟩ = some (.int .i64 25)) : Calls Tryd.prog 68 #[.int .u32 (w32 x), .slice (some ⟨g, 0, none⟩) 3 cap] w fun e w' => e = .returned (.int .u32 (w32 (mix x [6, 11, 25]))) ∧ w = w' :=
  mixed_any x [6, 11, 25] (by decide) (by decide) g cap 3 rfl w fun j hj => by
    have h : j = 0 ∨ j = 1 ∨ j = 2 := by have : j < 3 := hj; omega
    rcases h with rfl | rfl | rfl <;> assumption
theorem mixed_2_13_22 (x : UInt32) (g cap : Nat) (w : World) (c0 : w.cell? ⟨g, 0, none⟩ = some (.int .i64 2)) (c1 : w.cell? ⟨g, 1, none⟩ = some (.int .i64 13)) (c2 : w.cell? ⟨g, 2, none⟩ = some (.int .i64 22)) : Calls Tryd.prog 68 #[.int .u32 (w32 x), .slice (some ⟨g, 0, none⟩) 3 cap] w fun e w' => e = .returned (.int .u32 (w32 (mix x [2, 13, 22]))) ∧ w = w' :=
  mixed_any x [2, 13, 22] (by decide) (by decide) g cap 3 rfl w fun j hj => by
    have h : j = 0 ∨ j = 1 ∨ j = 2 := by have : j < 3 := hj; omega
    rcases h with rfl | rfl | rfl <;> assumption
end Go.Proofs.YteemhemnkdgehaaDoor
