import Derived.Test.YteicimmdcdjagaaGreatDoorMRefB
import Derived.Test.YteicimmdcdjagaaGreatDoorVMem
set_option linter.unusedVariables false
set_option linter.unusedSimpArgs false

/- The small functions of the statements on view and of the reference: pick, Key, Unit. -/
set_option linter.unusedVariables false
set_option linter.unusedSimpArgs false
namespace Go.Proofs.YteicimmdcdjagaaGreatDoor
open Go.RowKit Go.Shelf

set_option maxHeartbeats 400000 in
theorem vpick_any (c n : Int) (w : World) (h1 : -9223372036854775808 ≤ c) (h2 : c ≤ 9223372036854775807) (hn : 1 ≤ n) (hn2 : n ≤ 9223372036854775807) :
    Calls Tryz.prog 18 #[.int .i64 c, .int .i64 n] w fun e w' => e = .returned (.int .i64 (pickZ c n)) ∧ w = w' := by
  by_cases hc : c < 0
  · have hp : pickZ c n = (-(c + 1)).tmod n := by rw [pickZ, if_pos hc]
    rw [hp]
    clear hp
    go_enter Tryz.func18, Tryz.ntmps18
    go_wp2
    go_ret
    exact ⟨ret_int (Int.neg_tmod _ _).symm, rfl⟩
  · have hp : pickZ c n = c.tmod n := by rw [pickZ, if_neg hc]
    rw [hp]
    clear hp
    go_enter Tryz.func18, Tryz.ntmps18
    go_wp2
    go_ret
    exact ⟨ret_int (Int.tmod_eq_emod_of_nonneg (by omega)).symm, rfl⟩
set_option maxHeartbeats 400000 in
theorem gpickR_any (c n : Int) (w : World) (h1 : -9223372036854775808 ≤ c) (h2 : c ≤ 9223372036854775807) (hn : 1 ≤ n) (hn2 : n ≤ 9223372036854775807) :
    Calls Tryz.prog 64 #[.int .i64 c, .int .i64 n] w fun e w' => e = .returned (.int .i64 (pickZ c n)) ∧ w = w' := by
  by_cases hc : c < 0
  · have hp : pickZ c n = (-(c + 1)).tmod n := by rw [pickZ, if_pos hc]
    rw [hp]
    clear hp
    go_enter Tryz.func64, Tryz.ntmps64
    go_wp2
    go_ret
    exact ⟨ret_int (Int.neg_tmod _ _).symm, rfl⟩
  · have hp : pickZ c n = c.tmod n := by rw [pickZ, if_neg hc]
    rw [hp]
    clear hp
    go_enter Tryz.func64, Tryz.ntmps64
    go_wp2
    go_ret
    exact ⟨ret_int (Int.tmod_eq_emod_of_nonneg (by omega)).symm, rfl⟩
set_option maxHeartbeats 400000 in
theorem vpickR_any (c n : Int) (w : World) (h1 : -9223372036854775808 ≤ c) (h2 : c ≤ 9223372036854775807) (hn : 1 ≤ n) (hn2 : n ≤ 9223372036854775807) :
    Calls Tryz.prog 48 #[.int .i64 c, .int .i64 n] w fun e w' => e = .returned (.int .i64 (pickZ c n)) ∧ w = w' := by
  by_cases hc : c < 0
  · have hp : pickZ c n = (-(c + 1)).tmod n := by rw [pickZ, if_pos hc]
    rw [hp]
    clear hp
    go_enter Tryz.func48, Tryz.ntmps48
    go_wp2
    go_ret
    exact ⟨ret_int (Int.neg_tmod _ _).symm, rfl⟩
  · have hp : pickZ c n = c.tmod n := by rw [pickZ, if_neg hc]
    rw [hp]
    clear hp
    go_enter Tryz.func48, Tryz.ntmps48
    go_wp2
    go_ret
    exact ⟨ret_int (Int.tmod_eq_emod_of_nonneg (by omega)).symm, rfl⟩
/-- A key that an integer determines. -/
def keyB (n : Int) : Bytes := sha (enc (zz (pickZ n 1099511627776)))
theorem keyB_length (n : Int) : (keyB n).length = 32 := sha_length _
set_option maxHeartbeats 1000000 in
theorem key_any (n : Int) (w : World) (h1 : -9223372036854775808 ≤ n) (h2 : n ≤ 9223372036854775807) :
    Calls Tryz.prog 35 #[.int .i64 n] w fun e w' => e = .returned (.string (bs (keyB n))) ∧ Below w.heap.size w w' := by
  have hp := pickZ_bd n 1099511627776 (by omega)
  have HK : Hid (keyB n = sha (enc (zz (pickZ n 1099511627776)))) := rfl
  have HP := Lib.hid (fun W => gpickR_any n 1099511627776 W h1 h2 (by omega) (by omega))
  generalize pickZ n 1099511627776 = z at *
  have hel := enc_length (zz z)
  have hes : (bs (enc (zz z))).size ≤ 10 := by rw [bs_size]; exact hel
  clear hel
  go_enter Tryz.func35, Tryz.ntmps35
  go_wp2_with (first | (go_at_call 64; refine (HP.out _).mono ?_; rintro e w' ⟨rfl, rfl⟩) | (go_at_call 63; refine (refPutInt_yes z _ (by omega) (by omega)).mono ?_; rintro e w1 ⟨rfl, hb1⟩; rw [show strV (enc (zz z)) = .string (bs (enc (zz z))) from rfl]) | (go_at_call 41; refine (refSum_any _ _ (by omega)).mono ?_; rintro e w2 ⟨rfl, hb2⟩))
  rw [bs_list]
  go_ret
  exact ⟨by rw [HK.out]; rfl, hb1.trans (hb2.mono hb1.size)⟩
set_option maxHeartbeats 1000000 in
theorem unit_any (n : Int) (w : World) (h1 : -9223372036854775808 ≤ n) (h2 : n ≤ 9223372036854775807) :
    Calls Tryz.prog 17 #[.int .i64 n] w fun e w' => e = .returned (.int .i64 (unitZ n)) ∧ Below w.heap.size w w' := by
  have hp := pickZ_bd n 6 (by omega)
  have HP := Lib.hid (fun W => vpickR_any n 6 W h1 h2 (by omega) (by omega))
  have HU : Hid (unitZ n = [0, 3, 7, 31, 64, 99].getD (pickZ n 6).toNat 0) := rfl
  have HB : Hid (∀ o : Obj, Below w.heap.size w (w.alloc o)) := fun o => (Below.refl _ _).alloc (Nat.le_refl _) o
  generalize pickZ n 6 = z at *
  generalize unitZ n = U at *
  have hz : z = 0 ∨ z = 1 ∨ z = 2 ∨ z = 3 ∨ z = 4 ∨ z = 5 := by omega
  clear h1 h2 hp
  rcases hz with rfl | rfl | rfl | rfl | rfl | rfl
  all_goals
    go_enter Tryz.func17, Tryz.ntmps17
    go_wp2_with (go_at_call 48; refine (HP.out _).mono ?_; rintro e w' ⟨rfl, rfl⟩)
    go_ret
    exact ⟨by rw [HU.out]; rfl, HB.out _⟩
end Go.Proofs.YteicimmdcdjagaaGreatDoor
