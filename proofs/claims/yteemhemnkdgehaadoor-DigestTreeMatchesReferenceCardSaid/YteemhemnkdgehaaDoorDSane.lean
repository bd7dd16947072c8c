/- sane of the statements on digest returns true. -/
import Derived.Test.YteemhemnkdgehaaDoorDLive
import Derived.Test.YteemhemnkdgehaaDoorDSaneP
namespace Go.Proofs.YteemhemnkdgehaaDoor
open Go.RowKit Go.Shelf

theorem ownS_lit3 (W : World) (base : Nat) (hb : base ≤ W.heap.size) : OwnS base (W.alloc (.cells #[.string (⟨#[97]⟩ : ByteArray), .string (⟨#[98]⟩ : ByteArray), .string (⟨#[99]⟩ : ByteArray)] 9)) (.slice (some ⟨W.heap.size, 0, none⟩) 3 3) L3 :=
  World.ownsRow_lit W #[.string (⟨#[97]⟩ : ByteArray), .string (⟨#[98]⟩ : ByteArray), .string (⟨#[99]⟩ : ByteArray)] 3 hb (by unfold maxLen; omega) rfl
theorem L3_sm : Sm L3 := by unfold Sm L3; decide
set_option maxRecDepth 100000 in
set_option maxHeartbeats 2000000 in
theorem sane_any (w : World) (hT : Rounds w) :
    Calls Tryd.prog 12 #[] w fun e w' => e = .returned (.bool true) ∧ Below w.heap.size w w' := by
  have hL0 : Live w [(.slice (some ⟨w.heap.size, 0, none⟩) 3 3, L3)] (w.alloc (.cells #[.string (⟨#[97]⟩ : ByteArray), .string (⟨#[98]⟩ : ByteArray), .string (⟨#[99]⟩ : ByteArray)] 9)) :=
    ((Live.start hT).alloc _).add (ownS_lit3 w 0 (Nat.zero_le _))
  have HL := Lib.hid hL0
  have HSm := Lib.hid L3_sm
  have HP1 := Lib.hid sane_p1
  have HP2 := Lib.hid sane_p2
  have HP3 := Lib.hid sane_p3
  have HE1 := Lib.hid sane_e1
  have HE2 := Lib.hid sane_e2
  have HV1 := Lib.hid sane_v1
  have HV2 := Lib.hid sane_v2
  have HX1 := Lib.hid sane_x1
  have HX2 := Lib.hid sane_x2
  have HH1 : Hid (bs (hexB (sha [])) = (⟨#[101, 51, 98, 48, 99, 52, 52, 50, 57, 56, 102, 99, 49, 99, 49, 52, 57, 97, 102, 98, 102, 52, 99, 56, 57, 57, 54, 102, 98, 57, 50, 52, 50, 55, 97, 101, 52, 49, 101, 52, 54, 52, 57, 98, 57, 51, 52, 99, 97, 52, 57, 53, 57, 57, 49, 98, 55, 56, 53, 50, 98, 56, 53, 53]⟩ : ByteArray)) := by show _ = _; rw [sane_h1]; rfl
  have HH2 : Hid (bs (hexB (sha [97, 98, 99])) = (⟨#[98, 97, 55, 56, 49, 54, 98, 102, 56, 102, 48, 49, 99, 102, 101, 97, 52, 49, 52, 49, 52, 48, 100, 101, 53, 100, 97, 101, 50, 50, 50, 51, 98, 48, 48, 51, 54, 49, 97, 51, 57, 54, 49, 55, 55, 97, 57, 99, 98, 52, 49, 48, 102, 102, 54, 49, 102, 50, 48, 48, 49, 53, 97, 100]⟩ : ByteArray)) := by show _ = _; rw [sane_h2]; rfl
  have HS1 : Hid (Sm (proofE L3 2).1) := ⟨by rw [sane_p2]; omega, fun x hx => by rw [proofL_dig 3 L3 2 (by decide) x hx]; omega⟩
  clear hL0 hT
  go_enter Tryd.func12, Tryd.ntmps12
  go_wp2_with fail
  refine (proof_live HL.out (HL.out.strs (by simp)) HSm.out 2).mono ?_
  rintro e w1 ⟨v1, rfl, hL⟩
  rw [HP1.out]
  obtain ⟨a1, c1, rfl, _, _⟩ := (hL.strs (.head _)).shape
  have HL := Lib.hid hL
  have HQ1 := HP2
  generalize hq1 : (proofE L3 2).1 = q1 at *
  rw [HP2.out] at HL ⊢
  clear hL hq1
  go_wp2_with fail
  refine (ext_live HL.out (HL.out.strs (by simp)) HSm.out 1).mono ?_
  rintro e w2 ⟨v2, rfl, hL⟩
  rw [HE1.out]
  obtain ⟨a2, c2, rfl, _, _⟩ := (hL.strs (.head _)).shape
  have HL := Lib.hid hL
  generalize hq2 : (extE L3 1).1 = q2 at *
  rw [HE2.out] at HL ⊢
  clear hL hq2
  go_wp2_with fail
  refine (proof_live HL.out (HL.out.strs (by simp)) HSm.out 3).mono ?_
  rintro e w3 ⟨v3, rfl, hL⟩
  rw [HP3.out]
  obtain ⟨a3, c3, rfl, _, _⟩ := (hL.strs (.head _)).shape
  have HL := Lib.hid hL
  generalize (proofE L3 3).1 = q3 at *
  generalize q3.length = m3 at *
  clear hL
  go_wp2_with fail
  refine (root_live HL.out (HL.out.strs (by simp)) HSm.out).mono ?_
  rintro e w4 ⟨rfl, hL⟩
  have HL := Lib.hid hL
  clear hL
  generalize rootL L3 = r at *
  go_wp2_with fail
  refine (sum_live HL.out (⟨#[]⟩ : ByteArray) (by decide)).mono ?_
  rintro e w5 ⟨rfl, hL⟩
  rw [show (⟨#[]⟩ : ByteArray).data.toList = [] from rfl]
  have HL := Lib.hid hL
  clear hL
  go_wp2_with fail
  refine (hex_live HL.out (sha []) (by rw [sha_length]; omega)).mono ?_
  rintro e w6 ⟨rfl, hL⟩
  have HL := Lib.hid hL
  rw [HH1.out]
  clear hL HH1
  go_wp2_with fail
  refine (sum_live HL.out (⟨#[97, 98, 99]⟩ : ByteArray) (by decide)).mono ?_
  rintro e w7 ⟨rfl, hL⟩
  rw [show (⟨#[97, 98, 99]⟩ : ByteArray).data.toList = [97, 98, 99] from rfl]
  have HL := Lib.hid hL
  clear hL
  go_wp2_with fail
  refine (hex_live HL.out (sha [97, 98, 99]) (by rw [sha_length]; omega)).mono ?_
  rintro e w8 ⟨rfl, hL⟩
  have HL := Lib.hid hL
  rw [HH2.out]
  clear hL HH2
  go_wp2_with fail
  refine (verify_live HL.out (bs r) (⟨#[99]⟩ : ByteArray) 3 2 (by unfold I64; omega) (by unfold I64; omega) (by decide) (HL.out.strs (v := .slice a1 1 c1) (l := q1) (by simp)) (by rw [HP2.out]; omega)).mono ?_
  rintro e w9 ⟨rfl, hL⟩
  rw [bs_list, show (⟨#[99]⟩ : ByteArray).data.toList = [99] from rfl, HV1.out]
  have HL := Lib.hid hL
  clear hL
  go_wp2_with fail
  refine (verify_live HL.out (bs r) (⟨#[100]⟩ : ByteArray) 3 2 (by unfold I64; omega) (by unfold I64; omega) (by decide) (HL.out.strs (v := .slice a1 1 c1) (l := q1) (by simp)) (by rw [HP2.out]; omega)).mono ?_
  rintro e w10 ⟨rfl, hL⟩
  rw [bs_list, show (⟨#[100]⟩ : ByteArray).data.toList = [100] from rfl, HV2.out]
  have HL := Lib.hid hL
  clear hL
  go_wp2_with fail
  refine (root_live HL.out (show StrsAt _ _ _ [[97]] from (HL.out.strs (v := .slice (some ⟨w.heap.size, 0, none⟩) 3 3) (l := L3) (by simp)).take 1 (by decide)) (by unfold Sm; decide)).mono ?_
  rintro e w11 ⟨rfl, hL⟩
  have HL := Lib.hid hL
  clear hL
  generalize rootL [[97]] = r1 at *
  go_wp2_with fail
  refine (verExt_live HL.out (bs r1) (bs r) 1 3 (by unfold I64; omega) (by unfold I64; omega) (HL.out.strs (v := .slice a2 2 c2) (l := q2) (by simp)) (by rw [HE2.out]; omega)).mono ?_
  rintro e w12 ⟨rfl, hL⟩
  rw [bs_list, bs_list, HX1.out]
  have HL := Lib.hid hL
  clear hL
  go_wp2_with fail
  refine (root_live HL.out (show StrsAt _ _ _ [[97], [98]] from (HL.out.strs (v := .slice (some ⟨w.heap.size, 0, none⟩) 3 3) (l := L3) (by simp)).take 2 (by decide)) (by unfold Sm; decide)).mono ?_
  rintro e w13 ⟨rfl, hL⟩
  have HL := Lib.hid hL
  clear hL
  generalize rootL [[97], [98]] = r2 at *
  go_wp2_with fail
  refine (verExt_live HL.out (bs r2) (bs r) 1 3 (by unfold I64; omega) (by unfold I64; omega) (HL.out.strs (v := .slice a2 2 c2) (l := q2) (by simp)) (by rw [HE2.out]; omega)).mono ?_
  rintro e w14 ⟨rfl, hL⟩
  rw [bs_list, bs_list, HX2.out]
  have HL := Lib.hid hL
  clear hL
  go_wp2
  go_ret
  exact ⟨rfl, HL.out.1⟩
end Go.Proofs.YteemhemnkdgehaaDoor
