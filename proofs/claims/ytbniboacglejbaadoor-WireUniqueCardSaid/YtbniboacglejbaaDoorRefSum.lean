/- The reference's Sum computes the same checksum. -/
import Derived.Test.YtbniboacglejbaaDoorCrc
import Derived.Test.YtbniboacglejbaaDoorWire
namespace Go.Proofs.YtbniboacglejbaaDoor
open Go.RowKit

theorem u32_shr1 (x : UInt32) : w32 x / (2 : Int) = w32 (x >>> 1) := u32_shr x 1 (by omega)
attribute [local go_sem] u32_signed u32_shr1 u32_xor u32_not u32_of_u8 u32_wrap64

def polyU : UInt32 := 2197175160
def bitU (x : UInt32) : UInt32 := if x.toNat % 2 = 1 then (x >>> 1) ^^^ polyU else x >>> 1
theorem xor_poly (x : UInt32) : bits .xor .u32 (w32 x) (2197175160 : Int) = w32 (x ^^^ polyU) := u32_xor x polyU
theorem u32_quo2 (x : UInt32) : (w32 x).tdiv (2 : Int) % (4294967296 : Int) = w32 (x >>> 1) := by
  rw [Int.tdiv_eq_ediv_of_nonneg (u32_nonneg x), u32_shr1]
  have := u32_nonneg (x >>> 1)
  have := u32_lt (x >>> 1)
  omega
theorem xor_poly' (x : UInt32) : bits .xor .u32 ((w32 x).tdiv (2 : Int) % (4294967296 : Int)) (2197175160 : Int) = w32 (x >>> 1 ^^^ polyU) := by rw [u32_quo2, xor_poly]
theorem bitU_bits (x : UInt32) : (bitU x).toBitVec = bitB x.toBitVec := by
  have h : x.toBitVec.getLsbD 0 = decide (x.toNat % 2 = 1) := by
    rw [BitVec.getLsbD, Nat.testBit_zero]
    rfl
  unfold bitU bitB
  rw [h]
  by_cases ho : x.toNat % 2 = 1
  · rw [if_pos ho, if_pos (by simpa using ho), UInt32.toBitVec_xor, UInt32.toBitVec_shiftRight]
    rfl
  · rw [if_neg ho, if_neg (by simpa using ho), UInt32.toBitVec_shiftRight, BitVec.xor_zero]
    rfl
theorem bitN_succ (k : Nat) (x : BitVec 32) : bitN (k + 1) x = bitB (bitN k x) := bitN_add k 1 x

set_option maxRecDepth 100000 in
set_option maxHeartbeats 1000000 in
theorem refSum_any (s : ByteArray) (w : World) (hs : s.size ≤ maxLen) :
    Calls Tryd.prog 22 #[.string s] w fun e w' => e = .returned (.int .i64 (w32 (crc s.data.toList))) ∧ w = w' := by
  unfold maxLen at hs
  go_enter Tryd.func22, Tryd.ntmps22
  go_wp2
  go_loop [3, 4] (fun r i => ∃ (k : Nat), k ≤ s.size ∧ i = .int .i64 k ∧ r = .int .u32 (w32 (crcRun (s.data.toList.take k)))) (fun _ i => s.size - (intOf i).toNat)
  case atStart => exact ⟨0, Nat.zero_le _, rfl, rfl⟩
  case round =>
    obtain ⟨k, hk, rfl, rfl⟩ := hrel
    generalize hR : crcRun (s.data.toList.take k) = R
    have HR := Lib.hid hR
    clear hR
    by_cases hlt : k < s.size
    · go_wp2
      go_loop [3, 5, 6] (fun r j _ => ∃ (m : Nat) (X : UInt32), m ≤ 8 ∧ j = .int .i64 m ∧ r = .int .u32 (w32 X) ∧ Hid (X.toBitVec = bitN m (R ^^^ s[k].toUInt32).toBitVec)) (fun _ j _ => 8 - (intOf j).toNat)
      case atStart => exact ⟨0, _, by omega, rfl, rfl, Lib.hid rfl⟩
      case round =>
        obtain ⟨m, X, hm, rfl, rfl, HX⟩ := hrel
        by_cases hm8 : m < 8
        · have hX0 := u32_nonneg X
          have hmod : w32 X % 2 = ((X.toNat % 2 : Nat) : Int) := by unfold w32; omega
          have HB : Hid ((bitU X).toBitVec = bitN (m + 1) (R ^^^ s[k].toUInt32).toBitVec) := by
            rw [bitU_bits, HX.out, bitN_succ]; rfl
          by_cases ho : X.toNat % 2 = 1
          · have h1 : (w32 X % 2 == 1) = true := by rw [hmod, ho]; rfl
            rw [bitU, if_pos ho] at HB
            have hxp := xor_poly' X
            generalize (X >>> 1) ^^^ polyU = Y at HB hxp
            clear hmod ho
            go_wp2
            go_round
            case rel => exact ⟨m + 1, _, by omega, by go_num, rfl, HB⟩
            case measure => simp [intOf]; omega
          · have h1 : (w32 X % 2 == 1) = false := by rw [hmod]; simp; omega
            rw [bitU, if_neg ho] at HB
            clear hmod ho
            go_wp2
            go_round
            case rel => exact ⟨m + 1, _, by omega, by go_num, congrArg _ (u32_quo2 X), HB⟩
            case measure => simp [intOf]; omega
        · obtain rfl : m = 8 := by omega
          have hX : X = crcByte R s[k] := by
            apply UInt32.toBitVec_inj.1
            rw [HX.out, crcByte_bits, UInt32.toBitVec_xor]
          subst hX
          go_wp2
          go_round
          case rel =>
            refine ⟨k + 1, by omega, by go_num, ?_⟩
            rw [take_snoc s k hlt, crcRun, List.foldl_append, ← crcRun, HR.out]
            rfl
          case measure => simp [intOf]; omega
    · go_wp2
      go_ret
      refine ⟨?_, rfl⟩
      rw [crc, ← HR.out, List.take_of_length_le (by simp; omega)]
      rfl
end Go.Proofs.YtbniboacglejbaaDoor
