/- wire.Int decodes, for every string and offset. -/
import Derived.Test.YtbniboacglejbaaDoorProg
import Derived.Test.YtbniboacglejbaaDoorBits
import Derived.Test.YtbniboacglejbaaDoorWirePlain
import Derived.Lib.Hide
namespace Go.Proofs.YtbniboacglejbaaDoor
open Go.RowKit

theorem u8_and127 (z : Int) : bits .and .u8 z (127 : Int) = z % (128 : Int) := by
  show IntKind.u8.wrap ((BitVec.ofInt 8 z &&& BitVec.ofInt 8 127).toNat : Int) = _
  rw [BitVec.toNat_and, show (BitVec.ofInt 8 127).toNat = 2 ^ 7 - 1 from by decide, Nat.and_two_pow_sub_one_eq_mod, BitVec.toNat_ofInt, IntKind.wrap_u8']
  omega
theorem u64_and1 (z : Nat) : bits .and .u64 (z : Int) (1 : Int) = (z : Int) % (2 : Int) := by
  show IntKind.u64.wrap ((BitVec.ofInt 64 (z : Int) &&& BitVec.ofInt 64 1).toNat : Int) = _
  rw [BitVec.toNat_and, show (BitVec.ofInt 64 1).toNat = 2 ^ 1 - 1 from by decide, Nat.and_two_pow_sub_one_eq_mod, BitVec.toNat_ofInt, IntKind.wrap_u64]
  omega
attribute [local go_sem] u8_and127 u64_and1

theorem pow128 (k : Nat) : (128 : Nat) ^ k = 2 ^ (7 * k) := by rw [Nat.pow_mul]
theorem pow_le63 {k : Nat} (h : k ≤ 9) : (128 : Nat) ^ k ≤ 9223372036854775808 := by
  have := Nat.pow_le_pow_right (n := 128) (by omega) h
  omega
/-- A further group is put on top. -/
theorem or_group (Z g k : Nat) (hk : k < 9) (hZ : Z < 128 ^ k) (hg : g < 128) :
    bits .or .u64 (Z : Int) (IntKind.u64.wrap ((g : Int) * 2 ^ (7 * k))) = ((Z + g * 128 ^ k : Nat) : Int) := by
  have h9 := pow_le63 (k := k + 1) (by omega)
  have h8 : g * 128 ^ k < 128 ^ (k + 1) := by rw [Nat.pow_succ, Nat.mul_comm]; exact Nat.mul_lt_mul_of_pos_left hg (Nat.pow_pos (by omega))
  have hlt : g * 128 ^ k + 128 ^ k ≤ 128 ^ (k + 1) := by
    have : (g + 1) * 128 ^ k ≤ 128 * 128 ^ k := Nat.mul_le_mul_right _ (by omega)
    rw [Nat.pow_succ]
    rw [Nat.add_mul] at this
    omega
  have e1 : IntKind.u64.wrap ((g : Int) * 2 ^ (7 * k)) = ((g * 128 ^ k : Nat) : Int) := by
    have : (g : Int) * 2 ^ (7 * k) = ((g * 128 ^ k : Nat) : Int) := by rw [pow128]; push_cast; rfl
    rw [this, IntKind.wrap_u64]
    omega
  rw [e1, u64_or_nat Z _ (by omega) (by omega)]
  congr 1
  rw [Nat.add_comm, pow128, Nat.mul_comm, Nat.or_comm]
  exact (Nat.two_pow_add_eq_or_of_lt (by rw [← pow128]; exact hZ) g).symm
theorem unz_bits (z : Nat) (hz : z < 9223372036854775808) : bits .xor .i64 ((z : Int) / 2) (-((z : Int) % 2)) = unz z := by
  show IntKind.i64.wrap ((BitVec.ofInt 64 ((z : Int) / 2) ^^^ BitVec.ofInt 64 (-((z : Int) % 2))).toNat : Int) = _
  rw [IntKind.wrap_i64]
  unfold unz
  rcases Nat.mod_two_eq_zero_or_one z with h | h
  · rw [show -((z : Int) % 2) = 0 from by omega, show BitVec.ofInt 64 0 = 0#64 from by decide, BitVec.xor_zero, BitVec.toNat_ofInt, if_pos h]
    omega
  · rw [show -((z : Int) % 2) = -1 from by omega, show BitVec.ofInt 64 (-1) = BitVec.allOnes 64 from by decide, BitVec.xor_allOnes, BitVec.toNat_not, BitVec.toNat_ofInt, if_neg (by omega)]
    omega
theorem unz_lo (z : Nat) (hz : z < 9223372036854775808) : -4611686018427387904 ≤ unz z ∧ unz z ≤ 4611686018427387903 := by
  unfold unz; split <;> omega
def tup3 (n m e : Int) : Value := .tuple #[.int .i64 n, .int .i64 m, .int .i64 e]
/-- What Int returns at an offset within the string, or at its end. -/
def intV (l : List UInt8) (a : Nat) : Value := match dec (l.drop a) with
  | some (n, c) => tup3 n (a + c : Nat) 0
  | none => tup3 0 0 10

theorem dec_of_none {l : List UInt8} (h : decGo 9 0 0 l = none) : dec l = none := by rw [dec, h]
theorem dec_of_low {l : List UInt8} {z c : Nat} (h : decGo 9 0 0 l = some (z, c)) (hl : unz z < -4611686018427387903) : dec l = none := by rw [dec, h]; exact if_pos hl
theorem dec_of_some {l : List UInt8} {z c : Nat} (h : decGo 9 0 0 l = some (z, c)) (hl : ¬ unz z < -4611686018427387903) : dec l = some (unz z, c) := by rw [dec, h]; exact if_neg hl
theorem intV_none {l : List UInt8} {a : Nat} (h : dec (l.drop a) = none) : intV l a = tup3 0 0 10 := by rw [intV, h]
theorem intV_some {l : List UInt8} {a c : Nat} {n : Int} (h : dec (l.drop a) = some (n, c)) : intV l a = tup3 n (a + c : Nat) 0 := by rw [intV, h]
theorem ret_tup3 {n m m' e : Int} (h : m = m') : Ending.returned (.tuple #[.int .i64 n, .int .i64 m, .int .i64 e]) = .returned (tup3 n m' e) := by rw [h]; rfl

set_option maxRecDepth 100000 in
set_option maxHeartbeats 1000000 in
theorem int_in (s : ByteArray) (a : Nat) (w : World) (hs : s.size ≤ maxLen) (ha : a ≤ s.size) :
    Calls Tryd.prog 15 #[.string s, .int .i64 a] w fun e w' => e = .returned (intV s.data.toList a) ∧ w = w' := by
  unfold maxLen at hs
  have hd0 : decide ((a : Int) < 0) = false := by simp
  have hd1 : decide (s.size < a) = false := by simp; omega
  go_enter Tryd.func15, Tryd.ntmps15
  go_wp2
  go_loop [7, 19] (fun z i => ∃ (k Z : Nat), k ≤ 9 ∧ a + k ≤ s.size ∧ i = .int .i64 k ∧ z = .int .u64 Z ∧ Z < 128 ^ k ∧ Hid (decGo 9 0 0 (s.data.toList.drop a) = decGo (9 - k) k Z (s.data.toList.drop (a + k)))) (fun _ i => 9 - (intOf i).toNat)
  case atStart => exact ⟨0, 0, by omega, by omega, rfl, rfl, by omega, Lib.hid rfl⟩
  case round =>
    obtain ⟨k, Z, hk, hak, rfl, rfl, hZ, H⟩ := hrel
    by_cases hk9 : k < 9
    · by_cases hlt : a + k < s.size
      · have hdrop : s.data.toList.drop (a + k) = s[a + k] :: s.data.toList.drop (a + k + 1) := List.drop_eq_getElem_cons (by simpa using hlt)
        rw [hdrop, show 9 - k = (8 - k) + 1 from by omega, decGo] at H
        have hbl := (s[a + k]).toNat_lt
        generalize hb : s[a + k].toNat = b at H hbl
        have hg := or_group Z (b % 128) k hk9 hZ (Nat.mod_lt _ (by omega))
        have hZ' : Z + b % 128 * 128 ^ k < 128 ^ (k + 1) := by
          have : (b % 128 + 1) * 128 ^ k ≤ 128 * 128 ^ k := Nat.mul_le_mul_right _ (by omega)
          rw [Nat.add_mul] at this
          rw [Nat.pow_succ]
          omega
        have h63 := pow_le63 (k := k + 1) (by omega)
        generalize Z + b % 128 * 128 ^ k = Z' at H hg hZ'
        have hx := unz_bits Z' (by omega)
        have hlo := unz_lo Z' (by omega)
        rw [show ((b % 128 : Nat) : Int) = (b : Int) % (128 : Int) from by omega] at hg
        by_cases hb128 : 128 ≤ b
        · clear hx hlo
          rw [if_pos hb128] at H
          have HP := Lib.hid hZ'
          clear hZ' h63
          go_wp2
          go_round
          case rel => exact ⟨k + 1, Z', by omega, by omega, by go_num, rfl, HP.out, by rw [show 9 - (k + 1) = 8 - k from by omega]; exact H⟩
          case measure => simp [intOf]; omega
        · rw [if_neg hb128] at H
          have hB128 : decide (128 ≤ (b : Int)) = false := by simp; omega
          have hZ63 : Z' < 9223372036854775808 := by omega
          generalize hu : unz Z' = u at hx hlo
          have HU := Lib.hid hu
          clear hZ' hu h63 hZ
          by_cases hb0 : b = 0 ∧ 0 < k
          · obtain ⟨hb1, hb2⟩ := hb0
            rw [if_pos ⟨hb1, hb2⟩] at H
            have hB0 : ((b : Int) == 0) = true := by simp; omega
            have hK0 : decide (0 < (k : Int)) = true := by simp; omega
            clear hb1
            go_wp2
            go_ret3
            exact ⟨by rw [intV_none (dec_of_none H.out)]; rfl, rfl⟩
          · rw [if_neg hb0] at H
            by_cases hlow : u < -4611686018427387903
            · have hd := intV_none (a := a) (dec_of_low H.out (by rw [HU.out]; exact hlow))
              have HD := Lib.hid hd
              clear hd
              by_cases hb1 : b = 0
              · have hB0 : ((b : Int) == 0) = true := by simp; omega
                have hK0 : k ≤ 0 := by omega
                clear hb0 hb1
                go_wp2
                go_ret3
                exact ⟨by rw [HD.out]; rfl, rfl⟩
              · have hB0 : ((b : Int) == 0) = false := by simp; omega
                clear hb0
                go_wp2
                go_ret3
                exact ⟨by rw [HD.out]; rfl, rfl⟩
            · have hd := intV_some (a := a) (dec_of_some H.out (by rw [HU.out]; exact hlow))
              rw [HU.out] at hd
              have HD := Lib.hid hd
              clear hd
              by_cases hb1 : b = 0
              · have hB0 : ((b : Int) == 0) = true := by simp; omega
                have hK0 : k ≤ 0 := by omega
                clear hb0 hb1
                go_wp2
                go_ret3
                exact ⟨by rw [HD.out]; exact ret_tup3 (by omega), rfl⟩
              · have hB0 : ((b : Int) == 0) = false := by simp; omega
                clear hb0
                go_wp2
                go_ret3
                exact ⟨by rw [HD.out]; exact ret_tup3 (by omega), rfl⟩
      · rw [show s.data.toList.drop (a + k) = [] from List.drop_eq_nil_of_le (by simp; omega), show 9 - k = (8 - k) + 1 from by omega, decGo] at H
        go_wp2
        go_ret3
        exact ⟨by rw [intV_none (dec_of_none H.out)]; rfl, rfl⟩
    · obtain rfl : k = 9 := by omega
      rw [show 9 - 9 = 0 from rfl, decGo] at H
      go_wp2
      go_ret3
      exact ⟨by rw [intV_none (dec_of_none H.out)]; rfl, rfl⟩
end Go.Proofs.YtbniboacglejbaaDoor
