/- Unsigned words as UInt32: the operations of the model on them. No condition. -/
import Derived.WalkKit
namespace Go.Proofs.YteemhemnkdgehaaDoor
open Go.RowKit

/-- A word of 32 bits as the model's integer. -/
def w32 (x : UInt32) : Int := (x.toNat : Int)
theorem u32_nonneg (x : UInt32) : 0 ≤ w32 x := by unfold w32; omega
theorem u32_lt (x : UInt32) : w32 x < 4294967296 := by unfold w32; have := x.toNat_lt; omega
theorem u32_inj {x y : UInt32} : w32 x = w32 y ↔ x = y := by
  unfold w32
  constructor
  · intro h; exact UInt32.toNat_inj.1 (by omega)
  · rintro rfl; rfl
theorem u32_ofInt (x : UInt32) : BitVec.ofInt 32 (w32 x) = x.toBitVec := by
  unfold w32
  rw [BitVec.ofInt_natCast]
  exact BitVec.eq_of_toNat_eq (by rw [BitVec.toNat_ofNat, UInt32.toNat_toBitVec]; exact Nat.mod_eq_of_lt x.toNat_lt)
theorem u32_back (b : BitVec 32) : IntKind.u32.wrap (b.toNat : Int) = w32 ⟨b⟩ := by
  rw [IntKind.wrap_u32']
  unfold w32
  show _ = ((b.toNat : Nat) : Int)
  have := b.isLt
  omega
theorem u32_ofInt_lit (n : Nat) : BitVec.ofInt 32 (OfNat.ofNat n : Int) = (OfNat.ofNat n : UInt32).toBitVec := by
  show BitVec.ofInt 32 ((n : Nat) : Int) = _
  rw [BitVec.ofInt_natCast]
  rfl
theorem u32_xor (x y : UInt32) : bits .xor .u32 (w32 x) (w32 y) = w32 (x ^^^ y) := by
  show IntKind.u32.wrap ((BitVec.ofInt 32 (w32 x) ^^^ BitVec.ofInt 32 (w32 y)).toNat : Int) = _
  rw [u32_ofInt, u32_ofInt, u32_back]; rfl
theorem u32_and (x y : UInt32) : bits .and .u32 (w32 x) (w32 y) = w32 (x &&& y) := by
  show IntKind.u32.wrap ((BitVec.ofInt 32 (w32 x) &&& BitVec.ofInt 32 (w32 y)).toNat : Int) = _
  rw [u32_ofInt, u32_ofInt, u32_back]; rfl
theorem u32_or (x y : UInt32) : bits .or .u32 (w32 x) (w32 y) = w32 (x ||| y) := by
  show IntKind.u32.wrap ((BitVec.ofInt 32 (w32 x) ||| BitVec.ofInt 32 (w32 y)).toNat : Int) = _
  rw [u32_ofInt, u32_ofInt, u32_back]; rfl
theorem u32_and_lit (x : UInt32) (n : Nat) : bits .and .u32 (w32 x) (no_index (OfNat.ofNat n)) = w32 (x &&& OfNat.ofNat n) := by
  show IntKind.u32.wrap ((BitVec.ofInt 32 (w32 x) &&& BitVec.ofInt 32 (OfNat.ofNat n)).toNat : Int) = _
  rw [u32_ofInt, u32_ofInt_lit, u32_back]; rfl
theorem u32_xor_lit (x : UInt32) (n : Nat) : bits .xor .u32 (w32 x) (no_index (OfNat.ofNat n)) = w32 (x ^^^ OfNat.ofNat n) := by
  show IntKind.u32.wrap ((BitVec.ofInt 32 (w32 x) ^^^ BitVec.ofInt 32 (OfNat.ofNat n)).toNat : Int) = _
  rw [u32_ofInt, u32_ofInt_lit, u32_back]; rfl
theorem u32_not (x : UInt32) : bits .xor .u32 IntKind.u32.max (w32 x) = w32 (~~~x) := by
  show IntKind.u32.wrap ((BitVec.ofInt 32 4294967295 ^^^ BitVec.ofInt 32 (w32 x)).toNat : Int) = _
  rw [u32_ofInt, u32_back]
  rw [show BitVec.ofInt 32 4294967295 = BitVec.allOnes 32 from by decide, BitVec.allOnes_xor]
  rfl
theorem u32_add (x y : UInt32) : (w32 x + w32 y) % (4294967296 : Int) = w32 (x + y) := by
  unfold w32
  rw [UInt32.toNat_add]
  omega
theorem u32_shr (x : UInt32) (k : Nat) (hk : k < 32) : w32 x / ((2 ^ k : Nat) : Int) = w32 (x >>> UInt32.ofNat k) := by
  unfold w32
  rw [UInt32.toNat_shiftRight, UInt32.toNat_ofNat_of_lt' (by show k < 4294967296; omega), Nat.mod_eq_of_lt hk, Nat.shiftRight_eq_div_pow]
  exact (Int.natCast_ediv _ _).symm
theorem u32_shr4 (x : UInt32) : w32 x / (16 : Int) = w32 (x >>> 4) := u32_shr x 4 (by omega)
theorem u32_of_u8 (b : UInt8) : (b.toNat : Int) % (4294967296 : Int) = w32 b.toUInt32 := by
  unfold w32
  rw [UInt8.toNat_toUInt32]
  have := b.toNat_lt
  omega
theorem u32_wrap64 (x : UInt32) : wrap64 (w32 x) = w32 x := IntWalk.wrap64_in _ ⟨by have := u32_nonneg x; omega, by have := u32_lt x; omega⟩
theorem u32_and15_lt (x : UInt32) : (w32 (x &&& 15) < 16) = True := by
  apply eq_true
  unfold w32
  rw [UInt32.toNat_and]
  have : x.toNat &&& 15 ≤ 15 := Nat.and_le_right
  show ((x.toNat &&& 15 : Nat) : Int) < 16
  omega
theorem u32_nonneg' (x : UInt32) : (0 ≤ w32 x) = True := eq_true (u32_nonneg x)
theorem u32_signed : IntKind.u32.signed = false := rfl
end Go.Proofs.YteemhemnkdgehaaDoor
