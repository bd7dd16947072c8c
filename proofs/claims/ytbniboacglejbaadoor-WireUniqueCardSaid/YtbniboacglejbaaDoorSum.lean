/- wire.Sum computes the checksum that crc names: for every string. -/
import Derived.Test.YtbniboacglejbaaDoorProg
import Derived.Test.YtbniboacglejbaaDoorBits
import Derived.Lib.Hide
namespace Go.Proofs.YtbniboacglejbaaDoor
open Go.RowKit

/-- The register after four bits were shifted out. -/
def nibTab : List UInt32 := [0x00000000, 0x105EC76F, 0x20BD8EDE, 0x30E349B1, 0x417B1DBC, 0x5125DAD3, 0x61C69362, 0x7198540D, 0x82F63B78, 0x92A8FC17, 0xA24BB5A6, 0xB21572C9, 0xC38D26C4, 0xD3D3E1AB, 0xE330A81A, 0xF36E6F75]
def nib (x : UInt32) : UInt32 := nibTab.getD (x &&& 15).toNat 0
def crcStep (x : UInt32) : UInt32 := (x >>> 4) ^^^ nib x
def crcByte (r : UInt32) (b : UInt8) : UInt32 := crcStep (crcStep (r ^^^ b.toUInt32))
def crcRun (l : List UInt8) : UInt32 := l.foldl crcByte 0xFFFFFFFF
def crc (l : List UInt8) : UInt32 := ~~~ crcRun l

/-- The table lies in block 0. -/
def Nibs (w : World) : Prop := ∀ x : UInt32, w.cell? ⟨0, (w32 (x &&& 15)).toNat, none⟩ = some (.int .u32 (w32 (nib x)))

theorem take_snoc (s : ByteArray) (k : Nat) (h : k < s.size) : s.data.toList.take (k + 1) = s.data.toList.take k ++ [s[k]] := by
  rw [List.take_succ_eq_append_getElem (by simpa using h)]; rfl


attribute [local go_sem] u32_signed u32_shr4 u32_xor u32_and_lit u32_not u32_of_u8 u32_wrap64 u32_and15_lt u32_nonneg'

set_option maxHeartbeats 400000 in
theorem sum_any (s : ByteArray) (w : World) (hs : s.size ≤ maxLen) (hn : Nibs w) :
    Calls Tryd.prog 21 #[.string s] w fun e w' => e = .returned (.int .i64 (w32 (crc s.data.toList))) ∧ w = w' := by
  unfold maxLen at hs
  have HN := Lib.hid hn
  clear hn
  go_enter Tryd.func21, Tryd.ntmps21
  go_wp2
  go_loop [3, 7] (fun r i => ∃ (k : Nat), k ≤ s.size ∧ i = .int .i64 k ∧ r = .int .u32 (w32 (crcRun (s.data.toList.take k)))) (fun _ i => s.size - (intOf i).toNat)
  case atStart => exact ⟨0, Nat.zero_le _, rfl, rfl⟩
  case round =>
    obtain ⟨k, hk, rfl, rfl⟩ := hrel
    generalize hR : crcRun (s.data.toList.take k) = R
    have HR := Lib.hid hR
    clear hR
    by_cases hlt : k < s.size
    · have h1 := HN.out (R ^^^ s[k].toUInt32)
      have h2 := HN.out (crcStep (R ^^^ s[k].toUInt32))
      unfold crcStep at h2
      go_wp2
      go_round
      case rel => 
        refine ⟨k + 1, by omega, by go_num, ?_⟩
        rw [take_snoc s k hlt, crcRun, List.foldl_append, ← crcRun, HR.out]
        rfl
      case measure => simp [intOf]; omega
    · go_wp2
      go_ret
      refine ⟨?_, rfl⟩
      rw [crc, ← HR.out, List.take_of_length_le (by simp; omega)]
      rfl
end Go.Proofs.YtbniboacglejbaaDoor
