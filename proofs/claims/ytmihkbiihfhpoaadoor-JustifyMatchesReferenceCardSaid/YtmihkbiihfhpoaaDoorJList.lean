/- bits.TrailingZeros, listed, Listed, contains, Ints, pick. -/
import Derived.Test.YtmihkbiihfhpoaaDoorJHeld
import Derived.Test.YtmihkbiihfhpoaaDoorJBits
import Derived.Shelf.Spec.TrailingZeros
namespace Go.Proofs.YtmihkbiihfhpoaaDoor
open Go.RowKit Go.Shelf

def Tabs (w : World) : Prop := TabAt 1 Lib.deBruijn64tab w ∧ 2 ≤ w.heap.size
theorem Tabs.below {B : Nat} {w w' : World} (h : Tabs w) (hb : Below B w w') (hB : 2 ≤ B) : Tabs w' :=
  ⟨fun j hj => (hb.cell (p := ⟨1, j, none⟩) (Nat.lt_of_lt_of_le (by show 1 < 2; omega) hB)).trans (h.1 j hj), Nat.le_trans h.2 hb.size⟩

set_option maxHeartbeats 1000000 in
theorem tz64_core (x k idx : Nat) (w : World) (hx0 : ((x : Int) == 0) = false)
    (key : IntKind.u64.wrap (bits BinOp.and IntKind.u64 (x : Int) (IntKind.u64.wrap (-(x : Int))) * 285870213051353865) / 288230376151711744 = (idx : Int))
    (hi : idx < 64) (hk : k < 64) (hcell : w.cell? ⟨1, idx, none⟩ = some (.int .u8 k)) :
    Calls Tryd.prog 72 #[.int .u64 x] w fun e w' => e = .returned (.int .i64 k) ∧ w = w' := by
  go_enter Tryd.func72, Tryd.ntmps72
  go_wp2_with (simp only [key])
  go_ret
  exact ⟨rfl, rfl⟩
theorem tz64_any (x : Nat) (hx : x < 18446744073709551616) (w : World) (hT : Tabs w) (h0 : x ≠ 0) :
    Calls Tryd.prog 72 #[.int .u64 x] w fun e w' => e = .returned (.int .i64 (Lib.ctz 64 x)) ∧ w = w' := by
  obtain ⟨hlow, hk⟩ := Lib.lowest_bit 64 x h0 hx
  obtain ⟨hi, htab⟩ := Lib.deBruijn64_at _ hk
  have hcell := hT.1 _ hi
  rw [htab] at hcell
  exact tz64_core x _ _ w (by simp; omega) (tz64_key x _ hx h0 hlow) hi hk hcell
theorem tz_any (x : Nat) (hx : x < 18446744073709551616) (w : World) (hT : Tabs w) (h0 : x ≠ 0) :
    Calls Tryd.prog 66 #[.int .u64 x] w fun e w' => e = .returned (.int .i64 (Lib.ctz 64 x)) ∧ w = w' := by
  go_enter Tryd.func66, Tryd.ntmps66
  go_wp2_with (go_at_call 72; refine (tz64_any _ hx _ hT h0).mono ?_; rintro e w' ⟨rfl, rfl⟩)
  go_ret
  exact ⟨rfl, rfl⟩

theorem i64_and_nat (a b : Nat) (ha : a < 9223372036854775808) (hb : b < 9223372036854775808) : bits .and .i64 (a : Int) (b : Int) = ((a &&& b : Nat) : Int) := by
  have hx : a &&& b ≤ a := Nat.and_le_left
  show IntKind.i64.wrap ((BitVec.ofInt 64 (a : Int) &&& BitVec.ofInt 64 (b : Int)).toNat : Int) = _
  rw [BitVec.toNat_and, BitVec.toNat_ofInt, BitVec.toNat_ofInt, IntKind.wrap_i64]
  rw [show ((a : Int) % ((2 ^ 64 : Nat) : Int)).toNat = a from by omega, show ((b : Int) % ((2 ^ 64 : Nat) : Int)).toNat = b from by omega]
  omega
theorem lowOff_bits (x : Nat) (h0 : x ≠ 0) (h : x < 4294967296) : bits .and .i64 (x : Int) ((x : Int) - 1) = ((lowOff x : Nat) : Int) := by
  rw [show (x : Int) - 1 = ((x - 1 : Nat) : Int) from by omega]
  exact i64_and_nat x (x - 1) (by omega) (by omega)
theorem listB_length (S : Nat) : (listB S).length ≤ 32 := by unfold listB; rw [List.length_map]; exact bitsN_length S

set_option maxRecDepth 100000 in
set_option maxHeartbeats 1000000 in
theorem listed_any (S0 : Nat) (w : World) (hS : S0 < 4294967296) (hT : Tabs w) :
    Calls Tryd.prog 49 #[.int .i64 S0] w fun e w' => ∃ v, e = .returned v ∧ OwnI w.heap.size w' v (listB S0) ∧ Below w.heap.size w w' := by
  have HT := Lib.hid hT
  have h2 := hT.2
  clear hT
  go_enter Tryd.func49, Tryd.ntmps49
  go_wp2
  go_loopg [0, 3] S0 (fun gg s v wr => ∃ (x : Nat) (l : List Int), s = .int .i64 x ∧ x ≤ gg ∧ x < 4294967296 ∧ Hid (listB S0 = l ++ listB x) ∧ OwnI w.heap.size wr v l ∧ Below w.heap.size w wr)
  case atStart => exact ⟨S0, [], rfl, Nat.le_refl _, hS, rfl, OwnI.nil _ _, Below.refl _ _⟩
  case round =>
    obtain ⟨x, l, rfl, hg, hx, HL, hown, hB⟩ := hrel
    by_cases h0 : x = 0
    · subst h0
      have HO := Lib.hid hown
      clear hown
      go_wp2
      go_ret
      exact ⟨_, rfl, by rw [HL.out, show listB 0 = [] from by simp [listB, bitsN_zero], List.append_nil]; exact HO.out, hB⟩
    · have hne : ((x : Int) == 0) = false := by simp; omega
      have HLow := Lib.hid (lowOff_bits x h0 hx)
      have hlow := HLow.out
      have HN : Hid (listB x = ((Lib.ctz 64 x : Nat) : Int) :: listB (lowOff x)) := by show _ = _; unfold listB; rw [bitsN_low x h0 hx]; rfl
      have hlen : l.length ≤ 32 := by have := listB_length S0; rw [HL.out, List.length_append] at this; omega
      have hlt := lowOff_lt x h0
      have HO := Lib.hid hown
      have hsz := hB.size
      have hx2 : x < 18446744073709551616 := by omega
      clear hown
      go_wp2_with (first | (go_at_call 66; refine (tz_any x hx2 _ (HT.out.below hB h2) h0).mono ?_; rintro e w2 ⟨rfl, rfl⟩) | (at_builtin; refine append_int1 rfl _ _ rfl w.heap.size u3 l _ rfl rfl HO.out (by omega) hsz w hB ?_; intro v' w3 hown3 hb3))
      go_roundg (lowOff x)
      case measure => omega
      case rel => exact ⟨lowOff x, l ++ [((Lib.ctz 64 x : Nat) : Int)], rfl, Nat.le_refl _, by omega, by show _ = _; rw [HL.out, HN.out, List.append_assoc]; rfl, hown3, hb3⟩
end Go.Proofs.YtmihkbiihfhpoaaDoor
