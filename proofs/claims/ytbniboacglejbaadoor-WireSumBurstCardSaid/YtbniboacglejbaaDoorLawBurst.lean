/- WireSumBurst returns true. -/
import Derived.Test.YtbniboacglejbaaDoorSane1
import Derived.Test.YtbniboacglejbaaDoorBytes
import Derived.Test.YtbniboacglejbaaDoorLawAffine
namespace Go.Proofs.YtbniboacglejbaaDoor
open Go.RowKit Go.Shelf

/-- The bits of the pattern below bit i. -/
def msk (X i : Nat) : BitVec 32 := BitVec.ofNat 32 (X % 2 ^ i)
theorem mod_succ (X i : Nat) : X % 2 ^ (i + 1) = X % 2 ^ i + 2 ^ i * (X / 2 ^ i % 2) := by rw [Nat.pow_succ, Nat.mod_mul]
theorem msk_zero (X i : Nat) (h : X / 2 ^ i % 2 = 0) : msk X (i + 1) = msk X i := by unfold msk; rw [mod_succ, h, Nat.mul_zero, Nat.add_zero]
theorem msk_one (X i : Nat) (h : X / 2 ^ i % 2 = 1) (hi : i < 32) : msk X (i + 1) = msk X i ^^^ (1#32 <<< i) := by
  unfold msk
  rw [mod_succ, h, Nat.mul_one]
  apply BitVec.eq_of_toNat_eq
  have h1 : X % 2 ^ i < 2 ^ i := Nat.mod_lt _ (Nat.pow_pos (by omega))
  have h2 : 2 ^ i * 2 ≤ 2 ^ 32 := by rw [← Nat.pow_succ]; exact Nat.pow_le_pow_right (by omega) (by omega)
  have h3 : (1#32 <<< i).toNat = 2 ^ i := by
    rw [BitVec.toNat_shiftLeft, Nat.shiftLeft_eq]
    simp
    omega
  have h4 : (X % 2 ^ i) ^^^ 2 ^ i = X % 2 ^ i + 2 ^ i := by
    have ho := Nat.two_pow_add_eq_or_of_lt h1 1
    rw [Nat.mul_one] at ho
    rw [Nat.add_comm, ho]
    apply Nat.eq_of_testBit_eq
    intro j
    rw [Nat.testBit_xor, Nat.testBit_or]
    by_cases hj : j = i
    · subst hj
      rw [Nat.testBit_lt_two_pow h1]
      simp
    · rw [Nat.testBit_two_pow_of_ne (Ne.symm hj)]
      simp
  rw [BitVec.toNat_xor, BitVec.toNat_ofNat, BitVec.toNat_ofNat, h3, Nat.mod_eq_of_lt (a := X % 2 ^ i) (by omega), h4, Nat.mod_eq_of_lt (by omega)]
theorem msk_eq_zero (X i : Nat) (hi : i ≤ 32) : msk X i = 0#32 ↔ X % 2 ^ i = 0 := by
  have h1 : X % 2 ^ i < 2 ^ i := Nat.mod_lt _ (Nat.pow_pos (by omega))
  have h2 : 2 ^ i ≤ 2 ^ 32 := Nat.pow_le_pow_right (by omega) hi
  unfold msk
  constructor
  · intro h
    have := congrArg BitVec.toNat h
    rw [BitVec.toNat_ofNat, Nat.mod_eq_of_lt (by omega)] at this
    simpa using this
  · intro h; rw [h]
/-- The string after i places of the pattern. -/
def BI (l0 : List UInt8) (f X i : Nat) (l : List UInt8) : Prop :=
  l.length = l0.length ∧ crcB 0xFFFFFFFF#32 l = crcB 0xFFFFFFFF#32 l0 ^^^ bitN (8 * l0.length - f) (msk X i)
theorem BI.start (l0 : List UInt8) (f X : Nat) : BI l0 f X 0 l0 := by
  refine ⟨rfl, ?_⟩
  have : msk X 0 = 0#32 := (msk_eq_zero X 0 (by omega)).2 (Nat.mod_one X)
  rw [this, bitN_zero, BitVec.xor_zero]
theorem BI.skip {l0 l : List UInt8} {f X i : Nat} (h : BI l0 f X i l) (hx : X / 2 ^ i % 2 = 0) : BI l0 f X (i + 1) l := ⟨h.1, by rw [msk_zero X i hx]; exact h.2⟩
theorem BI.flip {l0 l : List UInt8} {f X i : Nat} (h : BI l0 f X i l) (hx : X / 2 ^ i % 2 = 1) (hi : i < 32) (hk : f + i < 8 * l0.length) (hj : (f + i) / 8 < l.length) :
    BI l0 f X (i + 1) (l.set ((f + i) / 8) (l[(f + i) / 8] ^^^ UInt8.ofNat (2 ^ ((f + i) % 8)))) := by
  refine ⟨by rw [List.length_set]; exact h.1, ?_⟩
  rw [crcB_flip l _ f i hi (by rw [h.1]; exact hk), h.2, h.1, msk_one X i hx hi, bitN_xor, BitVec.xor_assoc]
theorem BI.done {l0 l : List UInt8} {f X i : Nat} (h : BI l0 f X i l) (hi : i ≤ 32) : (crc l = crc l0) ↔ X % 2 ^ i = 0 := by
  rw [← msk_eq_zero X i hi]
  constructor
  · intro he
    have h1 := congrArg UInt32.toBitVec he
    rw [crc_bits, crc_bits, h.2] at h1
    have h2 := congrArg (fun x : BitVec 32 => ~~~ x ^^^ crcB 0xFFFFFFFF#32 l0) h1
    simp only [BitVec.not_not, BitVec.xor_self] at h2
    rw [BitVec.xor_comm, ← BitVec.xor_assoc, BitVec.xor_self, BitVec.zero_xor] at h2
    exact bitN_eq_zero _ _ h2
  · intro hm
    apply UInt32.toBitVec_inj.1
    rw [crc_bits, crc_bits, h.2, hm, bitN_zero, BitVec.xor_zero]
theorem xor_bit (x : UInt8) (t : Nat) (ht : t < 8) : bits .xor .u8 (x.toNat : Int) (IntKind.u8.wrap (2 ^ t)) = ((x ^^^ UInt8.ofNat (2 ^ t)).toNat : Int) := by
  have h : 2 ^ t < 2 ^ 8 := Nat.pow_lt_pow_right (by omega) ht
  have e : IntKind.u8.wrap ((2 : Int) ^ t) = ((UInt8.ofNat (2 ^ t)).toNat : Int) := by
    rw [IntKind.wrap_u8', UInt8.toNat_ofNat']
    have : ((2 : Int) ^ t) = ((2 ^ t : Nat) : Int) := by push_cast; rfl
    rw [this]
    omega
  rw [e, u8_xor3]

theorem bit_mod (X k : Nat) : ((X : Int) / 2 ^ k).tmod 2 = ((X / 2 ^ k % 2 : Nat) : Int) := by
  have : ((X : Int) / 2 ^ k) = ((X / 2 ^ k : Nat) : Int) := by push_cast; rfl
  rw [this]
  rfl
theorem bit_ne {X k : Nat} (h : X / 2 ^ k % 2 = 1) : X % 2 ^ (k + 1) ≠ 0 := by
  rw [mod_succ, h, Nat.mul_one]
  have := Nat.pow_pos (n := k) (show 0 < 2 by omega)
  omega
theorem burst_end {l0 l : List UInt8} {f X i : Nat} (h : BI l0 f X i l) (hi : i ≤ 32) : decide (X % 2 ^ i ≠ 0) = (w32 (crc l) != w32 (crc l0)) := by
  have hd := h.done hi
  by_cases h0 : X % 2 ^ i = 0
  · rw [hd.2 h0]; simp [h0]
  · have hne : w32 (crc l) ≠ w32 (crc l0) := fun e => h0 (hd.1 (u32_inj.1 e))
    rw [bne_iff_ne.2 hne]
    simp [h0]
set_option maxRecDepth 100000 in
set_option maxHeartbeats 2000000 in
theorem burst_any (s : ByteArray) (at' : Int) (X : Nat) (w : World) (ha1 : -9223372036854775808 ≤ at') (ha2 : at' ≤ 9223372036854775807) (hX : X ≤ 4294967295) (hn : Nibs w) (hz : 0 < w.heap.size) :
    Calls Tryd.prog 8 #[.string s, .int .i64 at', .int .u32 (X : Int)] w fun e w' => e = .returned (.bool true) ∧ Below w.heap.size w w' := by
  have HN := Lib.hid hn
  clear hn
  obtain ⟨ms, ems, hms1, hms2⟩ := cut_at s 300 (by omega)
  generalize hft : s.extract 0 ms = t
  have st : t.size ≤ 300 := by rw [← hft, ByteArray.size_extract]; omega
  have hts : t.size = ms := by rw [← hft, ByteArray.size_extract]; omega
  have HS : Hid (t.size = ms) := hts
  rw [hts] at st
  clear hts
  have arm : ∀ w1 : World, ∃ (cap : Nat) (W : World), (convert 9 38 (.string t)).run Tryd.prog w1 = .ok (.slice (some ⟨w1.heap.size, 0, none⟩) ms cap) W ∧ Hid (BRow W w1.heap.size t.data.toList) ∧ Below w1.heap.size w1 W ∧ Hid (W.heap.size = w1.heap.size + 1) := by
    intro w1
    obtain ⟨cap, W, h1, h2, h3, h4⟩ := conv_bytes w1 t
    exact ⟨cap, W, by rw [← HS.out]; exact h1, h2, h3, h4⟩
  have ARM := Lib.hid arm
  clear arm
  by_cases hn0 : ms = 0
  · have hb0 : ((ms : Int) == 0) = true := by simp; omega
    have HX := Lib.hid hn0
    clear hn0
    go_enter Tryd.func8, Tryd.ntmps8
    go_wp2_with (go_at_call 10; refine (sane_any _ HN.out hz).mono ?_; rintro e w1 ⟨rfl, hb1⟩; obtain ⟨cap, W2, hcv, HR, hb2, HZ⟩ := ARM.out w1)
    go_ret
    exact ⟨rfl, hb1.trans (hb2.mono hb1.size)⟩
  · have hb0 : ((ms : Int) == 0) = false := by simp; omega
    by_cases hx0 : X = 0
    · have hbx : ((X : Int) == 0) = true := by simp; omega
      have HX := Lib.hid hx0
      clear hx0
      go_enter Tryd.func8, Tryd.ntmps8
      go_wp2_with (go_at_call 10; refine (sane_any _ HN.out hz).mono ?_; rintro e w1 ⟨rfl, hb1⟩; obtain ⟨cap, W2, hcv, HR, hb2, HZ⟩ := ARM.out w1)
      go_ret
      exact ⟨rfl, hb1.trans (hb2.mono hb1.size)⟩
    · have hbx : ((X : Int) == 0) = false := by simp; omega
      have hpk := pickZ_bd at' (8 * (ms : Int)) (by omega)
      obtain ⟨f, hf⟩ := Int.eq_ofNat_of_zero_le hpk.1
      have HF := Lib.hid hf
      rw [hf] at hpk
      clear hf
      go_enter Tryd.func8, Tryd.ntmps8
      go_wp2_with (first | (go_at_call 10; refine (sane_any _ HN.out hz).mono ?_; rintro e w1 ⟨rfl, hb1⟩; obtain ⟨cap, W2, hcv, HR, hb2, HZ⟩ := ARM.out w1) | (go_at_call 14; refine (pick_any _ _ _ ha1 ha2 (by omega) (by omega)).mono ?_; rintro e w' ⟨rfl, rfl⟩; rw [HF.out]))
      have hB2 : Below w.heap.size w W2 := hb1.trans (hb2.mono hb1.size)
      have z1 := hb1.size
      go_loopw [10, 11, 12] (fun ch i _ wr => ∃ (k : Nat) (l : List UInt8), k ≤ 32 ∧ i = .int .i64 k ∧ ch = .bool (decide (X % 2 ^ k ≠ 0)) ∧ BI t.data.toList f X k l ∧ BRow wr w1.heap.size l ∧ Below w.heap.size w wr) (fun _ i _ _ => 32 - (intOf i).toNat)
      case atStart => exact ⟨0, _, by omega, rfl, by simp [Nat.mod_one], BI.start _ _ _, HR.out, hB2⟩
      case round =>
        obtain ⟨k, l, hk, rfl, rfl, hBI, hrow, hB⟩ := hrel
        have hl : l.length = ms := by rw [hBI.1, blist, HS.out]
        have HL := Lib.hid hl
        have HBI := Lib.hid hBI
        have HRow := Lib.hid hrow
        clear hBI hrow hl
        by_cases h32 : k < 32
        · have b32 : decide ((k : Int) < 32) = true := by simp; omega
          by_cases hfk : f + k < 8 * ms
          · have bfk : decide ((f : Int) + k < 8 * ms) = true := by simp; omega
            have hj : (f + k) / 8 < l.length := by rw [HL.out]; omega
            by_cases hx : X / 2 ^ k % 2 = 1
            · have hbit : (((X : Int) / 2 ^ k).tmod 2 == 1) = true := by
                rw [beq_iff_eq, bit_mod]
                omega
              have hcell := HRow.out.cell _ hj
              have hfroz := HRow.out.frozen _ hj
              have HX := Lib.hid hx
              clear hx
              go_wp2
              go_region
              go_wp2
              refine ⟨⟨k + 1, _, by omega, by go_num, ?_, HBI.out.flip HX.out h32 (by rw [blist, HS.out]; exact hfk) hj, ?_, ?_⟩, by simp [intOf]; omega⟩
              · rw [decide_eq_true (bit_ne HX.out)]
              · have := (HRow.out.set ((f + k) / 8) (l[(f + k) / 8] ^^^ UInt8.ofNat (2 ^ ((f + k) % 8)))).drew
                rw [← xor_bit _ _ (Nat.mod_lt _ (by omega))] at this
                exact this
              · exact (hB.setCell (p := ⟨w1.heap.size, (f + k) / 8, none⟩) z1 _).drew
            · have hbit : (((X : Int) / 2 ^ k).tmod 2 == 1) = false := by
                rw [beq_eq_false_iff_ne, bit_mod]
                omega
              have HX : Hid (X / 2 ^ k % 2 = 0) := by show _ = _; omega
              clear hx
              go_wp2
              refine ⟨⟨k + 1, l, by omega, by go_num, ?_, HBI.out.skip HX.out, HRow.out, hB⟩, by simp [intOf]; omega⟩
              rw [mod_succ, HX.out, Nat.mul_zero, Nat.add_zero]
          · have bfk : decide ((f : Int) + k < 8 * ms) = false := by simp; omega
            have HD : Hid (decide (X % 2 ^ k ≠ 0) = (w32 (crc l) != w32 (crc t.data.toList))) := burst_end HBI.out hk
            have hsv := fun m => (HRow.out.drewN m).string cap
            rw [HL.out] at hsv
            have HNB := Lib.hid (HN.out.below hB hz)
            go_wp2
            go_quiet ((go_at_call 21; exact quiet_same (sum_any _ _ (by first | (rw [size_lit, HL.out]; unfold maxLen; omega) | (rw [HS.out]; unfold maxLen; omega)) HNB.out)))
            go_wp2
            go_ret
            refine ⟨ret_bool ?_, below_drewN hB nq⟩
            rw [← HD.out]
            simp
        · have b32 : decide ((k : Int) < 32) = false := by simp; omega
          have HD : Hid (decide (X % 2 ^ k ≠ 0) = (w32 (crc l) != w32 (crc t.data.toList))) := burst_end HBI.out hk
          have hsv := fun m => (HRow.out.drewN m).string cap
          rw [HL.out] at hsv
          have HNB := Lib.hid (HN.out.below hB hz)
          go_wp2
          go_quiet ((go_at_call 21; exact quiet_same (sum_any _ _ (by first | (rw [size_lit, HL.out]; unfold maxLen; omega) | (rw [HS.out]; unfold maxLen; omega)) HNB.out)))
          go_wp2
          go_ret
          refine ⟨ret_bool ?_, below_drewN hB nq⟩
          rw [← HD.out]
          simp
end Go.Proofs.YtbniboacglejbaaDoor
