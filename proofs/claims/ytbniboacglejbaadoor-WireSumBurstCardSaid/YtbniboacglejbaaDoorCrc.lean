/- The checksum as a linear map, without the program -/
import Derived.Test.YtbniboacglejbaaDoorSum
namespace Go.Proofs.YtbniboacglejbaaDoor

/-- One bit is shifted out. -/
def bitB (x : BitVec 32) : BitVec 32 := (x >>> 1) ^^^ (if x.getLsbD 0 then 0x82F63B78#32 else 0#32)
def bitN : Nat → BitVec 32 → BitVec 32
  | 0, x => x
  | k + 1, x => bitN k (bitB x)
theorem bitN_add (a b : Nat) (x : BitVec 32) : bitN (a + b) x = bitN b (bitN a x) := by
  induction a generalizing x with
  | zero => rw [Nat.zero_add]; rfl
  | succ a ih => rw [show a + 1 + b = (a + b) + 1 from by omega]; exact ih _
theorem bitB_xor (x y : BitVec 32) : bitB (x ^^^ y) = bitB x ^^^ bitB y := by
  unfold bitB
  rw [BitVec.ushiftRight_xor_distrib, BitVec.getLsbD_xor]
  cases x.getLsbD 0 <;> cases y.getLsbD 0
  · simp
  · simp [BitVec.xor_assoc]
  · simp only [Bool.xor_false, if_true, Bool.false_eq_true, if_false, BitVec.xor_zero]
    rw [BitVec.xor_assoc, BitVec.xor_assoc, BitVec.xor_comm (y >>> 1)]
  · simp only [Bool.xor_self, Bool.false_eq_true, if_false, if_true, BitVec.xor_zero]
    rw [BitVec.xor_assoc, BitVec.xor_comm _ (y >>> 1 ^^^ _), BitVec.xor_assoc, BitVec.xor_self, BitVec.xor_zero]
theorem bitN_xor (k : Nat) (x y : BitVec 32) : bitN k (x ^^^ y) = bitN k x ^^^ bitN k y := by
  induction k generalizing x y with
  | zero => rfl
  | succ k ih => show bitN k _ = _; rw [bitB_xor]; exact ih _ _
theorem bitB_zero : bitB 0#32 = 0#32 := by decide
theorem bitN_zero (k : Nat) : bitN k 0#32 = 0#32 := by
  induction k with
  | zero => rfl
  | succ k ih => show bitN k _ = _; rw [bitB_zero]; exact ih
theorem bitB_eq_zero (x : BitVec 32) (h : bitB x = 0#32) : x = 0#32 := by
  unfold bitB at h
  by_cases h0 : x.getLsbD 0
  · exfalso
    rw [if_pos h0] at h
    have := congrArg (fun y : BitVec 32 => y.getLsbD 31) h
    simp at this
  · rw [if_neg h0, BitVec.xor_zero] at h
    apply BitVec.eq_of_getLsbD_eq
    intro i hi
    cases i with
    | zero => simpa using h0
    | succ i =>
      have := congrArg (fun y : BitVec 32 => y.getLsbD i) h
      simp [BitVec.getLsbD_ushiftRight] at this
      rw [Nat.add_comm, this]
      simp
theorem bitN_eq_zero (k : Nat) (x : BitVec 32) (h : bitN k x = 0#32) : x = 0#32 := by
  induction k generalizing x with
  | zero => exact h
  | succ k ih => exact bitB_eq_zero x (ih _ h)
theorem bitN_one : ∀ i : Fin 32, bitN i.1 (1#32 <<< i.1) = 1#32 := by decide +kernel
theorem bitN_even (x : BitVec 32) : ∀ k, (∀ j, j < k → x.getLsbD j = false) → bitN k x = x >>> k := by
  intro k
  induction k generalizing x with
  | zero => intro _; simp [bitN]
  | succ k ih =>
    intro h
    show bitN k (bitB x) = _
    have e : bitB x = x >>> 1 := by unfold bitB; rw [if_neg (by rw [h 0 (by omega)]; simp)]; simp
    rw [e, ih (x >>> 1) (fun j hj => by rw [BitVec.getLsbD_ushiftRight]; exact h _ (by omega)), show k + 1 = 1 + k from by omega, BitVec.shiftRight_add]
theorem bitN_nib : ∀ i : Fin 16, bitN 4 (BitVec.ofNat 32 i.1) = (nibTab.getD i.1 0).toBitVec := by decide +kernel
theorem split4 (x : BitVec 32) : x = ((x >>> 4) <<< 4) ^^^ BitVec.ofNat 32 (x.toNat % 16) := by
  apply BitVec.eq_of_getLsbD_eq
  intro i hi
  simp only [BitVec.getLsbD_xor, BitVec.getLsbD_shiftLeft, BitVec.getLsbD_ushiftRight, BitVec.getLsbD_ofNat]
  rw [show 16 = 2 ^ 4 from rfl, Nat.testBit_mod_two_pow, BitVec.testBit_toNat]
  by_cases h : i < 4
  · simp [h, hi]
  · simp [h, hi, show 4 + (i - 4) = i from by omega]
/-- Four bits at once. -/
theorem crcStep_bits (x : UInt32) : (crcStep x).toBitVec = bitN 4 x.toBitVec := by
  have h1 : (crcStep x).toBitVec = (x.toBitVec >>> 4) ^^^ (nib x).toBitVec := by
    unfold crcStep
    rw [UInt32.toBitVec_xor, UInt32.toBitVec_shiftRight]
    rfl
  have h2 : (x &&& 15).toNat = x.toNat % 16 := by
    rw [UInt32.toNat_and]
    exact Nat.and_two_pow_sub_one_eq_mod x.toNat 4
  have h3 : (nib x).toBitVec = bitN 4 (BitVec.ofNat 32 (x.toBitVec.toNat % 16)) := by
    rw [nib, h2]
    exact (bitN_nib ⟨x.toNat % 16, Nat.mod_lt _ (by omega)⟩).symm
  rw [h1, h3]
  conv => rhs; rw [split4 x.toBitVec]
  rw [bitN_xor, bitN_even ((x.toBitVec >>> 4) <<< 4) 4 (fun j hj => by simp [hj])]
  congr 1
  apply BitVec.eq_of_getLsbD_eq
  intro i hi
  simp [BitVec.getLsbD_ushiftRight, BitVec.getLsbD_shiftLeft]
  intro h
  rcases Nat.lt_or_ge (4 + i) 32 with h' | h'
  · omega
  · have : x.toBitVec.getLsbD (4 + i) = false := BitVec.getLsbD_of_ge _ _ h'
    simp_all
/-- A byte. -/
theorem crcByte_bits (r : UInt32) (b : UInt8) : (crcByte r b).toBitVec = bitN 8 (r.toBitVec ^^^ b.toUInt32.toBitVec) := by
  unfold crcByte
  rw [crcStep_bits, crcStep_bits, ← bitN_add, UInt32.toBitVec_xor]

/-- The register after bytes, from whatever register on. -/
def crcB : BitVec 32 → List UInt8 → BitVec 32
  | r, [] => r
  | r, b :: l => crcB (bitN 8 (r ^^^ b.toUInt32.toBitVec)) l
theorem crcB_foldl (l : List UInt8) (r : UInt32) : (l.foldl crcByte r).toBitVec = crcB r.toBitVec l := by
  induction l generalizing r with
  | nil => rfl
  | cons b l ih => rw [List.foldl_cons, ih, crcByte_bits]; rfl
theorem crc_bits (l : List UInt8) : (crc l).toBitVec = ~~~ crcB 0xFFFFFFFF#32 l := by
  rw [crc, UInt32.toBitVec_not, crcRun, crcB_foldl]; rfl
theorem xor_swap (a b c d : BitVec 32) : (a ^^^ b) ^^^ (c ^^^ d) = (a ^^^ c) ^^^ (b ^^^ d) := by
  rw [BitVec.xor_assoc, ← BitVec.xor_assoc b c d, BitVec.xor_comm b c, BitVec.xor_assoc c b d, ← BitVec.xor_assoc]
theorem crcB_delta (l : List UInt8) (r d : BitVec 32) : crcB (r ^^^ d) l = crcB r l ^^^ bitN (8 * l.length) d := by
  induction l generalizing r d with
  | nil => rfl
  | cons b l ih =>
    show crcB (bitN 8 (r ^^^ d ^^^ _)) l = crcB (bitN 8 (r ^^^ _)) l ^^^ _
    rw [BitVec.xor_assoc, BitVec.xor_comm d, ← BitVec.xor_assoc, bitN_xor, ih, List.length_cons, show 8 * (l.length + 1) = 8 + 8 * l.length from by omega, bitN_add]
/-- A byte is changed. -/
theorem crcB_set (l : List UInt8) (r : BitVec 32) (j : Nat) (m : UInt8) (hj : j < l.length) :
    crcB r (l.set j (l[j] ^^^ m)) = crcB r l ^^^ bitN (8 * (l.length - j)) m.toUInt32.toBitVec := by
  induction l generalizing r j with
  | nil => simp at hj
  | cons b l ih =>
    cases j with
    | zero =>
      show crcB (bitN 8 (r ^^^ (b ^^^ m).toUInt32.toBitVec)) l = crcB (bitN 8 (r ^^^ _)) l ^^^ _
      have e : (b ^^^ m).toUInt32.toBitVec = b.toUInt32.toBitVec ^^^ m.toUInt32.toBitVec := by rw [UInt8.toUInt32_xor, UInt32.toBitVec_xor]
      rw [e, ← BitVec.xor_assoc, bitN_xor, crcB_delta, List.length_cons, show 8 * (l.length + 1 - 0) = 8 + 8 * l.length from by omega, bitN_add]
    | succ j =>
      show crcB (bitN 8 (r ^^^ _)) (l.set j _) = crcB (bitN 8 (r ^^^ _)) l ^^^ _
      rw [List.length_cons, show l.length + 1 - (j + 1) = l.length - j from by omega]
      exact ih _ j (by simpa using hj)
/-- A bit is changed: bit k of the string, of those that follow bit f at most 31 places behind. -/
theorem crcB_flip (l : List UInt8) (r : BitVec 32) (f i : Nat) (hi : i < 32) (hk : f + i < 8 * l.length) :
    crcB r (l.set ((f + i) / 8) (l[(f + i) / 8]'(by omega) ^^^ UInt8.ofNat (2 ^ ((f + i) % 8)))) = crcB r l ^^^ bitN (8 * l.length - f) (1#32 <<< i) := by
  rw [crcB_set l r _ _ (by omega)]
  congr 1
  have h8 : ∀ t : Fin 8, (UInt8.ofNat (2 ^ t.1)).toUInt32.toBitVec = 1#32 <<< t.1 := by decide
  have ht : (f + i) % 8 < 8 := Nat.mod_lt _ (by omega)
  rw [h8 ⟨(f + i) % 8, ht⟩]
  show bitN _ (1#32 <<< ((f + i) % 8)) = _
  rw [show 8 * (l.length - (f + i) / 8) = (f + i) % 8 + (8 * l.length - (f + i)) from by omega, bitN_add, bitN_one ⟨(f + i) % 8, by omega⟩,
    show 8 * l.length - f = i + (8 * l.length - (f + i)) from by omega, bitN_add, bitN_one ⟨i, hi⟩]
/-- The checksum is affine. -/
theorem crcB_three (x a b c : List UInt8) (p q s : BitVec 32) (ha : a.length = x.length) (hb : b.length = x.length) (hc : c.length = x.length)
    (h : ∀ i (hi : i < x.length), x[i] = a[i] ^^^ b[i] ^^^ c[i]) : crcB (p ^^^ q ^^^ s) x = crcB p a ^^^ crcB q b ^^^ crcB s c := by
  induction x generalizing a b c p q s with
  | nil =>
    obtain rfl := List.eq_nil_of_length_eq_zero ha
    obtain rfl := List.eq_nil_of_length_eq_zero hb
    obtain rfl := List.eq_nil_of_length_eq_zero hc
    rfl
  | cons x xs ih =>
    match a, b, c, ha, hb, hc with
    | a :: al, b :: bs, c :: cs, ha, hb, hc =>
      have h0 : x = a ^^^ b ^^^ c := h 0 (by simp)
      show crcB (bitN 8 (p ^^^ q ^^^ s ^^^ x.toUInt32.toBitVec)) xs = crcB (bitN 8 (p ^^^ _)) al ^^^ crcB (bitN 8 (q ^^^ _)) bs ^^^ crcB (bitN 8 (s ^^^ _)) cs
      have e : x.toUInt32.toBitVec = a.toUInt32.toBitVec ^^^ b.toUInt32.toBitVec ^^^ c.toUInt32.toBitVec := by
        rw [h0, UInt8.toUInt32_xor, UInt8.toUInt32_xor, UInt32.toBitVec_xor, UInt32.toBitVec_xor]
      rw [← ih al bs cs _ _ _ (by simpa using ha) (by simpa using hb) (by simpa using hc) (fun i hi => h (i + 1) (by simp; omega)), e, ← bitN_xor, ← bitN_xor, xor_swap (p ^^^ q) s _ c.toUInt32.toBitVec, xor_swap p q]
theorem crc_three (x a b c : List UInt8) (ha : a.length = x.length) (hb : b.length = x.length) (hc : c.length = x.length)
    (h : ∀ i (hi : i < x.length), x[i] = a[i] ^^^ b[i] ^^^ c[i]) : crc x = crc a ^^^ crc b ^^^ crc c := by
  apply UInt32.toBitVec_inj.1
  rw [UInt32.toBitVec_xor, UInt32.toBitVec_xor, crc_bits, crc_bits, crc_bits, crc_bits]
  have := crcB_three x a b c 0xFFFFFFFF#32 0xFFFFFFFF#32 0xFFFFFFFF#32 ha hb hc h
  rw [show (0xFFFFFFFF#32 ^^^ 0xFFFFFFFF#32 ^^^ 0xFFFFFFFF#32) = 0xFFFFFFFF#32 from by decide] at this
  rw [this]
  apply BitVec.eq_of_getLsbD_eq
  intro i hi
  simp [hi]
end Go.Proofs.YtbniboacglejbaaDoor
