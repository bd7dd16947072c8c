/- Encoding and decoding, without the program: each undoes the other. -/
import Derived.Test.YtbniboacglejbaaDoorWirePlain
namespace Go.Proofs.YtbniboacglejbaaDoor

theorem grp_fuel : ∀ (k m y : Nat), y < 128 ^ (k + 1) → grp (k + 1 + m) y = grp (k + 1) y
  | 0, m, y, h => by
    rw [show 0 + 1 + m = m + 1 from by omega, grp_last m y (by simpa using h), grp_last 0 y (by simpa using h)]
  | k + 1, m, y, h => by
    by_cases hy : y < 128
    · rw [show k + 1 + 1 + m = (k + 1 + m) + 1 from by omega, grp_last _ y hy, grp_last _ y hy]
    · rw [show k + 1 + 1 + m = (k + 1 + m) + 1 from by omega, grp_more _ y hy, grp_more _ y hy, grp_fuel k m (y / 128) (by rw [Nat.pow_succ] at h; omega)]

theorem byteOf_last (y : Nat) (h : y < 128) : (byteOf (y, true)).toNat = y := by simp [byteOf]; omega
theorem byteOf_more (y : Nat) (h : y < 128) : (byteOf (y, false)).toNat = y + 128 := by simp [byteOf]; omega

/-- Decoding reads what encoding wrote. -/
theorem decGo_grp : ∀ (k i z y : Nat) (t : List UInt8), y < 128 ^ (k + 1) → (0 < i → 0 < y) →
    decGo (k + 1) i z ((grp (k + 1) y).map byteOf ++ t) = some (z + y * 128 ^ i, i + (grp (k + 1) y).length) := by
  intro k
  induction k with
  | zero =>
    intro i z y t h h0
    have hy : y < 128 := by simpa using h
    rw [grp_last 0 y hy]
    have hb := byteOf_last y hy
    simp only [List.map_cons, List.map_nil, List.cons_append, List.nil_append, decGo, hb, List.length_cons, List.length_nil]
    rw [if_neg (by omega), if_neg (by omega), Nat.mod_eq_of_lt hy]
  | succ k ih =>
    intro i z y t h h0
    by_cases hy : y < 128
    · rw [grp_last _ y hy]
      have hb := byteOf_last y hy
      simp only [List.map_cons, List.map_nil, List.cons_append, List.nil_append, decGo, hb, List.length_cons, List.length_nil]
      rw [if_neg (by omega), if_neg (by omega), Nat.mod_eq_of_lt hy]
    · rw [grp_more _ y hy]
      have hb := byteOf_more (y % 128) (Nat.mod_lt _ (by omega))
      simp only [List.map_cons, List.cons_append, decGo, hb, List.length_cons]
      rw [if_pos (by omega), ih (i + 1) _ (y / 128) t (by rw [Nat.pow_succ] at h; omega) (fun _ => by omega)]
      congr 2
      · rw [Nat.pow_succ, show (y % 128 + 128) % 128 = y % 128 from by omega]
        have : y / 128 * (128 ^ i * 128) = (y / 128 * 128) * 128 ^ i := by rw [Nat.mul_comm (128 ^ i) 128, Nat.mul_assoc]
        rw [this, Nat.add_assoc, ← Nat.add_mul, show y % 128 + y / 128 * 128 = y from by omega]
      · omega

/-- What decoding accepts is what encoding writes. -/
theorem grp_of_decGo : ∀ (k i z : Nat) (l : List UInt8) (y c : Nat), decGo k i z l = some (y, c) →
    ∃ x, y = z + x * 128 ^ i ∧ (grp k x).map byteOf = l.take (c - i) ∧ x < 128 ^ k ∧ (0 < i → 0 < x) ∧ i < c
  | 0, _, _, _, _, _, h => by simp [decGo] at h
  | _ + 1, _, _, [], _, _, h => by simp [decGo] at h
  | k + 1, i, z, b :: t, y, c, h => by
    have hb := b.toNat_lt
    unfold decGo at h
    split at h
    · rename_i hb1
      obtain ⟨x, hy, hg, hx, h0, hc⟩ := grp_of_decGo k _ _ t y c h
      have hx0 := h0 (by omega)
      refine ⟨b.toNat % 128 + 128 * x, ?_, ?_, ?_, fun _ => by omega, by omega⟩
      · rw [hy, Nat.pow_succ, Nat.add_mul, Nat.add_assoc]
        congr 2
        rw [Nat.mul_comm (128 ^ i) 128, ← Nat.mul_assoc, Nat.mul_comm x 128]
      · rw [grp_more _ _ (by omega), show (b.toNat % 128 + 128 * x) % 128 = b.toNat % 128 from by omega, show (b.toNat % 128 + 128 * x) / 128 = x from by omega,
          List.map_cons, hg, show c - i = (c - (i + 1)) + 1 from by omega, List.take_succ_cons]
        congr 1
        apply UInt8.toNat_inj.1
        rw [byteOf_more _ (Nat.mod_lt _ (by omega))]
        omega
      · rw [Nat.pow_succ]; omega
    · rename_i hb1
      split at h
      · cases h
      · rename_i hb2
        simp at h
        obtain ⟨rfl, rfl⟩ := h
        refine ⟨b.toNat, by rw [Nat.mod_eq_of_lt (by omega)], ?_, ?_, fun h => by omega, by omega⟩
        · rw [grp_last _ _ (by omega), show i + 1 - i = 1 from by omega]
          simp only [List.map_cons, List.map_nil, List.take_succ_cons, List.take_zero]
          congr 1
          apply UInt8.toNat_inj.1
          rw [byteOf_last _ (by omega)]
        · have : 128 ^ 1 ≤ 128 ^ (k + 1) := Nat.pow_le_pow_right (by omega) (by omega)
          omega

/-- Decoding looks at no byte beyond the end of the encoding. -/
theorem decGo_more : ∀ (k i z : Nat) (l t : List UInt8) (r : Nat × Nat), decGo k i z l = some r → decGo k i z (l ++ t) = some r
  | 0, _, _, _, _, _, h => by simp [decGo] at h
  | _ + 1, _, _, [], _, _, h => by simp [decGo] at h
  | k + 1, i, z, b :: l, t, r, h => by
    unfold decGo at h
    rw [List.cons_append]
    unfold decGo
    split
    · rename_i hb
      rw [if_pos hb] at h
      exact decGo_more k _ _ l t r h
    · rename_i hb
      rw [if_neg hb] at h
      exact h

theorem unz_zz (n : Int) : unz (zz n) = n := by
  unfold zz unz
  by_cases h : n < 0
  · rw [if_pos h]; split <;> omega
  · rw [if_neg h]; split <;> omega
theorem zz_unz (z : Nat) : zz (unz z) = z := by
  unfold zz unz
  split
  · rw [if_neg (by omega)]; omega
  · rw [if_pos (by omega)]; omega
theorem zz_lt63 (n : Int) (h1 : -4611686018427387903 ≤ n) (h2 : n ≤ 4611686018427387903) : zz n < 128 ^ 9 := by
  unfold zz; split <;> omega

/-- An integer is decoded. -/
theorem dec_enc (n : Int) (h1 : -4611686018427387903 ≤ n) (h2 : n ≤ 4611686018427387903) (t : List UInt8) :
    dec (enc (zz n) ++ t) = some (n, (enc (zz n)).length) := by
  have hz := zz_lt63 n h1 h2
  unfold dec enc
  rw [show grp 10 (zz n) = grp 9 (zz n) from grp_fuel 8 1 (zz n) hz, decGo_grp 8 0 0 (zz n) t hz (fun h => by omega), List.length_map]
  simp only [Nat.pow_zero, Nat.mul_one, Nat.zero_add, unz_zz]
  rw [if_neg (by omega)]
/-- What is decoded is the encoding of what comes out. -/
theorem enc_of_dec {l : List UInt8} {n : Int} {c : Nat} (h : dec l = some (n, c)) : l.take c = enc (zz n) := by
  unfold dec at h
  split at h
  · rename_i z c' hd
    obtain ⟨x, hy, hg, hx, _, _⟩ := grp_of_decGo 9 0 0 l z c' hd
    split at h
    · cases h
    · simp at h
      obtain ⟨rfl, rfl⟩ := h
      rw [zz_unz, enc, show grp 10 z = grp 9 z from grp_fuel 8 1 z (by simp at hy; rw [hy]; exact hx)]
      simp at hy
      rw [hy, hg]
      simp
  · cases h
theorem dec_more {l : List UInt8} {r : Int × Nat} (h : dec l = some r) (t : List UInt8) : dec (l ++ t) = some r := by
  unfold dec at h ⊢
  split at h
  · rename_i z c hd
    rw [decGo_more 9 0 0 l t _ hd]
    exact h
  · cases h
theorem enc_pos (z : Nat) : 0 < (enc z).length := by
  unfold enc grp
  split <;> simp
/-- No proper beginning of an encoding is accepted. -/
theorem dec_short (n : Int) (h1 : -4611686018427387903 ≤ n) (h2 : n ≤ 4611686018427387903) (k : Nat) (hk : k < (enc (zz n)).length) : dec ((enc (zz n)).take k) = none := by
  cases hd : dec ((enc (zz n)).take k) with
  | none => rfl
  | some r =>
    exfalso
    have h3 := dec_more hd ((enc (zz n)).drop k)
    rw [List.take_append_drop] at h3
    have h4 := dec_enc n h1 h2 []
    rw [List.append_nil, h3] at h4
    have h5 := enc_of_dec (n := r.1) (c := r.2) hd
    have h6 : r.1 = n ∧ r.2 = (enc (zz n)).length := by
      have := Option.some.inj h4
      exact ⟨congrArg Prod.fst this, congrArg Prod.snd this⟩
    rw [h6.1] at h5
    have h7 := congrArg List.length h5
    rw [List.length_take, List.length_take] at h7
    omega
/-- Encodings of different integers are not the beginning of each other. -/
theorem enc_inj {n m : Int} (h1 : -4611686018427387903 ≤ n) (h2 : n ≤ 4611686018427387903) (h3 : -4611686018427387903 ≤ m) (h4 : m ≤ 4611686018427387903)
    {t : List UInt8} (h : enc (zz m) = enc (zz n) ++ t) : n = m := by
  have h5 := dec_enc n h1 h2 t
  rw [← h] at h5
  have h6 := dec_enc m h3 h4 []
  rw [List.append_nil, h5] at h6
  exact congrArg Prod.fst (Option.some.inj h6)
end Go.Proofs.YtbniboacglejbaaDoor
