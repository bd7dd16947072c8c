/- Encoding and decoding of strings: each undoes the other. -/
import Derived.Test.YtbniboacglejbaaDoorWire
import Derived.Test.YtbniboacglejbaaDoorWireLaws
namespace Go.Proofs.YtbniboacglejbaaDoor

/-- The encoding of a string. -/
def encS (t : List UInt8) : List UInt8 := enc (zz t.length) ++ t
theorem decS_encS (t q : List UInt8) (h : t.length ≤ 65536) : decS (encS t ++ q) = some (t, (encS t).length) := by
  have hd := dec_enc (t.length : Int) (by omega) (by omega) (t ++ q)
  rw [← List.append_assoc] at hd
  unfold decS encS
  rw [hd]
  simp only
  rw [if_pos (by simp; omega), Int.toNat_natCast, List.append_assoc, List.drop_left, List.take_left, List.length_append]
theorem encS_of_decS {l t : List UInt8} {c : Nat} (h : decS l = some (t, c)) : t.length ≤ 65536 ∧ c ≤ l.length ∧ l.take c = encS t := by
  unfold decS at h
  split at h
  · rename_i n d hd
    split at h
    · rename_i hn
      obtain ⟨m, rfl⟩ := Int.eq_ofNat_of_zero_le hn.1
      have hle := dec_le hd
      simp only [Int.toNat_natCast, Option.some.injEq, Prod.mk.injEq] at h
      obtain ⟨rfl, rfl⟩ := h
      have hl : (List.take m (List.drop d l)).length = m := by rw [List.length_take, List.length_drop]; omega
      refine ⟨by omega, by omega, ?_⟩
      rw [encS, hl, ← enc_of_dec hd, List.take_add]
    · cases h
  · cases h
theorem decS_more {l t : List UInt8} {c : Nat} (h : decS l = some (t, c)) (q : List UInt8) : decS (l ++ q) = some (t, c) := by
  obtain ⟨h1, h2, h3⟩ := encS_of_decS h
  have h4 : l ++ q = encS t ++ (l.drop c ++ q) := by rw [← h3, ← List.append_assoc, List.take_append_drop]
  have h5 : c = (encS t).length := by rw [← h3, List.length_take]; omega
  rw [h4, decS_encS t _ h1, h5]
theorem decS_short (t : List UInt8) (h : t.length ≤ 65536) (k : Nat) (hk : k < (encS t).length) : decS ((encS t).take k) = none := by
  cases hd : decS ((encS t).take k) with
  | none => rfl
  | some r =>
    exfalso
    obtain ⟨u, c⟩ := r
    have h3 := decS_more hd ((encS t).drop k)
    rw [List.take_append_drop] at h3
    have h4 := decS_encS t [] h
    rw [List.append_nil, h3] at h4
    obtain ⟨rfl, rfl⟩ : u = t ∧ c = (encS t).length := by
      have := Option.some.inj h4
      exact ⟨congrArg Prod.fst this, congrArg Prod.snd this⟩
    have := (encS_of_decS hd).2.1
    rw [List.length_take] at this
    omega
theorem putStr_ok (t : List UInt8) (h : t.length ≤ 65536) : putStr t = (encS t, 0) := if_pos h
theorem putInt_ok (n : Int) (h1 : -4611686018427387903 ≤ n) (h2 : n ≤ 4611686018427387903) : putInt n = (enc (zz n), 0) := if_pos ⟨h1, h2⟩
/-- Int at an offset, from the rest of the string. -/
theorem intAt_some (l : List UInt8) (a : Nat) (ha : a ≤ l.length) {n : Int} {c : Nat} (h : dec (l.drop a) = some (n, c)) : intAt l a = tup3 n (a + c : Nat) 0 := by
  rw [intAt, if_neg (by omega), Int.toNat_natCast, intV_some h]
theorem intAt_none (l : List UInt8) (a : Nat) (ha : a ≤ l.length) (h : dec (l.drop a) = none) : intAt l a = tup3 0 0 10 := by
  rw [intAt, if_neg (by omega), Int.toNat_natCast, intV_none h]
theorem strAt_some (l : List UInt8) (a : Nat) (ha : a ≤ l.length) {t : List UInt8} {c : Nat} (h : decS (l.drop a) = some (t, c)) : strAt l a = .tuple #[strV t, .int .i64 ((a : Int) + c), .int .i64 0] := by
  rw [strAt, if_neg (by omega), Int.toNat_natCast, h]
theorem strAt_none (l : List UInt8) (a : Nat) (ha : a ≤ l.length) (h : decS (l.drop a) = none) : strAt l a = .tuple #[strV [], .int .i64 0, .int .i64 10] := by
  rw [strAt, if_neg (by omega), Int.toNat_natCast, h]
theorem intAt_mid (p q : List UInt8) (n : Int) (h1 : -4611686018427387903 ≤ n) (h2 : n ≤ 4611686018427387903) :
    intAt (p ++ enc (zz n) ++ q) p.length = tup3 n (p.length + (enc (zz n)).length : Nat) 0 :=
  intAt_some _ _ (by simp) (by rw [List.append_assoc, List.drop_left]; exact dec_enc n h1 h2 q)
theorem strAt_mid (p q t : List UInt8) (h : t.length ≤ 65536) : strAt (p ++ encS t ++ q) p.length = .tuple #[strV t, .int .i64 ((p.length : Int) + (encS t).length), .int .i64 0] :=
  strAt_some _ _ (by simp) (by rw [List.append_assoc, List.drop_left]; exact decS_encS t q h)
end Go.Proofs.YtbniboacglejbaaDoor
