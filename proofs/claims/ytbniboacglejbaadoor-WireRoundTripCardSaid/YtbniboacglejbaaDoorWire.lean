/- The contracts of package wire, for all arguments: PutInt, Int, PutString, String. -/
import Derived.Test.YtbniboacglejbaaDoorPutInt
import Derived.Test.YtbniboacglejbaaDoorInt
import Derived.Test.YtbniboacglejbaaDoorSum
namespace Go.Proofs.YtbniboacglejbaaDoor
open Go.RowKit Go.Shelf

/-- What PutInt returns. -/
def putInt (n : Int) : List UInt8 × Int := if -4611686018427387903 ≤ n ∧ n ≤ 4611686018427387903 then (enc (zz n), 0) else ([], 10)
theorem putInt_any (n : Int) (w : World) :
    Calls Tryd.prog 12 #[.int .i64 n] w fun e w' => e = .returned (.tuple #[strV (putInt n).1, .int .i64 (putInt n).2]) ∧ Below w.heap.size w w' := by
  by_cases h : -4611686018427387903 ≤ n ∧ n ≤ 4611686018427387903
  · rw [show putInt n = (enc (zz n), 0) from if_pos h]
    exact putInt_yes n w h.1 h.2
  · rw [show putInt n = ([], 10) from if_neg h]
    exact (putInt_no n w (by omega)).mono fun e w' ⟨he, hw⟩ => ⟨he, hw ▸ Below.refl _ _⟩

/-- What Int returns, at whatever offset. -/
def intAt (l : List UInt8) (a : Int) : Value := if a < 0 ∨ (l.length : Int) < a then tup3 0 0 2 else intV l a.toNat
theorem ret_int {k : IntKind} {a b : Int} (h : a = b) : Ending.returned (.int k a) = .returned (.int k b) := by rw [h]
theorem bsize (s : ByteArray) : s.data.toList.length = s.size := by rw [Array.length_toList]; rfl
set_option maxRecDepth 100000 in
theorem int_out (s : ByteArray) (a : Int) (w : World) (h : a < 0 ∨ (s.size : Int) < a) :
    Calls Tryd.prog 15 #[.string s, .int .i64 a] w fun e w' => e = .returned (tup3 0 0 2) ∧ w = w' := by
  by_cases h1 : a < 0
  all_goals
    go_enter Tryd.func15, Tryd.ntmps15
    go_wp2
    go_ret3
    exact ⟨rfl, rfl⟩
theorem int_any (s : ByteArray) (a : Int) (w : World) (hs : s.size ≤ maxLen) :
    Calls Tryd.prog 15 #[.string s, .int .i64 a] w fun e w' => e = .returned (intAt s.data.toList a) ∧ w = w' := by
  by_cases h : a < 0 ∨ (s.size : Int) < a
  · rw [show intAt s.data.toList a = tup3 0 0 2 from if_pos (by rw [bsize]; exact h)]
    exact int_out s a w h
  · rw [show intAt s.data.toList a = intV s.data.toList a.toNat from if_neg (by rw [bsize]; exact h)]
    obtain ⟨n, rfl⟩ := Int.eq_ofNat_of_zero_le (show 0 ≤ a by omega)
    exact int_in s n w hs (by omega)

/-- What PutString returns. -/
def putStr (l : List UInt8) : List UInt8 × Int := if l.length ≤ 65536 then (enc (zz l.length) ++ l, 0) else ([], 10)
theorem bytes_append (l : List UInt8) (s : ByteArray) : (⟨l.toArray⟩ : ByteArray) ++ s = ⟨(l ++ s.data.toList).toArray⟩ := by
  apply ByteArray.ext
  simp
theorem ret_str {s t : ByteArray} {e : Int} (h : s = t) : Ending.returned (.tuple #[.string s, .int .i64 e]) = .returned (.tuple #[.string t, .int .i64 e]) := by rw [h]
set_option maxRecDepth 100000 in
theorem putString_any (s : ByteArray) (w : World) (hs : s.size ≤ maxLen) :
    Calls Tryd.prog 19 #[.string s] w fun e w' => e = .returned (.tuple #[strV (putStr s.data.toList).1, .int .i64 (putStr s.data.toList).2]) ∧ Below w.heap.size w w' := by
  unfold maxLen at hs
  have hlen := bsize s
  by_cases h : s.size ≤ 65536
  · have hp : putStr s.data.toList = (enc (zz s.size) ++ s.data.toList, 0) := by rw [putStr, if_pos (by omega), hlen]
    have hq : putInt s.size = (enc (zz s.size), 0) := if_pos (by omega)
    rw [hp]
    have HQ := Lib.hid hq
    have hel := enc_length (zz s.size)
    clear hp hq hlen
    go_enter Tryd.func19, Tryd.ntmps19
    go_wp2_with (go_at_call 12; refine (putInt_any _ _).mono ?_; rintro e w' ⟨rfl, hb⟩; rw [HQ.out])
    go_ret2
    exact ⟨ret_str (bytes_append _ _), hb⟩
  · have hp : putStr s.data.toList = ([], 10) := by rw [putStr, if_neg (by omega)]
    rw [hp]
    clear hp hlen
    go_enter Tryd.func19, Tryd.ntmps19
    go_wp2
    go_ret2
    exact ⟨rfl, Below.refl _ _⟩

/-- The string that a string begins with, and the length of its encoding. -/
def decS (l : List UInt8) : Option (List UInt8 × Nat) :=
  match dec l with
  | some (n, c) => if 0 ≤ n ∧ n ≤ 65536 ∧ n ≤ (l.length : Int) - c then some ((l.drop c).take n.toNat, c + n.toNat) else none
  | none => none
/-- What String returns, at whatever offset. -/
def strAt (l : List UInt8) (a : Int) : Value :=
  if a < 0 ∨ (l.length : Int) < a then .tuple #[strV [], .int .i64 0, .int .i64 2] else
  match decS (l.drop a.toNat) with
  | some (t, c) => .tuple #[strV t, .int .i64 (a + c), .int .i64 0]
  | none => .tuple #[strV [], .int .i64 0, .int .i64 10]
theorem decGo_le : ∀ (k i z : Nat) (l : List UInt8) {y c : Nat}, decGo k i z l = some (y, c) → i < c ∧ c ≤ i + l.length
  | 0, _, _, _, _, _, h => by simp [decGo] at h
  | _ + 1, _, _, [], _, _, h => by simp [decGo] at h
  | k + 1, i, z, b :: t, y, c, h => by
    unfold decGo at h
    split at h
    · have := decGo_le k _ _ t h
      simp; omega
    · split at h
      · cases h
      · simp at h; simp; omega
theorem decGo_lt : ∀ (k i z : Nat) (l : List UInt8) {y c : Nat}, z < 128 ^ i → decGo k i z l = some (y, c) → y < 128 ^ c ∧ c ≤ i + k
  | 0, _, _, _, _, _, _, h => by simp [decGo] at h
  | _ + 1, _, _, [], _, _, _, h => by simp [decGo] at h
  | k + 1, i, z, b :: t, y, c, hz, h => by
    have hn : z + b.toNat % 128 * 128 ^ i < 128 ^ (i + 1) := by
      have : (b.toNat % 128 + 1) * 128 ^ i ≤ 128 * 128 ^ i := Nat.mul_le_mul_right _ (by omega)
      rw [Nat.add_mul] at this
      rw [Nat.pow_succ]
      omega
    unfold decGo at h
    split at h
    · have := decGo_lt k _ _ t hn h
      exact ⟨this.1, by omega⟩
    · split at h
      · cases h
      · simp at h
        obtain ⟨rfl, rfl⟩ := h
        exact ⟨hn, by omega⟩
theorem extract_list (s : ByteArray) (lo hi : Nat) : s.extract lo hi = ⟨((s.data.toList.drop lo).take (hi - lo)).toArray⟩ := by
  apply ByteArray.ext
  rw [ByteArray.data_extract]
  apply Array.toList_inj.1
  rw [Array.toList_extract, List.extract_eq_take_drop]
theorem ret_strN {s t : ByteArray} {n m e : Int} (h : s = t) (hn : n = m) : Ending.returned (.tuple #[.string s, .int .i64 n, .int .i64 e]) = .returned (.tuple #[.string t, .int .i64 m, .int .i64 e]) := by rw [h, hn]
theorem dec_le {l : List UInt8} {n : Int} {c : Nat} (h : dec l = some (n, c)) : 0 < c ∧ c ≤ l.length ∧ -4611686018427387903 ≤ n ∧ n ≤ 4611686018427387903 := by
  unfold dec at h
  split at h
  · rename_i z c' hd
    have := decGo_le 9 0 0 l hd
    have hz : z < 9223372036854775808 := by
      have h9 := decGo_lt 9 0 0 l (by omega) hd
      exact Nat.lt_of_lt_of_le h9.1 (pow_le63 (by omega))
    have := unz_lo z hz
    split at h
    · cases h
    · simp at h; omega
  · cases h
set_option maxRecDepth 100000 in
theorem string_any (s : ByteArray) (a : Int) (w : World) (hs : s.size ≤ maxLen) :
    Calls Tryd.prog 17 #[.string s, .int .i64 a] w fun e w' => e = .returned (strAt s.data.toList a) ∧ w = w' := by
  have hlen := bsize s
  have hm := hs
  unfold maxLen at hs
  by_cases h : a < 0 ∨ (s.size : Int) < a
  · have h1 : strAt s.data.toList a = .tuple #[strV [], .int .i64 0, .int .i64 2] := if_pos (by rw [bsize]; exact h)
    have h2 : intAt s.data.toList a = tup3 0 0 2 := if_pos (by rw [bsize]; exact h)
    rw [h1]
    have H2 := Lib.hid h2
    clear h1 h2 hlen h
    go_enter Tryd.func17, Tryd.ntmps17
    go_wp2_with (go_at_call 15; refine (int_any _ _ _ hm).mono ?_; rintro e w' ⟨rfl, rfl⟩; rw [H2.out, tup3])
    go_ret3
    exact ⟨rfl, rfl⟩
  · obtain ⟨b, rfl⟩ := Int.eq_ofNat_of_zero_le (show 0 ≤ a by omega)
    have h1 : strAt s.data.toList b = match decS (s.data.toList.drop b) with
      | some (t, c) => .tuple #[strV t, .int .i64 ((b : Int) + c), .int .i64 0]
      | none => .tuple #[strV [], .int .i64 0, .int .i64 10] := if_neg (by rw [bsize]; exact h)
    have h2 : intAt s.data.toList b = intV s.data.toList b := if_neg (by rw [bsize]; exact h)
    cases hd : dec (s.data.toList.drop b) with
    | none =>
      rw [h1, show decS (s.data.toList.drop b) = none from by rw [decS, hd]]
      rw [intV_none hd] at h2
      have H2 := Lib.hid h2
      clear h1 h2 hlen h hd
      go_enter Tryd.func17, Tryd.ntmps17
      go_wp2_with (go_at_call 15; refine (int_any _ _ _ hm).mono ?_; rintro e w' ⟨rfl, rfl⟩; rw [H2.out, tup3])
      go_ret3
      exact ⟨rfl, rfl⟩
    | some x =>
      obtain ⟨n, c⟩ := x
      have hle := dec_le hd
      rw [intV_some hd] at h2
      rw [List.length_drop, hlen] at hle
      by_cases hn : 0 ≤ n ∧ n ≤ 65536 ∧ n ≤ ((s.data.toList.drop b).length : Int) - c
      · obtain ⟨m, rfl⟩ := Int.eq_ofNat_of_zero_le hn.1
        rw [h1, show decS (s.data.toList.drop b) = some (((s.data.toList.drop b).drop c).take m, c + m) from by rw [decS, hd]; exact if_pos hn]
        rw [List.length_drop, hlen] at hn
        have H2 := Lib.hid h2
        clear h1 h2 hlen hd
        have b1 : (0 : Int) ≤ (b : Int) + c := by omega
        have b2 : (b : Int) + c ≤ (b : Int) + c + m := by omega
        have b3 : (b : Int) + c + m ≤ s.size := by omega
        go_enter Tryd.func17, Tryd.ntmps17
        go_wp2_with (go_at_call 15; refine (int_any _ _ _ hm).mono ?_; rintro e w' ⟨rfl, rfl⟩; rw [H2.out, tup3])
        go_ret3
        refine ⟨ret_strN ?_ (by omega), rfl⟩
        rw [extract_list, List.drop_drop]
        congr 3
        omega
      · rw [h1, show decS (s.data.toList.drop b) = none from by rw [decS, hd]; exact if_neg hn]
        rw [List.length_drop, hlen] at hn
        have H2 := Lib.hid h2
        clear h1 h2 hlen hd
        by_cases n1 : n < 0
        · go_enter Tryd.func17, Tryd.ntmps17
          go_wp2_with (go_at_call 15; refine (int_any _ _ _ hm).mono ?_; rintro e w' ⟨rfl, rfl⟩; rw [H2.out, tup3])
          go_ret3
          exact ⟨rfl, rfl⟩
        · by_cases n2 : 65536 < n
          · go_enter Tryd.func17, Tryd.ntmps17
            go_wp2_with (go_at_call 15; refine (int_any _ _ _ hm).mono ?_; rintro e w' ⟨rfl, rfl⟩; rw [H2.out, tup3])
            go_ret3
            exact ⟨rfl, rfl⟩
          · have n3 : (s.size : Int) - ((b : Int) + c) < n := by omega
            go_enter Tryd.func17, Tryd.ntmps17
            go_wp2_with (go_at_call 15; refine (int_any _ _ _ hm).mono ?_; rintro e w' ⟨rfl, rfl⟩; rw [H2.out, tup3])
            go_ret3
            exact ⟨rfl, rfl⟩
end Go.Proofs.YtbniboacglejbaaDoor
