/- The reference implementation of wire computes the same. -/
import Derived.Test.YtbniboacglejbaaDoorLaw1
import Derived.Test.YtbniboacglejbaaDoorWireLaws
namespace Go.Proofs.YtbniboacglejbaaDoor
open Go.RowKit Go.Shelf

theorem zigzag_any (n : Int) (w : World) (h1 : -4611686018427387903 ≤ n) (h2 : n ≤ 4611686018427387903) :
    Calls Tryd.prog 24 #[.int .i64 n] w fun e w' => e = .returned (.int .u64 (zz n : Nat)) ∧ w = w' := by
  by_cases hn : n < 0
  · have hz : ((zz n : Nat) : Int) = -n * 2 - 1 := by unfold zz; rw [if_pos hn]; omega
    rw [hz]
    clear hz
    go_enter Tryd.func24, Tryd.ntmps24
    go_wp2
    go_ret
    exact ⟨ret_int (by first | rfl | omega), rfl⟩
  · have hz : ((zz n : Nat) : Int) = n * 2 := by unfold zz; rw [if_neg hn]; omega
    rw [hz]
    clear hz
    go_enter Tryd.func24, Tryd.ntmps24
    go_wp2
    go_ret
    exact ⟨ret_int (by first | rfl | omega), rfl⟩

/-- Between two rounds. -/
def RPut (w : World) (z : Nat) (v s : Value) (W : World) : Prop := ∃ (pre : List (Nat × Bool)) (k y : Nat), grp 10 z = pre ++ grp (k + 1) y ∧ y < 128 ^ (k + 1) ∧ y < 18446744073709551616 ∧ v = .int .u64 y ∧
  W.ownsRow w.heap.size 5 1 s pre.length (byteCells (pre.map byteOf)) ∧ Below w.heap.size w W

set_option maxRecDepth 100000 in
set_option maxHeartbeats 1000000 in
theorem refPutInt_yes (n : Int) (w : World) (h1 : -4611686018427387903 ≤ n) (h2 : n ≤ 4611686018427387903) :
    Calls Tryd.prog 13 #[.int .i64 n] w fun e w' => e = .returned (.tuple #[strV (enc (zz n)), .int .i64 0]) ∧ Below w.heap.size w w' := by
  obtain ⟨i0, hi, hz0, hz1, hz2⟩ := info_parts info_u8
  have hd1 : decide (n < -4611686018427387903) = false := by simp; omega
  have hd2 : decide (4611686018427387903 < n) = false := by simp; omega
  have hzl := zz_lt n h1 h2
  go_enter Tryd.func13, Tryd.ntmps13
  go_wp2_with (go_at_call 24; refine (zigzag_any _ _ h1 h2).mono ?_; rintro e w' ⟨rfl, rfl⟩)
  go_loopw [4, 5] (fun v s W => RPut w (zz n) v s W) (fun v _ _ => (intOf v).toNat)
  case atStart => exact ⟨[], 9, zz n, rfl, by omega, hzl, rfl, World.ownsRow_nil _ _ _ _, Below.refl _ _⟩
  case round =>
    obtain ⟨pre, k, y, hg, hyk, hyz, rfl, hrow, hB⟩ := hrel
    have hlen : pre.length + 1 ≤ 10 := by
      have := grp_length 10 (zz n)
      rw [hg] at this
      have h1 : 0 < (grp (k + 1) y).length := by unfold grp; split <;> simp
      simp at this
      omega
    have HG := Lib.hid hg
    clear hg
    have hsz := hB.size
    by_cases hy : y < 128
    · have hyd : decide (128 ≤ (y : Int)) = false := by simp; omega
      have he : enc (zz n) = pre.map byteOf ++ [byteOf (y, true)] := by rw [enc, HG.out, grp_last _ _ hy, List.map_append]; rfl
      have HC : Hid (byteCells (enc (zz n)) = byteCells (pre.map byteOf) ++ [Value.int .u8 (y : Int)] ∧ (enc (zz n)).length = pre.length + 1) := by
        rw [he, byteCells_append, List.length_append, List.length_map]
        exact ⟨by rw [show byteCells [byteOf (y, true)] = [Value.int .u8 _] from rfl, byteOf_last y hy], rfl⟩
      clear he
      go_wp2_with (at_builtin; refine wpList_append_own _ rfl _ _ 38 rfl w.heap.size 5 i0 (.int .u8 0) 1 1 Tryd.underlying38 hi hz0 hz1 hz2 rfl (by decide) _ _ _ rfl (hrow.alloc _) ⟨wr.heap.size, 0, none⟩ 1 1 [_] rfl rfl (cell_one_new _ _ _) (by simp [Value.oneCell']) (by unfold maxLen; omega) (by omega) (by simp; omega) ?_; intro v' w1 hown' hgrow _; have hs := run_string_own w1 w.heap.size v' (enc (zz n)) (by rw [HC.out.1, HC.out.2]; exact hown'); have HO := Lib.hid hown'; clear hown')
      go_ret2
      exact ⟨rfl, ((hB.alloc hsz _).grown hgrow (by simp; omega) (fun j ej => (hrow.lt j ej).1))⟩
    · have hyd : decide (128 ≤ (y : Int)) = true := by simp; omega
      have he : grp 10 (zz n) = (pre ++ [(y % 128, false)]) ++ grp k (y / 128) := by rw [HG.out, grp_more _ _ hy, List.append_assoc]; rfl
      have HE := Lib.hid he
      clear he
      obtain ⟨k, rfl⟩ : ∃ j, k = j + 1 := by
        cases k with
        | zero => exact absurd hyk hy
        | succ j => exact ⟨j, rfl⟩
      go_wp2_with (at_builtin; refine wpList_append_own _ rfl _ _ 38 rfl w.heap.size 5 i0 (.int .u8 0) 1 1 Tryd.underlying38 hi hz0 hz1 hz2 rfl (by decide) _ _ _ rfl (hrow.alloc _) ⟨wr.heap.size, 0, none⟩ 1 1 [_] rfl rfl (cell_one_new _ _ _) (by simp [Value.oneCell']) (by unfold maxLen; omega) (by omega) (by simp; omega) ?_; intro v' w1 hown' hgrow _)
      refine ⟨⟨pre ++ [(y % 128, false)], k, y / 128, HE.out, by rw [Nat.pow_succ] at hyk; omega, by omega, by rw [Int.natCast_ediv]; rfl, ?_, (hB.alloc hsz _).grown hgrow (by simp; omega) (fun j ej => (hrow.lt j ej).1)⟩, ?_⟩
      · rw [List.length_append, List.map_append, byteCells_append, show byteCells ([(y % 128, false)].map byteOf) = [Value.int .u8 _] from rfl, byteOf_more _ (Nat.mod_lt _ (by omega))]
        rw [show (((y % 128 + 128 : Nat)) : Int) = (y : Int) % 128 + 128 from by omega]
        exact hown'
      · simp [intOf]; omega
theorem refPutInt_no (n : Int) (w : World) (h : n < -4611686018427387903 ∨ 4611686018427387903 < n) :
    Calls Tryd.prog 13 #[.int .i64 n] w fun e w' => e = .returned (.tuple #[strV [], .int .i64 10]) ∧ w = w' := by
  by_cases h1 : n < -4611686018427387903
  all_goals
    go_enter Tryd.func13, Tryd.ntmps13
    go_wp2
    go_ret2
    exact ⟨rfl, rfl⟩
theorem refPutInt_any (n : Int) (w : World) :
    Calls Tryd.prog 13 #[.int .i64 n] w fun e w' => e = .returned (.tuple #[strV (putInt n).1, .int .i64 (putInt n).2]) ∧ Below w.heap.size w w' := by
  by_cases h : -4611686018427387903 ≤ n ∧ n ≤ 4611686018427387903
  · rw [show putInt n = (enc (zz n), 0) from if_pos h]
    exact refPutInt_yes n w h.1 h.2
  · rw [show putInt n = ([], 10) from if_neg h]
    exact (refPutInt_no n w (by omega)).mono fun e w' ⟨he, hw⟩ => ⟨he, hw ▸ Below.refl _ _⟩

set_option maxRecDepth 100000 in
theorem refPutString_any (s : ByteArray) (w : World) (hs : s.size ≤ maxLen) :
    Calls Tryd.prog 20 #[.string s] w fun e w' => e = .returned (.tuple #[strV (putStr s.data.toList).1, .int .i64 (putStr s.data.toList).2]) ∧ Below w.heap.size w w' := by
  unfold maxLen at hs
  have hlen := bsize s
  by_cases h : s.size ≤ 65536
  · have hp : putStr s.data.toList = (enc (zz s.size) ++ s.data.toList, 0) := by rw [putStr, if_pos (by omega), hlen]
    have hq : putInt s.size = (enc (zz s.size), 0) := if_pos (by omega)
    rw [hp]
    have HQ := Lib.hid hq
    have hel := enc_length (zz s.size)
    clear hp hq hlen
    go_enter Tryd.func20, Tryd.ntmps20
    go_wp2_with (go_at_call 13; refine (refPutInt_any _ _).mono ?_; rintro e w' ⟨rfl, hb⟩; rw [HQ.out])
    go_ret2
    exact ⟨ret_str (bytes_append _ _), hb⟩
  · have hp : putStr s.data.toList = ([], 10) := by rw [putStr, if_neg (by omega)]
    rw [hp]
    clear hp hlen
    go_enter Tryd.func20, Tryd.ntmps20
    go_wp2
    go_ret2
    exact ⟨rfl, Below.refl _ _⟩
end Go.Proofs.YtbniboacglejbaaDoor
