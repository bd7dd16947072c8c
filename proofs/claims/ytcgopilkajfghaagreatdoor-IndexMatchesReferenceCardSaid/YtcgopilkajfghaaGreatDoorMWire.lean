import Derived.Test.YtcgopilkajfghaaGreatDoorProg
import Derived.Test.YtcgopilkajfghaaGreatDoorMPlain
import Derived.Lib.Hide
import Derived.Shelf.RegionOpen
import Derived.TacticsInMore
import Derived.LoopNIn
import Derived.LoopIn
import Derived.Maps.AppendAt
set_option linter.unusedVariables false
set_option linter.unusedSimpArgs false

section
/- wire.groups yields the groups of a number. -/
namespace Go.Proofs.YtcgopilkajfghaaGreatDoor
open Go.RowKit Go.Shelf
attribute [local go_sem] Oper.semAt_some

theorem groups_any (z : Int) (w : World) :
    Calls Tryz.prog 66 #[.int .u64 z] w fun e w' => e = .returned (.func (.func 80) #[] #[.pointer (some ⟨w.heap.size, 0, none⟩)]) ∧ w' = w.alloc (.cells #[.int .u64 z] 115) := by
  go_enter Tryz.func66, Tryz.ntmps66
  go_wp2
  go_ret
  exact ⟨rfl, rfl⟩

/-- The number in a box. -/
def boxNat (w : World) (B : Nat) : Nat := match w.cell? ⟨B, 0, none⟩ with | some (.int _ n) => n.toNat | _ => 0
theorem boxNat_eq {w : World} {B : Nat} {t : TypeId} {k : IntKind} {n : Nat} (h : Boxed w B t (.int k (n : Int))) : boxNat w B = n := by
  unfold boxNat; rw [h.cell]; rfl
theorem u64_and127 (z : Int) : bits .and .u64 z (127 : Int) = z % (128 : Int) := by
  show IntKind.u64.wrap ((BitVec.ofInt 64 z &&& BitVec.ofInt 64 127).toNat : Int) = _
  rw [BitVec.toNat_and, show (BitVec.ofInt 64 127).toNat = 2 ^ 7 - 1 from by decide, Nat.and_two_pow_sub_one_eq_mod, BitVec.toNat_ofInt, IntKind.wrap_u64]
  omega

attribute [local go_sem] u64_and127

set_option maxRecDepth 100000 in
set_option maxHeartbeats 400000 in
theorem groups1_seq (Bz z : Nat) (w : World) (hz : z < 18446744073709551616) (hb : Boxed w Bz 115 (.int .u64 z)) :
    SeqBox Tryz.prog 80 #[.pointer (some ⟨Bz, 0, none⟩)] (fun x : Nat × Bool => #[.int .u8 (x.1 : Int), .bool x.2]) Bz (grp 10 z) w := by
  intro n l J W hW hJs hY h0
  have hb1 : Boxed W Bz 115 (.int .u64 z) := (hW.block _ hb.lt).trans hb
  have HY := Lib.hid hY
  have HJ := Lib.hid hJs
  clear hY hJs hb hW
  refine callsIn_of_wp Tryz.func80 rfl trivial ?_
  simp only [Tryz.ntmps80, List.size_toArray, List.length_cons, List.length_nil, Nat.reduceAdd, Nat.reduceSub, Array.replicate_succ, Array.replicate_zero, List.push_toArray, List.append_toArray, List.nil_append, List.cons_append]
  gi_wp2
  gi_loopw [3] (fun _ wr => ∃ (pre : List (Nat × Bool)) (k y : Nat), Hid (grp 10 z = pre ++ grp (k + 1) y) ∧ y < 128 ^ (k + 1) ∧ y < 18446744073709551616 ∧ Boxed wr Bz 115 (.int .u64 y) ∧ J pre wr) (fun _ wr => boxNat wr Bz)
  case atStart => exact ⟨[], 9, z, Lib.hid rfl, by omega, hz, hb1, h0⟩
  case round =>
    obtain ⟨pre, k, y, hg, hyk, hyz, hby, hJ⟩ := hrel
    have hcell := hby.cell
    by_cases hy : y < 128
    · obtain ⟨fn, tmps, assign, body, hyi, hR⟩ := HY.out pre (y, true) [] wr (by rw [hg.out, grp_last _ _ hy]) hJ
      dsimp only at hyi
      have hm : (y : Int) % 128 = y := by omega
      have hd : decide ((y : Int) < 128) = true := by simp; omega
      gi_wp2
      refine hR.mono ?_
      rintro e W3 ⟨rfl, hJ3, _⟩
      gi_wp2
      refine bodyPost_ret (results_none rfl _ _ _) rfl ?_
      exact ⟨⟨_, rfl⟩, by rw [hg.out, grp_last _ _ hy]; exact hJ3⟩
    · obtain ⟨fn, tmps, assign, body, hyi, hR⟩ := HY.out pre (y % 128, false) (grp k (y / 128)) wr (by rw [hg.out, grp_more _ _ hy]) hJ
      dsimp only at hyi
      rw [show ((y % 128 : Nat) : Int) = (y : Int) % (128 : Int) from by omega] at hyi
      have hd : decide ((y : Int) < 128) = false := by simp; omega
      obtain ⟨k, rfl⟩ : ∃ j, k = j + 1 := by
        cases k with
        | zero => exact absurd hyk hy
        | succ j => exact ⟨j, rfl⟩
      gi_wp2
      refine hR.mono ?_
      rintro e W3 ⟨rfl, hJ3, hk3⟩
      have hb3 : Boxed W3 Bz 115 (.int .u64 y) := hk3.trans hby
      have hc3 := hb3.cell
      have hf3 := hb3.frozen
      clear hk3
      gi_wp2
      go_roundw
      case rel =>
        refine ⟨_, k, y / 128, Lib.hid (by rw [hg.out, grp_more _ _ hy, List.append_assoc]; rfl), ?_, by omega, by rw [Int.natCast_ediv]; exact hb3.set _, HJ.out _ _ _ hJ3⟩
        rw [Nat.pow_succ] at hyk; omega
      case measure => rw [boxNat_eq hby, boxNat_eq (show Boxed _ Bz 115 (.int .u64 ((y / 128 : Nat) : Int)) from by rw [Int.natCast_ediv]; exact hb3.set _)]; omega
end Go.Proofs.YtcgopilkajfghaaGreatDoor
end

section
/- wire.PutInt returns the encoding, for every integer. -/
namespace Go.Proofs.YtcgopilkajfghaaGreatDoor
open Go.RowKit Go.Shelf
attribute [local go_sem] Oper.semAt_some

/-- A string's value. -/
abbrev strV (l : List UInt8) : Value := .string ⟨l.toArray⟩
/-- The cells of a slice of bytes. -/
def byteCells (l : List UInt8) : List Value := l.map fun b => .int .u8 (b.toNat : Int)
theorem byteCells_length (l : List UInt8) : (byteCells l).length = l.length := by simp [byteCells]
theorem byteCells_append (l m : List UInt8) : byteCells (l ++ m) = byteCells l ++ byteCells m := by simp [byteCells]

theorem info_u8 : (Tryz.prog.info? 5).map (fun i => (i.zero, i.size, i.bytes)) = some (some (.int .u8 0), 1, 1) := by kernel_rfl

/-- 'string(b)' of a slice that owns its row. -/
theorem run_string_own (w : World) (base : Nat) (v : Value) (l : List UInt8) (h : w.ownsRow base 5 1 v l.length (byteCells l)) :
    (convert 93 9 v).run Tryz.prog w = .ok (strV l) w := by
  rcases h.2 with ⟨rfl, h0⟩ | ⟨g, cap, cur, rfl, _, _, _⟩
  · obtain rfl : l = [] := List.eq_nil_of_length_eq_zero h0
    rw [run_convert_bytes_nil w 93 5 Tryz.underlying93 Tryz.underlying5 0 0 9 Tryz.underlying9]
    rfl
  · refine run_convert_bytes_back w 93 9 5 ⟨g, 0, none⟩ cap l Tryz.underlying93 Tryz.underlying5 Tryz.underlying9 fun j hj => ?_
    have := h.cells (g := g) rfl j (.int .u8 (l[j].toNat : Int)) (by simp [byteCells, hj])
    simpa using this

theorem byteOf_toNat (x : Nat × Bool) (h : x.1 < 128) : ((byteOf x).toNat : Int) = if x.2 then (x.1 : Int) else (x.1 : Int) + 128 := by
  unfold byteOf
  cases x.2 <;> simp <;> omega

def loZ : Int := -4611686018427387903
def hiZ : Int := 4611686018427387903

theorem zz_lt (n : Int) (h1 : -4611686018427387903 ≤ n) (h2 : n ≤ 4611686018427387903) : zz n < 18446744073709551616 := by
  unfold zz; split <;> omega
theorem zz_bits (n : Int) (h1 : -4611686018427387903 ≤ n) (h2 : n ≤ 4611686018427387903) :
    bits .xor .u64 (IntKind.u64.wrap (IntKind.u64.wrap n * 2)) (IntKind.u64.wrap (n / 9223372036854775808)) = ((zz n : Nat) : Int) := by
  rw [IntKind.wrap_u64, IntKind.wrap_u64, IntKind.wrap_u64]
  by_cases hn : n < 0
  · rw [show n / 9223372036854775808 = -1 from by omega]
    show IntKind.u64.wrap ((BitVec.ofInt 64 _ ^^^ BitVec.ofInt 64 (-1 % 18446744073709551616)).toNat : Int) = _
    rw [show BitVec.ofInt 64 (-1 % 18446744073709551616) = BitVec.allOnes 64 from by decide, BitVec.xor_allOnes, BitVec.toNat_not, BitVec.toNat_ofInt, IntKind.wrap_u64]
    unfold zz
    rw [if_pos hn]
    omega
  · rw [show n / 9223372036854775808 = 0 from by omega]
    show IntKind.u64.wrap ((BitVec.ofInt 64 _ ^^^ BitVec.ofInt 64 (0 % 18446744073709551616)).toNat : Int) = _
    rw [show BitVec.ofInt 64 (0 % 18446744073709551616) = 0#64 from by decide, BitVec.xor_zero, BitVec.toNat_ofInt, IntKind.wrap_u64]
    unfold zz
    rw [if_neg hn]
    omega

/-- Between two rounds: the box of 'out' holds a slice that owns the bytes so far; the iterator's box is a box; nothing older has turned. -/
def PutI (w : World) (pre : List (Nat × Bool)) (W : World) : Prop :=
  (∃ v, Boxed W w.heap.size 93 v ∧ W.ownsRow w.heap.size 5 1 v pre.length (byteCells (pre.map byteOf)) ∧ True) ∧ (∃ u, Boxed W (w.heap.size + 1) 115 u) ∧ Below w.heap.size w W

theorem putInt_no (n : Int) (w : World) (h : n < -4611686018427387903 ∨ 4611686018427387903 < n) :
    Calls Tryz.prog 54 #[.int .i64 n] w fun e w' => e = .returned (.tuple #[strV [], .int .i64 10]) ∧ w = w' := by
  by_cases h1 : n < -4611686018427387903
  all_goals
    go_enter Tryz.func54, Tryz.ntmps54
    go_wp2
    go_ret2
    exact ⟨rfl, rfl⟩

set_option maxRecDepth 100000 in
set_option maxHeartbeats 1000000 in
theorem putInt_yes (n : Int) (w : World) (h1 : -4611686018427387903 ≤ n) (h2 : n ≤ 4611686018427387903) :
    Calls Tryz.prog 54 #[.int .i64 n] w fun e w' => e = .returned (.tuple #[strV (enc (zz n)), .int .i64 0]) ∧ Below w.heap.size w w' := by
  obtain ⟨i0, hi, hz0, hz1, hz2⟩ := info_parts info_u8
  refine (callsIn_wide (n := 3)).1 ?_
  refine callsIn_of_wp_marks Tryz.func54 rfl trivial ?_
  simp only [Tryz.ntmps54, List.size_toArray, List.length_cons, List.length_nil, Nat.reduceAdd, Nat.reduceSub, Array.replicate_succ, Array.replicate_zero, List.push_toArray, List.append_toArray, List.nil_append, List.cons_append]
  gi_wp2_with (refine ⟨trivial, ?_⟩; gi_at_call 66; refine (callsIn_wide.2 (groups_any _ _)).mono ?_; rintro e w' ⟨rfl, rfl⟩)
  simp only [zz_bits n h1 h2]
  have bO := Boxed.new w 93 (.slice none 0 0)
  have bN := Boxed.new (w.alloc (.cells #[.slice none 0 0] 93)) 115 (.int .u64 (zz n))
  rw [World.size_alloc] at bN
  have hB0 : Below w.heap.size w ((w.alloc (.cells #[.slice none 0 0] 93)).alloc (.cells #[.int .u64 (zz n)] 115)) := ((Below.refl _ w).alloc (Nat.le_refl _) _).alloc (by simp) _
  refine wpIn_range_box (n := 1) (gf := 80) (lb := #[.pointer (some ⟨w.heap.size + 1, 0, none⟩)]) rfl (enters_of Tryz.func80 (by kernel_rfl) rfl)
    (groups1_seq (w.heap.size + 1) (zz n) _ (zz_lt n h1 h2) bN) (by simp) (fun _ => rfl)
    (PutI w)
    ?own ?sets ⟨⟨_, bO.alloc _, World.ownsRow_nil _ _ _ _, trivial⟩, ⟨_, bN⟩, hB0⟩ ?round ?done
  case own =>
    refine OwnFrom.and (Own.from (holdsRow_own w.heap.size w.heap.size 93 5 1 (fun pre : List (Nat × Bool) => pre.length) (fun pre => byteCells (pre.map byteOf)) (fun _ _ => True)) _) (OwnFrom.and ?_ (ownFrom_below (Nat.le_refl _) (by simp; omega)))
    rintro s X Y row ⟨u, hu⟩ hg hr
    exact ⟨u, (boxed_own (w.heap.size + 1) 115 (fun _ : Unit => u)) () X Y row hu hg fun r e => (hr r e).2⟩
  case sets =>
    rintro pre W v ⟨⟨s, hs, hrow, _⟩, ⟨u, hu⟩, hB⟩
    exact ⟨⟨s, hs.other (by omega) _, hrow.kept (grownBy_setCell' W _ v) (.inr fun e => (hu.not_row (by decide) hrow) e.symm), trivial⟩, ⟨v, hu.set v⟩, hB.setCell (p := ⟨w.heap.size + 1, 0, none⟩) (by simp) v⟩
  case round =>
    rintro l pre x rest W hx
    have hlt : x.1 < 128 := grp_lt 10 (zz n) x (by rw [hx]; simp)
    have hlen : pre.length + 1 ≤ 10 := by
      have := grp_length 10 (zz n)
      rw [hx] at this
      simp at this
      omega
    have hbyte := byteOf_toNat x hlt
    have HB := Lib.hid hbyte
    clear hbyte hx
    obtain ⟨xg, xl⟩ := x
    dsimp only at hlt
    gi_wp2
    refine ⟨rfl, ?_⟩
    rintro W2 ⟨⟨v, hv, hrow, _⟩, ⟨u, hu⟩, hB⟩
    have hc := hv.cell
    have hnz : some (w.heap.size + 1) ≠ v.ownBlock := hu.not_row (by decide) hrow
    cases xl
    all_goals
      gi_wp2_with (gi_at_builtin; refine wpListIn_append_own _ rfl _ _ 93 rfl w.heap.size 5 i0 (.int .u8 0) 1 1 Tryz.underlying93 hi hz0 hz1 hz2 rfl (by decide) _ _ _ rfl (hrow.alloc _) ⟨W2.heap.size, 0, none⟩ 1 1 [_] rfl rfl (cell_one_new _ _ _) (by simp [Value.oneCell']) (by unfold maxLen; omega) (by omega) (by have := hB.size; simp; omega) ?_; intro v' w1 hown' hgrow _; obtain ⟨g', cap', rfl⟩ := ownsRow_succ hown'; obtain ⟨hv1, hv2, hr2, hk2, hb2⟩ := hv.appended (by decide) hrow hB.size (Nat.le_refl _) hown' hgrow; have hc1 := hv1.cell; have hf1 := hv1.frozen)
      have hkz : (w1.setCell ⟨w.heap.size, 0, none⟩ (.slice (some ⟨g', 0, none⟩) (pre.length + 1) cap')).heap[w.heap.size + 1]? = W2.heap[w.heap.size + 1]? := by
        rw [Below.heap_setCell _ _ _ _ (by show w.heap.size + 1 ≠ w.heap.size; omega), hgrow.block _ (by have := hu.lt; simp; omega) hnz]
        exact Below.heap_alloc _ _ _ hu.lt
      refine ⟨rfl, hk2.from _, hkz, ⟨_, hv2, ?_, trivial⟩, ⟨u, hkz.trans hu⟩, hB.trans hb2⟩
      rw [List.length_append, List.map_append, byteCells_append]
      rw [show byteCells ([_].map byteOf) = [Value.int .u8 _] from rfl, HB.out]
      first | exact hr2 | (rw [u8_or128_right _ (by omega) (by omega)] at hr2; exact hr2)
  case done =>
    rintro D W hD ⟨⟨v, hv, hrow, _⟩, _, hB⟩ hK
    have hc := hv.cell
    have hs := run_string_own W w.heap.size v (enc (zz n)) (by rw [enc, List.length_map]; exact hrow)
    have HR := Lib.hid hrow
    clear hrow
    gi_wp2
    refine ⟨by simp, .inl ⟨_, _, rfl, run_takeDeferred hK, ?_⟩⟩
    exact ⟨_, results_tmp2 rfl _ _ _, rfl, hB.trans (belowK_b (w := w) (Nat.le_refl _) W D _ _ (by simp at hD; omega) hK rfl rfl)⟩
end Go.Proofs.YtcgopilkajfghaaGreatDoor
end

section
/- wire.Int decodes, for every string and offset. -/
namespace Go.Proofs.YtcgopilkajfghaaGreatDoor
open Go.RowKit

theorem u8_and127 (z : Int) : bits .and .u8 z (127 : Int) = z % (128 : Int) := by
  show IntKind.u8.wrap ((BitVec.ofInt 8 z &&& BitVec.ofInt 8 127).toNat : Int) = _
  rw [BitVec.toNat_and, show (BitVec.ofInt 8 127).toNat = 2 ^ 7 - 1 from by decide, Nat.and_two_pow_sub_one_eq_mod, BitVec.toNat_ofInt, IntKind.wrap_u8']
  omega
theorem u64_and1 (z : Nat) : bits .and .u64 (z : Int) (1 : Int) = (z : Int) % (2 : Int) := by
  show IntKind.u64.wrap ((BitVec.ofInt 64 (z : Int) &&& BitVec.ofInt 64 1).toNat : Int) = _
  rw [BitVec.toNat_and, show (BitVec.ofInt 64 1).toNat = 2 ^ 1 - 1 from by decide, Nat.and_two_pow_sub_one_eq_mod, BitVec.toNat_ofInt, IntKind.wrap_u64]
  omega
attribute [local go_sem] u8_and127 u64_and1

theorem pow128 (k : Nat) : (128 : Nat) ^ k = 2 ^ (7 * k) := by rw [Nat.pow_mul]
theorem pow_le63 {k : Nat} (h : k ≤ 9) : (128 : Nat) ^ k ≤ 9223372036854775808 := by
  have := Nat.pow_le_pow_right (n := 128) (by omega) h
  omega
/-- A further group is put on top. -/
theorem or_group (Z g k : Nat) (hk : k < 9) (hZ : Z < 128 ^ k) (hg : g < 128) :
    bits .or .u64 (Z : Int) (IntKind.u64.wrap ((g : Int) * 2 ^ (7 * k))) = ((Z + g * 128 ^ k : Nat) : Int) := by
  have h9 := pow_le63 (k := k + 1) (by omega)
  have h8 : g * 128 ^ k < 128 ^ (k + 1) := by rw [Nat.pow_succ, Nat.mul_comm]; exact Nat.mul_lt_mul_of_pos_left hg (Nat.pow_pos (by omega))
  have hlt : g * 128 ^ k + 128 ^ k ≤ 128 ^ (k + 1) := by
    have : (g + 1) * 128 ^ k ≤ 128 * 128 ^ k := Nat.mul_le_mul_right _ (by omega)
    rw [Nat.pow_succ]
    rw [Nat.add_mul] at this
    omega
  have e1 : IntKind.u64.wrap ((g : Int) * 2 ^ (7 * k)) = ((g * 128 ^ k : Nat) : Int) := by
    have : (g : Int) * 2 ^ (7 * k) = ((g * 128 ^ k : Nat) : Int) := by rw [pow128]; push_cast; rfl
    rw [this, IntKind.wrap_u64]
    omega
  rw [e1, u64_or_nat Z _ (by omega) (by omega)]
  congr 1
  rw [Nat.add_comm, pow128, Nat.mul_comm, Nat.or_comm]
  exact (Nat.two_pow_add_eq_or_of_lt (by rw [← pow128]; exact hZ) g).symm
theorem unz_bits (z : Nat) (hz : z < 9223372036854775808) : bits .xor .i64 ((z : Int) / 2) (-((z : Int) % 2)) = unz z := by
  show IntKind.i64.wrap ((BitVec.ofInt 64 ((z : Int) / 2) ^^^ BitVec.ofInt 64 (-((z : Int) % 2))).toNat : Int) = _
  rw [IntKind.wrap_i64]
  unfold unz
  rcases Nat.mod_two_eq_zero_or_one z with h | h
  · rw [show -((z : Int) % 2) = 0 from by omega, show BitVec.ofInt 64 0 = 0#64 from by decide, BitVec.xor_zero, BitVec.toNat_ofInt, if_pos h]
    omega
  · rw [show -((z : Int) % 2) = -1 from by omega, show BitVec.ofInt 64 (-1) = BitVec.allOnes 64 from by decide, BitVec.xor_allOnes, BitVec.toNat_not, BitVec.toNat_ofInt, if_neg (by omega)]
    omega
theorem unz_lo (z : Nat) (hz : z < 9223372036854775808) : -4611686018427387904 ≤ unz z ∧ unz z ≤ 4611686018427387903 := by
  unfold unz; split <;> omega
def tup3 (n m e : Int) : Value := .tuple #[.int .i64 n, .int .i64 m, .int .i64 e]
/-- What Int returns at an offset within the string, or at its end. -/
def intV (l : List UInt8) (a : Nat) : Value := match dec (l.drop a) with
  | some (n, c) => tup3 n (a + c : Nat) 0
  | none => tup3 0 0 10

theorem dec_of_none {l : List UInt8} (h : decGo 9 0 0 l = none) : dec l = none := by rw [dec, h]
theorem dec_of_low {l : List UInt8} {z c : Nat} (h : decGo 9 0 0 l = some (z, c)) (hl : unz z < -4611686018427387903) : dec l = none := by rw [dec, h]; exact if_pos hl
theorem dec_of_some {l : List UInt8} {z c : Nat} (h : decGo 9 0 0 l = some (z, c)) (hl : ¬ unz z < -4611686018427387903) : dec l = some (unz z, c) := by rw [dec, h]; exact if_neg hl
theorem intV_none {l : List UInt8} {a : Nat} (h : dec (l.drop a) = none) : intV l a = tup3 0 0 10 := by rw [intV, h]
theorem intV_some {l : List UInt8} {a c : Nat} {n : Int} (h : dec (l.drop a) = some (n, c)) : intV l a = tup3 n (a + c : Nat) 0 := by rw [intV, h]
theorem ret_tup3 {n m m' e : Int} (h : m = m') : Ending.returned (.tuple #[.int .i64 n, .int .i64 m, .int .i64 e]) = .returned (tup3 n m' e) := by rw [h]; rfl

end Go.Proofs.YtcgopilkajfghaaGreatDoor
end

section
/- The contracts of package wire, for all arguments: PutInt, Int, PutString, String. -/
namespace Go.Proofs.YtcgopilkajfghaaGreatDoor
open Go.RowKit Go.Shelf

/-- What PutInt returns. -/
def putInt (n : Int) : List UInt8 × Int := if -4611686018427387903 ≤ n ∧ n ≤ 4611686018427387903 then (enc (zz n), 0) else ([], 10)
theorem putInt_any (n : Int) (w : World) :
    Calls Tryz.prog 54 #[.int .i64 n] w fun e w' => e = .returned (.tuple #[strV (putInt n).1, .int .i64 (putInt n).2]) ∧ Below w.heap.size w w' := by
  by_cases h : -4611686018427387903 ≤ n ∧ n ≤ 4611686018427387903
  · rw [show putInt n = (enc (zz n), 0) from if_pos h]
    exact putInt_yes n w h.1 h.2
  · rw [show putInt n = ([], 10) from if_neg h]
    exact (putInt_no n w (by omega)).mono fun e w' ⟨he, hw⟩ => ⟨he, hw ▸ Below.refl _ _⟩

/-- What Int returns, at whatever offset. -/
def intAt (l : List UInt8) (a : Int) : Value := if a < 0 ∨ (l.length : Int) < a then tup3 0 0 2 else intV l a.toNat
theorem ret_int {k : IntKind} {a b : Int} (h : a = b) : Ending.returned (.int k a) = .returned (.int k b) := by rw [h]
theorem bsize (s : ByteArray) : s.data.toList.length = s.size := by rw [Array.length_toList]; rfl

/-- What PutString returns. -/
def putStr (l : List UInt8) : List UInt8 × Int := if l.length ≤ 65536 then (enc (zz l.length) ++ l, 0) else ([], 10)
theorem bytes_append (l : List UInt8) (s : ByteArray) : (⟨l.toArray⟩ : ByteArray) ++ s = ⟨(l ++ s.data.toList).toArray⟩ := by
  apply ByteArray.ext
  simp
theorem ret_str {s t : ByteArray} {e : Int} (h : s = t) : Ending.returned (.tuple #[.string s, .int .i64 e]) = .returned (.tuple #[.string t, .int .i64 e]) := by rw [h]

/-- The string that a string begins with, and the length of its encoding. -/
def decS (l : List UInt8) : Option (List UInt8 × Nat) :=
  match dec l with
  | some (n, c) => if 0 ≤ n ∧ n ≤ 65536 ∧ n ≤ (l.length : Int) - c then some ((l.drop c).take n.toNat, c + n.toNat) else none
  | none => none
/-- What String returns, at whatever offset. -/
def strAt (l : List UInt8) (a : Int) : Value :=
  if a < 0 ∨ (l.length : Int) < a then .tuple #[strV [], .int .i64 0, .int .i64 2] else
  match decS (l.drop a.toNat) with
  | some (t, c) => .tuple #[strV t, .int .i64 (a + c), .int .i64 0]
  | none => .tuple #[strV [], .int .i64 0, .int .i64 10]
theorem decGo_le : ∀ (k i z : Nat) (l : List UInt8) {y c : Nat}, decGo k i z l = some (y, c) → i < c ∧ c ≤ i + l.length
  | 0, _, _, _, _, _, h => by simp [decGo] at h
  | _ + 1, _, _, [], _, _, h => by simp [decGo] at h
  | k + 1, i, z, b :: t, y, c, h => by
    unfold decGo at h
    split at h
    · have := decGo_le k _ _ t h
      simp; omega
    · split at h
      · cases h
      · simp at h; simp; omega
theorem decGo_lt : ∀ (k i z : Nat) (l : List UInt8) {y c : Nat}, z < 128 ^ i → decGo k i z l = some (y, c) → y < 128 ^ c ∧ c ≤ i + k
  | 0, _, _, _, _, _, _, h => by simp [decGo] at h
  | _ + 1, _, _, [], _, _, _, h => by simp [decGo] at h
  | k + 1, i, z, b :: t, y, c, hz, h => by
    have hn : z + b.toNat % 128 * 128 ^ i < 128 ^ (i + 1) := by
      have : (b.toNat % 128 + 1) * 128 ^ i ≤ 128 * 128 ^ i := Nat.mul_le_mul_right _ (by omega)
      rw [Nat.add_mul] at this
      rw [Nat.pow_succ]
      omega
    unfold decGo at h
    split at h
    · have := decGo_lt k _ _ t hn h
      exact ⟨this.1, by omega⟩
    · split at h
      · cases h
      · simp at h
        obtain ⟨rfl, rfl⟩ := h
        exact ⟨hn, by omega⟩
theorem extract_list (s : ByteArray) (lo hi : Nat) : s.extract lo hi = ⟨((s.data.toList.drop lo).take (hi - lo)).toArray⟩ := by
  apply ByteArray.ext
  rw [ByteArray.data_extract]
  apply Array.toList_inj.1
  rw [Array.toList_extract, List.extract_eq_take_drop]
theorem ret_strN {s t : ByteArray} {n m e : Int} (h : s = t) (hn : n = m) : Ending.returned (.tuple #[.string s, .int .i64 n, .int .i64 e]) = .returned (.tuple #[.string t, .int .i64 m, .int .i64 e]) := by rw [h, hn]
theorem dec_le {l : List UInt8} {n : Int} {c : Nat} (h : dec l = some (n, c)) : 0 < c ∧ c ≤ l.length ∧ -4611686018427387903 ≤ n ∧ n ≤ 4611686018427387903 := by
  unfold dec at h
  split at h
  · rename_i z c' hd
    have := decGo_le 9 0 0 l hd
    have hz : z < 9223372036854775808 := by
      have h9 := decGo_lt 9 0 0 l (by omega) hd
      exact Nat.lt_of_lt_of_le h9.1 (pow_le63 (by omega))
    have := unz_lo z hz
    split at h
    · cases h
    · simp at h; omega
  · cases h
end Go.Proofs.YtcgopilkajfghaaGreatDoor
end

section
/- Encoding and decoding of strings: each undoes the other. -/
namespace Go.Proofs.YtcgopilkajfghaaGreatDoor

/-- The encoding of a string. -/
def encS (t : List UInt8) : List UInt8 := enc (zz t.length) ++ t
theorem decS_encS (t q : List UInt8) (h : t.length ≤ 65536) : decS (encS t ++ q) = some (t, (encS t).length) := by
  have hd := dec_enc (t.length : Int) (by omega) (by omega) (t ++ q)
  rw [← List.append_assoc] at hd
  unfold decS encS
  rw [hd]
  simp only
  rw [if_pos (by simp; omega), Int.toNat_natCast, List.append_assoc, List.drop_left, List.take_left, List.length_append]
theorem encS_of_decS {l t : List UInt8} {c : Nat} (h : decS l = some (t, c)) : t.length ≤ 65536 ∧ c ≤ l.length ∧ l.take c = encS t := by
  unfold decS at h
  split at h
  · rename_i n d hd
    split at h
    · rename_i hn
      obtain ⟨m, rfl⟩ := Int.eq_ofNat_of_zero_le hn.1
      have hle := dec_le hd
      simp only [Int.toNat_natCast, Option.some.injEq, Prod.mk.injEq] at h
      obtain ⟨rfl, rfl⟩ := h
      have hl : (List.take m (List.drop d l)).length = m := by rw [List.length_take, List.length_drop]; omega
      refine ⟨by omega, by omega, ?_⟩
      rw [encS, hl, ← enc_of_dec hd, List.take_add]
    · cases h
  · cases h
theorem decS_more {l t : List UInt8} {c : Nat} (h : decS l = some (t, c)) (q : List UInt8) : decS (l ++ q) = some (t, c) := by
  obtain ⟨h1, h2, h3⟩ := encS_of_decS h
  have h4 : l ++ q = encS t ++ (l.drop c ++ q) := by rw [← h3, ← List.append_assoc, List.take_append_drop]
  have h5 : c = (encS t).length := by rw [← h3, List.length_take]; omega
  rw [h4, decS_encS t _ h1, h5]
theorem decS_short (t : List UInt8) (h : t.length ≤ 65536) (k : Nat) (hk : k < (encS t).length) : decS ((encS t).take k) = none := by
  cases hd : decS ((encS t).take k) with
  | none => rfl
  | some r =>
    exfalso
    obtain ⟨u, c⟩ := r
    have h3 := decS_more hd ((encS t).drop k)
    rw [List.take_append_drop] at h3
    have h4 := decS_encS t [] h
    rw [List.append_nil, h3] at h4
    obtain ⟨rfl, rfl⟩ : u = t ∧ c = (encS t).length := by
      have := Option.some.inj h4
      exact ⟨congrArg Prod.fst this, congrArg Prod.snd this⟩
    have := (encS_of_decS hd).2.1
    rw [List.length_take] at this
    omega
theorem putStr_ok (t : List UInt8) (h : t.length ≤ 65536) : putStr t = (encS t, 0) := if_pos h
theorem putInt_ok (n : Int) (h1 : -4611686018427387903 ≤ n) (h2 : n ≤ 4611686018427387903) : putInt n = (enc (zz n), 0) := if_pos ⟨h1, h2⟩
/-- Int at an offset, from the rest of the string. -/
theorem intAt_some (l : List UInt8) (a : Nat) (ha : a ≤ l.length) {n : Int} {c : Nat} (h : dec (l.drop a) = some (n, c)) : intAt l a = tup3 n (a + c : Nat) 0 := by
  rw [intAt, if_neg (by omega), Int.toNat_natCast, intV_some h]
theorem intAt_none (l : List UInt8) (a : Nat) (ha : a ≤ l.length) (h : dec (l.drop a) = none) : intAt l a = tup3 0 0 10 := by
  rw [intAt, if_neg (by omega), Int.toNat_natCast, intV_none h]
theorem strAt_some (l : List UInt8) (a : Nat) (ha : a ≤ l.length) {t : List UInt8} {c : Nat} (h : decS (l.drop a) = some (t, c)) : strAt l a = .tuple #[strV t, .int .i64 ((a : Int) + c), .int .i64 0] := by
  rw [strAt, if_neg (by omega), Int.toNat_natCast, h]
theorem strAt_none (l : List UInt8) (a : Nat) (ha : a ≤ l.length) (h : decS (l.drop a) = none) : strAt l a = .tuple #[strV [], .int .i64 0, .int .i64 10] := by
  rw [strAt, if_neg (by omega), Int.toNat_natCast, h]
theorem intAt_mid (p q : List UInt8) (n : Int) (h1 : -4611686018427387903 ≤ n) (h2 : n ≤ 4611686018427387903) :
    intAt (p ++ enc (zz n) ++ q) p.length = tup3 n (p.length + (enc (zz n)).length : Nat) 0 :=
  intAt_some _ _ (by simp) (by rw [List.append_assoc, List.drop_left]; exact dec_enc n h1 h2 q)
theorem strAt_mid (p q t : List UInt8) (h : t.length ≤ 65536) : strAt (p ++ encS t ++ q) p.length = .tuple #[strV t, .int .i64 ((p.length : Int) + (encS t).length), .int .i64 0] :=
  strAt_some _ _ (by simp) (by rw [List.append_assoc, List.drop_left]; exact decS_encS t q h)
end Go.Proofs.YtcgopilkajfghaaGreatDoor
end

section
/- Plain: records of a logbook, their encoding and decoding. -/
namespace Go.Proofs.YtcgopilkajfghaaGreatDoor

structure LRec where
  sec : Int
  kind : Int
  a : Int
  b : Int
  text : List UInt8
deriving DecidableEq, Inhabited
/-- A number within bounds. -/
def inZ (n lo hi : Int) : Bool := decide (lo ≤ n) && decide (n ≤ hi)
theorem inZ_iff {n lo hi : Int} : inZ n lo hi = true ↔ lo ≤ n ∧ n ≤ hi := by simp [inZ]
def recB (x : LRec) : Bool := inZ x.sec 0 10000000 && inZ x.kind 1 20 && inZ x.a (-1) 99999999 && inZ x.b (-1) 99999999 && decide (x.text.length ≤ 200)
/-- The numbers and the text can be written. -/
def Fits (x : LRec) : Prop := (-4611686018427387903 ≤ x.sec ∧ x.sec ≤ 4611686018427387903) ∧ (-4611686018427387903 ≤ x.kind ∧ x.kind ≤ 4611686018427387903) ∧ (-4611686018427387903 ≤ x.a ∧ x.a ≤ 4611686018427387903) ∧ (-4611686018427387903 ≤ x.b ∧ x.b ≤ 4611686018427387903) ∧ x.text.length ≤ 65536
theorem recB_fits {x : LRec} (h : recB x = true) : Fits x := by
  simp only [recB, Bool.and_eq_true, inZ_iff, decide_eq_true_eq] at h
  unfold Fits
  omega
def encN (x : LRec) : List UInt8 := enc (zz x.sec) ++ (enc (zz x.kind) ++ (enc (zz x.a) ++ enc (zz x.b)))
def encR (x : LRec) : List UInt8 := encN x ++ encS x.text
/-- The record that a string begins with, and the length of its encoding. -/
def decP (l : List UInt8) : Option (LRec × Nat) :=
  (dec l).bind fun p0 => (dec (l.drop p0.2)).bind fun p1 => (dec (l.drop (p0.2 + p1.2))).bind fun p2 => (dec (l.drop (p0.2 + p1.2 + p2.2))).bind fun p3 =>
    (decS (l.drop (p0.2 + p1.2 + p2.2 + p3.2))).map fun q => (⟨p0.1, p1.1, p2.1, p3.1, q.1⟩, p0.2 + p1.2 + p2.2 + p3.2 + q.2)
def decR (l : List UInt8) : Option LRec :=
  match decP l with
  | some (x, c) => if c = l.length ∧ recB x = true then some x else none
  | none => none
theorem decP_enc {x : LRec} (h : Fits x) (t : List UInt8) : decP (encR x ++ t) = some (x, (encR x).length) := by
  obtain ⟨⟨a1, a2⟩, ⟨b1, b2⟩, ⟨c1, c2⟩, ⟨d1, d2⟩, e⟩ := h
  have e0 : encR x ++ t = enc (zz x.sec) ++ (enc (zz x.kind) ++ (enc (zz x.a) ++ (enc (zz x.b) ++ (encS x.text ++ t)))) := by simp [encR, encN]
  have hl : (encR x).length = (enc (zz x.sec)).length + (enc (zz x.kind)).length + (enc (zz x.a)).length + (enc (zz x.b)).length + (encS x.text).length := by simp [encR, encN]; omega
  rw [hl, e0]
  unfold decP
  rw [dec_enc _ a1 a2, Option.bind_some]
  simp only [List.drop_left]
  rw [dec_enc _ b1 b2, Option.bind_some]
  simp only [← List.drop_drop, List.drop_left]
  rw [dec_enc _ c1 c2, Option.bind_some]
  simp only [List.drop_left]
  rw [dec_enc _ d1 d2, Option.bind_some]
  simp only [List.drop_left]
  rw [decS_encS _ _ e]
  rfl
theorem decP_of {l : List UInt8} {x : LRec} {c : Nat} (h : decP l = some (x, c)) : Fits x ∧ c ≤ l.length ∧ l.take c = encR x := by
  unfold decP at h
  cases h0 : dec l with
  | none => rw [h0] at h; cases h
  | some p0 =>
    rw [h0, Option.bind_some] at h
    cases h1 : dec (l.drop p0.2) with
    | none => rw [h1] at h; cases h
    | some p1 =>
      rw [h1, Option.bind_some] at h
      cases h2 : dec (l.drop (p0.2 + p1.2)) with
      | none => rw [h2] at h; cases h
      | some p2 =>
        rw [h2, Option.bind_some] at h
        cases h3 : dec (l.drop (p0.2 + p1.2 + p2.2)) with
        | none => rw [h3] at h; cases h
        | some p3 =>
          rw [h3, Option.bind_some] at h
          cases h4 : decS (l.drop (p0.2 + p1.2 + p2.2 + p3.2)) with
          | none => rw [h4] at h; cases h
          | some q =>
            rw [h4] at h
            obtain ⟨rfl, rfl⟩ : (⟨p0.1, p1.1, p2.1, p3.1, q.1⟩ : LRec) = x ∧ p0.2 + p1.2 + p2.2 + p3.2 + q.2 = c := by simpa using h
            have g0 := dec_le h0
            have g1 := dec_le h1
            have g2 := dec_le h2
            have g3 := dec_le h3
            have k4 := encS_of_decS h4
            simp only [List.length_drop] at g1 g2 g3 k4
            refine ⟨⟨⟨g0.2.2.1, g0.2.2.2⟩, ⟨g1.2.2.1, g1.2.2.2⟩, ⟨g2.2.2.1, g2.2.2.2⟩, ⟨g3.2.2.1, g3.2.2.2⟩, k4.1⟩, by omega, ?_⟩
            rw [List.take_add, List.take_add, List.take_add, List.take_add, enc_of_dec h0, enc_of_dec h1, enc_of_dec h2, enc_of_dec h3, k4.2.2]
            simp [encR, encN]
theorem decR_encR {x : LRec} (h : recB x = true) : decR (encR x) = some x := by
  have := decP_enc (recB_fits h) []
  rw [List.append_nil] at this
  unfold decR
  rw [this]
  simp [h]
theorem encR_of_decR {l : List UInt8} {x : LRec} (h : decR l = some x) : recB x = true ∧ encR x = l := by
  unfold decR at h
  cases hd : decP l with
  | none => rw [hd] at h; cases h
  | some p =>
    obtain ⟨y, c⟩ := p
    rw [hd] at h
    simp only at h
    split at h
    · rename_i hc
      obtain rfl := Option.some.inj h
      have := (decP_of hd).2.2
      rw [hc.1, List.take_length] at this
      exact ⟨hc.2, this.symm⟩
    · cases h
/-- No encoding is the beginning of another one. -/
theorem encR_prefix {x y : LRec} (hx : Fits x) (hy : Fits y) {t : List UInt8} (h : encR x = encR y ++ t) : x = y ∧ t = [] := by
  have h1 := decP_enc hx []
  have h2 := decP_enc hy t
  rw [List.append_nil, h, h2] at h1
  have h3 := Option.some.inj h1
  have h4 : y = x := congrArg Prod.fst h3
  have h5 : (encR y).length = (encR y ++ t).length := congrArg Prod.snd h3
  rw [List.length_append] at h5
  exact ⟨h4.symm, List.eq_nil_of_length_eq_zero (by omega)⟩
theorem encR_inj {x y : LRec} (hx : Fits x) (hy : Fits y) (h : encR x = encR y) : x = y := (encR_prefix hx hy (t := []) (by rw [List.append_nil]; exact h)).1
theorem encR_pos (x : LRec) : 0 < (encR x).length := by
  have := enc_pos (zz x.sec)
  simp [encR, encN]
  omega
theorem encR_length {x : LRec} (h : recB x = true) : (encR x).length ≤ 250 := by
  simp only [recB, Bool.and_eq_true, decide_eq_true_eq] at h
  have h0 := enc_length (zz x.sec)
  have h1 := enc_length (zz x.kind)
  have h2 := enc_length (zz x.a)
  have h3 := enc_length (zz x.b)
  have h4 := enc_length (zz x.text.length)
  have h5 := h.2
  simp only [encR, encN, encS, List.length_append]
  omega
/-- A logbook. -/
structure LBook where
  office : Int
  recs : List LRec
deriving DecidableEq, Inhabited
/-- The seconds do not go back. -/
def secsB : Int → List LRec → Bool
  | _, [] => true
  | s, x :: t => recB x && decide (s ≤ x.sec) && secsB x.sec t
def bookB (l : LBook) : Bool := secsB 0 l.recs && inZ l.office 0 99 && decide (l.recs.length ≤ 60)
theorem secsB_recs {s : Int} {l : List LRec} (h : secsB s l = true) : ∀ x ∈ l, recB x = true := by
  induction l generalizing s with
  | nil => intro x hx; simp at hx
  | cons y t ih =>
    simp only [secsB, Bool.and_eq_true] at h
    intro x hx
    rcases List.mem_cons.1 hx with rfl | hx
    · exact h.1.1
    · exact ih h.2 x hx
/-- A record has the kind, and was written by the second. -/
def hitB (r : List LRec) (k s : Int) (i : Nat) : Bool := decide ((r.getD i default).kind = k) && decide ((r.getD i default).sec ≤ s)
/-- The last hit ahead of a place. -/
def findDn (r : List LRec) (k s : Int) : Nat → Int
  | 0 => -1
  | j + 1 => if hitB r k s j then (j : Int) else findDn r k s j
def findB (l : LBook) (k s : Int) : Int := if bookB l then findDn l.recs k s l.recs.length else -1
theorem findDn_spec (r : List LRec) (k s : Int) : ∀ (j : Nat), (findDn r k s j = -1 ∧ ∀ i, i < j → hitB r k s i = false) ∨ ∃ n, n < j ∧ findDn r k s j = (n : Int) ∧ hitB r k s n = true ∧ ∀ i, n < i → i < j → hitB r k s i = false
  | 0 => .inl ⟨rfl, fun i hi => by omega⟩
  | j + 1 => by
    rw [findDn]
    cases h : hitB r k s j
    · rw [if_neg (by simp)]
      rcases findDn_spec r k s j with ⟨h1, h2⟩ | ⟨n, h1, h2, h3, h4⟩
      · refine .inl ⟨h1, fun i hi => ?_⟩
        by_cases e : i = j
        · subst e; exact h
        · exact h2 i (by omega)
      · refine .inr ⟨n, by omega, h2, h3, fun i hn hi => ?_⟩
        by_cases e : i = j
        · subst e; exact h
        · exact h4 i hn (by omega)
    · rw [if_pos rfl]
      exact .inr ⟨j, by omega, rfl, h, fun i hn hi => by omega⟩
theorem hitB_append (r : List LRec) (x : LRec) (k s : Int) {i : Nat} (h : i < r.length) : hitB (r ++ [x]) k s i = hitB r k s i := by
  unfold hitB
  rw [List.getD_eq_getElem?_getD, List.getD_eq_getElem?_getD, List.getElem?_append_left h]
theorem findDn_append (r : List LRec) (x : LRec) (k s : Int) : ∀ (j : Nat), j ≤ r.length → findDn (r ++ [x]) k s j = findDn r k s j
  | 0, _ => rfl
  | j + 1, h => by rw [findDn, findDn, hitB_append r x k s (by omega), findDn_append r x k s j (by omega)]
/-- What is found in a logbook with a further record. -/
theorem findDn_more (r : List LRec) (x : LRec) (k s : Int) : findDn (r ++ [x]) k s (r ++ [x]).length = if x.kind = k ∧ x.sec ≤ s then (r.length : Int) else findDn r k s r.length := by
  rw [show (r ++ [x]).length = r.length + 1 from by simp, findDn, findDn_append r x k s _ (Nat.le_refl _)]
  have : hitB (r ++ [x]) k s r.length = (decide (x.kind = k) && decide (x.sec ≤ s)) := by
    unfold hitB
    rw [List.getD_eq_getElem?_getD, List.getElem?_append_right (Nat.le_refl _), Nat.sub_self]
    rfl
  rw [this]
  by_cases h1 : x.kind = k <;> by_cases h2 : x.sec ≤ s <;> simp [h1, h2]
def codesL (l : LBook) : List (List UInt8) := l.recs.map encR
end Go.Proofs.YtcgopilkajfghaaGreatDoor
end

section
/- Plain: the logbooks that integers determine. -/
namespace Go.Proofs.YtcgopilkajfghaaGreatDoor

def textZ (z : Int) : List UInt8 := (List.range (pickZ z 4).toNat).map fun (i : Nat) => UInt8.ofNat (pickZ (z.tdiv (4 + (i : Int))) 256).toNat
theorem textZ_length (z : Int) : (textZ z).length ≤ 3 := by
  have := pickZ_bd z 4 (by omega)
  unfold textZ
  rw [List.length_map, List.length_range]
  omega
/-- The record that four integers determine, at a second. -/
def entryZ (sec : Int) (g : Nat → Int) : LRec := ⟨pickZ sec 10000001, 1 + pickZ (g 0) 3, pickZ (g 1) 200 - 1, pickZ (g 2) 200 - 1, textZ (g 3)⟩
theorem entry_rec (sec : Int) (g : Nat → Int) : recB (entryZ sec g) = true := by
  have h0 := pickZ_bd sec 10000001 (by omega)
  have h1 := pickZ_bd (g 0) 3 (by omega)
  have h2 := pickZ_bd (g 1) 200 (by omega)
  have h3 := pickZ_bd (g 2) 200 (by omega)
  have h4 := textZ_length (g 3)
  simp only [recB, entryZ, Bool.and_eq_true, inZ_iff]
  refine ⟨⟨⟨⟨by omega, by omega⟩, by omega⟩, by omega⟩, decide_eq_true (p := (textZ (g 3)).length ≤ 200) (by omega)⟩
/-- The seconds behind so many steps. -/
def secTo (f : Nat → Nat → Int) : Nat → Int
  | 0 => 0
  | j + 1 => secTo f j + pickZ (f j 0) 30
theorem secTo_bd (f : Nat → Nat → Int) : ∀ j, 0 ≤ secTo f j ∧ secTo f j ≤ 29 * j
  | 0 => by simp [secTo]
  | j + 1 => by
    have := secTo_bd f j
    have h := pickZ_bd (f j 0) 30 (by omega)
    simp only [secTo]
    omega
def madeRec (f : Nat → Nat → Int) (j : Nat) : LRec := entryZ (secTo f (j + 1)) fun k => f j (k + 1)
def madeRecs (f : Nat → Nat → Int) (n : Nat) : List LRec := (List.range n).map (madeRec f)
theorem madeRecs_succ (f : Nat → Nat → Int) (n : Nat) : madeRecs f (n + 1) = madeRecs f n ++ [madeRec f n] := by
  unfold madeRecs
  rw [List.range_succ, List.map_append]
  rfl
theorem madeRecs_length (f : Nat → Nat → Int) (n : Nat) : (madeRecs f n).length = n := by simp [madeRecs]
def madeBook (o : Int) (N : Nat) (f : Nat → Nat → Int) : LBook := ⟨pickZ o 100, madeRecs f (min N 12)⟩
theorem madeRec_sec (f : Nat → Nat → Int) (j : Nat) (h : j < 1000) : (madeRec f j).sec = secTo f (j + 1) := by
  have := secTo_bd f (j + 1)
  show pickZ (secTo f (j + 1)) 10000001 = _
  exact pickZ_id this.1 (by omega)
/-- The last second of a list of records. -/
def lastSec (s : Int) (l : List LRec) : Int := match l.getLast? with | some x => x.sec | none => s
theorem secsB_add : ∀ (l : List LRec) (s : Int) (x : LRec), secsB s (l ++ [x]) = (secsB s l && recB x && decide (lastSec s l ≤ x.sec))
  | [], s, x => by simp only [List.nil_append, secsB, lastSec, List.getLast?_nil, Bool.and_true, Bool.true_and]; rfl
  | y :: t, s, x => by
    have e : lastSec s (y :: t) = lastSec y.sec t := by
      unfold lastSec
      cases t with
      | nil => rfl
      | cons z t => rw [List.getLast?_cons_cons]; cases hq : (z :: t).getLast? with
        | none => exact absurd (List.getLast?_eq_none_iff.1 hq) (by simp)
        | some v => rfl
    rw [List.cons_append, secsB, secsB, secsB_add t, e]
    simp only [Bool.and_assoc]
theorem lastSec_made (f : Nat → Nat → Int) : ∀ (n : Nat), n ≤ 1000 → lastSec 0 (madeRecs f n) = secTo f n
  | 0, _ => rfl
  | n + 1, h => by
    rw [madeRecs_succ]
    unfold lastSec
    rw [List.getLast?_append]
    exact madeRec_sec f n (by omega)
theorem made_secs (f : Nat → Nat → Int) : ∀ (n : Nat), n ≤ 1000 → secsB 0 (madeRecs f n) = true
  | 0, _ => rfl
  | n + 1, h => by
    have hp := pickZ_bd (f n 0) 30 (by omega)
    rw [madeRecs_succ, secsB_add, made_secs f n (by omega), show recB (madeRec f n) = true from entry_rec _ _, lastSec_made f n (by omega), madeRec_sec f n (by omega)]
    simp only [secTo, Bool.true_and]
    exact decide_eq_true (p := secTo f n ≤ secTo f n + pickZ (f n 0) 30) (by omega)
theorem made_ok (o : Int) (N : Nat) (f : Nat → Nat → Int) : bookB (madeBook o N f) = true := by
  have h0 := pickZ_bd o 100 (by omega)
  unfold bookB madeBook
  simp only [Bool.and_eq_true, inZ_iff, decide_eq_true_eq, madeRecs_length]
  exact ⟨⟨made_secs f _ (by omega), by omega⟩, by omega⟩
/-- A logbook with a further record. -/
def addBook (l : LBook) (x : LRec) : LBook := ⟨l.office, l.recs ++ [x]⟩
theorem add_ok (l : LBook) (x : LRec) : bookB (addBook l x) = (secsB 0 l.recs && recB x && decide (lastSec 0 l.recs ≤ x.sec) && inZ l.office 0 99 && decide (l.recs.length + 1 ≤ 60)) := by
  unfold bookB addBook
  rw [secsB_add, List.length_append]
  rfl
end Go.Proofs.YtcgopilkajfghaaGreatDoor
end
