/- wire.PutInt returns the encoding, for every integer. -/
import Derived.Test.YtbniboacglejbaaDoorGroups
import Derived.Maps.AppendAt
namespace Go.Proofs.YtbniboacglejbaaDoor
open Go.RowKit Go.Shelf
attribute [local go_sem] Oper.semAt_some

/-- A string's value. -/
abbrev strV (l : List UInt8) : Value := .string ⟨l.toArray⟩
/-- The cells of a slice of bytes. -/
def byteCells (l : List UInt8) : List Value := l.map fun b => .int .u8 (b.toNat : Int)
theorem byteCells_length (l : List UInt8) : (byteCells l).length = l.length := by simp [byteCells]
theorem byteCells_append (l m : List UInt8) : byteCells (l ++ m) = byteCells l ++ byteCells m := by simp [byteCells]

theorem info_u8 : (Tryd.prog.info? 5).map (fun i => (i.zero, i.size, i.bytes)) = some (some (.int .u8 0), 1, 1) := by kernel_rfl

/-- 'string(b)' of a slice that owns its row. -/
theorem run_string_own (w : World) (base : Nat) (v : Value) (l : List UInt8) (h : w.ownsRow base 5 1 v l.length (byteCells l)) :
    (convert 38 9 v).run Tryd.prog w = .ok (strV l) w := by
  rcases h.2 with ⟨rfl, h0⟩ | ⟨g, cap, cur, rfl, _, _, _⟩
  · obtain rfl : l = [] := List.eq_nil_of_length_eq_zero h0
    rw [run_convert_bytes_nil w 38 5 Tryd.underlying38 Tryd.underlying5 0 0 9 Tryd.underlying9]
    rfl
  · refine run_convert_bytes_back w 38 9 5 ⟨g, 0, none⟩ cap l Tryd.underlying38 Tryd.underlying5 Tryd.underlying9 fun j hj => ?_
    have := h.cells (g := g) rfl j (.int .u8 (l[j].toNat : Int)) (by simp [byteCells, hj])
    simpa using this

theorem byteOf_toNat (x : Nat × Bool) (h : x.1 < 128) : ((byteOf x).toNat : Int) = if x.2 then (x.1 : Int) else (x.1 : Int) + 128 := by
  unfold byteOf
  cases x.2 <;> simp <;> omega

def loZ : Int := -4611686018427387903
def hiZ : Int := 4611686018427387903

theorem zz_lt (n : Int) (h1 : -4611686018427387903 ≤ n) (h2 : n ≤ 4611686018427387903) : zz n < 18446744073709551616 := by
  unfold zz; split <;> omega
theorem zz_bits (n : Int) (h1 : -4611686018427387903 ≤ n) (h2 : n ≤ 4611686018427387903) :
    bits .xor .u64 (IntKind.u64.wrap (IntKind.u64.wrap n * 2)) (IntKind.u64.wrap (n / 9223372036854775808)) = ((zz n : Nat) : Int) := by
  rw [IntKind.wrap_u64, IntKind.wrap_u64, IntKind.wrap_u64]
  by_cases hn : n < 0
  · rw [show n / 9223372036854775808 = -1 from by omega]
    show IntKind.u64.wrap ((BitVec.ofInt 64 _ ^^^ BitVec.ofInt 64 (-1 % 18446744073709551616)).toNat : Int) = _
    rw [show BitVec.ofInt 64 (-1 % 18446744073709551616) = BitVec.allOnes 64 from by decide, BitVec.xor_allOnes, BitVec.toNat_not, BitVec.toNat_ofInt, IntKind.wrap_u64]
    unfold zz
    rw [if_pos hn]
    omega
  · rw [show n / 9223372036854775808 = 0 from by omega]
    show IntKind.u64.wrap ((BitVec.ofInt 64 _ ^^^ BitVec.ofInt 64 (0 % 18446744073709551616)).toNat : Int) = _
    rw [show BitVec.ofInt 64 (0 % 18446744073709551616) = 0#64 from by decide, BitVec.xor_zero, BitVec.toNat_ofInt, IntKind.wrap_u64]
    unfold zz
    rw [if_neg hn]
    omega

/-- Between two rounds: the box of 'out' holds a slice that owns the bytes so far; the iterator's box is a box; nothing older has turned. -/
def PutI (w : World) (pre : List (Nat × Bool)) (W : World) : Prop :=
  (∃ v, Boxed W w.heap.size 38 v ∧ W.ownsRow w.heap.size 5 1 v pre.length (byteCells (pre.map byteOf)) ∧ True) ∧ (∃ u, Boxed W (w.heap.size + 1) 49 u) ∧ Below w.heap.size w W

theorem putInt_no (n : Int) (w : World) (h : n < -4611686018427387903 ∨ 4611686018427387903 < n) :
    Calls Tryd.prog 12 #[.int .i64 n] w fun e w' => e = .returned (.tuple #[strV [], .int .i64 10]) ∧ w = w' := by
  by_cases h1 : n < -4611686018427387903
  all_goals
    go_enter Tryd.func12, Tryd.ntmps12
    go_wp2
    go_ret2
    exact ⟨rfl, rfl⟩

set_option maxRecDepth 100000 in
set_option maxHeartbeats 1000000 in
theorem putInt_yes (n : Int) (w : World) (h1 : -4611686018427387903 ≤ n) (h2 : n ≤ 4611686018427387903) :
    Calls Tryd.prog 12 #[.int .i64 n] w fun e w' => e = .returned (.tuple #[strV (enc (zz n)), .int .i64 0]) ∧ Below w.heap.size w w' := by
  obtain ⟨i0, hi, hz0, hz1, hz2⟩ := info_parts info_u8
  refine (callsIn_wide (n := 3)).1 ?_
  refine callsIn_of_wp_marks Tryd.func12 rfl trivial ?_
  simp only [Tryd.ntmps12, List.size_toArray, List.length_cons, List.length_nil, Nat.reduceAdd, Nat.reduceSub, Array.replicate_succ, Array.replicate_zero, List.push_toArray, List.append_toArray, List.nil_append, List.cons_append]
  gi_wp2_with (refine ⟨trivial, ?_⟩; gi_at_call 23; refine (callsIn_wide.2 (groups_any _ _)).mono ?_; rintro e w' ⟨rfl, rfl⟩)
  simp only [zz_bits n h1 h2]
  have bO := Boxed.new w 38 (.slice none 0 0)
  have bN := Boxed.new (w.alloc (.cells #[.slice none 0 0] 38)) 49 (.int .u64 (zz n))
  rw [World.size_alloc] at bN
  have hB0 : Below w.heap.size w ((w.alloc (.cells #[.slice none 0 0] 38)).alloc (.cells #[.int .u64 (zz n)] 49)) := ((Below.refl _ w).alloc (Nat.le_refl _) _).alloc (by simp) _
  refine wpIn_range_box (n := 1) (gf := 25) (lb := #[.pointer (some ⟨w.heap.size + 1, 0, none⟩)]) rfl (enters_of Tryd.func25 (by kernel_rfl) rfl)
    (groups1_seq (w.heap.size + 1) (zz n) _ (zz_lt n h1 h2) bN) (by simp) (fun _ => rfl)
    (PutI w)
    ?own ?sets ⟨⟨_, bO.alloc _, World.ownsRow_nil _ _ _ _, trivial⟩, ⟨_, bN⟩, hB0⟩ ?round ?done
  case own =>
    refine OwnFrom.and (Own.from (holdsRow_own w.heap.size w.heap.size 38 5 1 (fun pre : List (Nat × Bool) => pre.length) (fun pre => byteCells (pre.map byteOf)) (fun _ _ => True)) _) (OwnFrom.and ?_ (ownFrom_below (Nat.le_refl _) (by simp; omega)))
    rintro s X Y row ⟨u, hu⟩ hg hr
    exact ⟨u, (boxed_own (w.heap.size + 1) 49 (fun _ : Unit => u)) () X Y row hu hg fun r e => (hr r e).2⟩
  case sets =>
    rintro pre W v ⟨⟨s, hs, hrow, _⟩, ⟨u, hu⟩, hB⟩
    exact ⟨⟨s, hs.other (by omega) _, hrow.kept (grownBy_setCell' W _ v) (.inr fun e => (hu.not_row (by decide) hrow) e.symm), trivial⟩, ⟨v, hu.set v⟩, hB.setCell (p := ⟨w.heap.size + 1, 0, none⟩) (by simp) v⟩
  case round =>
    rintro l pre x rest W hx
    have hlt : x.1 < 128 := grp_lt 10 (zz n) x (by rw [hx]; simp)
    have hlen : pre.length + 1 ≤ 10 := by
      have := grp_length 10 (zz n)
      rw [hx] at this
      simp at this
      omega
    have hbyte := byteOf_toNat x hlt
    have HB := Lib.hid hbyte
    clear hbyte hx
    obtain ⟨xg, xl⟩ := x
    dsimp only at hlt
    gi_wp2
    refine ⟨rfl, ?_⟩
    rintro W2 ⟨⟨v, hv, hrow, _⟩, ⟨u, hu⟩, hB⟩
    have hc := hv.cell
    have hnz : some (w.heap.size + 1) ≠ v.ownBlock := hu.not_row (by decide) hrow
    cases xl
    all_goals
      gi_wp2_with (gi_at_builtin; refine wpListIn_append_own _ rfl _ _ 38 rfl w.heap.size 5 i0 (.int .u8 0) 1 1 Tryd.underlying38 hi hz0 hz1 hz2 rfl (by decide) _ _ _ rfl (hrow.alloc _) ⟨W2.heap.size, 0, none⟩ 1 1 [_] rfl rfl (cell_one_new _ _ _) (by simp [Value.oneCell']) (by unfold maxLen; omega) (by omega) (by have := hB.size; simp; omega) ?_; intro v' w1 hown' hgrow _; obtain ⟨g', cap', rfl⟩ := ownsRow_succ hown'; obtain ⟨hv1, hv2, hr2, hk2, hb2⟩ := hv.appended (by decide) hrow hB.size (Nat.le_refl _) hown' hgrow; have hc1 := hv1.cell; have hf1 := hv1.frozen)
      have hkz : (w1.setCell ⟨w.heap.size, 0, none⟩ (.slice (some ⟨g', 0, none⟩) (pre.length + 1) cap')).heap[w.heap.size + 1]? = W2.heap[w.heap.size + 1]? := by
        rw [Below.heap_setCell _ _ _ _ (by show w.heap.size + 1 ≠ w.heap.size; omega), hgrow.block _ (by have := hu.lt; simp; omega) hnz]
        exact Below.heap_alloc _ _ _ hu.lt
      refine ⟨rfl, hk2.from _, hkz, ⟨_, hv2, ?_, trivial⟩, ⟨u, hkz.trans hu⟩, hB.trans hb2⟩
      rw [List.length_append, List.map_append, byteCells_append]
      rw [show byteCells ([_].map byteOf) = [Value.int .u8 _] from rfl, HB.out]
      first | exact hr2 | (rw [u8_or128_right _ (by omega) (by omega)] at hr2; exact hr2)
  case done =>
    rintro D W hD ⟨⟨v, hv, hrow, _⟩, _, hB⟩ hK
    have hc := hv.cell
    have hs := run_string_own W w.heap.size v (enc (zz n)) (by rw [enc, List.length_map]; exact hrow)
    have HR := Lib.hid hrow
    clear hrow
    gi_wp2
    refine ⟨by simp, .inl ⟨_, _, rfl, run_takeDeferred hK, ?_⟩⟩
    exact ⟨_, results_tmp2 rfl _ _ _, rfl, hB.trans (belowK_b (w := w) (Nat.le_refl _) W D _ _ (by simp at hD; omega) hK rfl rfl)⟩
end Go.Proofs.YtbniboacglejbaaDoor
