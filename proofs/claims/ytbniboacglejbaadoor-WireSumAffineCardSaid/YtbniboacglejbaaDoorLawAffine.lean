/- WireSumAffine returns true. -/
import Derived.Test.YtbniboacglejbaaDoorSane1
import Derived.Test.YtbniboacglejbaaDoorCrc
import Derived.Test.YtbniboacglejbaaDoorSmall
import Derived.WalkLawsBesides
import Derived.Deep.QuietTactic
import Derived.BigQuiet
import Derived.WalkSmall
namespace Go.Proofs.YtbniboacglejbaaDoor
open Go.RowKit Go.Shelf

theorem run_min4 {P : Program} (w : World) (ts : Array TypeId) (t : TypeId) (x y z u : Int) (n : Int) (h : n = min (min (min x y) z) u) :
    (Builtin.min_ ts t #[.int .i64 x, .int .i64 y, .int .i64 z, .int .i64 u]).run P w = .ok (.int .i64 n) w := by
  subst h
  simp [Builtin.min_, Builtin.min2]
  omega
theorem run_make_bytes (u : World) (n : Nat) (hn : n ≤ 1000000) :
    (Instr.makeSlice 38 (.int .i64 (n : Int)) (.int .i64 (n : Int))).run Tryd.prog u = .ok (.slice (some ⟨u.heap.size, 0, none⟩) n n) (u.alloc (.cells (madeCells #[.int .u8 0] n) 5)) := by
  obtain ⟨i0, hi, hz0, hz1, hz2⟩ := info_parts info_u8
  have h := run_make (P := Tryd.prog) u 38 5 i0 (.int .u8 0) Tryd.underlying38 hi hz0 .i64 .i64 (n : Int) (n : Int) (by omega) (Int.le_refl _) (by rw [hz2]; omega) (by omega)
  simpa [hz1, Value.cells] using h
theorem madeCells_byte (n : Nat) : (madeCells #[Value.int .u8 0] n).toList = List.replicate n (.int .u8 0) := by
  apply List.ext_getElem
  · simp [madeCells]
  · intro i h1 h2
    simp [madeCells, Nat.mod_one]
theorem xor_i64 (x y : UInt32) : bits .xor .i64 (w32 x) (w32 y) = w32 (x ^^^ y) := by
  have hx := x.toNat_lt
  have hy := y.toNat_lt
  have hxy := (x ^^^ y).toNat_lt
  show IntKind.i64.wrap ((BitVec.ofInt 64 (w32 x) ^^^ BitVec.ofInt 64 (w32 y)).toNat : Int) = _
  unfold w32
  rw [BitVec.toNat_xor, BitVec.ofInt_natCast, BitVec.ofInt_natCast, BitVec.toNat_ofNat, BitVec.toNat_ofNat, Nat.mod_eq_of_lt (by omega), Nat.mod_eq_of_lt (by omega), ← UInt32.toNat_xor, IntKind.wrap_i64]
  omega
/-- The bytes that the loop has written so far, and zeros. -/
def xorTo (a b c : List UInt8) (n k : Nat) : List UInt8 := (List.range n).map fun i => if i < k then a.getD i 0 ^^^ b.getD i 0 ^^^ c.getD i 0 else 0
theorem xorTo_set (a b c : List UInt8) (n k : Nat) : xorTo a b c n (k + 1) = (xorTo a b c n k).set k (a.getD k 0 ^^^ b.getD k 0 ^^^ c.getD k 0) := by
  apply List.ext_getElem
  · simp [xorTo]
  · intro i h1 h2
    simp [xorTo, List.getElem_set]
    by_cases h : k = i
    · subst h; simp
    · simp [h]
      by_cases h3 : i < k
      · simp [h3, show i < k + 1 by omega]
      · simp [h3, show ¬ i < k + 1 by omega]
theorem crc_xorTo (a b c : List UInt8) (k : Nat) (ha : k ≤ a.length) (hb : k ≤ b.length) (hc : k ≤ c.length) :
    crc (xorTo a b c k k) = crc (a.take k) ^^^ crc (b.take k) ^^^ crc (c.take k) := by
  refine crc_three _ _ _ _ (by simp [xorTo]; omega) (by simp [xorTo]; omega) (by simp [xorTo]; omega) fun i hi => ?_
  have hi' : i < k := by simpa [xorTo] using hi
  simp [xorTo, hi', List.getElem?_eq_getElem (show i < a.length by omega), List.getElem?_eq_getElem (show i < b.length by omega), List.getElem?_eq_getElem (show i < c.length by omega)]
theorem byteCells_set (l : List UInt8) (k : Nat) (b : UInt8) : byteCells (l.set k b) = (byteCells l).set k (.int .u8 (b.toNat : Int)) := by simp [byteCells, List.map_set]
theorem byteCells_zero (a b c : List UInt8) (n : Nat) : byteCells (xorTo a b c n 0) = List.replicate n (.int .u8 0) := by
  apply List.ext_getElem
  · simp [byteCells, xorTo]
  · intro i h1 h2
    simp [byteCells, xorTo]
theorem u8_xor3 (x y : UInt8) : bits .xor .u8 (x.toNat : Int) (y.toNat : Int) = ((x ^^^ y).toNat : Int) := by
  rw [u8_xor_nat _ _ x.toNat_lt y.toNat_lt, UInt8.toNat_xor]

set_option maxRecDepth 100000 in
set_option maxHeartbeats 1000000 in
theorem sumAffine_any (a b c : ByteArray) (w : World) (ha : a.size ≤ maxLen) (hb : b.size ≤ maxLen) (hc : c.size ≤ maxLen) (hn : Nibs w) (hz : 0 < w.heap.size) :
    Calls Tryd.prog 9 #[.string a, .string b, .string c] w fun e w' => e = .returned (.bool true) ∧ Below w.heap.size w w' := by
  have HN := Lib.hid hn
  clear hn
  have ha' := ha
  have hb' := hb
  have hc' := hc
  unfold maxLen at ha hb hc
  obtain ⟨n, hnm⟩ : ∃ n : Nat, (n : Int) = min (min (min (a.size : Int) b.size) c.size) 200 := ⟨(min (min (min (a.size : Int) b.size) c.size) 200).toNat, by omega⟩
  have hna : n ≤ a.size := by omega
  have hnb : n ≤ b.size := by omega
  have hnc : n ≤ c.size := by omega
  have hn2 : n ≤ 200 := by omega
  have hmin : ∀ W : World, (Builtin.min_ #[3, 3, 3, 3] 3 #[.int .i64 a.size, .int .i64 b.size, .int .i64 c.size, .int .i64 200]).run Tryd.prog W = .ok (.int .i64 n) W := fun W => run_min4 W _ _ _ _ _ _ _ hnm
  clear hnm
  have hmk := fun u => run_make_bytes u n (by omega)
  go_enter Tryd.func9, Tryd.ntmps9
  go_wp2_with (go_at_call 10; refine (sane_any _ HN.out hz).mono ?_; rintro e w1 ⟨rfl, hb1⟩)
  have hz1 : w.heap.size ≤ w1.heap.size := hb1.size
  have hrow := World.ownsRow_lit (base := w.heap.size) (e := 5) (size := 1) w1 (madeCells #[.int .u8 0] n) n hz1 (by unfold maxLen; omega) (by simp [madeCells])
  go_loopw [10] (fun i W => ∃ k : Nat, k ≤ n ∧ i = .int .i64 k ∧ W.ownsRow w.heap.size 5 1 (.slice (some ⟨w1.heap.size, 0, none⟩) n n) n (byteCells (xorTo a.data.toList b.data.toList c.data.toList n k)) ∧ Below w.heap.size w W) (fun i _ => n - (intOf i).toNat)
  case atStart =>
    refine ⟨0, Nat.zero_le _, rfl, ?_, hb1.alloc hz1 _⟩
    rw [byteCells_zero]
    rw [← madeCells_byte]
    exact hrow
  case round =>
    obtain ⟨k, hk, rfl, hown, hB⟩ := hrel
    clear hrow
    by_cases hlt : k < n
    · have h1 := hown.cellAt k (by omega)
      have h2 := hown.frozenAt k
      obtain ⟨u, hu⟩ : ∃ u, (byteCells (xorTo a.data.toList b.data.toList c.data.toList n k))[k]? = some u := ⟨_, List.getElem?_eq_getElem (by simp [byteCells, xorTo]; omega)⟩
      rw [hu] at h1
      clear hu
      have ka : k < a.size := by omega
      have kb : k < b.size := by omega
      have kc : k < c.size := by omega
      go_wp2
      go_region
      go_wp2
      refine ⟨⟨k + 1, by omega, by go_num, ?_, ?_⟩, by simp [intOf]; omega⟩
      · rw [u8_xor3, u8_xor3, xorTo_set, byteCells_set, list_getD a k ka, list_getD b k kb, list_getD c k kc]
        exact (hown.stored k _).1
      · exact (hB.setCell (p := ⟨w1.heap.size, k, none⟩) hz1 _).drew
    · obtain rfl : k = n := by omega
      have hsv := fun m => run_string_own (wr.drewN m) w.heap.size (.slice (some ⟨w1.heap.size, 0, none⟩) k k) (xorTo a.data.toList b.data.toList c.data.toList k k) (by rw [show (xorTo a.data.toList b.data.toList c.data.toList k k).length = k from by simp [xorTo]]; exact hown)
      have HB := Lib.hid (HN.out.below hB hz)
      go_wp2
      go_quiet ((go_at_call 21; exact quiet_same (sum_any _ _ (by first | (rw [size_lit]; simp [xorTo]; unfold maxLen; omega) | (rw [ByteArray.size_extract]; unfold maxLen; omega)) HB.out)))
      go_wp2
      go_ret
      refine ⟨?_, below_drewN hB nq⟩
      refine ret_bool (beq_iff_eq.2 ?_)
      rw [xor_i64, xor_i64]
      exact congrArg w32 (crc_xorTo _ _ _ k (by rw [bsize]; exact hna) (by rw [bsize]; exact hnb) (by rw [bsize]; exact hnc))
end Go.Proofs.YtbniboacglejbaaDoor
