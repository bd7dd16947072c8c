/- (digest.words).digest: the words as bytes. -/
import Derived.Test.YteemhemnkdgehaaDoorDAdd
namespace Go.Proofs.YteemhemnkdgehaaDoor
open Go.RowKit

/-- The cells of bytes. -/
def yCells (l : List UInt8) : Array Value := (l.map fun x => Value.int .u8 (x.toNat : Int)).toArray
theorem yCells_size (l : List UInt8) : (yCells l).size = l.length := by simp [yCells]
theorem yCells_get (l : List UInt8) (j : Nat) (h : j < l.length) : (yCells l)[j]? = some (.int .u8 ((l.getD j 0).toNat : Int)) := by
  simp [yCells, h]
/-- Block B holds these bytes, and may be written. -/
def YRow (W : World) (B : Nat) (t : TypeId) (l : List UInt8) : Prop := W.heap[B]? = some (.cells (yCells l) t (0, 0))
theorem YRow.lt {W : World} {B : Nat} {t : TypeId} {l : List UInt8} (h : YRow W B t l) : B < W.heap.size := (Array.getElem?_eq_some_iff.1 h).1
theorem YRow.cell {W : World} {B : Nat} {t : TypeId} {l : List UInt8} (h : YRow W B t l) (j : Nat) (hj : j < l.length) : W.cell? ⟨B, j, none⟩ = some (.int .u8 ((l.getD j 0).toNat : Int)) := by
  rw [cell_of_row W B j _ t _ h, yCells_get l j hj]
theorem YRow.frozen {W : World} {B : Nat} {t : TypeId} {l : List UInt8} (h : YRow W B t l) (j : Nat) : W.frozen? ⟨B, j, none⟩ = false := frozen_of_row W B j _ t h
theorem yCells_set (l : List UInt8) (j : Nat) (x : UInt8) : (yCells l).setIfInBounds j (.int .u8 (x.toNat : Int)) = yCells (l.set j x) := by
  unfold yCells
  rw [List.setIfInBounds_toArray, List.map_set]
theorem YRow.set {W : World} {B : Nat} {t : TypeId} {l : List UInt8} (h : YRow W B t l) (j : Nat) (x : UInt8) : YRow (W.setCell ⟨B, j, none⟩ (.int .u8 (x.toNat : Int))) B t (l.set j x) := by
  unfold YRow
  rw [heap_setCell_same W B j _ t _ h, yCells_set]
theorem YRow.below {W W' : World} {B C : Nat} {t : TypeId} {l : List UInt8} (h : YRow W B t l) (hb : Below C W W') (hC : B < C) : YRow W' B t l := (hb.block B hC).trans h
theorem YRow.drew {W : World} {B : Nat} {t : TypeId} {l : List UInt8} (h : YRow W B t l) : YRow W.drew B t l := h
theorem YRow.drewN {W : World} {B : Nat} {t : TypeId} {l : List UInt8} (h : YRow W B t l) (n : Nat) : YRow (W.drewN n) B t l := h
theorem YRow.alloc {W : World} {B : Nat} {t : TypeId} {l : List UInt8} (h : YRow W B t l) (o : Obj) : YRow (W.alloc o) B t l := h.below ((Below.refl (B + 1) W).alloc h.lt o) (by omega)
theorem YRow.new (W : World) (t : TypeId) (l : List UInt8) : YRow (W.alloc (.cells (yCells l) t)) W.heap.size t l := heap_alloc_new W _
theorem YRow.other {W : World} {B g j : Nat} {t : TypeId} {l : List UInt8} {v : Value} (h : YRow W B t l) (hne : B ≠ g) : YRow (W.setCell ⟨g, j, none⟩ v) B t l := (heap_setCell_other W _ B v hne).trans h
theorem YRow.there {W : World} {B : Nat} {t : TypeId} {l : List UInt8} (h : YRow W B t l) : W.there B 0 l.length := fun j hj => by
  rw [Nat.zero_add]
  exact ⟨by rw [h.cell j hj]; rfl, h.frozen j⟩
theorem yCells_one (l : List UInt8) : (yCells l).all (·.oneCell') = true := by
  unfold yCells
  apply all_oneCell_toArray
  intro v hv
  obtain ⟨x, _, rfl⟩ := List.mem_map.1 hv
  rfl
/-- The whole row is written. -/
theorem setCells_yrow (B : Nat) (t : TypeId) : ∀ (l' : List UInt8) (o : Nat) (l : List UInt8) (W : World), YRow W B t l → o + l'.length = l.length → YRow (W.setCells B o (yCells l').toList) B t (l.take o ++ l')
  | [], o, l, W, h, ho => by
    have e : l.take o ++ [] = l := by rw [List.append_nil, List.take_of_length_le (by simp at ho; omega)]
    rw [e]
    exact h
  | x :: l', o, l, W, h, ho => by
    have ho' : o + 1 + l'.length = l.length := by simp at ho; omega
    have h1 := setCells_yrow B t l' (o + 1) (l.set o x) _ (h.set o x) (by rw [List.length_set]; exact ho')
    have e : (l.set o x).take (o + 1) ++ l' = l.take o ++ x :: l' := by
      rw [List.take_succ_eq_append_getElem (by rw [List.length_set]; omega), List.take_set_of_le (Nat.le_refl _), List.getElem_set_self, List.append_assoc]
      rfl
    rw [e] at h1
    exact h1
theorem YRow.setAll {W : World} {B : Nat} {t : TypeId} {l l' : List UInt8} (h : YRow W B t l) (hl : l'.length = l.length) : YRow (W.setCells B 0 (yCells l').toList) B t l' := by
  have := setCells_yrow B t l' 0 l W h (by omega)
  simpa using this

theorem u8w_u32 (x : UInt32) : IntKind.u8.wrap (w32 x) = (x.toUInt8.toNat : Int) := by
  unfold w32
  rw [IntKind.wrap_u8, UInt32.toNat_toUInt8]
  omega
theorem shr24 (x : UInt32) : w32 x / (16777216 : Int) = w32 (x >>> 24) := u32_shr x 24 (by omega)
theorem shr16 (x : UInt32) : w32 x / (65536 : Int) = w32 (x >>> 16) := u32_shr x 16 (by omega)
theorem shr8 (x : UInt32) : w32 x / (256 : Int) = w32 (x >>> 8) := u32_shr x 8 (by omega)
theorem outH_get (s : H8) (i k : Nat) (hi : i < 8) (hk : k < 4) : (outH s).getD (4 * i + k) 0 = (bytes4 (s.list.getD i 0)).getD k 0 := by
  have h8 : i = 0 ∨ i = 1 ∨ i = 2 ∨ i = 3 ∨ i = 4 ∨ i = 5 ∨ i = 6 ∨ i = 7 := by omega
  have h4 : k = 0 ∨ k = 1 ∨ k = 2 ∨ k = 3 := by omega
  rcases h8 with rfl | rfl | rfl | rfl | rfl | rfl | rfl | rfl <;> rcases h4 with rfl | rfl | rfl | rfl <;> rfl
/-- The bytes so far. -/
def outRow (s : H8) (n : Nat) : Bytes := (outH s).take n ++ List.replicate (32 - n) 0
theorem outRow_length (s : H8) (n : Nat) (h : n ≤ 32) : (outRow s n).length = 32 := by
  unfold outRow
  rw [List.length_append, List.length_take, List.length_replicate, outH_length]
  omega
theorem outRow_set (s : H8) (n : Nat) (h : n < 32) : (outRow s n).set n ((outH s).getD n 0) = outRow s (n + 1) := by
  have hl := outH_length s
  unfold outRow
  rw [List.set_append_right _ _ (by rw [List.length_take]; omega), List.length_take, hl, show n - min n 32 = 0 from by omega, take_getD (outH s) 0 n (by omega), List.append_assoc]
  congr 1
  obtain ⟨m, hm⟩ : ∃ m, 32 - n = m + 1 := ⟨31 - n, by omega⟩
  rw [hm, show 32 - (n + 1) = m from by omega]
  rfl
theorem outRow_full (s : H8) : outRow s 32 = outH s := by
  unfold outRow
  rw [List.take_of_length_le (by rw [outH_length]; exact Nat.le_refl _)]
  simp
theorem bytes4_get (x : UInt32) (k : Nat) (hk : k < 4) : (bytes4 x).getD k 0 = (x >>> UInt32.ofNat (24 - 8 * k)).toUInt8 := by
  have h4 : k = 0 ∨ k = 1 ∨ k = 2 ∨ k = 3 := by omega
  rcases h4 with rfl | rfl | rfl | rfl
  · rfl
  · rfl
  · rfl
  · show x.toUInt8 = (x >>> 0).toUInt8
    simp
theorem u8m_u32 (x : UInt32) : w32 x % (256 : Int) = (x.toUInt8.toNat : Int) := by
  unfold w32
  rw [UInt32.toNat_toUInt8]
  omega
theorem byte_of (x : UInt32) (k : Nat) (hk : k < 4) : w32 x / (2 : Int) ^ (24 - 8 * k) % (256 : Int) = ((x >>> UInt32.ofNat (24 - 8 * k)).toUInt8.toNat : Int) := by
  rw [show ((2 : Int) ^ (24 - 8 * k)) = ((2 ^ (24 - 8 * k) : Nat) : Int) from by push_cast; rfl, u32_shr x _ (by omega), u8m_u32]
attribute [local go_sem] u8w_u32 u8m_u32 u32_signed
/-- An element of eight words. -/
theorem idx_eight (l : List UInt32) (hl : l.length = 8) (j : Nat) (hj : j < 8) (w : World) : (Instr.index 71 (.agg (uCells l)) (.int .i64 (j : Int))).run Tryd.prog w = .ok (.int .u32 (w32 (l.getD j 0))) w := by
  have hc := uCells_get l j (by omega)
  have h0 : (0 : Int) ≤ (j : Int) := by omega
  have h1 : (j : Int) < 8 := by omega
  have hs : ∀ w, (sizeOf 69).run Tryd.prog w = .ok 1 w := fun _ => by kernel_rfl
  have ha : ∀ w, (isAgg 69).run Tryd.prog w = .ok false w := fun _ => by kernel_rfl
  unfold Instr.index
  simp [Sem.run_bind, tm_asInt, run_underlying Tryd.underlying71, part, hs, ha, hc, h0, h1]
theorem zero32 : yCells (List.replicate 32 0) = #[.int .u8 0, .int .u8 0, .int .u8 0, .int .u8 0, .int .u8 0, .int .u8 0, .int .u8 0, .int .u8 0, .int .u8 0, .int .u8 0, .int .u8 0, .int .u8 0, .int .u8 0, .int .u8 0, .int .u8 0, .int .u8 0, .int .u8 0, .int .u8 0, .int .u8 0, .int .u8 0, .int .u8 0, .int .u8 0, .int .u8 0, .int .u8 0, .int .u8 0, .int .u8 0, .int .u8 0, .int .u8 0, .int .u8 0, .int .u8 0, .int .u8 0, .int .u8 0] := rfl
set_option maxRecDepth 100000 in
set_option maxHeartbeats 400000 in
theorem digest_any (s : H8) (w : World) :
    Calls Tryd.prog 56 #[.agg (uCells s.list)] w fun e w' => e = .returned (.string ⟨(outH s).toArray⟩) ∧ Below w.heap.size w w' := by
  have HSw : Hid ((Tryd.prog.info? 71).map (·.size) = some (uCells s.list).size) := infoWords
  have hl8 : s.list.length = 8 := rfl
  have hU0 : URow (w.alloc (.cells (uCells s.list) 71)) w.heap.size 71 s.list := URow.new _ _ _
  have hidx := fun j hj W => idx_eight s.list hl8 j hj W
  have hget := fun i k hi hk => outH_get s i k hi hk
  have HGet := Lib.hid hget
  have HIdx := Lib.hid hidx
  clear hget hidx hl8
  obtain ⟨xa, xb, xc, xd, xe, xf, xg, xh⟩ := s
  have HU0 : Hid ((w.alloc (.cells #[.int .u32 (w32 xa), .int .u32 (w32 xb), .int .u32 (w32 xc), .int .u32 (w32 xd), .int .u32 (w32 xe), .int .u32 (w32 xf), .int .u32 (w32 xg), .int .u32 (w32 xh)] 71)).heap[w.heap.size]? = some (.cells (uCells (H8.mk xa xb xc xd xe xf xg xh).list) 71 (0, 0))) := hU0
  clear hU0
  show Calls _ _ #[.agg #[.int .u32 (w32 xa), .int .u32 (w32 xb), .int .u32 (w32 xc), .int .u32 (w32 xd), .int .u32 (w32 xe), .int .u32 (w32 xf), .int .u32 (w32 xg), .int .u32 (w32 xh)]] w _
  go_enter Tryd.func56, Tryd.ntmps56
  go_wp2_with (fail)
  rw [← zero32]
  refine wp_gen (fun W' => YRow W' (w.heap.size + 1) 91 (outRow ⟨xa, xb, xc, xd, xe, xf, xg, xh⟩ 0) ∧ Below w.heap.size w W') ⟨by have := YRow.new (w.alloc (.cells #[.int .u32 (w32 xa), .int .u32 (w32 xb), .int .u32 (w32 xc), .int .u32 (w32 xd), .int .u32 (w32 xe), .int .u32 (w32 xf), .int .u32 (w32 xg), .int .u32 (w32 xh)] 71)) 91 (List.replicate 32 0); rwa [World.size_alloc] at this, ((Below.refl _ _).alloc (Nat.le_refl _) _).alloc (by simp) _⟩ ?_
  rintro W1 ⟨hY1, hB1⟩
  have HIdx2 : Hid (∀ j : Nat, j < 8 → ∀ W, (Instr.index 71 (.agg #[.int .u32 (w32 xa), .int .u32 (w32 xb), .int .u32 (w32 xc), .int .u32 (w32 xd), .int .u32 (w32 xe), .int .u32 (w32 xf), .int .u32 (w32 xg), .int .u32 (w32 xh)]) (.int .i64 (j : Int))).run Tryd.prog W = .ok (.int .u32 (w32 ((H8.mk xa xb xc xd xe xf xg xh).list.getD j 0))) W) := HIdx.out
  clear HIdx HU0 HSw
  generalize (#[.int .u32 (w32 xa), .int .u32 (w32 xb), .int .u32 (w32 xc), .int .u32 (w32 xd), .int .u32 (w32 xe), .int .u32 (w32 xf), .int .u32 (w32 xg), .int .u32 (w32 xh)] : Array Value) = cs at *
  generalize hs0 : H8.mk xa xb xc xd xe xf xg xh = s at *
  have HS0 := Lib.hid hs0
  clear hs0
  go_loopw [8] (fun i wr => ∃ j : Nat, j ≤ 8 ∧ i = .int .i64 j ∧ Below w.heap.size w wr ∧ YRow wr (w.heap.size + 1) 91 (outRow s (4 * j))) (fun i _ => 8 - (intOf i).toNat)
  case atStart => exact ⟨0, Nat.zero_le _, rfl, hB1, hY1⟩
  case round =>
    obtain ⟨j, hj, rfl, hBr, hYr⟩ := hrel
    by_cases hlt : j < 8
    · have hidx := HIdx2.out j hlt
      have HG := Lib.hid (fun k hk => HGet.out j k hlt hk)
      generalize s.list.getD j 0 = x at hidx HG
      have jj : (j : Int) < 8 := by omega
      have HHidx := Lib.hid hidx
      go_wp2
      clear hidx
      obtain ⟨wo, hwo⟩ : ∃ wo : World, wo = wr := ⟨_, rfl⟩
      rw [← hwo] at hBr hYr ⊢
      clear hwo
      go_loopw [12] (fun i wy => ∃ k : Nat, k ≤ 4 ∧ i = .int .i64 k ∧ Below w.heap.size w wy ∧ YRow wy (w.heap.size + 1) 91 (outRow s (4 * j + k))) (fun i _ => 4 - (intOf i).toNat)
      case atStart => exact ⟨0, Nat.zero_le _, rfl, hBr, hYr⟩
      case round =>
        obtain ⟨k, hk, rfl, hBy, hYy⟩ := hrel
        by_cases hk4 : k < 4
        · have HE := Lib.hid (byte_of x k hk4)
          have cy := hYy.cell (4 * j + k) (by rw [outRow_length _ _ (by omega)]; omega)
          have fy := hYy.frozen (4 * j + k)
          have HS : Hid (outRow s (4 * j + k + 1) = (outRow s (4 * j + k)).set (4 * j + k) (x >>> UInt32.ofNat (24 - 8 * k)).toUInt8) := by show _ = _; rw [← outRow_set s (4 * j + k) (by omega), HG.out k hk4, bytes4_get x k hk4]
          have n1 : (4 * (j : Int) + (k : Int)).toNat = 4 * j + k := by omega
          have n2 : 0 ≤ 4 * (j : Int) + (k : Int) := by omega
          have n3 : 4 * (j : Int) + (k : Int) < 32 := by omega
          have kk : (k : Int) < 4 := by omega
          have HYy := Lib.hid hYy
          clear hYy
          go_wp2
          go_roundw
          case rel => exact ⟨k + 1, by omega, by go_num, Below.setCell (p := ⟨w.heap.size + 1, 4 * j + k, none⟩) hBy (Nat.le_succ _) _, by rw [← Nat.add_assoc, HS.out, HE.out]; exact HYy.out.set _ _⟩
          case measure => simp [intOf]; omega
        · obtain rfl : k = 4 := by omega
          go_wp2
          go_roundw
          case rel => exact ⟨j + 1, by omega, by go_num, hBy, by rw [show 4 * (j + 1) = 4 * j + 4 from by omega]; exact hYy⟩
          case measure => simp [intOf]; omega
    · obtain rfl : j = 8 := by omega
      rw [show 4 * 8 = 32 from rfl, outRow_full] at hYr
      have hconv : (convert 46 9 (.slice (some ⟨w.heap.size + 1, 0, none⟩) 32 32)).run Tryd.prog wr = .ok (.string ⟨(outH s).toArray⟩) wr := by
        refine run_convert_bytes_back wr 46 9 5 ⟨w.heap.size + 1, 0, none⟩ 32 (outH s) Tryd.underlying46 Tryd.underlying5 Tryd.underlying9 fun j hj => ?_
        rw [Addr.add_mid, Nat.zero_add, hYr.cell j hj, List.getD_eq_getElem?_getD, List.getElem?_eq_getElem hj]
        rfl
      generalize hos : (outH s).toArray = os at *
      have HOs := Lib.hid hos
      clear hos
      go_wp2
      go_ret
      exact ⟨by rw [HS0.out, HOs.out]; rfl, hBr⟩
end Go.Proofs.YteemhemnkdgehaaDoor
