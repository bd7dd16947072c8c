/- digest.schedule. -/
import Derived.Test.YteemhemnkdgehaaDoorDRows
import Derived.StillTailTactics
import Derived.Deep.RegionHeld3
import Derived.IntWalk
import Derived.Outline
namespace Go.Proofs.YteemhemnkdgehaaDoor
open Go.RowKit

theorem u32_shr3 (x : UInt32) : w32 x / (8 : Int) = w32 (x >>> 3) := u32_shr x 3 (by omega)
theorem u32_shr10 (x : UInt32) : w32 x / (1024 : Int) = w32 (x >>> 10) := u32_shr x 10 (by omega)
theorem u32_shl8 (x : UInt32) : w32 x * (256 : Int) % (4294967296 : Int) = w32 (x <<< 8) := u32_shl x 8 (by omega)
theorem u32_shl16 (x : UInt32) : w32 x * (65536 : Int) % (4294967296 : Int) = w32 (x <<< 16) := u32_shl x 16 (by omega)
theorem u32_shl24 (x : UInt32) : w32 x * (16777216 : Int) % (4294967296 : Int) = w32 (x <<< 24) := u32_shl x 24 (by omega)
theorem u32w_u8 (b : UInt8) : IntKind.u32.wrap (b.toNat : Int) = w32 b.toUInt32 := by rw [IntKind.wrap_u32', u32_of_u8]
theorem u32w_shl8 (x : UInt32) : IntKind.u32.wrap (w32 x * 256) = w32 (x <<< 8) := by rw [IntKind.wrap_u32', u32_shl8]
theorem u32w_shl16 (x : UInt32) : IntKind.u32.wrap (w32 x * 65536) = w32 (x <<< 16) := by rw [IntKind.wrap_u32', u32_shl16]
theorem u32w_shl24 (x : UInt32) : IntKind.u32.wrap (w32 x * 16777216) = w32 (x <<< 24) := by rw [IntKind.wrap_u32', u32_shl24]
theorem u32w_add (x y : UInt32) : IntKind.u32.wrap (w32 x + w32 y) = w32 (x + y) := by rw [IntKind.wrap_u32', u32_add]
attribute [local go_sem] u32w_u8 u32w_shl8 u32w_shl16 u32w_shl24 u32w_add
attribute [local go_sem] u32_signed u32_xor u32_or u32_add u32_shr3 u32_shr10 u32_shl8 u32_shl16 u32_shl24 u32_of_u8

/-- The words so far, the others zero. -/
def schedRow (b : Bytes) (j : Nat) : List UInt32 := schedTo b j ++ List.replicate (64 - j) 0
theorem schedRow_length (b : Bytes) (j : Nat) (hj : j ≤ 64) : (schedRow b j).length = 64 := by
  unfold schedRow
  rw [List.length_append, schedTo_length, List.length_replicate]
  omega
theorem schedRow_get (b : Bytes) (j i : Nat) (hi : i < j) : (schedRow b j).getD i 0 = (schedTo b j).getD i 0 := by
  unfold schedRow
  rw [List.getD_eq_getElem?_getD, List.getElem?_append_left (by rw [schedTo_length]; exact hi), ← List.getD_eq_getElem?_getD]
theorem schedRow_set (b : Bytes) (j : Nat) (hj : j < 64) (x : UInt32) (hx : schedTo b (j + 1) = schedTo b j ++ [x]) : (schedRow b j).set j x = schedRow b (j + 1) := by
  unfold schedRow
  rw [hx, List.set_append_right _ _ (by rw [schedTo_length]; exact Nat.le_refl _), schedTo_length, Nat.sub_self, List.append_assoc]
  congr 1
  obtain ⟨n, hn⟩ : ∃ n, 64 - j = n + 1 := ⟨63 - j, by omega⟩
  rw [hn, show 64 - (j + 1) = n from by omega]
  rfl
theorem schedTo_word (b : Bytes) (j : Nat) (hj : j < 16) : schedTo b (j + 1) = schedTo b j ++ [word b j] := by simp only [schedTo, if_pos hj]
theorem schedTo_next (b : Bytes) (j : Nat) (hj : ¬ j < 16) : schedTo b (j + 1) = schedTo b j ++ [schedNext (schedTo b j) j] := by simp only [schedTo, if_neg hj]
theorem below_drewN0 {B : Nat} {w W : World} (h : Below B w W) (n : Nat) : Below B w (W.drewN n) := ⟨h.os, h.tape, h.output, h.size, h.block⟩
theorem below_alloc0 {w W : World} (h : Below w.heap.size w W) (o : Obj) : Below w.heap.size w (W.alloc o) := h.alloc h.size o
theorem cell_a1 {W : World} {g j : Nat} {cs : Array Value} {t : TypeId} {v : Value} (hg : g = W.heap.size) (h : cs[j]? = some v) : (W.alloc (.cells cs t)).cell? ⟨g, j, none⟩ = some v := by
  subst hg
  rw [cell_of_row _ _ j cs t (0, 0) (heap_alloc_new W _), h]
theorem cell_a2 {W : World} {g j : Nat} {cs : Array Value} {t : TypeId} {v : Value} {o : Obj} (hg : g = W.heap.size) (h : cs[j]? = some v) : ((W.alloc (.cells cs t)).alloc o).cell? ⟨g, j, none⟩ = some v := by
  subst hg
  rw [cell_of_row _ _ j cs t (0, 0) (heap_alloc2_old W _ _), h]
/-- What a cell holds, whatever it is. -/
def oldAt (W : World) (a : Addr) : Value := (W.cell? a).getD undef
/-- What the statement that reckons a further word reads and writes. -/
def SchedS (B j : Nat) (x16 x7 : UInt32) (W : World) : Prop :=
  W.cell? ⟨B, j - 16, none⟩ = some (.int .u32 (w32 x16)) ∧ W.cell? ⟨B, j - 7, none⟩ = some (.int .u32 (w32 x7)) ∧ W.cell? ⟨B, j, none⟩ = some (oldAt W ⟨B, j, none⟩) ∧ W.frozen? ⟨B, j, none⟩ = false
theorem schedS_of {W : World} {B j : Nat} {t : TypeId} {l : List UInt32} {x16 x7 : UInt32}
    (hk : ∀ W' : World, URow W' B t l → W'.cell? ⟨B, j - 16, none⟩ = some (.int .u32 (w32 x16)) ∧ W'.cell? ⟨B, j - 7, none⟩ = some (.int .u32 (w32 x7))) (hj : j < l.length) (hU : URow W B t l) : SchedS B j x16 x7 W := by
  refine ⟨(hk W hU).1, (hk W hU).2, ?_, hU.frozen j⟩
  unfold oldAt
  rw [hU.cell j hj]
  rfl
theorem schedS_set {W : World} {B j : Nat} {x16 x7 : UInt32} {v : Value} (h16 : 16 ≤ j) (h : SchedS B j x16 x7 W) : SchedS B j x16 x7 (W.setCell ⟨B, j, none⟩ v) := by
  obtain ⟨h1, h2, h3, h4⟩ := h
  refine ⟨?_, ?_, ?_, by rw [World.frozen?_setCell]; exact h4⟩
  · rw [World.cell?_setCell_other]
    · exact h1
    · intro e; injection e with _ e2 _; omega
  · rw [World.cell?_setCell_other]
    · exact h2
    · intro e; injection e with _ e2 _; omega
  · unfold oldAt
    rw [World.cell?_setCell_same' _ _ _ (by rw [h3]; rfl)]
    rfl
set_option maxRecDepth 100000 in
set_option maxHeartbeats 2000000 in
theorem schedule_any (b : Bytes) (g o cap : Nat) (w : World) (hg : g < w.heap.size) (hc : ∀ j, j < 64 → w.cell? ⟨g, o + j, none⟩ = some (.int .u8 ((b.getD j 0).toNat : Int))) :
    Calls Tryd.prog 67 #[.slice (some ⟨g, o, none⟩) 64 cap] w fun e w' => e = .returned (.agg (uCells (schedTo b 64))) ∧ Below w.heap.size w w' := by
  have HC := Lib.hid hc
  clear hc
  go_enter Tryd.func67, Tryd.ntmps67
  go_wp2
  generalize hW : w.alloc _ = W
  have hU : URow W w.heap.size 88 (schedRow b 0) := by rw [← hW]; exact heap_alloc_new w _
  have hB : Below w.heap.size w W := by rw [← hW]; exact (Below.refl _ _).alloc (Nat.le_refl _) _
  have hsz : W.heap.size = w.heap.size + 1 := by rw [← hW]; simp
  clear hW
  go_loopw [7] (fun i wr => ∃ j : Nat, j ≤ 16 ∧ i = .int .i64 j ∧ Below w.heap.size w wr ∧ URow wr w.heap.size 88 (schedRow b j)) (fun i _ => 16 - (intOf i).toNat)
  case atStart => exact ⟨0, Nat.zero_le _, rfl, hB, hU⟩
  case round =>
    obtain ⟨j, hj, rfl, hBr, hUr⟩ := hrel
    by_cases hlt : j < 16
    · have c0 := (hBr.cell (p := ⟨g, o + 4 * j, none⟩) hg).trans (HC.out (4 * j) (by omega))
      have c1 := (hBr.cell (p := ⟨g, o + (4 * j + 1), none⟩) hg).trans (HC.out (4 * j + 1) (by omega))
      have c2 := (hBr.cell (p := ⟨g, o + (4 * j + 2), none⟩) hg).trans (HC.out (4 * j + 2) (by omega))
      have c3 := (hBr.cell (p := ⟨g, o + (4 * j + 3), none⟩) hg).trans (HC.out (4 * j + 3) (by omega))
      have HX : Hid (word b j = (b.getD (4 * j) 0).toUInt32 <<< 24 ||| (b.getD (4 * j + 1) 0).toUInt32 <<< 16 ||| (b.getD (4 * j + 2) 0).toUInt32 <<< 8 ||| (b.getD (4 * j + 3) 0).toUInt32) := rfl
      generalize b.getD (4 * j) 0 = b0 at c0 HX
      generalize b.getD (4 * j + 1) 0 = b1 at c1 HX
      generalize b.getD (4 * j + 2) 0 = b2 at c2 HX
      generalize b.getD (4 * j + 3) 0 = b3 at c3 HX
      have jj : (j : Int) < 16 := by omega
      have j0 : 0 ≤ (j : Int) := by omega
      have j64 : (j : Int) < 64 := by omega
      have m0 : IntKind.i64.wrap (4 * (j : Int)) = 4 * (j : Int) := IntWalk.i64_in _ (by omega)
      have m1 : IntKind.i64.wrap (4 * (j : Int) + 1) = 4 * (j : Int) + 1 := IntWalk.i64_in _ (by omega)
      have m2 : IntKind.i64.wrap (4 * (j : Int) + 2) = 4 * (j : Int) + 2 := IntWalk.i64_in _ (by omega)
      have m3 : IntKind.i64.wrap (4 * (j : Int) + 3) = 4 * (j : Int) + 3 := IntWalk.i64_in _ (by omega)
      have p0 : 0 ≤ 4 * (j : Int) := by omega
      have p1 : 0 ≤ 4 * (j : Int) + 1 := by omega
      have p2 : 0 ≤ 4 * (j : Int) + 2 := by omega
      have p3 : 0 ≤ 4 * (j : Int) + 3 := by omega
      have q0 : 4 * (j : Int) < 64 := by omega
      have q1 : 4 * (j : Int) + 1 < 64 := by omega
      have q2 : 4 * (j : Int) + 2 < 64 := by omega
      have q3 : 4 * (j : Int) + 3 < 64 := by omega
      have n0 : (4 * (j : Int)).toNat = 4 * j := by omega
      have n1 : (4 * (j : Int) + 1).toNat = 4 * j + 1 := by omega
      have n2 : (4 * (j : Int) + 2).toNat = 4 * j + 2 := by omega
      have n3 : (4 * (j : Int) + 3).toNat = 4 * j + 3 := by omega
      go_wp2
      go_still_tail 35, (by kernel_rfl)
      change wpList _ _ _ _ _ wr.drew
      have hU2 : URow wr.drew w.heap.size 88 (schedRow b j) := hUr
      have hB2 : Below w.heap.size w wr.drew := hBr.drew
      generalize wr.drew = w2 at hU2 hB2
      have cw := hU2.cell j (by rw [schedRow_length _ _ (by omega)]; omega)
      have fw := hU2.frozen j
      go_wp2
      go_roundw
      case rel => exact ⟨j + 1, by omega, by go_num, hB2.setCell (Nat.le_refl _) _, by rw [← schedRow_set b j (by omega) _ (schedTo_word b j hlt), HX.out]; exact hU2.set j _⟩
      case measure => simp [intOf]; omega
    · obtain rfl : j = 16 := by omega
      clear hU hB hsz hlt hj
      go_wp2
      rw [show (((16 : Nat) : Int)) = (16 : Int) from rfl]
      go_loopw [4] (fun i wr => ∃ j : Nat, 16 ≤ j ∧ j ≤ 64 ∧ i = .int .i64 j ∧ Below w.heap.size w wr ∧ URow wr w.heap.size 88 (schedRow b j)) (fun i _ => 64 - (intOf i).toNat)
      case atStart => exact ⟨16, Nat.le_refl _, by omega, rfl, hBr, hUr⟩
      case round =>
        obtain ⟨j, hj16, hj, rfl, hBy, hUy⟩ := hrel
        by_cases hlt : j < 64
        · have jj : (j : Int) < 64 := by omega
          have j0 : 0 ≤ (j : Int) := by omega
          have w15 : IntKind.i64.wrap ((j : Int) - 15) = (j : Int) - 15 := IntWalk.i64_in _ (by omega)
          have w2 : IntKind.i64.wrap ((j : Int) - 2) = (j : Int) - 2 := IntWalk.i64_in _ (by omega)
          have w16 : IntKind.i64.wrap ((j : Int) - 16) = (j : Int) - 16 := IntWalk.i64_in _ (by omega)
          have w7 : IntKind.i64.wrap ((j : Int) - 7) = (j : Int) - 7 := IntWalk.i64_in _ (by omega)
          have z15 : 15 ≤ (j : Int) := by omega
          have z2 : 2 ≤ (j : Int) := by omega
          have z16 : 16 ≤ (j : Int) := by omega
          have z7 : 7 ≤ (j : Int) := by omega
          have y15 : 0 ≤ (j : Int) - 15 := by omega
          have y2 : 0 ≤ (j : Int) - 2 := by omega
          have y16 : 0 ≤ (j : Int) - 16 := by omega
          have y7 : 0 ≤ (j : Int) - 7 := by omega
          have l15 : (j : Int) - 15 < 64 := by omega
          have l2 : (j : Int) - 2 < 64 := by omega
          have l16 : (j : Int) - 16 < 64 := by omega
          have l7 : (j : Int) - 7 < 64 := by omega
          have n15 : ((j : Int) - 15).toNat = j - 15 := by omega
          have n2 : ((j : Int) - 2).toNat = j - 2 := by omega
          have n16 : ((j : Int) - 16).toNat = j - 16 := by omega
          have n7 : ((j : Int) - 7).toNat = j - 7 := by omega
          have hlen := schedRow_length b j hj
          have c15 := hUy.cell (j - 15) (by omega)
          have c2 := hUy.cell (j - 2) (by omega)
          have c16 := hUy.cell (j - 16) (by omega)
          have c7 := hUy.cell (j - 7) (by omega)
          rw [schedRow_get _ _ _ (by omega)] at c15 c2 c16 c7
          have HN : Hid (schedNext (schedTo b j) j = (schedTo b j).getD (j - 16) 0 + (mix ((schedTo b j).getD (j - 15) 0) [7, 18] ^^^ (schedTo b j).getD (j - 15) 0 >>> 3) + (schedTo b j).getD (j - 7) 0 + (mix ((schedTo b j).getD (j - 2) 0) [17, 19] ^^^ (schedTo b j).getD (j - 2) 0 >>> 10)) := rfl
          generalize (schedTo b j).getD (j - 15) 0 = x15 at c15 HN
          generalize (schedTo b j).getD (j - 2) 0 = x2 at c2 HN
          have HK : Hid (∀ W' : World, URow W' w.heap.size 88 (schedRow b j) → W'.cell? ⟨w.heap.size, j - 16, none⟩ = some (.int .u32 (w32 ((schedTo b j).getD (j - 16) 0))) ∧ W'.cell? ⟨w.heap.size, j - 7, none⟩ = some (.int .u32 (w32 ((schedTo b j).getD (j - 7) 0)))) := fun W' h => by
            have e16 := h.cell (j - 16) (by omega)
            have e7 := h.cell (j - 7) (by omega)
            rw [schedRow_get _ _ _ (by omega)] at e16 e7
            exact ⟨e16, e7⟩
          generalize (schedTo b j).getD (j - 16) 0 = x16 at c16 HN HK
          generalize (schedTo b j).getD (j - 7) 0 = x7 at c7 HN HK
          have HJ : Hid (j < (schedRow b j).length) := by show _ < _; omega
          have HB := Lib.hid hBy
          have HUy := Lib.hid hUy
          clear hlen
          go_wp2
          go_quiet (fail)
          go_wp2
          go_region_held3 (fun W' => W'.cell? ⟨w.heap.size, j - 16, none⟩ = some (.int .u32 (w32 x16)) ∧ W'.cell? ⟨w.heap.size, j - 7, none⟩ = some (.int .u32 (w32 x7)) ∧ W'.cell? ⟨w.heap.size, j, none⟩ = some (oldAt W' ⟨w.heap.size, j, none⟩) ∧ W'.frozen? ⟨w.heap.size, j, none⟩ = false)
            (first | (refine schedS_of HK.out HJ.out ?_; (repeat (first | exact HUy.out | apply URow.drew | apply URow.drewN | apply URow.alloc)); done) | (refine schedS_set hj16 (schedS_of HK.out HJ.out ?_); (repeat (first | exact HUy.out | apply URow.drew | apply URow.drewN | apply URow.alloc)); done))
            (first | (go_at_call 68; (with_reducible refine (mixed_7_18 x15 _ _ _ ?_ ?_).mono ?_); (first | exact cell_a1 (by simp) rfl | exact cell_a2 (by simp) rfl); (first | exact cell_a1 (by simp) rfl | exact cell_a2 (by simp) rfl); rintro e w' ⟨rfl, rfl⟩) | (go_at_call 68; (with_reducible refine (mixed_17_19 x2 _ _ _ ?_ ?_).mono ?_); (first | exact cell_a1 (by simp) rfl | exact cell_a2 (by simp) rfl); (first | exact cell_a1 (by simp) rfl | exact cell_a2 (by simp) rfl); rintro e w' ⟨rfl, rfl⟩))
          all_goals
            rename_i hHeld
            clear hHeld c15 c2 c16 c7
            go_wp2
            go_roundw
            case rel =>
              refine ⟨j + 1, by omega, by omega, by go_num, ?_, ?_⟩
              · refine Below.setCell (p := ⟨w.heap.size, j, none⟩) ?_ (Nat.le_refl _) _
                repeat (first | exact HB.out | apply below_alloc0 | apply below_drewN0 | apply Below.drew)
              · rw [← schedRow_set b j hlt _ (schedTo_next b j (by omega)), HN.out]
                refine URow.set ?_ j _
                repeat (first | exact HUy.out | apply URow.drew | apply URow.drewN | apply URow.alloc)
            case measure => simp [intOf]; omega
        · obtain rfl : j = 64 := by omega
          have HU : Hid (wr.heap[w.heap.size]? = some (.cells (uCells (schedRow b 64)) 88 (0, 0))) := hUy
          have HSz : Hid ((Tryd.prog.info? 88).map (·.size) = some (uCells (schedRow b 64)).size) := by show _ = _; rw [uCells_size, schedRow_length _ _ (Nat.le_refl _)]; kernel_rfl
          have HF : Hid (schedTo b 64 = schedRow b 64) := by show _ = _; unfold schedRow; simp
          clear hlt hj hj16 hUr hBr
          generalize hcs : uCells (schedRow b 64) = cs at HU HSz
          have HCs := Lib.hid hcs
          clear hcs
          have HTh : Hid (wr.there w.heap.size 0 cs.size) := by show wr.there _ _ _; rw [← HCs.out, uCells_size]; exact hUy.there
          have HOne : Hid (cs.all (·.oneCell') = true) := by show _ = _; rw [← HCs.out]; exact uCells_one _
          have HU2 : Hid ((wr.setCells w.heap.size 0 cs.toList).heap[w.heap.size]? = some (.cells cs 88 (0, 0))) := by
            show _ = _
            rw [← HCs.out]
            exact hUy.setAll rfl
          clear hUy
          go_wp2_with (first | ((with_reducible refine wpList_load_row ?_ 88 (.tmp 2) ?_ w.heap.size ?_ 88 cs (0, 0) _ HU.out Tryd.underlying88 ?_ HSz.out ?_); exact rfl; exact rfl; exact rfl; exact rfl) | ((with_reducible refine wpList_store_mid ?_ 88 (.tmp 2) (.tmp 83) ?_ w.heap.size 0 cs ?_ ?_ HTh.out HSz.out HOne.out ?_); exact rfl; exact rfl; exact rfl; exact rfl))
          refine bodyPost_ret (v := .agg cs) (results_cell_row rfl _ _ w.heap.size 88 cs (0, 0) _ rfl HU2.out Tryd.underlying88 rfl HSz.out) rfl ⟨?_, below_setCells _ _ hBy (Nat.le_refl _)⟩
          rw [HF.out, HCs.out]
end Go.Proofs.YteemhemnkdgehaaDoor
