/- (*digest.words).add. -/
import Derived.Test.YteemhemnkdgehaaDoorDSched
import Derived.Laws.CopyOwn
import Derived.Deep.RegionLaw
import Derived.Maps.AppendAt
namespace Go.Proofs.YteemhemnkdgehaaDoor
open Go.RowKit

attribute [local go_sem] u32_signed u32_xor u32_or u32_and u32_add u32_not u32w_add
theorem kTab_length : kTab.length = 64 := rfl
theorem tm_asInt (k : IntKind) (n : Int) (w : World) (P : Program) : (asIntOf (.int k n)).run P w = .ok (k, n) w := rfl
/-- An element of an array of words. -/
theorem idx_words (l : List UInt32) (hl : l.length = 64) (j : Nat) (hj : j < 64) (w : World) : (Instr.index 88 (.agg (uCells l)) (.int .i64 (j : Int))).run Tryd.prog w = .ok (.int .u32 (w32 (l.getD j 0))) w := by
  have hc := uCells_get l j (by omega)
  have h0 : (0 : Int) ≤ (j : Int) := by omega
  have h1 : (j : Int) < 64 := by omega
  have hs : ∀ w, (sizeOf 69).run Tryd.prog w = .ok 1 w := fun _ => by kernel_rfl
  have ha : ∀ w, (isAgg 69).run Tryd.prog w = .ok false w := fun _ => by kernel_rfl
  unfold Instr.index
  simp [Sem.run_bind, tm_asInt, run_underlying Tryd.underlying88, part, hs, ha, hc, h0, h1]
/-- The package-level table of words. -/
def Rounds (w : World) : Prop := ∀ j, j < 64 → w.cell? ⟨0, j, none⟩ = some (.int .u32 (w32 (kTab.getD j 0)))
theorem Rounds.range {w : World} (h : Rounds w) : w.rangeAt 0 0 (uCells kTab).toList := fun j v hv => by
  have hj : j < 64 := by
    have := (List.getElem?_eq_some_iff.1 hv).1
    simpa [uCells_size, kTab_length] using this
  rw [Nat.zero_add, h j hj]
  rw [Array.getElem?_toList, uCells_get kTab j hj] at hv
  exact hv
theorem Rounds.lt {w : World} (h : Rounds w) : 0 < w.heap.size := World.block_lt_of_cell? w _ (h 0 (by decide))
theorem Rounds.below {w w' : World} {B : Nat} (h : Rounds w) (hb : Below B w w') (hB : w.heap.size ≤ B) : Rounds w' := fun j hj => by
  have := h.lt
  exact (hb.cell (p := ⟨0, j, none⟩) (by show 0 < B; omega)).trans (h j hj)
theorem there_new {W : World} {cs : Array Value} {t : TypeId} {n : Nat} (hn : n ≤ cs.size) : (W.alloc (.cells cs t)).there W.heap.size 0 n := fun j hj => by
  have h := heap_alloc_new W (.cells cs t)
  rw [Nat.zero_add]
  refine ⟨?_, frozen_of_row _ _ j _ _ h⟩
  rw [cell_of_row _ _ j cs t (0, 0) h, Array.getElem?_eq_getElem (by omega)]
  rfl
theorem setCells_new (W : World) (l l' : List UInt32) (t : TypeId) (h : l'.length = l.length) : URow ((W.alloc (.cells (uCells l) t)).setCells W.heap.size 0 (uCells l').toList) W.heap.size t l' := (URow.new W t l).setAll h
theorem size_setCells (B : Nat) : ∀ (vs : List Value) (o : Nat) (W : World), (W.setCells B o vs).heap.size = W.heap.size
  | [], _, _ => rfl
  | v :: r, o, W => by
    show ((W.setCell ⟨B, o, none⟩ v).setCells B (o + 1) r).heap.size = _
    rw [size_setCells B r (o + 1)]
    simp
theorem infoU32 : (Tryd.prog.info? 69).map (·.size) = some 1 := by kernel_rfl
theorem zero8 : uCells (List.replicate 8 0) = #[.int .u32 0, .int .u32 0, .int .u32 0, .int .u32 0, .int .u32 0, .int .u32 0, .int .u32 0, .int .u32 0] := rfl
/-- The world of a walk becomes a letter. -/
theorem wp_gen {P : Program} {c : Code} {Q : Exit → Act → World → Prop} {a : Act} {W : World} (R : World → Prop) (h : R W) (k : ∀ W', R W' → c.wp P Q a W') : c.wp P Q a W := k W h
/-- The cells of eight words. -/
theorem URow.eight {W : World} {B : Nat} {t : TypeId} {xa xb xc xd xe xf xg xh : UInt32} (h : URow W B t (H8.mk xa xb xc xd xe xf xg xh).list) :
    W.cell? ⟨B, 0, none⟩ = some (.int .u32 (w32 xa)) ∧ W.cell? ⟨B, 1, none⟩ = some (.int .u32 (w32 xb)) ∧ W.cell? ⟨B, 2, none⟩ = some (.int .u32 (w32 xc)) ∧ W.cell? ⟨B, 3, none⟩ = some (.int .u32 (w32 xd)) ∧
    W.cell? ⟨B, 4, none⟩ = some (.int .u32 (w32 xe)) ∧ W.cell? ⟨B, 5, none⟩ = some (.int .u32 (w32 xf)) ∧ W.cell? ⟨B, 6, none⟩ = some (.int .u32 (w32 xg)) ∧ W.cell? ⟨B, 7, none⟩ = some (.int .u32 (w32 xh)) :=
  ⟨h.cell 0 (show 0 < 8 by decide), h.cell 1 (show 1 < 8 by decide), h.cell 2 (show 2 < 8 by decide), h.cell 3 (show 3 < 8 by decide), h.cell 4 (show 4 < 8 by decide), h.cell 5 (show 5 < 8 by decide), h.cell 6 (show 6 < 8 by decide), h.cell 7 (show 7 < 8 by decide)⟩
theorem info64 : (Tryd.prog.info? 88).map (·.size) = some 64 := by kernel_rfl
theorem infoWords : (Tryd.prog.info? 71).map (·.size) = some 8 := by kernel_rfl
theorem zero64 : uCells (List.replicate 64 0) = #[.int .u32 0, .int .u32 0, .int .u32 0, .int .u32 0, .int .u32 0, .int .u32 0, .int .u32 0, .int .u32 0, .int .u32 0, .int .u32 0, .int .u32 0, .int .u32 0, .int .u32 0, .int .u32 0, .int .u32 0, .int .u32 0, .int .u32 0, .int .u32 0, .int .u32 0, .int .u32 0, .int .u32 0, .int .u32 0, .int .u32 0, .int .u32 0, .int .u32 0, .int .u32 0, .int .u32 0, .int .u32 0, .int .u32 0, .int .u32 0, .int .u32 0, .int .u32 0, .int .u32 0, .int .u32 0, .int .u32 0, .int .u32 0, .int .u32 0, .int .u32 0, .int .u32 0, .int .u32 0, .int .u32 0, .int .u32 0, .int .u32 0, .int .u32 0, .int .u32 0, .int .u32 0, .int .u32 0, .int .u32 0, .int .u32 0, .int .u32 0, .int .u32 0, .int .u32 0, .int .u32 0, .int .u32 0, .int .u32 0, .int .u32 0, .int .u32 0, .int .u32 0, .int .u32 0, .int .u32 0, .int .u32 0, .int .u32 0, .int .u32 0, .int .u32 0] := rfl

theorem grownBy_below {w W W' : World} {B : Nat} {row : Option Nat} (h : Below B w W) (hB : w.heap.size ≤ B) (hg : W.grownBy W' row) : w.grownBy W' row :=
  ⟨hg.os.trans h.os, hg.tape.trans h.tape, hg.output.trans h.output, Nat.le_trans h.size hg.size, fun k hk hr => (hg.block k (Nat.lt_of_lt_of_le hk h.size) hr).trans (h.block k (Nat.lt_of_lt_of_le hk hB))⟩
theorem grownBy_drew0 {w W : World} {row : Option Nat} (h : w.grownBy W row) : w.grownBy W.drew row := ⟨h.os, h.tape, h.output, h.size, h.block⟩
theorem grownBy_set {w W : World} {B j : Nat} {v : Value} (h : w.grownBy W (some B)) : w.grownBy (W.setCell ⟨B, j, none⟩ v) (some B) :=
  ⟨h.os, h.tape, h.output, by simpa using h.size, fun k hk hr => (heap_setCell_other W _ k v (fun e => hr (by rw [e]))).trans (h.block k hk hr)⟩
theorem URow.grown {W W' : World} {B : Nat} {row : Option Nat} {t : TypeId} {l : List UInt32} (h : URow W B t l) (hg : W.grownBy W' row) (hr : some B ≠ row) : URow W' B t l := (hg.block B h.lt hr).trans h
/-- The sums so far. -/
def plusRow (s v : H8) (i : Nat) : List UInt32 := (plusH s v).list.take i ++ s.list.drop i
theorem plusRow_length (s v : H8) (i : Nat) (h : i ≤ 8) : (plusRow s v i).length = 8 := by
  unfold plusRow
  rw [List.length_append, List.length_take, List.length_drop]
  show min i 8 + (8 - i) = 8
  omega
theorem plusRow_get (s v : H8) (i : Nat) (h : i < 8) : (plusRow s v i).getD i 0 = s.list.getD i 0 := by
  unfold plusRow
  rw [List.getD_eq_getElem?_getD, List.getElem?_append_right (by rw [List.length_take]; omega), List.length_take, List.getElem?_drop, List.getD_eq_getElem?_getD]
  congr 2
  show i + (i - min i 8) = i
  omega
theorem plusRow_set (s v : H8) (i : Nat) (h : i < 8) : (plusRow s v i).set i (s.list.getD i 0 + v.list.getD i 0) = plusRow s v (i + 1) := by
  have h8 : i = 0 ∨ i = 1 ∨ i = 2 ∨ i = 3 ∨ i = 4 ∨ i = 5 ∨ i = 6 ∨ i = 7 := by omega
  rcases h8 with rfl | rfl | rfl | rfl | rfl | rfl | rfl | rfl <;> rfl
/-- 'copy(v[1:], v[:7])'. -/
theorem copy_shift {W : World} {V : Nat} {xa xb xc xd xe xf xg xh : UInt32} (h : URow W V 71 (H8.mk xa xb xc xd xe xf xg xh).list) :
    ∃ W', (Builtin.copy_ #[77, 77] 3 #[.slice (some ⟨V, 1, none⟩) 7 7, .slice (some ⟨V, 0, none⟩) 7 8]).run Tryd.prog W = .ok (.int .i64 7) W' ∧ URow W' V 71 [xa, xa, xb, xc, xd, xe, xf, xg] ∧ Below V W W' := by
  refine ⟨_, run_copy_row _ W 77 77 3 69 V 1 7 7 ⟨V, 0, none⟩ 7 8 _ 71 (uCells [xa, xb, xc, xd, xe, xf, xg]).toList Tryd.underlying77 infoU32 h rfl ?_ (show 8 ≤ 8 by decide) ?_, setRow_heap W V _ _ _ _ h, below_setRow (Below.refl _ _) (Nat.le_refl _) _⟩
  · intro j v hv
    have hj : j < 7 := (List.getElem?_eq_some_iff.1 hv).1
    rw [Addr.add_mid, Nat.zero_add, h.cell j (show j < 8 by omega)]
    rw [Array.getElem?_toList, uCells_get [xa, xb, xc, xd, xe, xf, xg] j hj] at hv
    rw [← hv]
    congr 2
    have e : (H8.mk xa xb xc xd xe xf xg xh).list = [xa, xb, xc, xd, xe, xf, xg] ++ [xh] := rfl
    rw [e, List.getD_eq_getElem?_getD, List.getElem?_append_left (show j < 7 from hj), ← List.getD_eq_getElem?_getD]
  · intro v hv
    obtain ⟨x, _, rfl⟩ := List.mem_map.1 hv
    rfl
set_option maxRecDepth 100000 in
set_option maxHeartbeats 400000 in
theorem add_any (s : H8) (b : Bytes) (Bh g o cap : Nat) (w : World) (hg : g < w.heap.size) (hc : ∀ j, j < 64 → w.cell? ⟨g, o + j, none⟩ = some (.int .u8 ((b.getD j 0).toNat : Int))) (hU : URow w Bh 71 s.list) (hT : Rounds w) :
    Calls Tryd.prog 55 #[.pointer (some ⟨Bh, 0, none⟩), .slice (some ⟨g, o, none⟩) 64 cap] w fun e w' => (∃ v, e = .returned v) ∧ URow w' Bh 71 (blockH s b).list ∧ w.grownBy w' (some Bh) := by
  have HC := Lib.hid hc
  have HT := Lib.hid hT
  have HU := Lib.hid hU
  clear hc hT hU
  go_enter Tryd.func55, Tryd.ntmps55
  have HSz : Hid ((Tryd.prog.info? 88).map (·.size) = some (uCells (schedTo b 64)).size) := by show _ = _; rw [uCells_size, schedTo_length]; exact info64
  have HOne := Lib.hid (uCells_one (schedTo b 64))
  have HLen := Lib.hid (schedTo_length b 64)
  generalize hws : schedTo b 64 = ws at *
  have HWs := Lib.hid hws
  have HSch := Lib.hid (schedule_any b g o cap w hg HC.out)
  rw [hws] at HSch
  clear hws
  have HSw : Hid ((Tryd.prog.info? 71).map (·.size) = some (uCells s.list).size) := infoWords
  have HOw := Lib.hid (uCells_one s.list)
  have HSk : Hid ((Tryd.prog.info? 88).map (·.size) = some (uCells kTab).toList.length) := info64
  have hBh := HU.out.lt
  go_wp2_with (first
    | (go_at_call 67; refine HSch.out.mono ?_; rintro e w1 ⟨rfl, hb1⟩)
    | ((with_reducible refine wpList_store_mid ?_ 88 (.tmp 4) (.tmp 14) ?_ w1.heap.size 0 (uCells ws) ?_ ?_ (there_new ?_) HSz.out HOne.out ?_); exact rfl; exact rfl; exact rfl; exact rfl; (rw [uCells_size, HLen.out]; exact Nat.le_refl 64); rw [← zero64]; have hz1 := hb1.size; have HU2 := Lib.hid (setCells_new w1 (List.replicate 64 0) ws 88 HLen.out); have HB2 := Lib.hid (below_setCells (C := w1.heap.size) (B := w1.heap.size) (uCells ws).toList 0 ((Below.refl w1.heap.size w1).alloc (Nat.le_refl _) (.cells (uCells (List.replicate 64 0)) 88)) (Nat.le_refl _)); have hz2 := (size_setCells w1.heap.size (uCells ws).toList 0 (w1.alloc (.cells (uCells (List.replicate 64 0)) 88))).trans (World.size_alloc _ _); generalize World.setCells _ _ _ _ = W2 at HU2 HB2 hz2 ⊢; have HZ2 := Lib.hid hz2; replace hz2 : w1.heap.size < W2.heap.size := (by omega); have HUh : Hid (W2.heap[Bh]? = some (.cells (uCells s.list) 71 (0, 0))) := (HU.out.below hb1 hBh).below HB2.out (by omega))
    | ((with_reducible refine wpList_load_row ?_ 71 (.tmp 16) ?_ Bh ?_ 71 (uCells s.list) (0, 0) _ HUh.out Tryd.underlying71 ?_ HSw.out ?_); exact rfl; exact rfl; exact rfl; exact rfl)
    | ((with_reducible refine wpList_store_mid ?_ 71 (.tmp 5) (.tmp 17) ?_ W2.heap.size 0 (uCells s.list) ?_ ?_ (there_new ?_) HSw.out HOw.out ?_); exact rfl; exact rfl; exact rfl; exact rfl; exact Nat.le_refl 8; rw [← zero8]; have HU3 := Lib.hid (setCells_new W2 (List.replicate 8 0) s.list 71 rfl); have HB3 := Lib.hid (below_setCells (C := W2.heap.size) (B := W2.heap.size) (uCells s.list).toList 0 ((Below.refl W2.heap.size W2).alloc (Nat.le_refl _) (.cells (uCells (List.replicate 8 0)) 71)) (Nat.le_refl _)); have hz3 := (size_setCells W2.heap.size (uCells s.list).toList 0 (W2.alloc (.cells (uCells (List.replicate 8 0)) 71))).trans (World.size_alloc _ _); generalize World.setCells _ _ _ _ = W3 at HU3 HB3 hz3 ⊢; have HZ3 := Lib.hid hz3; replace hz3 : W2.heap.size < W3.heap.size := (by omega); have HT3 := Lib.hid (((HT.out.below hb1 (Nat.le_refl _)).below HB2.out (Nat.le_refl _)).below HB3.out (Nat.le_refl _)))
    | ((with_reducible refine wpList_load_mid ?_ 88 (.global 0) ?_ 0 0 ?_ (uCells kTab).toList _ HT3.out.range Tryd.underlying88 ?_ HSk.out ?_); exact rfl; exact rfl; exact rfl; exact rfl)
    | fail)
  have HUw := Lib.hid (HU2.out.below HB3.out (by omega))
  have HB0 : Hid (Below w.heap.size w W3) := hb1.trans ((HB2.out.mono hb1.size).trans (HB3.out.mono (by omega)))
  have HUh3 : Hid (URow W3 Bh 71 s.list) := (show URow W2 Bh 71 s.list from HUh.out).below HB3.out (by omega)
  clear HB2 HU2 HB3 HZ2 HZ3 HT3 HSz HOne HOw HSw HSk HUh HSch
  obtain ⟨V, hV⟩ : ∃ V, V = W2.heap.size := ⟨_, rfl⟩
  obtain ⟨Wb, hWb⟩ : ∃ Wb, Wb = w1.heap.size := ⟨_, rfl⟩
  have hVW : V < W3.heap.size := by omega
  have hBV : w.heap.size ≤ V := by omega
  have hWV : Wb < V := by omega
  have hBW : w.heap.size ≤ Wb := by omega
  rw [← hV] at HU3 ⊢
  rw [← hWb] at HUw ⊢
  clear hV hWb hz2 hz3 hz1 hb1
  go_loopw [19] (fun i wr => ∃ j : Nat, j ≤ 64 ∧ i = .int .i64 j ∧ Below V W3 wr ∧ URow wr V 71 (rnds s ws j).list) (fun i _ => 64 - (intOf i).toNat)
  case atStart => exact ⟨0, Nat.zero_le _, rfl, Below.refl _ _, HU3.out⟩
  case round =>
    obtain ⟨j, hj, rfl, hBr, hUr⟩ := hrel
    by_cases hlt : j < 64
    · have HS : Hid (rnds s ws (j + 1) = rnd (rnds s ws j) (kTab.getD j 0, ws.getD j 0)) := rfl
      have hUws : URow wr Wb 88 ws := HUw.out.below hBr hWV
      have hlw := HLen.out
      have cw := hUws.cell j (by omega)
      have hidx := fun W => idx_words kTab rfl j hlt W
      generalize kTab.getD j 0 = kj at hidx HS
      generalize hwj : ws.getD j 0 = wj at cw HS
      have HWj := Lib.hid hwj
      clear hwj hlw
      generalize rnds s ws j = x at hUr HS
      obtain ⟨xa, xb, xc, xd, xe, xf, xg, xh⟩ := x
      have HUr := Lib.hid hUr
      have HUs := Lib.hid hUws
      have HBr := Lib.hid hBr
      have c0 : wr.cell? ⟨V, 0, none⟩ = some (.int .u32 (w32 xa)) := hUr.cell 0 (show 0 < 8 by decide)
      have c4 : wr.cell? ⟨V, 4, none⟩ = some (.int .u32 (w32 xe)) := hUr.cell 4 (show 4 < 8 by decide)
      have jj : (j : Int) < 64 := by omega
      have j0 : 0 ≤ (j : Int) := by omega
      clear hUr hUws hBr
      go_wp2
      go_quiet (fail)
      go_wp2
      have HK : Hid (∀ W' : World, URow W' V 71 (H8.mk xa xb xc xd xe xf xg xh).list → URow W' Wb 88 ws → W'.cell? ⟨V, 7, none⟩ = some (.int .u32 (w32 xh)) ∧ W'.cell? ⟨V, 5, none⟩ = some (.int .u32 (w32 xf)) ∧ W'.cell? ⟨V, 6, none⟩ = some (.int .u32 (w32 xg)) ∧ W'.cell? ⟨Wb, j, none⟩ = some (.int .u32 (w32 wj))) := fun W' h1 h2 => ⟨h1.eight.2.2.2.2.2.2.2, h1.eight.2.2.2.2.2.1, h1.eight.2.2.2.2.2.2.1, by rw [h2.cell j (by rw [HLen.out]; exact hlt), HWj.out]⟩
      clear cw c0 c4 hidx
      go_region_held3 (fun W' => W'.cell? ⟨V, 7, none⟩ = some (.int .u32 (w32 xh)) ∧ W'.cell? ⟨V, 5, none⟩ = some (.int .u32 (w32 xf)) ∧ W'.cell? ⟨V, 6, none⟩ = some (.int .u32 (w32 xg)) ∧ W'.cell? ⟨Wb, j, none⟩ = some (.int .u32 (w32 wj)))
        (refine HK.out _ ?_ ?_ <;> ((repeat (first | exact HUr.out | exact HUs.out | apply URow.alloc | apply URow.drewN | apply URow.drew)); done))
        (first | (go_at_call 68; (with_reducible refine (mixed_6_11_25 xe _ _ _ ?_ ?_ ?_).mono ?_); exact cell_a1 (by simp) rfl; exact cell_a1 (by simp) rfl; exact cell_a1 (by simp) rfl; rintro e w' ⟨rfl, rfl⟩))
      rename_i hHeld
      clear hHeld HK
      go_wp2
      have HT' : Hid (tU ⟨xa, xb, xc, xd, xe, xf, xg, xh⟩ kj wj = xh + mix xe [6, 11, 25] + ((xe &&& xf) ^^^ (~~~xe &&& xg)) + kj + wj) := rfl
      have HUu : Hid (uU ⟨xa, xb, xc, xd, xe, xf, xg, xh⟩ = mix xa [2, 13, 22] + ((xa &&& xb) ^^^ (xa &&& xc) ^^^ (xb &&& xc))) := rfl
      have hszr := HBr.out.size
      refine wp_gen (fun W' => URow W' V 71 (H8.mk xa xb xc xd xe xf xg xh).list ∧ Below V W3 W') ⟨by repeat (first | exact HUr.out | exact HUs.out | apply URow.alloc | apply URow.drewN | apply URow.drew), by repeat (first | exact HBr.out | (refine Below.alloc ?_ (by first | omega | (simp; omega)) _) | apply below_drewN0 | apply Below.drew)⟩ ?_
      rintro W4 ⟨hU4, hB4⟩
      have HUr2 := Lib.hid hU4
      have HBr2 := Lib.hid hB4
      have HK : Hid (∀ W' : World, URow W' V 71 (H8.mk xa xb xc xd xe xf xg xh).list → W'.cell? ⟨V, 1, none⟩ = some (.int .u32 (w32 xb)) ∧ W'.cell? ⟨V, 2, none⟩ = some (.int .u32 (w32 xc))) := fun W' h1 => ⟨h1.eight.2.1, h1.eight.2.2.1⟩
      clear hU4 hB4
      go_region_held3 (fun W' => W'.cell? ⟨V, 1, none⟩ = some (.int .u32 (w32 xb)) ∧ W'.cell? ⟨V, 2, none⟩ = some (.int .u32 (w32 xc)))
        (refine HK.out _ ?_ <;> ((repeat (first | exact HUr2.out | apply URow.alloc | apply URow.drewN | apply URow.drew)); done))
        (first | (go_at_call 68; (with_reducible refine (mixed_2_13_22 xa _ _ _ ?_ ?_ ?_).mono ?_); exact cell_a1 (by simp) rfl; exact cell_a1 (by simp) rfl; exact cell_a1 (by simp) rfl; rintro e w' ⟨rfl, rfl⟩))
      rename_i hHeld
      clear hHeld HK
      go_wp2
      have hszr2 := HBr2.out.size
      refine wp_gen (fun W' => URow W' V 71 (H8.mk xa xb xc xd xe xf xg xh).list ∧ Below V W3 W') ⟨by repeat (first | exact HUr2.out | apply URow.alloc | apply URow.drewN | apply URow.drew), by repeat (first | exact HBr2.out | (refine Below.alloc ?_ (by first | omega | (simp; omega)) _) | apply below_drewN0 | apply Below.drew)⟩ ?_
      rintro W5 ⟨hU5, hB5⟩
      clear HUr2 HBr2 hszr2 HUr HBr hszr HUs
      obtain ⟨W6, hrun, hU6, hb6⟩ := copy_shift (W := W5.drew) hU5
      have HU6 := Lib.hid hU6
      have HB6 := Lib.hid (hB5.drew.trans hb6)
      clear hU5 hB5 hU6 hb6
      go_region
      all_goals
        clear hrun
        have q0 : W6.cell? ⟨V, 0, none⟩ = some (.int .u32 (w32 xa)) := HU6.out.cell 0 (show 0 < 8 by decide)
        have q4 : W6.cell? ⟨V, 4, none⟩ = some (.int .u32 (w32 xd)) := HU6.out.cell 4 (show 4 < 8 by decide)
        have f0 : W6.frozen? ⟨V, 0, none⟩ = false := HU6.out.frozen 0
        have f4 : W6.frozen? ⟨V, 4, none⟩ = false := HU6.out.frozen 4
        go_wp2
        go_roundw
        case rel =>
          refine ⟨j + 1, by omega, by go_num, Below.setCell (p := ⟨V, 4, none⟩) (Below.setCell (p := ⟨V, 0, none⟩) HB6.out (Nat.le_refl _) _) (Nat.le_refl _) _, ?_⟩
          rw [HS.out]
          exact (HU6.out.set 0 _).set 4 _
        case measure => simp [intOf]; omega
    · obtain rfl : j = 64 := by omega
      have hUh : URow wr Bh 71 s.list := HUh3.out.below hBr (by omega)
      have HBw : Hid (Below w.heap.size w wr) := HB0.out.trans (hBr.mono hBV)
      have HBlk : Hid (blockH s b = plusH s (rnds s ws 64)) := by show _ = _; rw [← HWs.out]; rfl
      generalize rnds s ws 64 = v at hUr HBlk
      have HUv := Lib.hid hUr
      have HUh := Lib.hid hUh
      have hne : Bh ≠ V := by omega
      have hVr : V < wr.heap.size := hUr.lt
      clear hUr hUh hBr hlt hj HU3 HUw HUh3 HB0
      go_wp2
      obtain ⟨wo, hwo⟩ : ∃ wo : World, wo = wr := ⟨_, rfl⟩
      rw [← hwo] at HBw HUv HUh hVr ⊢
      clear hwo
      rw [show (((64 : Nat) : Int)) = (64 : Int) from rfl]
      go_loopw [82] (fun i wy => ∃ j : Nat, j ≤ 8 ∧ i = .int .i64 j ∧ wo.grownBy wy (some Bh) ∧ URow wy Bh 71 (plusRow s v j)) (fun i _ => 8 - (intOf i).toNat)
      case atStart => exact ⟨0, Nat.zero_le _, rfl, World.grownBy.refl _ _, HUh.out⟩
      case round =>
        obtain ⟨j, hj, rfl, hGy, hUy⟩ := hrel
        by_cases hlt : j < 8
        · have hUv := (HUv.out.grown hGy (by simp; omega))
          have cv := hUv.cell j (show j < 8 from hlt)
          have ch := hUy.cell j (by rw [plusRow_length _ _ _ hj]; exact hlt)
          have fh := hUy.frozen j
          rw [plusRow_get _ _ _ hlt] at ch
          have HS := Lib.hid (plusRow_set s v j hlt)
          generalize s.list.getD j 0 = x at ch HS
          generalize v.list.getD j 0 = y at cv HS
          have jj : (j : Int) < 8 := by omega
          have j0 : 0 ≤ (j : Int) := by omega
          have HUy := Lib.hid hUy
          have HGy := Lib.hid hGy
          clear hUv hUy hGy
          go_wp2
          go_still_tail 11, (by kernel_rfl)
          change wpList _ _ _ _ _ wr.drew
          go_wp2
          go_roundw
          case rel => exact ⟨j + 1, by omega, by go_num, grownBy_set (grownBy_drew0 HGy.out), by rw [← HS.out]; exact HUy.out.drew.set j _⟩
          case measure => simp [intOf]; omega
        · obtain rfl : j = 8 := by omega
          go_wp2
          go_end0
          refine ⟨⟨_, rfl⟩, ?_, grownBy_below HBw.out (Nat.le_refl _) hGy⟩
          rw [HBlk.out]
          exact hUy
end Go.Proofs.YteemhemnkdgehaaDoor
