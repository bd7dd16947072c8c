/- The reference's Sum, Leaf, Node, Chain. -/
import Derived.Test.YteemhemnkdgehaaDoorDRefB
import Derived.Test.YteemhemnkdgehaaDoorDLive
namespace Go.Proofs.YteemhemnkdgehaaDoor
open Go.RowKit Go.Shelf

theorem u32_shr24 (x : UInt32) : w32 x / (16777216 : Int) = w32 (x >>> 24) := u32_shr x 24 (by omega)
theorem u32_shr16 (x : UInt32) : w32 x / (65536 : Int) = w32 (x >>> 16) := u32_shr x 16 (by omega)
theorem u32_shr8 (x : UInt32) : w32 x / (256 : Int) = w32 (x >>> 8) := u32_shr x 8 (by omega)
attribute [local go_sem] u32_shr24 u32_shr16 u32_shr8 u8w_u32 u8m_u32
/-- The bytes of the first words. -/
def outTo (v : H8) (j : Nat) : Bytes := (v.list.take j).flatMap bytes4
theorem outTo_succ (v : H8) (j : Nat) (h : j < 8) : outTo v (j + 1) = outTo v j ++ bytes4 (v.list.getD j 0) := by
  unfold outTo
  rw [take_getD v.list 0 j (show j < 8 from h), List.flatMap_append]
  simp
theorem outTo_all (v : H8) : outTo v 8 = outH v := by
  obtain ⟨va, vb, vc, vd, ve, vf, vg, vh⟩ := v
  rfl
theorem outTo_len (v : H8) (j : Nat) (h : j ≤ 8) : (outTo v j).length = 4 * j := by
  obtain ⟨va, vb, vc, vd, ve, vf, vg, vh⟩ := v
  match j, h with
  | 0, _ => rfl
  | 1, _ => rfl
  | 2, _ => rfl
  | 3, _ => rfl
  | 4, _ => rfl
  | 5, _ => rfl
  | 6, _ => rfl
  | 7, _ => rfl
  | 8, _ => rfl
set_option maxRecDepth 100000 in
set_option maxHeartbeats 4000000 in
theorem refSum_any (s : ByteArray) (w : World) (hs : s.size ≤ 1099511627776) :
    Calls Tryd.prog 33 #[.string s] w fun e w' => e = .returned (.string (bs (sha s.data.toList))) ∧ Below w.heap.size w w' := by
  have hU0 : OwnU 0 (w.alloc (.cells #[.int .u32 1779033703, .int .u32 3144134277, .int .u32 1013904242, .int .u32 2773480762, .int .u32 1359893119, .int .u32 2600822924, .int .u32 528734635, .int .u32 1541459225] 69)) (.slice (some ⟨w.heap.size, 0, none⟩) 8 8) shaH0.list := ownU_lit w 0 shaH0.list _ 8 rfl rfl (by omega) (Nat.zero_le _)
  have hb0 : Below w.heap.size w (w.alloc (.cells #[.int .u32 1779033703, .int .u32 3144134277, .int .u32 1013904242, .int .u32 2773480762, .int .u32 1359893119, .int .u32 2600822924, .int .u32 528734635, .int .u32 1541459225] 69)) := (Below.refl _ _).alloc (Nat.le_refl _) _
  have HU0 := Lib.hid hU0
  have HB0 := Lib.hid hb0
  have hpl := pad_length s.data.toList
  have hsl : s.data.toList.length = s.size := by rw [Array.length_toList]; rfl
  have hM : ∃ M, (pad s.data.toList).length = 64 * M ∧ 1 ≤ M ∧ M ≤ 1099511627776 := ⟨_, hpl, by omega, by omega⟩
  obtain ⟨M, hM1, hM2, hM3⟩ := hM
  have HSha : Hid (sha s.data.toList = outH (blocksH M shaH0 (pad s.data.toList))) := sha_eq _ M hM1
  clear hU0 hb0 hpl hsl
  go_enter Tryd.func33, Tryd.ntmps33
  go_wp2_with fail
  refine (extended_any s _ hs).mono ?_
  rintro e w2 ⟨vb, rfl, hY, hb2⟩
  generalize pad s.data.toList = l at *
  obtain ⟨gb, cb, rfl, hgb0, hgb, hcb, hcb'⟩ := hY.shape3 (by omega)
  unfold maxLen at hcb'
  have HL := Lib.hid hM1
  rw [hM1] at hcb hY ⊢
  have HY := Lib.hid hY
  have HU2 := Lib.hid (HU0.out.below hb2 (Nat.le_refl _))
  have HB2 := Lib.hid (HB0.out.trans (hb2.mono HB0.out.size))
  clear hY hb2 hM1 HU0 HB0
  obtain ⟨L, hLL⟩ : ∃ L, L = 64 * M := ⟨_, rfl⟩
  rw [← hLL] at hcb HL HY ⊢
  have HLL := Lib.hid hLL
  clear hLL
  go_wp2
  go_loopw [3, 5] (fun v i wr => ∃ k I : Nat, k ≤ M ∧ I = 64 * k ∧ i = .int .i64 I ∧ Below w2.heap.size w2 wr ∧ (∃ gh ch, v = .slice (some ⟨gh, 0, none⟩) 8 ch) ∧ OwnU 0 wr v (blocksH k shaH0 l).list) (fun _ i _ => L - (intOf i).toNat)
  case atStart => exact ⟨0, 0, Nat.zero_le _, rfl, rfl, Below.refl _ _, ⟨_, _, rfl⟩, HU2.out⟩
  case round =>
    obtain ⟨k, I, hk, hI, rfl, hB, ⟨gh, ch, hv⟩, hU⟩ := hrel
    subst hv
    have HU := Lib.hid hU
    clear hU
    by_cases hlt : k < M
    · have hLL := HLL.out
      have HS := Lib.hid (blocksH_succ k shaH0 l)
      have hcl : ∀ j, j < 64 → wr.cell? ⟨gb, I + j, none⟩ = some (.int .u8 (((((l.drop (64 * k)).take 64).getD j 0)).toNat : Int)) := fun j hj => by
        rw [piece_getD _ _ _ hj, hI]
        exact (HY.out.below hB (Nat.le_refl _)).cell (64 * k + j) (by rw [HL.out]; omega)
      have HBk := Lib.hid (block_any (blocksH k shaH0 l) gh ch ((l.drop (64 * k)).take 64) gb I (cb - I) wr (by have := hB.size; omega) hcl HU.out)
      have w64 : IntKind.i64.wrap ((I : Int) + 64) = (I : Int) + 64 := IntWalk.i64_in _ (by omega)
      have i0 : 0 ≤ (I : Int) := by omega
      have i1 : (I : Int) < (L : Int) := by omega
      have i2 : (I : Int) + 64 ≤ (cb : Int) := by omega
      have i3 : (I : Int) ≤ (I : Int) + 64 := by omega
      have i4 : 0 ≤ (I : Int) + 64 := by omega
      have i5 : ((I : Int) + 64).toNat = I + 64 := by omega
      have HI := Lib.hid hI
      clear hcl hI hLL
      go_wp2_with fail
      refine HBk.out.mono ?_
      rintro e w3 ⟨v3, rfl, hO3, hb3⟩
      obtain ⟨g3, c3, hv3, _, _, _, _⟩ := hO3.shape3 (show 0 < 8 by decide)
      subst hv3
      have HO3 := Lib.hid (hO3.mono (Nat.zero_le _))
      have HB3 := Lib.hid (hB.trans (hb3.mono hB.size))
      clear hO3 hb3
      go_wp2
      go_roundw
      case rel => exact ⟨k + 1, I + 64, by omega, by have := HI.out; omega, by go_num, HB3.out, ⟨g3, c3, rfl⟩, by rw [HS.out]; exact HO3.out⟩
      case measure => simp [intOf]; omega
    · obtain rfl : k = M := by omega
      obtain rfl : I = L := by have := HLL.out; omega
      have HBw := Lib.hid (HB2.out.trans (hB.mono HB2.out.size))
      clear hlt hk HL HY hI HLL
      generalize blocksH k shaH0 l = v at *
      obtain ⟨wy, hwy⟩ : ∃ wy : World, wy = wr := ⟨_, rfl⟩
      rw [← hwy] at HU HBw ⊢
      clear hB hwy
      go_wp2
      go_loopw [6, 7] (fun o i wr => ∃ j : Nat, j ≤ 8 ∧ i = .int .i64 j ∧ Below wy.heap.size wy wr ∧ OwnY wy.heap.size wr o (outTo v j)) (fun _ i _ => 8 - (intOf i).toNat)
      case atStart => exact ⟨0, Nat.zero_le _, rfl, Below.refl _ _, OwnY.nil _ _⟩
      case round =>
        obtain ⟨j, hj, rfl, hBr, hO⟩ := hrel
        obtain ⟨a6, c6, hv6, _, _⟩ := hO.shape2
        subst hv6
        by_cases hlt : j < 8
        · have HS := Lib.hid (outTo_succ v j hlt)
          have HCc : Hid (∀ W : World, Below wy.heap.size wy W → W.cell? ⟨gh, j, none⟩ = some (.int .u32 (w32 (v.list.getD j 0)))) := fun W h => (HU.out.below h (Nat.le_refl _)).cell j (show j < 8 from hlt)
          have Hol := Lib.hid (outTo_len v j (by omega))
          generalize v.list.getD j 0 = x at HS HCc
          generalize outTo v j = ol at *
          have HX : Hid (bytes4 x = [(x >>> 24).toUInt8, (x >>> 16).toUInt8, (x >>> 8).toUInt8, x.toUInt8]) := rfl
          rw [HX.out] at HS
          have jj : (j : Int) < 8 := by omega
          have j0 : 0 ≤ (j : Int) := by omega
          have HO := Lib.hid hO
          clear hO
          go_wp2
          have HBr := Lib.hid hBr
          have HQ2 := Lib.hid (HCc.out wr hBr)
          clear hBr
          refine wp_region_calm ⟨[24], fun _ v W => OwnY wy.heap.size W v [(x >>> 24).toUInt8, (x >>> 16).toUInt8, (x >>> 8).toUInt8, x.toUInt8], fun _ => [], 99, none, 25⟩ (by kernel_rfl) (by kernel_rfl) (by kernel_rfl) (fun g h => by cases h) (fun k _ v W W' c h hg hc => rowY_kept h hg fun g hh => (hc g hh).1) ?_
          iterate 24 (refine calm_quiet (v := ?_) (by rfl) (by rfl) (fun W hW hD => ?_) ?_; rotate_left; (· (have q2 := grown_cell0 hW HQ2.out; clear hD hW; go_simp; try with_reducible rfl)); simp only [Act.put, List.setIfInBounds_toArray, List.set_cons_zero, List.set_cons_succ, Nat.reduceAdd, Nat.zero_add])
          refine calm_makes (by rfl) (by rfl) (fun W hW hD K hK => ?_) (fun v52 => ?_)
          · have ho := ownY_lit W W.heap.size [(x >>> 24).toUInt8, (x >>> 16).toUInt8, (x >>> 8).toUInt8, x.toUInt8] #[.int .u8 ((x >>> 24).toUInt8.toNat : Int), .int .u8 ((x >>> 16).toUInt8.toNat : Int), .int .u8 ((x >>> 8).toUInt8.toNat : Int), .int .u8 (x.toUInt8.toNat : Int)] 4 rfl rfl (by omega) (Nat.le_refl _)
            refine wp_of_run (v := .slice (some ⟨W.heap.size, 0, none⟩) 4 4) (w' := W.alloc (.cells #[.int .u8 ((x >>> 24).toUInt8.toNat : Int), .int .u8 ((x >>> 16).toUInt8.toNat : Int), .int .u8 ((x >>> 8).toUInt8.toNat : Int), .int .u8 (x.toUInt8.toNat : Int)] 5)) ?_ (hK _ _ (made_below (OwnY.mono ho (Nat.le_trans HBr.out.size hW.size)) ((Below.refl _ _).alloc (Nat.le_refl _) _) (World.ownsRow.lt ho)))
            clear hD hW hK ho
            go_simp
          simp only [Act.put, List.setIfInBounds_toArray, List.set_cons_zero, List.set_cons_succ, Nat.reduceAdd, Nat.zero_add]
          refine calm_tail (by rfl) fun W hW hF => ?_
          have h24 : OwnY wy.heap.size W v52 [(x >>> 24).toUInt8, (x >>> 16).toUInt8, (x >>> 8).toUInt8, x.toUInt8] := hF 24 (by kernel_rfl) (by kernel_rfl)
          have hbW := grown_below hW
          clear hF
          refine wpList_of_wp rfl (wp_append_Y (.tmp 28) (.tmp 52) rfl wy.heap.size wy.heap.size (.slice a6 ol.length c6) v52 ol [(x >>> 24).toUInt8, (x >>> 16).toUInt8, (x >>> 8).toUInt8, x.toUInt8] rfl rfl (HO.out.below hbW (Nat.le_refl _)) h24 (by simp) (by have := Hol.out; simp; omega) (Nat.le_trans HBr.out.size hW.size) fun v6 w6 hO6 hg6 _ => ?_)
          have hB6 : Below wy.heap.size wy w6 := (HBr.out.trans (hbW.mono HBr.out.size)).grown hg6 (Nat.le_trans HBr.out.size hW.size) (fun k hk => (World.ownsRow.lt HO.out k hk).1)
          clear h24 hbW hg6 hW
          simp only [Act.put, List.setIfInBounds_toArray, List.set_cons_zero, List.set_cons_succ, Nat.reduceAdd, Nat.zero_add]
          have HO6 := Lib.hid hO6
          have HB6 := Lib.hid hB6
          clear hO6 hB6
          go_wp2
          go_roundw
          case rel => exact ⟨j + 1, by omega, by go_num, HB6.out, by rw [HS.out]; exact HO6.out⟩
          case measure => simp [intOf]; omega
        · obtain rfl : j = 8 := by omega
          rw [outTo_all] at hO ⊢
          have hol := outH_length v
          rw [hol] at hO ⊢
          obtain ⟨g6, c6', hv6, _, _, _, _⟩ := hO.shape3 (by omega)
          injection hv6 with hv6 hv7 hv8
          subst hv6
          subst hv8
          clear hv7
          have hconv : (convert 46 9 (.slice (some ⟨g6, 0, none⟩) 32 c6)).run Tryd.prog wr = .ok (.string (bs (outH v))) wr := by
            refine run_convert_bytes_back wr 46 9 5 ⟨g6, 0, none⟩ c6 (outH v) Tryd.underlying46 Tryd.underlying5 Tryd.underlying9 fun i hi => ?_
            rw [Addr.add_lit, Nat.zero_add, hO.cell i hi, List.getD_eq_getElem?_getD, List.getElem?_eq_getElem hi]
            rfl
          have HR : Hid (bs (sha s.data.toList) = bs (outH v)) := congrArg bs HSha.out
          generalize bs (outH v) = OS at *
          clear hO hol
          go_wp2
          go_ret
          exact ⟨by rw [HR.out]; rfl, HBw.out.trans (hBr.mono HBw.out.size)⟩
set_option maxRecDepth 100000 in
theorem refLeaf_any (x : ByteArray) (w : World) (hs : x.size ≤ 274877906944) :
    Calls Tryd.prog 34 #[.string x] w fun e w' => e = .returned (.string (bs (leafB x.data.toList))) ∧ Below w.heap.size w w' := by
  have HS := Lib.hid (fun W => refSum_any ((⟨#[0]⟩ : ByteArray) ++ x) W (by rw [ByteArray.size_append]; show 1 + _ ≤ _; omega))
  rw [show ((⟨#[0]⟩ : ByteArray) ++ x).data.toList = 0 :: x.data.toList from by rw [toList_append]; rfl] at HS
  have HF : Hid (leafB x.data.toList = sha (0 :: x.data.toList)) := rfl
  have hno1 : ¬ (9223372036854775807 < 1 + x.size) := by omega
  have hno2 : ¬ (9223372036854775807 < (⟨#[0]⟩ : ByteArray).size + x.size) := by show ¬ (_ < 1 + _); omega
  go_enter Tryd.func34, Tryd.ntmps34
  go_wp2_with (go_at_call 33; refine (HS.out _).mono ?_; rintro e w2 ⟨rfl, hb2⟩)
  go_ret
  exact ⟨by rw [HF.out]; rfl, hb2⟩
set_option maxRecDepth 100000 in
theorem refNode_any (x y : ByteArray) (w : World) (hs : x.size ≤ 274877906944) (hs' : y.size ≤ 274877906944) :
    Calls Tryd.prog 35 #[.string x, .string y] w fun e w' => e = .returned (.string (bs (nodeB x.data.toList y.data.toList))) ∧ Below w.heap.size w w' := by
  have HS := Lib.hid (fun W => refSum_any ((⟨#[1]⟩ : ByteArray) ++ x ++ y) W (by rw [ByteArray.size_append, ByteArray.size_append]; show 1 + _ + _ ≤ _; omega))
  rw [show ((⟨#[1]⟩ : ByteArray) ++ x ++ y).data.toList = 1 :: (x.data.toList ++ y.data.toList) from by rw [toList_append, toList_append]; rfl] at HS
  have HF : Hid (nodeB x.data.toList y.data.toList = sha (1 :: (x.data.toList ++ y.data.toList))) := rfl
  have hno1 : ¬ (9223372036854775807 < 1 + x.size) := by omega
  have hno2 : ¬ (9223372036854775807 < (⟨#[1]⟩ : ByteArray).size + x.size) := by show ¬ (_ < 1 + _); omega
  have hno3 : ¬ (9223372036854775807 < 1 + x.size + y.size) := by omega
  have hno4 : ¬ (9223372036854775807 < ((⟨#[1]⟩ : ByteArray) ++ x).size + y.size) := by rw [ByteArray.size_append]; show ¬ (_ < 1 + _ + _); omega
  go_enter Tryd.func35, Tryd.ntmps35
  go_wp2_with (go_at_call 33; refine (HS.out _).mono ?_; rintro e w2 ⟨rfl, hb2⟩)
  go_ret
  exact ⟨by rw [HF.out]; rfl, hb2⟩
set_option maxRecDepth 100000 in
theorem refChain_any (x y : ByteArray) (w : World) (hs : x.size ≤ 274877906944) (hs' : y.size ≤ 274877906944) :
    Calls Tryd.prog 37 #[.string x, .string y] w fun e w' => e = .returned (.string (bs (chainB x.data.toList y.data.toList))) ∧ Below w.heap.size w w' := by
  have HS := Lib.hid (fun W => refSum_any ((⟨#[2]⟩ : ByteArray) ++ x ++ y) W (by rw [ByteArray.size_append, ByteArray.size_append]; show 1 + _ + _ ≤ _; omega))
  rw [show ((⟨#[2]⟩ : ByteArray) ++ x ++ y).data.toList = 2 :: (x.data.toList ++ y.data.toList) from by rw [toList_append, toList_append]; rfl] at HS
  have HF : Hid (chainB x.data.toList y.data.toList = sha (2 :: (x.data.toList ++ y.data.toList))) := rfl
  have hno1 : ¬ (9223372036854775807 < 1 + x.size) := by omega
  have hno2 : ¬ (9223372036854775807 < (⟨#[2]⟩ : ByteArray).size + x.size) := by show ¬ (_ < 1 + _); omega
  have hno3 : ¬ (9223372036854775807 < 1 + x.size + y.size) := by omega
  have hno4 : ¬ (9223372036854775807 < ((⟨#[2]⟩ : ByteArray) ++ x).size + y.size) := by rw [ByteArray.size_append]; show ¬ (_ < 1 + _ + _); omega
  go_enter Tryd.func37, Tryd.ntmps37
  go_wp2_with (go_at_call 33; refine (HS.out _).mono ?_; rintro e w2 ⟨rfl, hb2⟩)
  go_ret
  exact ⟨by rw [HF.out]; rfl, hb2⟩
end Go.Proofs.YteemhemnkdgehaaDoor
