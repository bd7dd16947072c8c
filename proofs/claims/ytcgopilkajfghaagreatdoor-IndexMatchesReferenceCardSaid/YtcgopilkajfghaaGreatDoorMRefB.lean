import Derived.Test.YtcgopilkajfghaaGreatDoorMTreeB
import Derived.Test.YtcgopilkajfghaaGreatDoorMPlain
import Derived.Laws.AppendOwnNone
import Derived.Test.YtcgopilkajfghaaGreatDoorMRefA
import Derived.Test.YtcgopilkajfghaaGreatDoorMWire
set_option linter.unusedVariables false
set_option linter.unusedSimpArgs false

section
/- append of a list of strings; joining of strings; the length of a way. -/
namespace Go.Proofs.YtcgopilkajfghaaGreatDoor
open Go.RowKit Go.Shelf

/-- append of a list. -/
theorem append_SS {ops : Array Oper} {rest : List Oper} {o : Oper} {a : Act} {Q : Exit → Act → World → Prop} {wr : World} (hgd : o.guard = none) (s x : Operand)
    (ho : o.op = .call { callee := .builtin .append, args := #[s, x], argTypes := #[91, 91] }) (base b2 : Nat) (v sv : Value) (l l2 : List Bytes)
    (hs : a.eval s = v) (hx : a.eval x = sv) (hown : OwnS base wr v l) (hsv : OwnS b2 wr sv l2) (hlen : l.length + l2.length < 1099511627776) (hbase : base ≤ wr.heap.size) (w0 : World) (hb : Below base w0 wr)
    (h : ∀ v' w', OwnS base w' v' (l ++ l2) → wr.grownBy w' v.ownBlock → Below base w0 w' → wpList Tryz.prog ops Q rest (a.put o.dst v') w') : wpList Tryz.prog ops Q (o :: rest) a wr := by
  obtain ⟨i0, hi, hz0, hz1, hz2⟩ := info_parts infoS1
  rcases hsv.shape with ⟨rfl, rfl⟩ | ⟨g, cap, rfl, hg1, hg2, hg3, hg4⟩
  · refine wpList_append_own_none hgd s x 91 ho base 9 i0 1 Tryz.underlying91 hi v l.length _ hs hown hx ?_
    exact h v wr (by rw [List.append_nil]; exact hown) (World.grownBy.refl _ _) hb
  · refine wpList_append_own _ hgd s x 91 ho base 9 i0 (.string (⟨#[]⟩ : ByteArray)) 1 16 Tryz.underlying91 hi hz0 hz1 hz2 rfl (by decide) v l.length _ hs hown ⟨g, 0, none⟩ l2.length cap (l2.map (fun b => Value.string (bs b))) hx (by simp) (fun j u hj => World.ownsRow.cells hsv (g := g) rfl j u hj) (fun u hu => ?_) (by unfold maxLen; omega) (by omega) hbase ?_
    · obtain ⟨b, _, rfl⟩ := List.mem_map.1 hu
      rfl
    · intro v' w' hown' hg _
      refine h v' w' ?_ hg (hb.grown hg hbase fun k hk => (World.ownsRow.lt hown k hk).1)
      unfold OwnS
      rw [List.length_append, List.map_append]
      exact hown'
theorem ownS_lit (W : World) (base : Nat) (z : Bytes) (hb : base ≤ W.heap.size) : OwnS base (W.alloc (.cells #[.string (bs z)] 9)) (.slice (some ⟨W.heap.size, 0, none⟩) 1 1) [z] :=
  World.ownsRow_lit W #[.string (bs z)] 1 hb (by unfold maxLen; omega) rfl
theorem ownS_lit0 (W : World) (base : Nat) (hb : base ≤ W.heap.size) : OwnS base (W.alloc (.cells #[] 9)) (.slice (some ⟨W.heap.size, 0, none⟩) 0 0) [] :=
  World.ownsRow_lit W #[] 0 hb (by unfold maxLen; omega) rfl
theorem cat_bs1 (c : UInt8) (a : Bytes) : (⟨#[c]⟩ : ByteArray) ++ bs a = bs (c :: a) := by
  apply ByteArray.ext
  apply Array.ext'
  simp [bs, ByteArray.data_append]
theorem cat_bs (a b : Bytes) : bs a ++ bs b = bs (a ++ b) := by
  apply ByteArray.ext
  apply Array.ext'
  simp [bs, ByteArray.data_append]
theorem wayR_len (p : List Bytes) : ∀ (n i : Nat) (s : Bytes), (wayR p n i s).1.length ≤ p.length + 1 ∧ (wayR p n i s).2.length = 32 := by
  induction p with
  | nil => intro n i s; exact ⟨by simp [wayR], leafB_length _⟩
  | cons x t ih =>
    intro n i s
    unfold wayR
    split
    · exact ⟨by simp, leafB_length _⟩
    · split
      · exact ⟨by simp only [List.length_cons]; have := (ih (leftN n) i s).1; omega, nodeB_length _ _⟩
      · exact ⟨by simp only [List.length_cons]; have := (ih (n - leftN n) (i - leftN n) s).1; omega, nodeB_length _ _⟩
end Go.Proofs.YtcgopilkajfghaaGreatDoor
end

section
/- A world that goes on with lists of its own; the contracts of digest in its words. -/
namespace Go.Proofs.YtcgopilkajfghaaGreatDoor
open Go.RowKit Go.Shelf

/-- The world has gone on from w0; it has these lists. -/
def Live (w0 : World) (L : List (Value × List Bytes)) (W : World) : Prop := Below w0.heap.size w0 W ∧ Rounds W ∧ ∀ p ∈ L, OwnS 0 W p.1 p.2
theorem Live.start {w : World} (hT : Rounds w) : Live w [] w := ⟨Below.refl _ _, hT, fun _ h => by cases h⟩
theorem Live.step {w0 W W' : World} {L : List (Value × List Bytes)} (h : Live w0 L W) (hb : Below W.heap.size W W') : Live w0 L W' :=
  ⟨h.1.trans (hb.mono h.1.size), h.2.1.below hb (Nat.le_refl _), fun p hp => (h.2.2 p hp).below hb (Nat.le_refl _)⟩
theorem Live.add {w0 W : World} {L : List (Value × List Bytes)} {v : Value} {l : List Bytes} {b : Nat} (h : Live w0 L W) (ho : OwnS b W v l) : Live w0 ((v, l) :: L) W :=
  ⟨h.1, h.2.1, fun p hp => by
    rcases List.mem_cons.1 hp with rfl | hp
    · exact ho.mono (Nat.zero_le _)
    · exact h.2.2 p hp⟩
theorem Live.own {w0 W : World} {L : List (Value × List Bytes)} {v : Value} {l : List Bytes} (h : Live w0 L W) (hm : (v, l) ∈ L) : OwnS 0 W v l := h.2.2 _ hm
theorem Live.strs {w0 W : World} {L : List (Value × List Bytes)} {v : Value} {l : List Bytes} (h : Live w0 L W) (hm : (v, l) ∈ L) : StrsAt W.heap.size W v l := (h.own hm).strs
theorem Live.old {w0 W : World} {L : List (Value × List Bytes)} {v : Value} {l : List Bytes} (h : Live w0 L W) (hs : StrsAt w0.heap.size w0 v l) : StrsAt W.heap.size W v l := hs.later h.1 (Nat.le_refl _)
theorem Live.drewN {w0 W : World} {L : List (Value × List Bytes)} (h : Live w0 L W) (n : Nat) : Live w0 L (W.drewN n) := h.step (below_drewN0 (Below.refl _ _) n)
theorem Live.drew {w0 W : World} {L : List (Value × List Bytes)} (h : Live w0 L W) : Live w0 L W.drew := h.step (Below.refl _ _).drew
theorem Live.alloc {w0 W : World} {L : List (Value × List Bytes)} (h : Live w0 L W) (o : Obj) : Live w0 L (W.alloc o) := h.step ((Below.refl _ _).alloc (Nat.le_refl _) o)
/-- A list of moderate size. -/
def Sm (l : List Bytes) : Prop := l.length ≤ 100000 ∧ ∀ x ∈ l, x.length ≤ 1000
theorem Sm.take {l : List Bytes} (h : Sm l) (k : Nat) : Sm (l.take k) := ⟨by rw [List.length_take]; have := h.1; omega, fun x hx => h.2 x (List.mem_of_mem_take hx)⟩
theorem Sm.drop {l : List Bytes} (h : Sm l) (k : Nat) : Sm (l.drop k) := ⟨by rw [List.length_drop]; have := h.1; omega, fun x hx => h.2 x (List.mem_of_mem_drop hx)⟩
/-- A number of 64 bits. -/
def I64 (n : Int) : Prop := -9223372036854775808 ≤ n ∧ n ≤ 9223372036854775807
section
variable {w0 W : World} {L : List (Value × List Bytes)}
theorem root_live {v : Value} {l : List Bytes} (h : Live w0 L W) (hs : StrsAt W.heap.size W v l) (hl : Sm l) :
    Calls Tryz.prog 57 #[v] W fun e w' => e = .returned (.string (bs (rootL l))) ∧ Live w0 L w' :=
  (root_any v l W hs (by have := hl.1; omega) (fun x hx => by have := hl.2 x hx; omega) h.2.1).mono fun _ _ ⟨h1, h2⟩ => ⟨h1, h.step h2⟩
theorem sum_live (h : Live w0 L W) (S : ByteArray) (hS : S.size ≤ 1000000) :
    Calls Tryz.prog 70 #[.string S] W fun e w' => e = .returned (.string (bs (sha S.data.toList))) ∧ Live w0 L w' :=
  (sum_any S W (by omega) h.2.1).mono fun _ _ ⟨h1, h2⟩ => ⟨h1, h.step h2⟩
theorem leaf_live (h : Live w0 L W) (S : ByteArray) (hS : S.size ≤ 1000000) :
    Calls Tryz.prog 68 #[.string S] W fun e w' => e = .returned (.string (bs (leafB S.data.toList))) ∧ Live w0 L w' :=
  (leaf_any S W (by omega) h.2.1).mono fun _ _ ⟨h1, h2⟩ => ⟨h1, h.step h2⟩
theorem node_live (h : Live w0 L W) (S T : ByteArray) (hS : S.size ≤ 1000000) (hT : T.size ≤ 1000000) :
    Calls Tryz.prog 69 #[.string S, .string T] W fun e w' => e = .returned (.string (bs (nodeB S.data.toList T.data.toList))) ∧ Live w0 L w' :=
  (node_any S T W (by omega) (by omega) h.2.1).mono fun _ _ ⟨h1, h2⟩ => ⟨h1, h.step h2⟩
end
end Go.Proofs.YtcgopilkajfghaaGreatDoor
end

section
/- The reference's Sum, Leaf, Node, Chain. -/
namespace Go.Proofs.YtcgopilkajfghaaGreatDoor
open Go.RowKit Go.Shelf

theorem u32_shr24 (x : UInt32) : w32 x / (16777216 : Int) = w32 (x >>> 24) := u32_shr x 24 (by omega)
theorem u32_shr16 (x : UInt32) : w32 x / (65536 : Int) = w32 (x >>> 16) := u32_shr x 16 (by omega)
theorem u32_shr8 (x : UInt32) : w32 x / (256 : Int) = w32 (x >>> 8) := u32_shr x 8 (by omega)
attribute [local go_sem] u32_shr24 u32_shr16 u32_shr8 u8w_u32 u8m_u32
/-- The bytes of the first words. -/
def outTo (v : H8) (j : Nat) : Bytes := (v.list.take j).flatMap bytes4
theorem outTo_succ (v : H8) (j : Nat) (h : j < 8) : outTo v (j + 1) = outTo v j ++ bytes4 (v.list.getD j 0) := by
  unfold outTo
  rw [take_getD v.list 0 j (show j < 8 from h), List.flatMap_append]
  simp
theorem outTo_all (v : H8) : outTo v 8 = outH v := by
  obtain ⟨va, vb, vc, vd, ve, vf, vg, vh⟩ := v
  rfl
theorem outTo_len (v : H8) (j : Nat) (h : j ≤ 8) : (outTo v j).length = 4 * j := by
  obtain ⟨va, vb, vc, vd, ve, vf, vg, vh⟩ := v
  match j, h with
  | 0, _ => rfl
  | 1, _ => rfl
  | 2, _ => rfl
  | 3, _ => rfl
  | 4, _ => rfl
  | 5, _ => rfl
  | 6, _ => rfl
  | 7, _ => rfl
  | 8, _ => rfl
set_option maxRecDepth 100000 in
set_option maxHeartbeats 4000000 in
theorem refSum_any (s : ByteArray) (w : World) (hs : s.size ≤ 1099511627776) :
    Calls Tryz.prog 72 #[.string s] w fun e w' => e = .returned (.string (bs (sha s.data.toList))) ∧ Below w.heap.size w w' := by
  have hU0 : OwnU 0 (w.alloc (.cells #[.int .u32 1779033703, .int .u32 3144134277, .int .u32 1013904242, .int .u32 2773480762, .int .u32 1359893119, .int .u32 2600822924, .int .u32 528734635, .int .u32 1541459225] 129)) (.slice (some ⟨w.heap.size, 0, none⟩) 8 8) shaH0.list := ownU_lit w 0 shaH0.list _ 8 rfl rfl (by omega) (Nat.zero_le _)
  have hb0 : Below w.heap.size w (w.alloc (.cells #[.int .u32 1779033703, .int .u32 3144134277, .int .u32 1013904242, .int .u32 2773480762, .int .u32 1359893119, .int .u32 2600822924, .int .u32 528734635, .int .u32 1541459225] 129)) := (Below.refl _ _).alloc (Nat.le_refl _) _
  have HU0 := Lib.hid hU0
  have HB0 := Lib.hid hb0
  have hpl := pad_length s.data.toList
  have hsl : s.data.toList.length = s.size := by rw [Array.length_toList]; rfl
  have hM : ∃ M, (pad s.data.toList).length = 64 * M ∧ 1 ≤ M ∧ M ≤ 1099511627776 := ⟨_, hpl, by omega, by omega⟩
  obtain ⟨M, hM1, hM2, hM3⟩ := hM
  have HSha : Hid (sha s.data.toList = outH (blocksH M shaH0 (pad s.data.toList))) := sha_eq _ M hM1
  clear hU0 hb0 hpl hsl
  go_enter Tryz.func72, Tryz.ntmps72
  go_wp2_with fail
  refine (extended_any s _ hs).mono ?_
  rintro e w2 ⟨vb, rfl, hY, hb2⟩
  generalize pad s.data.toList = l at *
  obtain ⟨gb, cb, rfl, hgb0, hgb, hcb, hcb'⟩ := hY.shape3 (by omega)
  unfold maxLen at hcb'
  have HL := Lib.hid hM1
  rw [hM1] at hcb hY ⊢
  have HY := Lib.hid hY
  have HU2 := Lib.hid (HU0.out.below hb2 (Nat.le_refl _))
  have HB2 := Lib.hid (HB0.out.trans (hb2.mono HB0.out.size))
  clear hY hb2 hM1 HU0 HB0
  obtain ⟨L, hLL⟩ : ∃ L, L = 64 * M := ⟨_, rfl⟩
  rw [← hLL] at hcb HL HY ⊢
  have HLL := Lib.hid hLL
  clear hLL
  go_wp2
  go_loopw [3, 5] (fun v i wr => ∃ k I : Nat, k ≤ M ∧ I = 64 * k ∧ i = .int .i64 I ∧ Below w2.heap.size w2 wr ∧ (∃ gh ch, v = .slice (some ⟨gh, 0, none⟩) 8 ch) ∧ OwnU 0 wr v (blocksH k shaH0 l).list) (fun _ i _ => L - (intOf i).toNat)
  case atStart => exact ⟨0, 0, Nat.zero_le _, rfl, rfl, Below.refl _ _, ⟨_, _, rfl⟩, HU2.out⟩
  case round =>
    obtain ⟨k, I, hk, hI, rfl, hB, ⟨gh, ch, hv⟩, hU⟩ := hrel
    subst hv
    have HU := Lib.hid hU
    clear hU
    by_cases hlt : k < M
    · have hLL := HLL.out
      have HS := Lib.hid (blocksH_succ k shaH0 l)
      have hcl : ∀ j, j < 64 → wr.cell? ⟨gb, I + j, none⟩ = some (.int .u8 (((((l.drop (64 * k)).take 64).getD j 0)).toNat : Int)) := fun j hj => by
        rw [piece_getD _ _ _ hj, hI]
        exact (HY.out.below hB (Nat.le_refl _)).cell (64 * k + j) (by rw [HL.out]; omega)
      have HBk := Lib.hid (block_any (blocksH k shaH0 l) gh ch ((l.drop (64 * k)).take 64) gb I (cb - I) wr (by have := hB.size; omega) hcl HU.out)
      have w64 : IntKind.i64.wrap ((I : Int) + 64) = (I : Int) + 64 := IntWalk.i64_in _ (by omega)
      have i0 : 0 ≤ (I : Int) := by omega
      have i1 : (I : Int) < (L : Int) := by omega
      have i2 : (I : Int) + 64 ≤ (cb : Int) := by omega
      have i3 : (I : Int) ≤ (I : Int) + 64 := by omega
      have i4 : 0 ≤ (I : Int) + 64 := by omega
      have i5 : ((I : Int) + 64).toNat = I + 64 := by omega
      have HI := Lib.hid hI
      clear hcl hI hLL
      go_wp2_with fail
      refine HBk.out.mono ?_
      rintro e w3 ⟨v3, rfl, hO3, hb3⟩
      obtain ⟨g3, c3, hv3, _, _, _, _⟩ := hO3.shape3 (show 0 < 8 by decide)
      subst hv3
      have HO3 := Lib.hid (hO3.mono (Nat.zero_le _))
      have HB3 := Lib.hid (hB.trans (hb3.mono hB.size))
      clear hO3 hb3
      go_wp2
      go_roundw
      case rel => exact ⟨k + 1, I + 64, by omega, by have := HI.out; omega, by go_num, HB3.out, ⟨g3, c3, rfl⟩, by rw [HS.out]; exact HO3.out⟩
      case measure => simp [intOf]; omega
    · obtain rfl : k = M := by omega
      obtain rfl : I = L := by have := HLL.out; omega
      have HBw := Lib.hid (HB2.out.trans (hB.mono HB2.out.size))
      clear hlt hk HL HY hI HLL
      generalize blocksH k shaH0 l = v at *
      obtain ⟨wy, hwy⟩ : ∃ wy : World, wy = wr := ⟨_, rfl⟩
      rw [← hwy] at HU HBw ⊢
      clear hB hwy
      go_wp2
      go_loopw [6, 7] (fun o i wr => ∃ j : Nat, j ≤ 8 ∧ i = .int .i64 j ∧ Below wy.heap.size wy wr ∧ OwnY wy.heap.size wr o (outTo v j)) (fun _ i _ => 8 - (intOf i).toNat)
      case atStart => exact ⟨0, Nat.zero_le _, rfl, Below.refl _ _, OwnY.nil _ _⟩
      case round =>
        obtain ⟨j, hj, rfl, hBr, hO⟩ := hrel
        obtain ⟨a6, c6, hv6, _, _⟩ := hO.shape2
        subst hv6
        by_cases hlt : j < 8
        · have HS := Lib.hid (outTo_succ v j hlt)
          have HCc : Hid (∀ W : World, Below wy.heap.size wy W → W.cell? ⟨gh, j, none⟩ = some (.int .u32 (w32 (v.list.getD j 0)))) := fun W h => (HU.out.below h (Nat.le_refl _)).cell j (show j < 8 from hlt)
          have Hol := Lib.hid (outTo_len v j (by omega))
          generalize v.list.getD j 0 = x at HS HCc
          generalize outTo v j = ol at *
          have HX : Hid (bytes4 x = [(x >>> 24).toUInt8, (x >>> 16).toUInt8, (x >>> 8).toUInt8, x.toUInt8]) := rfl
          rw [HX.out] at HS
          have jj : (j : Int) < 8 := by omega
          have j0 : 0 ≤ (j : Int) := by omega
          have HO := Lib.hid hO
          clear hO
          go_wp2
          have HBr := Lib.hid hBr
          have HQ2 := Lib.hid (HCc.out wr hBr)
          clear hBr
          refine wp_region_calm ⟨[24], fun _ v W => OwnY wy.heap.size W v [(x >>> 24).toUInt8, (x >>> 16).toUInt8, (x >>> 8).toUInt8, x.toUInt8], fun _ => [], 99, none, 25⟩ (by kernel_rfl) (by kernel_rfl) (by kernel_rfl) (fun g h => by cases h) (fun k _ v W W' c h hg hc => rowY_kept h hg fun g hh => (hc g hh).1) ?_
          iterate 24 (refine calm_quiet (v := ?_) (by rfl) (by rfl) (fun W hW hD => ?_) ?_; rotate_left; (· (have q2 := grown_cell0 hW HQ2.out; clear hD hW; go_simp; try with_reducible rfl)); simp only [Act.put, List.setIfInBounds_toArray, List.set_cons_zero, List.set_cons_succ, Nat.reduceAdd, Nat.zero_add])
          refine calm_makes (by rfl) (by rfl) (fun W hW hD K hK => ?_) (fun v52 => ?_)
          · have ho := ownY_lit W W.heap.size [(x >>> 24).toUInt8, (x >>> 16).toUInt8, (x >>> 8).toUInt8, x.toUInt8] #[.int .u8 ((x >>> 24).toUInt8.toNat : Int), .int .u8 ((x >>> 16).toUInt8.toNat : Int), .int .u8 ((x >>> 8).toUInt8.toNat : Int), .int .u8 (x.toUInt8.toNat : Int)] 4 rfl rfl (by omega) (Nat.le_refl _)
            refine wp_of_run (v := .slice (some ⟨W.heap.size, 0, none⟩) 4 4) (w' := W.alloc (.cells #[.int .u8 ((x >>> 24).toUInt8.toNat : Int), .int .u8 ((x >>> 16).toUInt8.toNat : Int), .int .u8 ((x >>> 8).toUInt8.toNat : Int), .int .u8 (x.toUInt8.toNat : Int)] 5)) ?_ (hK _ _ (made_below (OwnY.mono ho (Nat.le_trans HBr.out.size hW.size)) ((Below.refl _ _).alloc (Nat.le_refl _) _) (World.ownsRow.lt ho)))
            clear hD hW hK ho
            go_simp
          simp only [Act.put, List.setIfInBounds_toArray, List.set_cons_zero, List.set_cons_succ, Nat.reduceAdd, Nat.zero_add]
          refine calm_tail (by rfl) fun W hW hF => ?_
          have h24 : OwnY wy.heap.size W v52 [(x >>> 24).toUInt8, (x >>> 16).toUInt8, (x >>> 8).toUInt8, x.toUInt8] := hF 24 (by kernel_rfl) (by kernel_rfl)
          have hbW := grown_below hW
          clear hF
          refine wpList_of_wp rfl (wp_append_Y (.tmp 28) (.tmp 52) rfl wy.heap.size wy.heap.size (.slice a6 ol.length c6) v52 ol [(x >>> 24).toUInt8, (x >>> 16).toUInt8, (x >>> 8).toUInt8, x.toUInt8] rfl rfl (HO.out.below hbW (Nat.le_refl _)) h24 (by simp) (by have := Hol.out; simp; omega) (Nat.le_trans HBr.out.size hW.size) fun v6 w6 hO6 hg6 _ => ?_)
          have hB6 : Below wy.heap.size wy w6 := (HBr.out.trans (hbW.mono HBr.out.size)).grown hg6 (Nat.le_trans HBr.out.size hW.size) (fun k hk => (World.ownsRow.lt HO.out k hk).1)
          clear h24 hbW hg6 hW
          simp only [Act.put, List.setIfInBounds_toArray, List.set_cons_zero, List.set_cons_succ, Nat.reduceAdd, Nat.zero_add]
          have HO6 := Lib.hid hO6
          have HB6 := Lib.hid hB6
          clear hO6 hB6
          go_wp2
          go_roundw
          case rel => exact ⟨j + 1, by omega, by go_num, HB6.out, by rw [HS.out]; exact HO6.out⟩
          case measure => simp [intOf]; omega
        · obtain rfl : j = 8 := by omega
          rw [outTo_all] at hO ⊢
          have hol := outH_length v
          rw [hol] at hO ⊢
          obtain ⟨g6, c6', hv6, _, _, _, _⟩ := hO.shape3 (by omega)
          injection hv6 with hv6 hv7 hv8
          subst hv6
          subst hv8
          clear hv7
          have hconv : (convert 93 9 (.slice (some ⟨g6, 0, none⟩) 32 c6)).run Tryz.prog wr = .ok (.string (bs (outH v))) wr := by
            refine run_convert_bytes_back wr 93 9 5 ⟨g6, 0, none⟩ c6 (outH v) Tryz.underlying93 Tryz.underlying5 Tryz.underlying9 fun i hi => ?_
            rw [Addr.add_lit, Nat.zero_add, hO.cell i hi, List.getD_eq_getElem?_getD, List.getElem?_eq_getElem hi]
            rfl
          have HR : Hid (bs (sha s.data.toList) = bs (outH v)) := congrArg bs HSha.out
          generalize bs (outH v) = OS at *
          clear hO hol
          go_wp2
          go_ret
          exact ⟨by rw [HR.out]; rfl, HBw.out.trans (hBr.mono HBw.out.size)⟩
set_option maxRecDepth 100000 in
theorem refLeaf_any (x : ByteArray) (w : World) (hs : x.size ≤ 274877906944) :
    Calls Tryz.prog 73 #[.string x] w fun e w' => e = .returned (.string (bs (leafB x.data.toList))) ∧ Below w.heap.size w w' := by
  have HS := Lib.hid (fun W => refSum_any ((⟨#[0]⟩ : ByteArray) ++ x) W (by rw [ByteArray.size_append]; show 1 + _ ≤ _; omega))
  rw [show ((⟨#[0]⟩ : ByteArray) ++ x).data.toList = 0 :: x.data.toList from by rw [toList_append]; rfl] at HS
  have HF : Hid (leafB x.data.toList = sha (0 :: x.data.toList)) := rfl
  have hno1 : ¬ (9223372036854775807 < 1 + x.size) := by omega
  have hno2 : ¬ (9223372036854775807 < (⟨#[0]⟩ : ByteArray).size + x.size) := by show ¬ (_ < 1 + _); omega
  go_enter Tryz.func73, Tryz.ntmps73
  go_wp2_with (go_at_call 72; refine (HS.out _).mono ?_; rintro e w2 ⟨rfl, hb2⟩)
  go_ret
  exact ⟨by rw [HF.out]; rfl, hb2⟩
set_option maxRecDepth 100000 in
theorem refNode_any (x y : ByteArray) (w : World) (hs : x.size ≤ 274877906944) (hs' : y.size ≤ 274877906944) :
    Calls Tryz.prog 75 #[.string x, .string y] w fun e w' => e = .returned (.string (bs (nodeB x.data.toList y.data.toList))) ∧ Below w.heap.size w w' := by
  have HS := Lib.hid (fun W => refSum_any ((⟨#[1]⟩ : ByteArray) ++ x ++ y) W (by rw [ByteArray.size_append, ByteArray.size_append]; show 1 + _ + _ ≤ _; omega))
  rw [show ((⟨#[1]⟩ : ByteArray) ++ x ++ y).data.toList = 1 :: (x.data.toList ++ y.data.toList) from by rw [toList_append, toList_append]; rfl] at HS
  have HF : Hid (nodeB x.data.toList y.data.toList = sha (1 :: (x.data.toList ++ y.data.toList))) := rfl
  have hno1 : ¬ (9223372036854775807 < 1 + x.size) := by omega
  have hno2 : ¬ (9223372036854775807 < (⟨#[1]⟩ : ByteArray).size + x.size) := by show ¬ (_ < 1 + _); omega
  have hno3 : ¬ (9223372036854775807 < 1 + x.size + y.size) := by omega
  have hno4 : ¬ (9223372036854775807 < ((⟨#[1]⟩ : ByteArray) ++ x).size + y.size) := by rw [ByteArray.size_append]; show ¬ (_ < 1 + _ + _); omega
  go_enter Tryz.func75, Tryz.ntmps75
  go_wp2_with (go_at_call 72; refine (HS.out _).mono ?_; rintro e w2 ⟨rfl, hb2⟩)
  go_ret
  exact ⟨by rw [HF.out]; rfl, hb2⟩
end Go.Proofs.YtcgopilkajfghaaGreatDoor
end

section
/- The reference implementation of wire computes the same. -/
namespace Go.Proofs.YtcgopilkajfghaaGreatDoor
open Go.RowKit Go.Shelf

theorem zigzag_any (n : Int) (w : World) (h1 : -4611686018427387903 ≤ n) (h2 : n ≤ 4611686018427387903) :
    Calls Tryz.prog 89 #[.int .i64 n] w fun e w' => e = .returned (.int .u64 (zz n : Nat)) ∧ w = w' := by
  by_cases hn : n < 0
  · have hz : ((zz n : Nat) : Int) = -n * 2 - 1 := by unfold zz; rw [if_pos hn]; omega
    rw [hz]
    clear hz
    go_enter Tryz.func89, Tryz.ntmps89
    go_wp2
    go_ret
    exact ⟨ret_int (by first | rfl | omega), rfl⟩
  · have hz : ((zz n : Nat) : Int) = n * 2 := by unfold zz; rw [if_neg hn]; omega
    rw [hz]
    clear hz
    go_enter Tryz.func89, Tryz.ntmps89
    go_wp2
    go_ret
    exact ⟨ret_int (by first | rfl | omega), rfl⟩

/-- Between two rounds. -/
def RPut (w : World) (z : Nat) (v s : Value) (W : World) : Prop := ∃ (pre : List (Nat × Bool)) (k y : Nat), grp 10 z = pre ++ grp (k + 1) y ∧ y < 128 ^ (k + 1) ∧ y < 18446744073709551616 ∧ v = .int .u64 y ∧
  W.ownsRow w.heap.size 5 1 s pre.length (byteCells (pre.map byteOf)) ∧ Below w.heap.size w W

set_option maxRecDepth 100000 in
set_option maxHeartbeats 1000000 in
theorem refPutInt_yes (n : Int) (w : World) (h1 : -4611686018427387903 ≤ n) (h2 : n ≤ 4611686018427387903) :
    Calls Tryz.prog 76 #[.int .i64 n] w fun e w' => e = .returned (.tuple #[strV (enc (zz n)), .int .i64 0]) ∧ Below w.heap.size w w' := by
  obtain ⟨i0, hi, hz0, hz1, hz2⟩ := info_parts info_u8
  have hd1 : decide (n < -4611686018427387903) = false := by simp; omega
  have hd2 : decide (4611686018427387903 < n) = false := by simp; omega
  have hzl := zz_lt n h1 h2
  go_enter Tryz.func76, Tryz.ntmps76
  go_wp2_with (go_at_call 89; refine (zigzag_any _ _ h1 h2).mono ?_; rintro e w' ⟨rfl, rfl⟩)
  go_loopw [4, 5] (fun v s W => RPut w (zz n) v s W) (fun v _ _ => (intOf v).toNat)
  case atStart => exact ⟨[], 9, zz n, rfl, by omega, hzl, rfl, World.ownsRow_nil _ _ _ _, Below.refl _ _⟩
  case round =>
    obtain ⟨pre, k, y, hg, hyk, hyz, rfl, hrow, hB⟩ := hrel
    have hlen : pre.length + 1 ≤ 10 := by
      have := grp_length 10 (zz n)
      rw [hg] at this
      have h1 : 0 < (grp (k + 1) y).length := by unfold grp; split <;> simp
      simp at this
      omega
    have HG := Lib.hid hg
    clear hg
    have hsz := hB.size
    by_cases hy : y < 128
    · have hyd : decide (128 ≤ (y : Int)) = false := by simp; omega
      have he : enc (zz n) = pre.map byteOf ++ [byteOf (y, true)] := by rw [enc, HG.out, grp_last _ _ hy, List.map_append]; rfl
      have HC : Hid (byteCells (enc (zz n)) = byteCells (pre.map byteOf) ++ [Value.int .u8 (y : Int)] ∧ (enc (zz n)).length = pre.length + 1) := by
        rw [he, byteCells_append, List.length_append, List.length_map]
        exact ⟨by rw [show byteCells [byteOf (y, true)] = [Value.int .u8 _] from rfl, byteOf_last y hy], rfl⟩
      clear he
      go_wp2_with (at_builtin; refine wpList_append_own _ rfl _ _ 93 rfl w.heap.size 5 i0 (.int .u8 0) 1 1 Tryz.underlying93 hi hz0 hz1 hz2 rfl (by decide) _ _ _ rfl (hrow.alloc _) ⟨wr.heap.size, 0, none⟩ 1 1 [_] rfl rfl (cell_one_new _ _ _) (by simp [Value.oneCell']) (by unfold maxLen; omega) (by omega) (by simp; omega) ?_; intro v' w1 hown' hgrow _; have hs := run_string_own w1 w.heap.size v' (enc (zz n)) (by rw [HC.out.1, HC.out.2]; exact hown'); have HO := Lib.hid hown'; clear hown')
      go_ret2
      exact ⟨rfl, ((hB.alloc hsz _).grown hgrow (by simp; omega) (fun j ej => (hrow.lt j ej).1))⟩
    · have hyd : decide (128 ≤ (y : Int)) = true := by simp; omega
      have he : grp 10 (zz n) = (pre ++ [(y % 128, false)]) ++ grp k (y / 128) := by rw [HG.out, grp_more _ _ hy, List.append_assoc]; rfl
      have HE := Lib.hid he
      clear he
      obtain ⟨k, rfl⟩ : ∃ j, k = j + 1 := by
        cases k with
        | zero => exact absurd hyk hy
        | succ j => exact ⟨j, rfl⟩
      go_wp2_with (at_builtin; refine wpList_append_own _ rfl _ _ 93 rfl w.heap.size 5 i0 (.int .u8 0) 1 1 Tryz.underlying93 hi hz0 hz1 hz2 rfl (by decide) _ _ _ rfl (hrow.alloc _) ⟨wr.heap.size, 0, none⟩ 1 1 [_] rfl rfl (cell_one_new _ _ _) (by simp [Value.oneCell']) (by unfold maxLen; omega) (by omega) (by simp; omega) ?_; intro v' w1 hown' hgrow _)
      refine ⟨⟨pre ++ [(y % 128, false)], k, y / 128, HE.out, by rw [Nat.pow_succ] at hyk; omega, by omega, by rw [Int.natCast_ediv]; rfl, ?_, (hB.alloc hsz _).grown hgrow (by simp; omega) (fun j ej => (hrow.lt j ej).1)⟩, ?_⟩
      · rw [List.length_append, List.map_append, byteCells_append, show byteCells ([(y % 128, false)].map byteOf) = [Value.int .u8 _] from rfl, byteOf_more _ (Nat.mod_lt _ (by omega))]
        rw [show (((y % 128 + 128 : Nat)) : Int) = (y : Int) % 128 + 128 from by omega]
        exact hown'
      · simp [intOf]; omega
theorem refPutInt_no (n : Int) (w : World) (h : n < -4611686018427387903 ∨ 4611686018427387903 < n) :
    Calls Tryz.prog 76 #[.int .i64 n] w fun e w' => e = .returned (.tuple #[strV [], .int .i64 10]) ∧ w = w' := by
  by_cases h1 : n < -4611686018427387903
  all_goals
    go_enter Tryz.func76, Tryz.ntmps76
    go_wp2
    go_ret2
    exact ⟨rfl, rfl⟩
theorem refPutInt_any (n : Int) (w : World) :
    Calls Tryz.prog 76 #[.int .i64 n] w fun e w' => e = .returned (.tuple #[strV (putInt n).1, .int .i64 (putInt n).2]) ∧ Below w.heap.size w w' := by
  by_cases h : -4611686018427387903 ≤ n ∧ n ≤ 4611686018427387903
  · rw [show putInt n = (enc (zz n), 0) from if_pos h]
    exact refPutInt_yes n w h.1 h.2
  · rw [show putInt n = ([], 10) from if_neg h]
    exact (refPutInt_no n w (by omega)).mono fun e w' ⟨he, hw⟩ => ⟨he, hw ▸ Below.refl _ _⟩

end Go.Proofs.YtcgopilkajfghaaGreatDoor
end
