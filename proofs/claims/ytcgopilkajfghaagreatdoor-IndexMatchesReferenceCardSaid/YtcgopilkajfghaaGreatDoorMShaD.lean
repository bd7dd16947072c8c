import Derived.Test.YtcgopilkajfghaaGreatDoorMShaC
import Derived.WalkMore
import Derived.Deep.LoopGhost
set_option linter.unusedVariables false
set_option linter.unusedSimpArgs false

section
/- digest.Sum computes the digest that sha names. -/
namespace Go.Proofs.YtcgopilkajfghaaGreatDoor
open Go.RowKit Go.Shelf
attribute [local go_sem] Oper.semAt_some

/-- What has been appended when so many bytes of the length are still to come. -/
def padTo (l : Bytes) (m : Nat) : Bytes := l ++ [128] ++ List.replicate (padZ l.length) 0 ++ (List.range (8 - m)).map fun i => lenByte l.length (7 - i)
theorem padTo_zero (l : Bytes) : padTo l 0 = pad l := rfl
theorem padTo_eight (l : Bytes) : padTo l 8 = l ++ [128] ++ List.replicate (padZ l.length) 0 := by unfold padTo; simp
theorem padTo_succ (l : Bytes) (q : Nat) (h : q < 8) : padTo l q = padTo l (q + 1) ++ [lenByte l.length q] := by
  unfold padTo
  rw [show 8 - q = (8 - (q + 1)) + 1 from by omega, List.range_succ, List.map_append, ← List.append_assoc]
  simp only [List.map_cons, List.map_nil]
  rw [show 7 - (8 - (q + 1)) = q from by omega]
theorem padTo_length (l : Bytes) (m : Nat) (_ : m ≤ 8) : (padTo l m).length = l.length + 1 + padZ l.length + (8 - m) := by
  unfold padTo
  simp
  omega
theorem lenByte_val (n q : Nat) : ((lenByte n q).toNat : Int) = 8 * (n : Int) / (2 : Int) ^ (8 * q) % 256 := by
  unfold lenByte
  rw [UInt8.toNat_ofNat']
  have e : (8 * (n : Int)) = ((8 * n : Nat) : Int) := by omega
  rw [e, show ((2 : Int) ^ (8 * q)) = ((2 ^ (8 * q) : Nat) : Int) from by push_cast; rfl, ← Int.natCast_ediv]
  generalize 8 * n / 2 ^ (8 * q) = t
  omega
theorem h0_row : uCells shaH0.list = #[.int .u32 1779033703, .int .u32 3144134277, .int .u32 1013904242, .int .u32 2773480762, .int .u32 1359893119, .int .u32 2600822924, .int .u32 528734635, .int .u32 1541459225] := rfl

/-- What the pieces make of the words. -/
def stepH (b : Bytes) (h : H8) (i : Nat) : H8 := blockH h ((b.drop (64 * i)).take 64)
def stH (b : Bytes) {m : Nat} (pre : List (Fin m)) : H8 := pre.foldl (fun h i => stepH b h i.1) shaH0
theorem stH_snoc (b : Bytes) {m : Nat} (pre : List (Fin m)) (x : Fin m) : stH b (pre ++ [x]) = stepH b (stH b pre) x.1 := by unfold stH; rw [List.foldl_append]; rfl
theorem stH_upTo (b : Bytes) (m : Nat) : ∀ i, i ≤ m → stH b (upTo m i) = blocksH i shaH0 b
  | 0, _ => rfl
  | i + 1, h => by rw [upTo_succ m i h, stH_snoc, stH_upTo b m i (by omega), blocksH_succ]; rfl
theorem sha_eq (l : Bytes) (m : Nat) (h : (pad l).length = 64 * m) : sha l = outH (blocksH m shaH0 (pad l)) := by
  unfold sha
  rw [h, Nat.mul_div_cancel_left _ (by decide)]
theorem piece_getD (b : Bytes) (i j : Nat) (hj : j < 64) : ((b.drop (64 * i)).take 64).getD j 0 = b.getD (64 * i + j) 0 := by
  rw [List.getD_eq_getElem?_getD, List.getElem?_take, if_pos hj, List.getElem?_drop, List.getD_eq_getElem?_getD]
/-- Between two rounds. -/
def SumI (b : Bytes) (m H : Nat) (W0 : World) (pre : List (Fin m)) (W : World) : Prop := URow W H 131 (stH b pre).list ∧ W0.grownBy W (some H)
theorem sumI_own (b : Bytes) (m H B : Nat) (W0 : World) (hB : W0.heap.size ≤ B) (hH : H < B) : OwnFrom B (SumI b m H W0) := by
  intro s W W' row h hg hr
  refine ⟨h.1.grown hg (fun e => by have := (hr H e.symm).1; omega), World.grownBy.andThen h.2 hg fun j hj => .inl ?_⟩
  have := (hr j hj).1
  omega
set_option maxRecDepth 100000 in
set_option maxHeartbeats 1000000 in
theorem sum_any (s : ByteArray) (w : World) (hs : s.size ≤ 1099511627776) (hT : Rounds w) :
    Calls Tryz.prog 70 #[.string s] w fun e w' => e = .returned (.string (bs (sha s.data.toList))) ∧ Below w.heap.size w w' := by
  obtain ⟨cap, W1, hconv, hown, hb1, hz1⟩ := conv_own (w.alloc (.cells #[.int .u32 1779033703, .int .u32 3144134277, .int .u32 1013904242, .int .u32 2773480762, .int .u32 1359893119, .int .u32 2600822924, .int .u32 528734635, .int .u32 1541459225] 131)) s (by unfold maxLen; omega)
  have hU0 : URow (w.alloc (.cells (uCells shaH0.list) 131)) w.heap.size 131 shaH0.list := URow.new _ _ _
  rw [h0_row] at hU0
  rw [World.size_alloc] at hconv hown hb1 hz1
  have hU1 := hU0.below hb1 (Nat.lt_succ_self _)
  have hb01 : Below w.heap.size w W1 := ((Below.refl _ _).alloc (Nat.le_refl _) _).trans (hb1.mono (Nat.le_succ _))
  have HU1 := Lib.hid hU1
  have HB1 := Lib.hid hb01
  have HOwn := Lib.hid hown
  have HTlt := Lib.hid hT.lt
  have HT := Lib.hid (hT.below hb01 (Nat.le_refl _))
  have HZ1 := Lib.hid hz1
  have hz1' : w.heap.size + 1 < W1.heap.size := by omega
  clear hU0 hU1 hb1 hb01 hown hT hz1
  refine (callsIn_wide (n := 4)).1 ?_
  refine callsIn_of_wp_marks Tryz.func70 rfl trivial ?_
  simp only [Tryz.ntmps70, List.size_toArray, List.length_cons, List.length_nil, Nat.reduceAdd, Nat.reduceSub, Array.replicate_succ, Array.replicate_zero, List.push_toArray, List.append_toArray, List.nil_append, List.cons_append]
  refine wpIn_wide.2 ?_
  obtain ⟨l, hl⟩ : ∃ l, l = s.data.toList := ⟨_, rfl⟩
  have hln : l.length = s.size := by rw [hl]; rfl
  have HL := Lib.hid hl
  have HLn := Lib.hid hln
  clear hl hln
  go_wp2_with (at_builtin; refine append_byte rfl _ _ rfl (w.heap.size + 1) (.slice (some ⟨w.heap.size + 1, 0, none⟩) s.size cap) s.data.toList 128 rfl rfl HOwn.out (by show s.size < _; omega) (by omega) W1 (Below.refl _ _) ?_; intro v2 w2 hown2 hb2)
  rw [← HL.out] at hown2
  clear hconv HOwn
  generalize hbase : w.heap.size + 1 = base at *
  have HBase := Lib.hid hbase
  have hWB : W1.heap.size ≥ base := by omega
  have hP64 := padZ_lt s.size
  clear hbase
  go_loopg [4] (padZ s.size) (fun gk v wr => ∃ z, z + gk = padZ s.size ∧ BOwn base wr v (l ++ [128] ++ List.replicate z 0) ∧ Below base W1 wr)
  case atStart => exact ⟨0, by omega, by simpa using hown2, hb2⟩
  case round =>
    obtain ⟨z, hz, hown, hB⟩ := hrel
    obtain ⟨g, cp, hv⟩ := hown.shape
    have hlen : (l ++ [128] ++ List.replicate z 0).length = s.size + 1 + z := by simp; have := HLn.out; omega
    rw [hlen] at hv
    have hend := padZ_end s.size z (by omega)
    have HOw := Lib.hid hown
    have HLen := Lib.hid hlen
    have hzB := hB.size
    clear hown hlen
    generalize hLL : s.size + 1 + z = L at *
    have hL2 : L ≤ 1099511627776 + 100 := by omega
    have hL3 : L = s.size + 1 + z := hLL.symm
    have HL3 := Lib.hid hL3
    clear hLL hL3
    subst hv
    by_cases hze : z = padZ s.size
    · have ht : (((L : Nat) : Int) % 64 != 56) = false := by
        have : L % 64 = 56 := hend.2 hze
        simp; omega
      clear hend
      have HFull : Hid (BOwn base wr (.slice (some ⟨g, 0, none⟩) L cp) (padTo l 8)) := by show BOwn _ _ _ _; rw [padTo_eight, HLn.out, ← hze]; exact HOw.out
      clear HOw HLen HL3 hze hz hP64 hb2 hown2
      go_wp2
      go_loopw [4, 5] (fun v i wr => ∃ m : Nat, m ≤ 8 ∧ i = .int .i64 ((m : Int) - 1) ∧ BOwn base wr v (padTo l m) ∧ Below base W1 wr) (fun _ i _ => (intOf i + 1).toNat)
      case atStart => exact ⟨8, Nat.le_refl _, rfl, HFull.out, hB⟩
      case round =>
        clear HFull hB hzB
        obtain ⟨m, hm, rfl, hown, hB⟩ := hrel
        obtain ⟨g, cp, hv⟩ := hown.shape
        have hlen := padTo_length l m hm
        have hP64 := padZ_lt l.length
        rw [HLn.out] at hlen hP64
        have hzB := hB.size
        have HOw := Lib.hid hown
        have HLen := Lib.hid hlen
        rw [hlen] at hv
        generalize hLL : s.size + 1 + padZ s.size + (8 - m) = L at *
        have HL3 := Lib.hid hLL
        have hL2 : L ≤ 1099511627776 + 100 := by omega
        clear hLL hlen hown
        subst hv
        rcases Nat.eq_zero_or_pos m with hm0 | hm0
        · subst hm0
          rw [padTo_zero] at HOw
          have hM : L = 64 * ((s.size + 72) / 64) := by
            have h1 := pad_length l
            have h2 := HLen.out
            have h3 := HL3.out
            rw [padTo_zero] at h2
            rw [HLn.out] at h1
            omega
          have HPl : Hid ((pad l).length = L) := by show _ = _; have h1 := pad_length l; rw [HLn.out] at h1; omega
          obtain ⟨g', cp', hv', q1, q2, q3, q4, q5, q6⟩ := HOw.out
          obtain ⟨rfl, rfl⟩ : g = g' ∧ cp = cp' := by
            have := hv'
            simp only [Value.slice.injEq, Option.some.injEq, Addr.mk.injEq] at this
            exact ⟨this.1.1, this.2.2⟩
          rw [HPl.out] at q3
          have HC := Lib.hid q5
          clear q5 q6 hv'
          generalize hMM : (s.size + 72) / 64 = M at *
          have HMM := Lib.hid hMM
          clear hMM
          subst hM
          go_wp2_with (go_at_call 83; refine (chunk_any _ _ _ _).mono ?_; rintro e w' ⟨rfl, rfl⟩)
          have hr0 : Below wr.heap.size wr ((wr.alloc (.cells #[.slice (some ⟨g, 0, none⟩) (64 * M) cp] 93)).alloc (.cells #[.int .i64 64] 3)) := ((Below.refl _ _).alloc (Nat.le_refl _) _).alloc (by simp) _
          have hsb : Boxed ((wr.alloc (.cells #[.slice (some ⟨g, 0, none⟩) (64 * M) cp] 93)).alloc (.cells #[.int .i64 64] 3)) wr.heap.size 93 (.slice (some ⟨g, 0, none⟩) (64 * M) cp) := (Boxed.new wr 93 (.slice (some ⟨g, 0, none⟩) (64 * M) cp)).alloc _
          have hnb : Boxed ((wr.alloc (.cells #[.slice (some ⟨g, 0, none⟩) (64 * M) cp] 93)).alloc (.cells #[.int .i64 64] 3)) (wr.heap.size + 1) 3 (.int .i64 64) := by
            have := Boxed.new (wr.alloc (.cells #[.slice (some ⟨g, 0, none⟩) (64 * M) cp] 93)) 3 (.int .i64 64)
            rwa [World.size_alloc] at this
          have hzr : ((wr.alloc (.cells #[.slice (some ⟨g, 0, none⟩) (64 * M) cp] 93)).alloc (.cells #[.int .i64 64] 3)).heap.size = wr.heap.size + 2 := by simp
          obtain ⟨W2, hW2⟩ : ∃ W2, W2 = (wr.alloc (.cells #[.slice (some ⟨g, 0, none⟩) (64 * M) cp] 93)).alloc (.cells #[.int .i64 64] 3) := ⟨_, rfl⟩
          rw [← hW2] at hr0 hsb hnb hzr ⊢
          clear hW2
          have hH : w.heap.size < base := by have := HBase.out; omega
          have hU2 : URow W2 w.heap.size 131 shaH0.list := (HU1.out.below hB hH).below hr0 (by omega)
          refine (wpIn_wide (n := 4)).1 ?_
          refine wpIn_rangeFunc_ownG rfl (by omega) (gf := 94) (lb := #[.pointer (some ⟨wr.heap.size, 0, none⟩), .pointer (some ⟨wr.heap.size + 1, 0, none⟩)]) rfl trivial (enters_of Tryz.func94 (by kernel_rfl) rfl)
            (chunk1_seq _ wr.heap.size (wr.heap.size + 1) g M cp (KpBut W2.heap.size w.heap.size) W2 hsb hnb q3 q4 (fun A B h => h _ (by omega) (by omega)) (fun A B h => h _ (by omega) (by omega))) kpBut_t (kpBut_b (Nat.le_refl _)) (Below.refl _ _) (fun _ => rfl)
            (SumI (pad l) M w.heap.size W2) (fun _ _ _ => False) (sumI_own _ _ _ _ _ (Nat.le_refl _) (by omega)) (fun c => fun _ _ _ _ h => h.elim)
            ⟨hU2, World.grownBy.refl _ _⟩ ?a1 ?assign ?body ?done ?stop
          case assign =>
            intro l' x W' K hK
            gi_wp2
            exact hK
          case stop =>
            rintro D c pre W' _ _ h _
            exact h.elim
          case body =>
            rintro l' pre ⟨x, hx⟩ W' ⟨hU, hG⟩ hlt
            dsimp only
            have hzG := hG.size
            have hTr : Rounds W' := by
              have h1 := HT.out
              have h2 := h1.lt
              have h3 : 0 ≠ w.heap.size := fun e => by have := HTlt.out; omega
              intro j hj
              have e1 := (hB.trans (hr0.mono (by omega))).cell (p := ⟨0, j, none⟩) (by show 0 < base; have := HTlt.out; omega)
              exact hG.cell (e1.trans (h1 j hj)) (fun e => h3 (Option.some.inj e))
            have hcl : ∀ j, j < 64 → W'.cell? ⟨g, 64 * x + j, none⟩ = some (.int .u8 (((((pad l).drop (64 * x)).take 64).getD j 0).toNat : Int)) := fun j hj => by
              rw [piece_getD _ _ _ hj]
              have e1 := (hr0.cell (p := ⟨g, 64 * x + j, none⟩) q2).trans (HC.out (64 * x + j) (by rw [HPl.out]; omega))
              exact hG.cell e1 (fun e => by have e' : g = w.heap.size := Option.some.inj e; omega)
            have HAdd := Lib.hid (add_any (stH (pad l) pre) (((pad l).drop (64 * x)).take 64) w.heap.size g (64 * x) 64 W' (by omega) hcl hU hTr)
            have HSt := Lib.hid (stH_snoc (pad l) pre ⟨x, hx⟩)
            clear hcl hTr
            gi_wp2_with (refine ⟨trivial, ?_⟩; gi_at_call 84; refine (CallsIn.inRound l' (callsIn_wide.2 HAdd.out)).mono ?_; rintro e w3 ⟨⟨v, rfl⟩, hU3, hG3⟩)
            refine ⟨KeepsFrom.of_grownBy hG3 (fun j hj => by cases hj; omega), kpBut_grown hG3 hzG, ?_, hG.trans hG3⟩
            rw [HSt.out]
            exact hU3
          case done =>
            rintro D xs W' hD rfl ⟨hU, hG⟩ hK
            rw [stH_upTo _ _ _ (Nat.le_refl _)] at hU
            have HSha : Hid (sha s.data.toList = outH (blocksH M shaH0 (pad l))) := by show _ = _; rw [← HL.out]; exact sha_eq l M HPl.out
            generalize blocksH M shaH0 (pad l) = v at hU HSha
            obtain ⟨xa, xb, xc, xd, xe, xf, xg, xh⟩ := v
            obtain ⟨c0, c1, c2, c3, c4, c5, c6, c7⟩ := hU.eight
            have HK := Lib.hid hK
            have HG := Lib.hid hG
            have hzG := hG.size
            clear hK hU hG
            go_wp2_with (go_at_call 85; refine (digest_any ⟨xa, xb, xc, xd, xe, xf, xg, xh⟩ W').mono ?_; rintro e w9 ⟨rfl, hb9⟩)
            have hKD := HK.out
            have hDlt : D < W'.heap.size := (Array.getElem?_eq_some_iff.1 hKD).1
            have hall : Below w.heap.size w w9 := ((((HB1.out.trans (hB.mono (by omega))).trans (hr0.mono (by omega))).grown HG.out (by omega) (fun k hk => by cases hk; exact Nat.le_refl _)).trans (hb9.mono (by omega)))
            have HSha' := HSha.out
            refine leaves_marks (B := w.heap.size) [D] w9 ⟨by simp, fun D' hD' => ?_⟩ fun W9 hb' _ => ?_
            · rw [List.mem_singleton.1 hD']
              exact ⟨by omega, (hb9.block D hDlt).trans hKD⟩
            · exact ⟨_, results_tmp rfl _ _ _, by rw [HSha']; rfl, hall.trans hb'⟩
        · obtain ⟨q, rfl⟩ : ∃ q, m = q + 1 := ⟨m - 1, by omega⟩
          rw [show (((q + 1 : Nat) : Int) - 1) = (q : Int) by omega]
          have HB := Lib.hid (lenByte_val l.length q)
          rw [HLn.out] at HB
          have HS := Lib.hid (padTo_succ l q (by omega))
          rw [HLn.out] at HS
          generalize lenByte s.size q = z at HB HS
          have hq8 : (q : Int) < 8 := by omega
          go_wp2_with (at_builtin; rw [← HB.out]; refine append_byte rfl _ _ rfl base (.slice (some ⟨g, 0, none⟩) L cp) (padTo l (q + 1)) z rfl rfl HOw.out (by rw [HLen.out]; omega) (by omega) W1 hB ?_; intro v3 w3 hown3 hb3)
          go_roundw
          case rel => exact ⟨q, by omega, by go_num, by rw [HS.out]; exact hown3, hb3⟩
          case measure => simp [intOf]
    · have ht : (((L : Nat) : Int) % 64 != 56) = true := by
        have : L % 64 ≠ 56 := fun e => hze (hend.1 e)
        simp; omega
      clear hend
      go_wp2_with (at_builtin; refine append_byte rfl _ _ rfl base (.slice (some ⟨g, 0, none⟩) L cp) (l ++ [128] ++ List.replicate z 0) 0 rfl rfl HOw.out (by rw [HLen.out]; omega) (by omega) W1 hB ?_; intro v3 w3 hown3 hb3)
      go_roundg (gk - 1)
      case measure => omega
      case rel => exact ⟨z + 1, by omega, by rw [List.replicate_succ', ← List.append_assoc]; exact hown3, hb3⟩
end Go.Proofs.YtcgopilkajfghaaGreatDoor
end
