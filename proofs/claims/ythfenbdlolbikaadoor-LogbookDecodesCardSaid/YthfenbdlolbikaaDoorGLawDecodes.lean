/- LogbookDecodes: the walk. -/
import Derived.Test.YthfenbdlolbikaaDoorGCom
import Derived.Test.YthfenbdlolbikaaDoorDMore
set_option linter.unusedVariables false
set_option linter.unusedSimpArgs false
namespace Go.Proofs.YthfenbdlolbikaaDoor
open Go.RowKit Go.Shelf

theorem dec_facts {a b : LRec} (ha : recB a = true) (hb : recB b = true) : ∃ S T : ByteArray, bs (encE a).1 = S ∧ (encE a).2 = 0 ∧ bs (encE b).1 = T ∧ (encE b).2 = 0 ∧ decE S.data.toList = (a, 0) ∧ 0 < S.size ∧ S.size ≤ 250 ∧ T.size ≤ 250 ∧ (S.toList == T.toList) = (a == b) ∧
    (a ≠ b → S.size ≤ T.size → ((T.extract 0 S.size).toList == S.toList) = false) ∧ (a ≠ b → T.size ≤ S.size → ((S.extract 0 T.size).toList == T.toList) = false) := by
  have ea : encE a = (encR a, 0) := by unfold encE; rw [ha]; rfl
  have eb : encE b = (encR b, 0) := by unfold encE; rw [hb]; rfl
  rw [ea, eb]
  have pre : ∀ x y : LRec, recB x = true → recB y = true → x ≠ y → ((bs (encR y)).extract 0 (encR x).length).toList = encR x → False := fun x y hx hy hne h => by
    rw [extract_bs, bs_toList] at h
    have h2 := List.take_append_drop (encR x).length (encR y)
    rw [h] at h2
    have h2 := h2.symm
    exact hne (encR_prefix (recB_fits hy) (recB_fits hx) h2).1.symm
  refine ⟨_, _, rfl, rfl, rfl, rfl, ?_, by rw [bs_size]; exact encR_pos a, by rw [bs_size]; exact encR_length ha, by rw [bs_size]; exact encR_length hb, ?_, fun hne _ => ?_, fun hne _ => ?_⟩
  · rw [bs_list]
    unfold decE
    rw [decR_encR ha]
  · rw [bs_toList, bs_toList, Bool.eq_iff_iff, beq_iff_eq, beq_iff_eq]
    exact ⟨fun h => encR_inj (recB_fits ha) (recB_fits hb) h, fun h => by rw [h]⟩
  · rw [beq_eq_false_iff_ne, bs_size, bs_toList]
    exact fun h => pre a b ha hb hne h
  · rw [beq_eq_false_iff_ne, bs_size, bs_toList]
    exact fun h => pre b a hb ha (fun e => hne e.symm) h
theorem dec_again (Z : ByteArray) : (∃ r, decE Z.data.toList = (r, 0) ∧ encE r = (Z.data.toList, 0)) ∨ ∃ r, decE Z.data.toList = (r, 380) := by
  unfold decE
  cases h : decR Z.data.toList with
  | none => exact .inr ⟨_, rfl⟩
  | some r =>
    have := encR_of_decR h
    exact .inl ⟨r, rfl, by unfold encE; rw [this.1, this.2]; rfl⟩
/-- What the steps of the region leave. -/
def DecF (B : Nat) (c : UInt8) (Z0 Z1 : ByteArray) : Nat → Value → World → Prop := fun k v W =>
  if k = 9 then ∃ g, v = .slice (some ⟨g, 0, none⟩) 1 1 ∧ B ≤ g ∧ W.heap[g]? = some (.cells #[.int .u8 (c.toNat : Int)] 5 (0, 0))
  else ∃ g, v = .slice (some ⟨g, 0, none⟩) 2 2 ∧ B ≤ g ∧ W.heap[g]? = some (.cells #[.string Z0, .string Z1] 9 (0, 0))
theorem decF_kept {B k : Nat} {c : UInt8} {Z0 Z1 : ByteArray} {v : Value} {W W' : World} {cc : Option Nat} (h : DecF B c Z0 Z1 k v W) (hg : W.grownBy W' cc) (hc : ∀ g, cc = some g → False) : DecF B c Z0 Z1 k v W' := by
  unfold DecF at h ⊢
  split at h
  · rename_i hk; rw [if_pos hk]
    obtain ⟨g, rfl, hB, hb⟩ := h
    exact ⟨g, rfl, hB, (hg.block g (Array.getElem?_eq_some_iff.1 hb).1 fun e => hc g e.symm).trans hb⟩
  · rename_i hk; rw [if_neg hk]
    obtain ⟨g, rfl, hB, hb⟩ := h
    exact ⟨g, rfl, hB, (hg.block g (Array.getElem?_eq_some_iff.1 hb).1 fun e => hc g e.symm).trans hb⟩
def TwoN (g : Nat) (Z0 Z1 : ByteArray) (W : World) : Prop := W.heap[g]? = some (.cells #[.string Z0, .string Z1] 9 (0, 0))
theorem keep_two {W : World} {g : Nat} {Z0 Z1 : ByteArray} (h : TwoN g Z0 Z1 W) : ∀ W', Below W.heap.size W W' → TwoN g Z0 Z1 W' := fun _ hb => (hb.block g (Array.getElem?_eq_some_iff.1 h).1).trans h
def twoZ (Z0 Z1 : ByteArray) (k : Nat) : ByteArray := if k = 0 then Z0 else Z1
theorem TwoN.cell {W : World} {g : Nat} {Z0 Z1 : ByteArray} (h : TwoN g Z0 Z1 W) (k : Nat) (hk : k < 2) : W.cell? ⟨g, k, none⟩ = some (.string (twoZ Z0 Z1 k)) := by
  rw [Lib.cell_of_heap (show W.heap[g]? = _ from h)]
  match k, hk with
  | 0, _ => rfl
  | 1, _ => rfl
set_option maxRecDepth 100000 in
set_option maxHeartbeats 8000000 in
theorem lawDecodes (at_ : Int) (x : Nat → Int) (th : Int) (y : Nat → Int) (txt : ByteArray) (pl : Int) (c : UInt8) (w : World) (ha : I64 at_) (hx : ∀ i, i < 4 → -9223372036854775808 ≤ x i ∧ x i ≤ 9223372036854775807) (hth : I64 th) (hy : ∀ i, i < 4 → -9223372036854775808 ≤ y i ∧ y i ≤ 9223372036854775807) (hpl : I64 pl) (hT : Rounds w) :
    Calls Tryd.prog 8 #[.int .i64 at_, fourV x, .int .i64 th, fourV y, .string txt, .int .i64 pl, .int .u8 (c.toNat : Int)] w fun e w' => e = .returned (.bool true) ∧ Below w.heap.size w w' := by
  have HX := Lib.hid hx
  have HY := Lib.hid hy
  have hra := entry_rec at_ x
  have hrb := entry_rec th y
  have HEa : Hid (∀ W, Calls Tryd.prog 15 #[.int .i64 at_, fourV x] W fun e w' => e = .returned (recV (entryZ at_ x)) ∧ Below W.heap.size W w') := fun W => entry_any at_ x W ha hx
  have HEb : Hid (∀ W, Calls Tryd.prog 15 #[.int .i64 th, fourV y] W fun e w' => e = .returned (recV (entryZ th y)) ∧ Below W.heap.size W w') := fun W => entry_any th y W hth hy
  have hL0 := (((LiveP.start hT).alloc (.cells #[.int .i64 (x 0), .int .i64 (x 1), .int .i64 (x 2), .int .i64 (x 3)] 37)).add (P := FourN w.heap.size x) (keep_four (four_new w x))).alloc (.cells #[.int .i64 (y 0), .int .i64 (y 1), .int .i64 (y 2), .int .i64 (y 3)] 37)
  have hL0 := hL0.add (P := FourN (w.heap.size + 1) y) (keep_four (by have := four_new (w.alloc (.cells #[.int .i64 (x 0), .int .i64 (x 1), .int .i64 (x 2), .int .i64 (x 3)] 37)) y; rwa [World.size_alloc] at this))
  have HL0 := Lib.hid hL0
  generalize entryZ at_ x = a at *
  generalize entryZ th y = b at *
  obtain ⟨S, T, i1, i2, i3, i4, i5, hS0, hS, hTz, i9, i10, i11⟩ := dec_facts hra hrb
  have I1 := Lib.hid i1
  have I2 := Lib.hid i2
  have I3 := Lib.hid i3
  have I4 := Lib.hid i4
  have I5 := Lib.hid i5
  have I9 := Lib.hid i9
  have I10 := Lib.hid i10
  have I11 := Lib.hid i11
  have HPl := Lib.hid (fun W => gpick_any pl (S.size : Int) W hpl.1 hpl.2 (by omega) (by omega))
  have hpk := pickZ_bd pl (S.size : Int) (by omega)
  obtain ⟨k, hk⟩ := Int.eq_ofNat_of_zero_le hpk.1
  rw [hk] at HPl hpk
  clear hk i1 i2 i3 i4 i5 i9 i10 i11 hL0 hx hy hT
  obtain ⟨mt, emt, hmt1, hmt2⟩ := cut_min txt 60 (by omega)
  have hmt3 := cut_size txt mt hmt2
  have HEq := fun W : World => run_eqlRec a b W
  have HNq := fun W : World => run_neqRec a b W
  have hself : ∀ W : World, (binOp .neq 27 (recV a) (recV a)).run Tryd.prog W = .ok (.bool false) W := fun W => by rw [run_neqRec]; simp
  go_enter Tryd.func8, Tryd.ntmps8
  go_wp2_with fail
  refine (gsane_any _ HL0.out.rounds).mono ?_
  rintro e w1 ⟨rfl, hb⟩
  have hL := HL0.out.step hb
  obtain ⟨f0, f1, f2, f3⟩ := (show FourBox w1 w.heap.size x from (show FourN w.heap.size x w1 from hL.get (by simp))).cells
  have HL1 := Lib.hid hL
  clear hb HL0 hL
  go_wp2_with fail
  refine (HEa.out _).mono ?_
  rintro e w2 ⟨rfl, hb⟩
  have hL := ((HL1.out.step hb).alloc (.cells #[.int .i64 a.sec, .int .i64 a.kind, .int .i64 a.a, .int .i64 a.b, .string (bs a.text)] 27)).add (keep_rec (recBox_new w2 a))
  clear f0 f1 f2 f3
  obtain ⟨f0, f1, f2, f3⟩ := (show FourBox _ (w.heap.size + 1) y from (show FourN (w.heap.size + 1) y _ from hL.get (by simp))).cells
  have HL2 := Lib.hid hL
  clear hb HL1 hL
  go_wp2_with fail
  refine (HEb.out _).mono ?_
  rintro e w3 ⟨rfl, hb⟩
  have hL := ((HL2.out.step hb).alloc (.cells #[.int .i64 b.sec, .int .i64 b.kind, .int .i64 b.a, .int .i64 b.b, .string (bs b.text)] 27)).add (keep_rec (recBox_new w3 b))
  clear f0 f1 f2 f3
  obtain ⟨a0, a1, a2, a3, a4⟩ := (show RecBox _ w2.heap.size a from (show RecN w2.heap.size a _ from hL.get (by simp))).cells
  have HL3 := Lib.hid hL
  clear hb HL2 hL
  go_wp2_with fail
  refine (encode_any a _).mono ?_
  rintro e w4 ⟨rfl, hb⟩
  rw [I1.out, I2.out]
  have hL := HL3.out.step hb
  clear a0 a1 a2 a3 a4
  obtain ⟨b0, b1, b2, b3, b4⟩ := (show RecBox w4 w3.heap.size b from (show RecN w3.heap.size b _ from hL.get (by simp))).cells
  have HL4 := Lib.hid hL
  clear hb HL3 hL
  go_wp2_with fail
  refine (encode_any b _).mono ?_
  rintro e w5 ⟨rfl, hb⟩
  rw [I3.out, I4.out]
  have hL := HL4.out.step hb
  clear b0 b1 b2 b3 b4
  have HL5 := Lib.hid hL
  clear hb HL4 hL
  go_wp2_with fail
  refine (decode_any S _ (by unfold maxLen; omega)).mono ?_
  rintro e w6 ⟨rfl, hb⟩
  rw [I5.out]
  simp only
  have hL := ((HL5.out.step hb).alloc (.cells #[.int .i64 a.sec, .int .i64 a.kind, .int .i64 a.a, .int .i64 a.b, .string (bs a.text)] 27)).add (keep_rec (recBox_new w6 a))
  obtain ⟨a0, a1, a2, a3, a4⟩ := (show RecBox _ w2.heap.size a from (show RecN w2.heap.size a _ from hL.get (by simp))).cells
  obtain ⟨b0, b1, b2, b3, b4⟩ := (show RecBox _ w3.heap.size b from (show RecN w3.heap.size b _ from hL.get (by simp))).cells
  have HL6 := Lib.hid hL
  clear hb HL5 hL
  have s0 : (((S.size : Nat) : Int) == 0) = false := by rw [beq_eq_false_iff_ne]; omega
  have hq : Hid (∃ W, W = w6) := ⟨_, rfl⟩
  have key : (a = b ∧ Hid ((S.toList == T.toList) = true)) ∨ (a ≠ b ∧ Hid ((S.toList == T.toList) = false)) := by
    by_cases e : a = b
    · exact .inl ⟨e, by show _ = _; rw [I9.out]; simp [e]⟩
    · exact .inr ⟨e, by show _ = _; rw [I9.out]; simp [e]⟩
  rcases key with ⟨hab, HST⟩ | ⟨hab, HST⟩
  · subst hab
    have hst := HST.out
    simp only [beq_self_eq_true, bne_self_eq_false] at HEq HNq
    clear I10 I11 I9
    go_wp2_with fail
    clear hst
    refine (HPl.out _).mono ?_
    rintro e w' ⟨rfl, rfl⟩
    have kk0 : 0 ≤ (k : Int) := by omega
    have kk1 : (k : Int) ≤ (S.size : Int) := by omega
    have kk2 : (k : Int) + 1 ≤ (S.size : Int) := by omega
    have kk3 : 0 ≤ (k : Int) + 1 := by omega
    have kk5 : ((k : Int) + 1).toNat = k + 1 := by omega
    have kkw : IntKind.i64.wrap ((k : Int) + 1) = (k : Int) + 1 := IntWalk.i64_in _ (by omega)
    have mm1 : (mt : Int) ≤ (txt.size : Int) := by omega
    have mm0 : 0 ≤ (mt : Int) := by omega
    have sa : (S.extract 0 k).size ≤ 250 := by rw [ByteArray.size_extract]; omega
    have sb : (S.extract (k + 1) S.size).size ≤ 250 := by rw [ByteArray.size_extract]; omega
    have sc : (bs [c]).size = 1 := bs_size [c]
    obtain ⟨A, hA⟩ : ∃ Z, Z = S.extract 0 k := ⟨_, rfl⟩
    obtain ⟨D, hD⟩ : ∃ Z, Z = S.extract (k + 1) S.size := ⟨_, rfl⟩
    rw [← hA] at sa
    rw [← hD] at sb
    have cc1 : ¬ (9223372036854775807 < A.size + (bs [c]).size) := by omega
    have cc2 : ¬ (9223372036854775807 < A.size + (bs [c]).size + D.size) := by omega
    have zz1 : (A ++ bs [c] ++ D).size ≤ 1000 := by rw [ByteArray.size_append, ByteArray.size_append]; omega
    have HA := Lib.hid hA
    have HD := Lib.hid hD
    clear hA hD sa sb sc
    obtain ⟨Z0, hZ0⟩ : ∃ Z, Z = txt.extract 0 mt := ⟨_, rfl⟩
    obtain ⟨Z1, hZ1⟩ : ∃ Z, Z = A ++ bs [c] ++ D := ⟨_, rfl⟩
    have zz0 : Z0.size ≤ 1000 := by rw [hZ0]; omega
    rw [← hZ1] at zz1
    have HZ0 := Lib.hid hZ0
    have HZ1 := Lib.hid hZ1
    have w0h := HL6.out.below.size
    obtain ⟨V, hV⟩ : ∃ V, V = w6.alloc (.cells #[.int .i64 a.sec, .int .i64 a.kind, .int .i64 a.a, .int .i64 a.b, .string (bs a.text)] 27) := ⟨_, rfl⟩
    rw [← hV] at HL6 w0h ⊢
    clear hZ0 hZ1 a0 a1 a2 a3 a4 b0 b1 b2 b3 b4 s0 hV
    go_wp2
    refine wp_region_calm ⟨[9, 17], DecF V.heap.size c Z0 Z1, fun _ => [], 99, none, 1000⟩ (by kernel_rfl) (by kernel_rfl) (by kernel_rfl) (fun g h => by cases h) (fun k hk v W W' c h hg hc => decF_kept h hg fun g hh => ?_) ?_
    · obtain ⟨_, _, i, j, u, hd, _⟩ := hc g hh
      simp at hd
    iterate 4 (refine calm_quiet (v := ?_) (by rfl) (by rfl) (fun W hW hD => ?_) ?_; rotate_left; (· (clear hD hW; go_simp; try with_reducible rfl)); simp only [Act.put, List.setIfInBounds_toArray, List.set_cons_zero, List.set_cons_succ, Nat.reduceAdd, Nat.zero_add])
    refine calm_quiet (v := .string Z0) (by rfl) (by rfl) (fun W hW hD => ?_) ?_
    · clear hD hW
      rw [HZ0.out]
      go_simp
    simp only [Act.put, List.setIfInBounds_toArray, List.set_cons_zero, List.set_cons_succ, Nat.reduceAdd, Nat.zero_add]
    iterate 2 (refine calm_quiet (v := ?_) (by rfl) (by rfl) (fun W hW hD => ?_) ?_; rotate_left; (· (clear hD hW; go_simp; try with_reducible rfl)); simp only [Act.put, List.setIfInBounds_toArray, List.set_cons_zero, List.set_cons_succ, Nat.reduceAdd, Nat.zero_add])
    refine calm_quiet (v := .string A) (by rfl) (by rfl) (fun W hW hD => ?_) ?_
    · clear hD hW
      rw [HA.out]
      go_simp
    simp only [Act.put, List.setIfInBounds_toArray, List.set_cons_zero, List.set_cons_succ, Nat.reduceAdd, Nat.zero_add]
    iterate 1 (refine calm_quiet (v := ?_) (by rfl) (by rfl) (fun W hW hD => ?_) ?_; rotate_left; (· (clear hD hW; go_simp; try with_reducible rfl)); simp only [Act.put, List.setIfInBounds_toArray, List.set_cons_zero, List.set_cons_succ, Nat.reduceAdd, Nat.zero_add])
    refine calm_makes (by rfl) (by rfl) (fun W hW hD K hK => ?_) (fun v128 => ?_)
    · refine wp_of_run (v := .slice (some ⟨W.heap.size, 0, none⟩) 1 1) (w' := W.alloc (.cells #[.int .u8 (c.toNat : Int)] 5)) ?_ (hK _ _ (made_below ⟨W.heap.size, rfl, hW.size, heap_alloc_new W _⟩ ((Below.refl _ _).alloc (Nat.le_refl _) _) (fun g hg => ?_)))
      · clear hD hW hK
        go_simp
      · have hg' : some W.heap.size = some g := hg
        cases hg'
        exact ⟨Nat.le_refl _, by simp⟩
    simp only [Act.put, List.setIfInBounds_toArray, List.set_cons_zero, List.set_cons_succ, Nat.reduceAdd, Nat.zero_add]
    refine calm_quiet (v := .string (bs [c])) (by rfl) (by rfl) (fun W hW hD => ?_) ?_
    · obtain ⟨q, rfl, _, hq⟩ : ∃ q, v128 = .slice (some ⟨q, 0, none⟩) 1 1 ∧ V.heap.size ≤ q ∧ W.heap[q]? = some (.cells #[.int .u8 (c.toNat : Int)] 5 (0, 0)) := hD [] 9 (by kernel_rfl) (by kernel_rfl) (by kernel_rfl)
      have hcv := run_convert_bytes_back W 71 9 5 ⟨q, 0, none⟩ 1 [c] Tryd.underlying71 Tryd.underlying5 Tryd.underlying9 (fun j hj => by
        match j, hj with
        | 0, _ => rw [show ((⟨q, 0, none⟩ : Addr).add 0) = ⟨q, 0, none⟩ from rfl, Lib.cell_of_heap hq]; rfl)
      have hcv2 : (convert 71 9 (.slice (some ⟨q, 0, none⟩) 1 1)).run Tryd.prog W = .ok (.string (bs [c])) W := hcv
      clear hD hW hq hcv
      go_simp
    simp only [Act.put, List.setIfInBounds_toArray, List.set_cons_zero, List.set_cons_succ, Nat.reduceAdd, Nat.zero_add]
    iterate 4 (refine calm_quiet (v := ?_) (by rfl) (by rfl) (fun W hW hD => ?_) ?_; rotate_left; (· (clear hD hW; go_simp; try with_reducible rfl)); simp only [Act.put, List.setIfInBounds_toArray, List.set_cons_zero, List.set_cons_succ, Nat.reduceAdd, Nat.zero_add])
    refine calm_quiet (v := .string D) (by rfl) (by rfl) (fun W hW hD => ?_) ?_
    · clear hD hW
      rw [HD.out]
      go_simp
    simp only [Act.put, List.setIfInBounds_toArray, List.set_cons_zero, List.set_cons_succ, Nat.reduceAdd, Nat.zero_add]
    refine calm_quiet (v := .string Z1) (by rfl) (by rfl) (fun W hW hD => ?_) ?_
    · clear hD hW
      rw [HZ1.out]
      go_simp
    simp only [Act.put, List.setIfInBounds_toArray, List.set_cons_zero, List.set_cons_succ, Nat.reduceAdd, Nat.zero_add]
    refine calm_makes (by rfl) (by rfl) (fun W hW hD K hK => ?_) (fun v136 => ?_)
    · refine wp_of_run (v := .slice (some ⟨W.heap.size, 0, none⟩) 2 2) (w' := W.alloc (.cells #[.string Z0, .string Z1] 9)) ?_ (hK _ _ (made_below ⟨W.heap.size, rfl, hW.size, heap_alloc_new W _⟩ ((Below.refl _ _).alloc (Nat.le_refl _) _) (fun g hg => ?_)))
      · clear hD hW hK
        go_simp
      · have hg' : some W.heap.size = some g := hg
        cases hg'
        exact ⟨Nat.le_refl _, by simp⟩
    simp only [Act.put, List.setIfInBounds_toArray, List.set_cons_zero, List.set_cons_succ, Nat.reduceAdd, Nat.zero_add]
    refine calm_quiet (v := .int .i64 2) (by rfl) (by rfl) (fun W hW hD => ?_) ?_
    · obtain ⟨q, rfl, _, hq⟩ : ∃ q, v136 = .slice (some ⟨q, 0, none⟩) 2 2 ∧ V.heap.size ≤ q ∧ W.heap[q]? = some (.cells #[.string Z0, .string Z1] 9 (0, 0)) := hD [] 17 (by kernel_rfl) (by kernel_rfl) (by kernel_rfl)
      clear hD hW
      go_simp
    simp only [Act.put, List.setIfInBounds_toArray, List.set_cons_zero, List.set_cons_succ, Nat.reduceAdd, Nat.zero_add]
    iterate 1 (refine calm_quiet (v := ?_) (by rfl) (by rfl) (fun W hW hD => ?_) ?_; rotate_left; (· (clear hD hW; go_simp; try with_reducible rfl)); simp only [Act.put, List.setIfInBounds_toArray, List.set_cons_zero, List.set_cons_succ, Nat.reduceAdd, Nat.zero_add])
    refine calm_nil fun W hW hF => ?_
    obtain ⟨q, hv136, _, hq⟩ : ∃ q, v136 = .slice (some ⟨q, 0, none⟩) 2 2 ∧ V.heap.size ≤ q ∧ W.heap[q]? = some (.cells #[.string Z0, .string Z1] 9 (0, 0)) := hF 17 (by kernel_rfl) (by kernel_rfl)
    subst hv136
    have hLW := (HL6.out.step (grown_below hW)).add (P := TwoN q Z0 Z1) (keep_two hq)
    have HLW := Lib.hid (show LiveP w [TwoN q Z0 Z1] W from ⟨hLW.1, hLW.2.1, fun P hP => by rcases List.mem_singleton.1 hP with rfl; exact hLW.2.2 _ (by simp)⟩)
    clear hF hW hq hLW HL6 kk0 kk1 kk2 kk3 kk5 kkw mm1 mm0 cc1 cc2 hmt1 hmt2 hmt3 emt w0h
    go_wp2
    go_loopw [138] (fun i wr => ∃ j : Nat, j ≤ 2 ∧ i = .int .i64 j ∧ Hid (LiveP w [TwoN q Z0 Z1] wr)) (fun i _ => 2 - (intOf i).toNat)
    case atStart => exact ⟨0, by omega, rfl, HLW⟩
    case round =>
      clear HLW
      obtain ⟨j, hj, rfl, HW⟩ := hrel
      by_cases h1 : j < 2
      · have hc := (show TwoN q Z0 Z1 wr from HW.out.get (by simp)).cell j h1
        have hzs : (twoZ Z0 Z1 j).size ≤ 1000 := by unfold twoZ; split <;> assumption
        have hag := dec_again (twoZ Z0 Z1 j)
        generalize twoZ Z0 Z1 j = Z at *
        have jj : (j : Int) < 2 := by omega
        have j0 : 0 ≤ (j : Int) := by omega
        have HAg := Lib.hid hag
        clear hag
        go_wp2_with fail
        refine (decode_any Z _ (by unfold maxLen; omega)).mono ?_
        rintro e w7 ⟨rfl, hb⟩
        rcases HAg.out with ⟨r, h2, h3⟩ | ⟨r, h2⟩
        · have H3 := Lib.hid h3
          rw [h2]
          simp only
          have hL := ((HW.out.step hb).alloc (.cells #[.int .i64 r.sec, .int .i64 r.kind, .int .i64 r.a, .int .i64 r.b, .string (bs r.text)] 27)).add (keep_rec (recBox_new w7 r))
          obtain ⟨d0, d1, d2, d3, d4⟩ := (show RecBox _ w7.heap.size r from (show RecN w7.heap.size r _ from hL.get (by simp))).cells
          have HL7 := Lib.hid hL
          clear hb hL h2 h3 hc HW
          go_wp2_with fail
          refine (encode_any r _).mono ?_
          rintro e w8 ⟨rfl, hb⟩
          rw [H3.out]
          simp only
          have hbz : bs Z.data.toList = Z := rfl
          rw [hbz]
          have hL := HL7.out.step hb
          have HW8 : Hid (LiveP w [TwoN q Z0 Z1] w8) := ⟨hL.1, hL.2.1, fun P hP => by rcases List.mem_singleton.1 hP with rfl; exact hL.2.2 _ (by simp)⟩
          clear hb hL d0 d1 d2 d3 d4 hbz
          go_wp2
          go_roundw
          case rel => exact ⟨j + 1, by omega, by go_num, HW8⟩
          case measure => simp [intOf]; omega
        · rw [h2]
          simp only
          have hL := (HW.out.step hb).alloc (.cells #[.int .i64 r.sec, .int .i64 r.kind, .int .i64 r.a, .int .i64 r.b, .string (bs r.text)] 27)
          have HW8 := Lib.hid hL
          clear hb hL h2 hc HW
          go_wp2
          go_roundw
          case rel => exact ⟨j + 1, by omega, by go_num, HW8⟩
          case measure => simp [intOf]; omega
      · obtain rfl : j = 2 := by omega
        have HB := Lib.hid HW.out.below
        go_wp2
        go_ret
        exact ⟨rfl, HB.out⟩
  · have hst := HST.out
    have e1 : (a == b) = false := by simp [hab]
    have e2 : (a != b) = true := by rw [bne, e1]; rfl
    rw [e1] at HEq
    rw [e2] at HNq
    have hcmp : (S.size ≤ T.size ∧ ¬ (T.size ≤ S.size)) ∨ (¬ (S.size ≤ T.size) ∧ T.size ≤ S.size) ∨ (S.size ≤ T.size ∧ T.size ≤ S.size) := by omega
    rcases hcmp with ⟨k1, k2⟩ | ⟨k1, k2⟩ | ⟨k1, k2⟩
    · have l1 : (S.size : Int) ≤ (T.size : Int) := by omega
      have l2 : ¬ ((T.size : Int) ≤ (S.size : Int)) := by omega
      have g1 := I10.out hab k1
      clear I10 I11 I9 hab e1 e2 k1 k2
      go_wp2_with fail
      clear hst l1 l2 g1
      refine (HPl.out _).mono ?_
      rintro e w' ⟨rfl, rfl⟩
      have kk0 : 0 ≤ (k : Int) := by omega
      have kk1 : (k : Int) ≤ (S.size : Int) := by omega
      have kk2 : (k : Int) + 1 ≤ (S.size : Int) := by omega
      have kk3 : 0 ≤ (k : Int) + 1 := by omega
      have kk5 : ((k : Int) + 1).toNat = k + 1 := by omega
      have kkw : IntKind.i64.wrap ((k : Int) + 1) = (k : Int) + 1 := IntWalk.i64_in _ (by omega)
      have mm1 : (mt : Int) ≤ (txt.size : Int) := by omega
      have mm0 : 0 ≤ (mt : Int) := by omega
      have sa : (S.extract 0 k).size ≤ 250 := by rw [ByteArray.size_extract]; omega
      have sb : (S.extract (k + 1) S.size).size ≤ 250 := by rw [ByteArray.size_extract]; omega
      have sc : (bs [c]).size = 1 := bs_size [c]
      obtain ⟨A, hA⟩ : ∃ Z, Z = S.extract 0 k := ⟨_, rfl⟩
      obtain ⟨D, hD⟩ : ∃ Z, Z = S.extract (k + 1) S.size := ⟨_, rfl⟩
      rw [← hA] at sa
      rw [← hD] at sb
      have cc1 : ¬ (9223372036854775807 < A.size + (bs [c]).size) := by omega
      have cc2 : ¬ (9223372036854775807 < A.size + (bs [c]).size + D.size) := by omega
      have zz1 : (A ++ bs [c] ++ D).size ≤ 1000 := by rw [ByteArray.size_append, ByteArray.size_append]; omega
      have HA := Lib.hid hA
      have HD := Lib.hid hD
      clear hA hD sa sb sc
      obtain ⟨Z0, hZ0⟩ : ∃ Z, Z = txt.extract 0 mt := ⟨_, rfl⟩
      obtain ⟨Z1, hZ1⟩ : ∃ Z, Z = A ++ bs [c] ++ D := ⟨_, rfl⟩
      have zz0 : Z0.size ≤ 1000 := by rw [hZ0]; omega
      rw [← hZ1] at zz1
      have HZ0 := Lib.hid hZ0
      have HZ1 := Lib.hid hZ1
      have w0h := HL6.out.below.size
      obtain ⟨V, hV⟩ : ∃ V, V = w6.alloc (.cells #[.int .i64 a.sec, .int .i64 a.kind, .int .i64 a.a, .int .i64 a.b, .string (bs a.text)] 27) := ⟨_, rfl⟩
      rw [← hV] at HL6 w0h ⊢
      clear hZ0 hZ1 a0 a1 a2 a3 a4 b0 b1 b2 b3 b4 s0 hV
      go_wp2
      refine wp_region_calm ⟨[9, 17], DecF V.heap.size c Z0 Z1, fun _ => [], 99, none, 1000⟩ (by kernel_rfl) (by kernel_rfl) (by kernel_rfl) (fun g h => by cases h) (fun k hk v W W' c h hg hc => decF_kept h hg fun g hh => ?_) ?_
      · obtain ⟨_, _, i, j, u, hd, _⟩ := hc g hh
        simp at hd
      iterate 4 (refine calm_quiet (v := ?_) (by rfl) (by rfl) (fun W hW hD => ?_) ?_; rotate_left; (· (clear hD hW; go_simp; try with_reducible rfl)); simp only [Act.put, List.setIfInBounds_toArray, List.set_cons_zero, List.set_cons_succ, Nat.reduceAdd, Nat.zero_add])
      refine calm_quiet (v := .string Z0) (by rfl) (by rfl) (fun W hW hD => ?_) ?_
      · clear hD hW
        rw [HZ0.out]
        go_simp
      simp only [Act.put, List.setIfInBounds_toArray, List.set_cons_zero, List.set_cons_succ, Nat.reduceAdd, Nat.zero_add]
      iterate 2 (refine calm_quiet (v := ?_) (by rfl) (by rfl) (fun W hW hD => ?_) ?_; rotate_left; (· (clear hD hW; go_simp; try with_reducible rfl)); simp only [Act.put, List.setIfInBounds_toArray, List.set_cons_zero, List.set_cons_succ, Nat.reduceAdd, Nat.zero_add])
      refine calm_quiet (v := .string A) (by rfl) (by rfl) (fun W hW hD => ?_) ?_
      · clear hD hW
        rw [HA.out]
        go_simp
      simp only [Act.put, List.setIfInBounds_toArray, List.set_cons_zero, List.set_cons_succ, Nat.reduceAdd, Nat.zero_add]
      iterate 1 (refine calm_quiet (v := ?_) (by rfl) (by rfl) (fun W hW hD => ?_) ?_; rotate_left; (· (clear hD hW; go_simp; try with_reducible rfl)); simp only [Act.put, List.setIfInBounds_toArray, List.set_cons_zero, List.set_cons_succ, Nat.reduceAdd, Nat.zero_add])
      refine calm_makes (by rfl) (by rfl) (fun W hW hD K hK => ?_) (fun v128 => ?_)
      · refine wp_of_run (v := .slice (some ⟨W.heap.size, 0, none⟩) 1 1) (w' := W.alloc (.cells #[.int .u8 (c.toNat : Int)] 5)) ?_ (hK _ _ (made_below ⟨W.heap.size, rfl, hW.size, heap_alloc_new W _⟩ ((Below.refl _ _).alloc (Nat.le_refl _) _) (fun g hg => ?_)))
        · clear hD hW hK
          go_simp
        · have hg' : some W.heap.size = some g := hg
          cases hg'
          exact ⟨Nat.le_refl _, by simp⟩
      simp only [Act.put, List.setIfInBounds_toArray, List.set_cons_zero, List.set_cons_succ, Nat.reduceAdd, Nat.zero_add]
      refine calm_quiet (v := .string (bs [c])) (by rfl) (by rfl) (fun W hW hD => ?_) ?_
      · obtain ⟨q, rfl, _, hq⟩ : ∃ q, v128 = .slice (some ⟨q, 0, none⟩) 1 1 ∧ V.heap.size ≤ q ∧ W.heap[q]? = some (.cells #[.int .u8 (c.toNat : Int)] 5 (0, 0)) := hD [] 9 (by kernel_rfl) (by kernel_rfl) (by kernel_rfl)
        have hcv := run_convert_bytes_back W 71 9 5 ⟨q, 0, none⟩ 1 [c] Tryd.underlying71 Tryd.underlying5 Tryd.underlying9 (fun j hj => by
          match j, hj with
          | 0, _ => rw [show ((⟨q, 0, none⟩ : Addr).add 0) = ⟨q, 0, none⟩ from rfl, Lib.cell_of_heap hq]; rfl)
        have hcv2 : (convert 71 9 (.slice (some ⟨q, 0, none⟩) 1 1)).run Tryd.prog W = .ok (.string (bs [c])) W := hcv
        clear hD hW hq hcv
        go_simp
      simp only [Act.put, List.setIfInBounds_toArray, List.set_cons_zero, List.set_cons_succ, Nat.reduceAdd, Nat.zero_add]
      iterate 4 (refine calm_quiet (v := ?_) (by rfl) (by rfl) (fun W hW hD => ?_) ?_; rotate_left; (· (clear hD hW; go_simp; try with_reducible rfl)); simp only [Act.put, List.setIfInBounds_toArray, List.set_cons_zero, List.set_cons_succ, Nat.reduceAdd, Nat.zero_add])
      refine calm_quiet (v := .string D) (by rfl) (by rfl) (fun W hW hD => ?_) ?_
      · clear hD hW
        rw [HD.out]
        go_simp
      simp only [Act.put, List.setIfInBounds_toArray, List.set_cons_zero, List.set_cons_succ, Nat.reduceAdd, Nat.zero_add]
      refine calm_quiet (v := .string Z1) (by rfl) (by rfl) (fun W hW hD => ?_) ?_
      · clear hD hW
        rw [HZ1.out]
        go_simp
      simp only [Act.put, List.setIfInBounds_toArray, List.set_cons_zero, List.set_cons_succ, Nat.reduceAdd, Nat.zero_add]
      refine calm_makes (by rfl) (by rfl) (fun W hW hD K hK => ?_) (fun v136 => ?_)
      · refine wp_of_run (v := .slice (some ⟨W.heap.size, 0, none⟩) 2 2) (w' := W.alloc (.cells #[.string Z0, .string Z1] 9)) ?_ (hK _ _ (made_below ⟨W.heap.size, rfl, hW.size, heap_alloc_new W _⟩ ((Below.refl _ _).alloc (Nat.le_refl _) _) (fun g hg => ?_)))
        · clear hD hW hK
          go_simp
        · have hg' : some W.heap.size = some g := hg
          cases hg'
          exact ⟨Nat.le_refl _, by simp⟩
      simp only [Act.put, List.setIfInBounds_toArray, List.set_cons_zero, List.set_cons_succ, Nat.reduceAdd, Nat.zero_add]
      refine calm_quiet (v := .int .i64 2) (by rfl) (by rfl) (fun W hW hD => ?_) ?_
      · obtain ⟨q, rfl, _, hq⟩ : ∃ q, v136 = .slice (some ⟨q, 0, none⟩) 2 2 ∧ V.heap.size ≤ q ∧ W.heap[q]? = some (.cells #[.string Z0, .string Z1] 9 (0, 0)) := hD [] 17 (by kernel_rfl) (by kernel_rfl) (by kernel_rfl)
        clear hD hW
        go_simp
      simp only [Act.put, List.setIfInBounds_toArray, List.set_cons_zero, List.set_cons_succ, Nat.reduceAdd, Nat.zero_add]
      iterate 1 (refine calm_quiet (v := ?_) (by rfl) (by rfl) (fun W hW hD => ?_) ?_; rotate_left; (· (clear hD hW; go_simp; try with_reducible rfl)); simp only [Act.put, List.setIfInBounds_toArray, List.set_cons_zero, List.set_cons_succ, Nat.reduceAdd, Nat.zero_add])
      refine calm_nil fun W hW hF => ?_
      obtain ⟨q, hv136, _, hq⟩ : ∃ q, v136 = .slice (some ⟨q, 0, none⟩) 2 2 ∧ V.heap.size ≤ q ∧ W.heap[q]? = some (.cells #[.string Z0, .string Z1] 9 (0, 0)) := hF 17 (by kernel_rfl) (by kernel_rfl)
      subst hv136
      have hLW := (HL6.out.step (grown_below hW)).add (P := TwoN q Z0 Z1) (keep_two hq)
      have HLW := Lib.hid (show LiveP w [TwoN q Z0 Z1] W from ⟨hLW.1, hLW.2.1, fun P hP => by rcases List.mem_singleton.1 hP with rfl; exact hLW.2.2 _ (by simp)⟩)
      clear hF hW hq hLW HL6 kk0 kk1 kk2 kk3 kk5 kkw mm1 mm0 cc1 cc2 hmt1 hmt2 hmt3 emt w0h
      go_wp2
      go_loopw [138] (fun i wr => ∃ j : Nat, j ≤ 2 ∧ i = .int .i64 j ∧ Hid (LiveP w [TwoN q Z0 Z1] wr)) (fun i _ => 2 - (intOf i).toNat)
      case atStart => exact ⟨0, by omega, rfl, HLW⟩
      case round =>
        clear HLW
        obtain ⟨j, hj, rfl, HW⟩ := hrel
        by_cases h1 : j < 2
        · have hc := (show TwoN q Z0 Z1 wr from HW.out.get (by simp)).cell j h1
          have hzs : (twoZ Z0 Z1 j).size ≤ 1000 := by unfold twoZ; split <;> assumption
          have hag := dec_again (twoZ Z0 Z1 j)
          generalize twoZ Z0 Z1 j = Z at *
          have jj : (j : Int) < 2 := by omega
          have j0 : 0 ≤ (j : Int) := by omega
          have HAg := Lib.hid hag
          clear hag
          go_wp2_with fail
          refine (decode_any Z _ (by unfold maxLen; omega)).mono ?_
          rintro e w7 ⟨rfl, hb⟩
          rcases HAg.out with ⟨r, h2, h3⟩ | ⟨r, h2⟩
          · have H3 := Lib.hid h3
            rw [h2]
            simp only
            have hL := ((HW.out.step hb).alloc (.cells #[.int .i64 r.sec, .int .i64 r.kind, .int .i64 r.a, .int .i64 r.b, .string (bs r.text)] 27)).add (keep_rec (recBox_new w7 r))
            obtain ⟨d0, d1, d2, d3, d4⟩ := (show RecBox _ w7.heap.size r from (show RecN w7.heap.size r _ from hL.get (by simp))).cells
            have HL7 := Lib.hid hL
            clear hb hL h2 h3 hc HW
            go_wp2_with fail
            refine (encode_any r _).mono ?_
            rintro e w8 ⟨rfl, hb⟩
            rw [H3.out]
            simp only
            have hbz : bs Z.data.toList = Z := rfl
            rw [hbz]
            have hL := HL7.out.step hb
            have HW8 : Hid (LiveP w [TwoN q Z0 Z1] w8) := ⟨hL.1, hL.2.1, fun P hP => by rcases List.mem_singleton.1 hP with rfl; exact hL.2.2 _ (by simp)⟩
            clear hb hL d0 d1 d2 d3 d4 hbz
            go_wp2
            go_roundw
            case rel => exact ⟨j + 1, by omega, by go_num, HW8⟩
            case measure => simp [intOf]; omega
          · rw [h2]
            simp only
            have hL := (HW.out.step hb).alloc (.cells #[.int .i64 r.sec, .int .i64 r.kind, .int .i64 r.a, .int .i64 r.b, .string (bs r.text)] 27)
            have HW8 := Lib.hid hL
            clear hb hL h2 hc HW
            go_wp2
            go_roundw
            case rel => exact ⟨j + 1, by omega, by go_num, HW8⟩
            case measure => simp [intOf]; omega
        · obtain rfl : j = 2 := by omega
          have HB := Lib.hid HW.out.below
          go_wp2
          go_ret
          exact ⟨rfl, HB.out⟩
    · have l1 : ¬ ((S.size : Int) ≤ (T.size : Int)) := by omega
      have l2 : (T.size : Int) ≤ (S.size : Int) := by omega
      have g1 := I11.out hab k2
      clear I10 I11 I9 hab e1 e2 k1 k2
      go_wp2_with fail
      clear hst l1 l2 g1
      refine (HPl.out _).mono ?_
      rintro e w' ⟨rfl, rfl⟩
      have kk0 : 0 ≤ (k : Int) := by omega
      have kk1 : (k : Int) ≤ (S.size : Int) := by omega
      have kk2 : (k : Int) + 1 ≤ (S.size : Int) := by omega
      have kk3 : 0 ≤ (k : Int) + 1 := by omega
      have kk5 : ((k : Int) + 1).toNat = k + 1 := by omega
      have kkw : IntKind.i64.wrap ((k : Int) + 1) = (k : Int) + 1 := IntWalk.i64_in _ (by omega)
      have mm1 : (mt : Int) ≤ (txt.size : Int) := by omega
      have mm0 : 0 ≤ (mt : Int) := by omega
      have sa : (S.extract 0 k).size ≤ 250 := by rw [ByteArray.size_extract]; omega
      have sb : (S.extract (k + 1) S.size).size ≤ 250 := by rw [ByteArray.size_extract]; omega
      have sc : (bs [c]).size = 1 := bs_size [c]
      obtain ⟨A, hA⟩ : ∃ Z, Z = S.extract 0 k := ⟨_, rfl⟩
      obtain ⟨D, hD⟩ : ∃ Z, Z = S.extract (k + 1) S.size := ⟨_, rfl⟩
      rw [← hA] at sa
      rw [← hD] at sb
      have cc1 : ¬ (9223372036854775807 < A.size + (bs [c]).size) := by omega
      have cc2 : ¬ (9223372036854775807 < A.size + (bs [c]).size + D.size) := by omega
      have zz1 : (A ++ bs [c] ++ D).size ≤ 1000 := by rw [ByteArray.size_append, ByteArray.size_append]; omega
      have HA := Lib.hid hA
      have HD := Lib.hid hD
      clear hA hD sa sb sc
      obtain ⟨Z0, hZ0⟩ : ∃ Z, Z = txt.extract 0 mt := ⟨_, rfl⟩
      obtain ⟨Z1, hZ1⟩ : ∃ Z, Z = A ++ bs [c] ++ D := ⟨_, rfl⟩
      have zz0 : Z0.size ≤ 1000 := by rw [hZ0]; omega
      rw [← hZ1] at zz1
      have HZ0 := Lib.hid hZ0
      have HZ1 := Lib.hid hZ1
      have w0h := HL6.out.below.size
      obtain ⟨V, hV⟩ : ∃ V, V = w6.alloc (.cells #[.int .i64 a.sec, .int .i64 a.kind, .int .i64 a.a, .int .i64 a.b, .string (bs a.text)] 27) := ⟨_, rfl⟩
      rw [← hV] at HL6 w0h ⊢
      clear hZ0 hZ1 a0 a1 a2 a3 a4 b0 b1 b2 b3 b4 s0 hV
      go_wp2
      refine wp_region_calm ⟨[9, 17], DecF V.heap.size c Z0 Z1, fun _ => [], 99, none, 1000⟩ (by kernel_rfl) (by kernel_rfl) (by kernel_rfl) (fun g h => by cases h) (fun k hk v W W' c h hg hc => decF_kept h hg fun g hh => ?_) ?_
      · obtain ⟨_, _, i, j, u, hd, _⟩ := hc g hh
        simp at hd
      iterate 4 (refine calm_quiet (v := ?_) (by rfl) (by rfl) (fun W hW hD => ?_) ?_; rotate_left; (· (clear hD hW; go_simp; try with_reducible rfl)); simp only [Act.put, List.setIfInBounds_toArray, List.set_cons_zero, List.set_cons_succ, Nat.reduceAdd, Nat.zero_add])
      refine calm_quiet (v := .string Z0) (by rfl) (by rfl) (fun W hW hD => ?_) ?_
      · clear hD hW
        rw [HZ0.out]
        go_simp
      simp only [Act.put, List.setIfInBounds_toArray, List.set_cons_zero, List.set_cons_succ, Nat.reduceAdd, Nat.zero_add]
      iterate 2 (refine calm_quiet (v := ?_) (by rfl) (by rfl) (fun W hW hD => ?_) ?_; rotate_left; (· (clear hD hW; go_simp; try with_reducible rfl)); simp only [Act.put, List.setIfInBounds_toArray, List.set_cons_zero, List.set_cons_succ, Nat.reduceAdd, Nat.zero_add])
      refine calm_quiet (v := .string A) (by rfl) (by rfl) (fun W hW hD => ?_) ?_
      · clear hD hW
        rw [HA.out]
        go_simp
      simp only [Act.put, List.setIfInBounds_toArray, List.set_cons_zero, List.set_cons_succ, Nat.reduceAdd, Nat.zero_add]
      iterate 1 (refine calm_quiet (v := ?_) (by rfl) (by rfl) (fun W hW hD => ?_) ?_; rotate_left; (· (clear hD hW; go_simp; try with_reducible rfl)); simp only [Act.put, List.setIfInBounds_toArray, List.set_cons_zero, List.set_cons_succ, Nat.reduceAdd, Nat.zero_add])
      refine calm_makes (by rfl) (by rfl) (fun W hW hD K hK => ?_) (fun v128 => ?_)
      · refine wp_of_run (v := .slice (some ⟨W.heap.size, 0, none⟩) 1 1) (w' := W.alloc (.cells #[.int .u8 (c.toNat : Int)] 5)) ?_ (hK _ _ (made_below ⟨W.heap.size, rfl, hW.size, heap_alloc_new W _⟩ ((Below.refl _ _).alloc (Nat.le_refl _) _) (fun g hg => ?_)))
        · clear hD hW hK
          go_simp
        · have hg' : some W.heap.size = some g := hg
          cases hg'
          exact ⟨Nat.le_refl _, by simp⟩
      simp only [Act.put, List.setIfInBounds_toArray, List.set_cons_zero, List.set_cons_succ, Nat.reduceAdd, Nat.zero_add]
      refine calm_quiet (v := .string (bs [c])) (by rfl) (by rfl) (fun W hW hD => ?_) ?_
      · obtain ⟨q, rfl, _, hq⟩ : ∃ q, v128 = .slice (some ⟨q, 0, none⟩) 1 1 ∧ V.heap.size ≤ q ∧ W.heap[q]? = some (.cells #[.int .u8 (c.toNat : Int)] 5 (0, 0)) := hD [] 9 (by kernel_rfl) (by kernel_rfl) (by kernel_rfl)
        have hcv := run_convert_bytes_back W 71 9 5 ⟨q, 0, none⟩ 1 [c] Tryd.underlying71 Tryd.underlying5 Tryd.underlying9 (fun j hj => by
          match j, hj with
          | 0, _ => rw [show ((⟨q, 0, none⟩ : Addr).add 0) = ⟨q, 0, none⟩ from rfl, Lib.cell_of_heap hq]; rfl)
        have hcv2 : (convert 71 9 (.slice (some ⟨q, 0, none⟩) 1 1)).run Tryd.prog W = .ok (.string (bs [c])) W := hcv
        clear hD hW hq hcv
        go_simp
      simp only [Act.put, List.setIfInBounds_toArray, List.set_cons_zero, List.set_cons_succ, Nat.reduceAdd, Nat.zero_add]
      iterate 4 (refine calm_quiet (v := ?_) (by rfl) (by rfl) (fun W hW hD => ?_) ?_; rotate_left; (· (clear hD hW; go_simp; try with_reducible rfl)); simp only [Act.put, List.setIfInBounds_toArray, List.set_cons_zero, List.set_cons_succ, Nat.reduceAdd, Nat.zero_add])
      refine calm_quiet (v := .string D) (by rfl) (by rfl) (fun W hW hD => ?_) ?_
      · clear hD hW
        rw [HD.out]
        go_simp
      simp only [Act.put, List.setIfInBounds_toArray, List.set_cons_zero, List.set_cons_succ, Nat.reduceAdd, Nat.zero_add]
      refine calm_quiet (v := .string Z1) (by rfl) (by rfl) (fun W hW hD => ?_) ?_
      · clear hD hW
        rw [HZ1.out]
        go_simp
      simp only [Act.put, List.setIfInBounds_toArray, List.set_cons_zero, List.set_cons_succ, Nat.reduceAdd, Nat.zero_add]
      refine calm_makes (by rfl) (by rfl) (fun W hW hD K hK => ?_) (fun v136 => ?_)
      · refine wp_of_run (v := .slice (some ⟨W.heap.size, 0, none⟩) 2 2) (w' := W.alloc (.cells #[.string Z0, .string Z1] 9)) ?_ (hK _ _ (made_below ⟨W.heap.size, rfl, hW.size, heap_alloc_new W _⟩ ((Below.refl _ _).alloc (Nat.le_refl _) _) (fun g hg => ?_)))
        · clear hD hW hK
          go_simp
        · have hg' : some W.heap.size = some g := hg
          cases hg'
          exact ⟨Nat.le_refl _, by simp⟩
      simp only [Act.put, List.setIfInBounds_toArray, List.set_cons_zero, List.set_cons_succ, Nat.reduceAdd, Nat.zero_add]
      refine calm_quiet (v := .int .i64 2) (by rfl) (by rfl) (fun W hW hD => ?_) ?_
      · obtain ⟨q, rfl, _, hq⟩ : ∃ q, v136 = .slice (some ⟨q, 0, none⟩) 2 2 ∧ V.heap.size ≤ q ∧ W.heap[q]? = some (.cells #[.string Z0, .string Z1] 9 (0, 0)) := hD [] 17 (by kernel_rfl) (by kernel_rfl) (by kernel_rfl)
        clear hD hW
        go_simp
      simp only [Act.put, List.setIfInBounds_toArray, List.set_cons_zero, List.set_cons_succ, Nat.reduceAdd, Nat.zero_add]
      iterate 1 (refine calm_quiet (v := ?_) (by rfl) (by rfl) (fun W hW hD => ?_) ?_; rotate_left; (· (clear hD hW; go_simp; try with_reducible rfl)); simp only [Act.put, List.setIfInBounds_toArray, List.set_cons_zero, List.set_cons_succ, Nat.reduceAdd, Nat.zero_add])
      refine calm_nil fun W hW hF => ?_
      obtain ⟨q, hv136, _, hq⟩ : ∃ q, v136 = .slice (some ⟨q, 0, none⟩) 2 2 ∧ V.heap.size ≤ q ∧ W.heap[q]? = some (.cells #[.string Z0, .string Z1] 9 (0, 0)) := hF 17 (by kernel_rfl) (by kernel_rfl)
      subst hv136
      have hLW := (HL6.out.step (grown_below hW)).add (P := TwoN q Z0 Z1) (keep_two hq)
      have HLW := Lib.hid (show LiveP w [TwoN q Z0 Z1] W from ⟨hLW.1, hLW.2.1, fun P hP => by rcases List.mem_singleton.1 hP with rfl; exact hLW.2.2 _ (by simp)⟩)
      clear hF hW hq hLW HL6 kk0 kk1 kk2 kk3 kk5 kkw mm1 mm0 cc1 cc2 hmt1 hmt2 hmt3 emt w0h
      go_wp2
      go_loopw [138] (fun i wr => ∃ j : Nat, j ≤ 2 ∧ i = .int .i64 j ∧ Hid (LiveP w [TwoN q Z0 Z1] wr)) (fun i _ => 2 - (intOf i).toNat)
      case atStart => exact ⟨0, by omega, rfl, HLW⟩
      case round =>
        clear HLW
        obtain ⟨j, hj, rfl, HW⟩ := hrel
        by_cases h1 : j < 2
        · have hc := (show TwoN q Z0 Z1 wr from HW.out.get (by simp)).cell j h1
          have hzs : (twoZ Z0 Z1 j).size ≤ 1000 := by unfold twoZ; split <;> assumption
          have hag := dec_again (twoZ Z0 Z1 j)
          generalize twoZ Z0 Z1 j = Z at *
          have jj : (j : Int) < 2 := by omega
          have j0 : 0 ≤ (j : Int) := by omega
          have HAg := Lib.hid hag
          clear hag
          go_wp2_with fail
          refine (decode_any Z _ (by unfold maxLen; omega)).mono ?_
          rintro e w7 ⟨rfl, hb⟩
          rcases HAg.out with ⟨r, h2, h3⟩ | ⟨r, h2⟩
          · have H3 := Lib.hid h3
            rw [h2]
            simp only
            have hL := ((HW.out.step hb).alloc (.cells #[.int .i64 r.sec, .int .i64 r.kind, .int .i64 r.a, .int .i64 r.b, .string (bs r.text)] 27)).add (keep_rec (recBox_new w7 r))
            obtain ⟨d0, d1, d2, d3, d4⟩ := (show RecBox _ w7.heap.size r from (show RecN w7.heap.size r _ from hL.get (by simp))).cells
            have HL7 := Lib.hid hL
            clear hb hL h2 h3 hc HW
            go_wp2_with fail
            refine (encode_any r _).mono ?_
            rintro e w8 ⟨rfl, hb⟩
            rw [H3.out]
            simp only
            have hbz : bs Z.data.toList = Z := rfl
            rw [hbz]
            have hL := HL7.out.step hb
            have HW8 : Hid (LiveP w [TwoN q Z0 Z1] w8) := ⟨hL.1, hL.2.1, fun P hP => by rcases List.mem_singleton.1 hP with rfl; exact hL.2.2 _ (by simp)⟩
            clear hb hL d0 d1 d2 d3 d4 hbz
            go_wp2
            go_roundw
            case rel => exact ⟨j + 1, by omega, by go_num, HW8⟩
            case measure => simp [intOf]; omega
          · rw [h2]
            simp only
            have hL := (HW.out.step hb).alloc (.cells #[.int .i64 r.sec, .int .i64 r.kind, .int .i64 r.a, .int .i64 r.b, .string (bs r.text)] 27)
            have HW8 := Lib.hid hL
            clear hb hL h2 hc HW
            go_wp2
            go_roundw
            case rel => exact ⟨j + 1, by omega, by go_num, HW8⟩
            case measure => simp [intOf]; omega
        · obtain rfl : j = 2 := by omega
          have HB := Lib.hid HW.out.below
          go_wp2
          go_ret
          exact ⟨rfl, HB.out⟩
    · have l1 : (S.size : Int) ≤ (T.size : Int) := by omega
      have l2 : (T.size : Int) ≤ (S.size : Int) := by omega
      have g1 := I10.out hab k1
      have g2 := I11.out hab k2
      clear I10 I11 I9 hab e1 e2 k1 k2
      go_wp2_with fail
      clear hst l1 l2 g1 g2
      refine (HPl.out _).mono ?_
      rintro e w' ⟨rfl, rfl⟩
      have kk0 : 0 ≤ (k : Int) := by omega
      have kk1 : (k : Int) ≤ (S.size : Int) := by omega
      have kk2 : (k : Int) + 1 ≤ (S.size : Int) := by omega
      have kk3 : 0 ≤ (k : Int) + 1 := by omega
      have kk5 : ((k : Int) + 1).toNat = k + 1 := by omega
      have kkw : IntKind.i64.wrap ((k : Int) + 1) = (k : Int) + 1 := IntWalk.i64_in _ (by omega)
      have mm1 : (mt : Int) ≤ (txt.size : Int) := by omega
      have mm0 : 0 ≤ (mt : Int) := by omega
      have sa : (S.extract 0 k).size ≤ 250 := by rw [ByteArray.size_extract]; omega
      have sb : (S.extract (k + 1) S.size).size ≤ 250 := by rw [ByteArray.size_extract]; omega
      have sc : (bs [c]).size = 1 := bs_size [c]
      obtain ⟨A, hA⟩ : ∃ Z, Z = S.extract 0 k := ⟨_, rfl⟩
      obtain ⟨D, hD⟩ : ∃ Z, Z = S.extract (k + 1) S.size := ⟨_, rfl⟩
      rw [← hA] at sa
      rw [← hD] at sb
      have cc1 : ¬ (9223372036854775807 < A.size + (bs [c]).size) := by omega
      have cc2 : ¬ (9223372036854775807 < A.size + (bs [c]).size + D.size) := by omega
      have zz1 : (A ++ bs [c] ++ D).size ≤ 1000 := by rw [ByteArray.size_append, ByteArray.size_append]; omega
      have HA := Lib.hid hA
      have HD := Lib.hid hD
      clear hA hD sa sb sc
      obtain ⟨Z0, hZ0⟩ : ∃ Z, Z = txt.extract 0 mt := ⟨_, rfl⟩
      obtain ⟨Z1, hZ1⟩ : ∃ Z, Z = A ++ bs [c] ++ D := ⟨_, rfl⟩
      have zz0 : Z0.size ≤ 1000 := by rw [hZ0]; omega
      rw [← hZ1] at zz1
      have HZ0 := Lib.hid hZ0
      have HZ1 := Lib.hid hZ1
      have w0h := HL6.out.below.size
      obtain ⟨V, hV⟩ : ∃ V, V = w6.alloc (.cells #[.int .i64 a.sec, .int .i64 a.kind, .int .i64 a.a, .int .i64 a.b, .string (bs a.text)] 27) := ⟨_, rfl⟩
      rw [← hV] at HL6 w0h ⊢
      clear hZ0 hZ1 a0 a1 a2 a3 a4 b0 b1 b2 b3 b4 s0 hV
      go_wp2
      refine wp_region_calm ⟨[9, 17], DecF V.heap.size c Z0 Z1, fun _ => [], 99, none, 1000⟩ (by kernel_rfl) (by kernel_rfl) (by kernel_rfl) (fun g h => by cases h) (fun k hk v W W' c h hg hc => decF_kept h hg fun g hh => ?_) ?_
      · obtain ⟨_, _, i, j, u, hd, _⟩ := hc g hh
        simp at hd
      iterate 4 (refine calm_quiet (v := ?_) (by rfl) (by rfl) (fun W hW hD => ?_) ?_; rotate_left; (· (clear hD hW; go_simp; try with_reducible rfl)); simp only [Act.put, List.setIfInBounds_toArray, List.set_cons_zero, List.set_cons_succ, Nat.reduceAdd, Nat.zero_add])
      refine calm_quiet (v := .string Z0) (by rfl) (by rfl) (fun W hW hD => ?_) ?_
      · clear hD hW
        rw [HZ0.out]
        go_simp
      simp only [Act.put, List.setIfInBounds_toArray, List.set_cons_zero, List.set_cons_succ, Nat.reduceAdd, Nat.zero_add]
      iterate 2 (refine calm_quiet (v := ?_) (by rfl) (by rfl) (fun W hW hD => ?_) ?_; rotate_left; (· (clear hD hW; go_simp; try with_reducible rfl)); simp only [Act.put, List.setIfInBounds_toArray, List.set_cons_zero, List.set_cons_succ, Nat.reduceAdd, Nat.zero_add])
      refine calm_quiet (v := .string A) (by rfl) (by rfl) (fun W hW hD => ?_) ?_
      · clear hD hW
        rw [HA.out]
        go_simp
      simp only [Act.put, List.setIfInBounds_toArray, List.set_cons_zero, List.set_cons_succ, Nat.reduceAdd, Nat.zero_add]
      iterate 1 (refine calm_quiet (v := ?_) (by rfl) (by rfl) (fun W hW hD => ?_) ?_; rotate_left; (· (clear hD hW; go_simp; try with_reducible rfl)); simp only [Act.put, List.setIfInBounds_toArray, List.set_cons_zero, List.set_cons_succ, Nat.reduceAdd, Nat.zero_add])
      refine calm_makes (by rfl) (by rfl) (fun W hW hD K hK => ?_) (fun v128 => ?_)
      · refine wp_of_run (v := .slice (some ⟨W.heap.size, 0, none⟩) 1 1) (w' := W.alloc (.cells #[.int .u8 (c.toNat : Int)] 5)) ?_ (hK _ _ (made_below ⟨W.heap.size, rfl, hW.size, heap_alloc_new W _⟩ ((Below.refl _ _).alloc (Nat.le_refl _) _) (fun g hg => ?_)))
        · clear hD hW hK
          go_simp
        · have hg' : some W.heap.size = some g := hg
          cases hg'
          exact ⟨Nat.le_refl _, by simp⟩
      simp only [Act.put, List.setIfInBounds_toArray, List.set_cons_zero, List.set_cons_succ, Nat.reduceAdd, Nat.zero_add]
      refine calm_quiet (v := .string (bs [c])) (by rfl) (by rfl) (fun W hW hD => ?_) ?_
      · obtain ⟨q, rfl, _, hq⟩ : ∃ q, v128 = .slice (some ⟨q, 0, none⟩) 1 1 ∧ V.heap.size ≤ q ∧ W.heap[q]? = some (.cells #[.int .u8 (c.toNat : Int)] 5 (0, 0)) := hD [] 9 (by kernel_rfl) (by kernel_rfl) (by kernel_rfl)
        have hcv := run_convert_bytes_back W 71 9 5 ⟨q, 0, none⟩ 1 [c] Tryd.underlying71 Tryd.underlying5 Tryd.underlying9 (fun j hj => by
          match j, hj with
          | 0, _ => rw [show ((⟨q, 0, none⟩ : Addr).add 0) = ⟨q, 0, none⟩ from rfl, Lib.cell_of_heap hq]; rfl)
        have hcv2 : (convert 71 9 (.slice (some ⟨q, 0, none⟩) 1 1)).run Tryd.prog W = .ok (.string (bs [c])) W := hcv
        clear hD hW hq hcv
        go_simp
      simp only [Act.put, List.setIfInBounds_toArray, List.set_cons_zero, List.set_cons_succ, Nat.reduceAdd, Nat.zero_add]
      iterate 4 (refine calm_quiet (v := ?_) (by rfl) (by rfl) (fun W hW hD => ?_) ?_; rotate_left; (· (clear hD hW; go_simp; try with_reducible rfl)); simp only [Act.put, List.setIfInBounds_toArray, List.set_cons_zero, List.set_cons_succ, Nat.reduceAdd, Nat.zero_add])
      refine calm_quiet (v := .string D) (by rfl) (by rfl) (fun W hW hD => ?_) ?_
      · clear hD hW
        rw [HD.out]
        go_simp
      simp only [Act.put, List.setIfInBounds_toArray, List.set_cons_zero, List.set_cons_succ, Nat.reduceAdd, Nat.zero_add]
      refine calm_quiet (v := .string Z1) (by rfl) (by rfl) (fun W hW hD => ?_) ?_
      · clear hD hW
        rw [HZ1.out]
        go_simp
      simp only [Act.put, List.setIfInBounds_toArray, List.set_cons_zero, List.set_cons_succ, Nat.reduceAdd, Nat.zero_add]
      refine calm_makes (by rfl) (by rfl) (fun W hW hD K hK => ?_) (fun v136 => ?_)
      · refine wp_of_run (v := .slice (some ⟨W.heap.size, 0, none⟩) 2 2) (w' := W.alloc (.cells #[.string Z0, .string Z1] 9)) ?_ (hK _ _ (made_below ⟨W.heap.size, rfl, hW.size, heap_alloc_new W _⟩ ((Below.refl _ _).alloc (Nat.le_refl _) _) (fun g hg => ?_)))
        · clear hD hW hK
          go_simp
        · have hg' : some W.heap.size = some g := hg
          cases hg'
          exact ⟨Nat.le_refl _, by simp⟩
      simp only [Act.put, List.setIfInBounds_toArray, List.set_cons_zero, List.set_cons_succ, Nat.reduceAdd, Nat.zero_add]
      refine calm_quiet (v := .int .i64 2) (by rfl) (by rfl) (fun W hW hD => ?_) ?_
      · obtain ⟨q, rfl, _, hq⟩ : ∃ q, v136 = .slice (some ⟨q, 0, none⟩) 2 2 ∧ V.heap.size ≤ q ∧ W.heap[q]? = some (.cells #[.string Z0, .string Z1] 9 (0, 0)) := hD [] 17 (by kernel_rfl) (by kernel_rfl) (by kernel_rfl)
        clear hD hW
        go_simp
      simp only [Act.put, List.setIfInBounds_toArray, List.set_cons_zero, List.set_cons_succ, Nat.reduceAdd, Nat.zero_add]
      iterate 1 (refine calm_quiet (v := ?_) (by rfl) (by rfl) (fun W hW hD => ?_) ?_; rotate_left; (· (clear hD hW; go_simp; try with_reducible rfl)); simp only [Act.put, List.setIfInBounds_toArray, List.set_cons_zero, List.set_cons_succ, Nat.reduceAdd, Nat.zero_add])
      refine calm_nil fun W hW hF => ?_
      obtain ⟨q, hv136, _, hq⟩ : ∃ q, v136 = .slice (some ⟨q, 0, none⟩) 2 2 ∧ V.heap.size ≤ q ∧ W.heap[q]? = some (.cells #[.string Z0, .string Z1] 9 (0, 0)) := hF 17 (by kernel_rfl) (by kernel_rfl)
      subst hv136
      have hLW := (HL6.out.step (grown_below hW)).add (P := TwoN q Z0 Z1) (keep_two hq)
      have HLW := Lib.hid (show LiveP w [TwoN q Z0 Z1] W from ⟨hLW.1, hLW.2.1, fun P hP => by rcases List.mem_singleton.1 hP with rfl; exact hLW.2.2 _ (by simp)⟩)
      clear hF hW hq hLW HL6 kk0 kk1 kk2 kk3 kk5 kkw mm1 mm0 cc1 cc2 hmt1 hmt2 hmt3 emt w0h
      go_wp2
      go_loopw [138] (fun i wr => ∃ j : Nat, j ≤ 2 ∧ i = .int .i64 j ∧ Hid (LiveP w [TwoN q Z0 Z1] wr)) (fun i _ => 2 - (intOf i).toNat)
      case atStart => exact ⟨0, by omega, rfl, HLW⟩
      case round =>
        clear HLW
        obtain ⟨j, hj, rfl, HW⟩ := hrel
        by_cases h1 : j < 2
        · have hc := (show TwoN q Z0 Z1 wr from HW.out.get (by simp)).cell j h1
          have hzs : (twoZ Z0 Z1 j).size ≤ 1000 := by unfold twoZ; split <;> assumption
          have hag := dec_again (twoZ Z0 Z1 j)
          generalize twoZ Z0 Z1 j = Z at *
          have jj : (j : Int) < 2 := by omega
          have j0 : 0 ≤ (j : Int) := by omega
          have HAg := Lib.hid hag
          clear hag
          go_wp2_with fail
          refine (decode_any Z _ (by unfold maxLen; omega)).mono ?_
          rintro e w7 ⟨rfl, hb⟩
          rcases HAg.out with ⟨r, h2, h3⟩ | ⟨r, h2⟩
          · have H3 := Lib.hid h3
            rw [h2]
            simp only
            have hL := ((HW.out.step hb).alloc (.cells #[.int .i64 r.sec, .int .i64 r.kind, .int .i64 r.a, .int .i64 r.b, .string (bs r.text)] 27)).add (keep_rec (recBox_new w7 r))
            obtain ⟨d0, d1, d2, d3, d4⟩ := (show RecBox _ w7.heap.size r from (show RecN w7.heap.size r _ from hL.get (by simp))).cells
            have HL7 := Lib.hid hL
            clear hb hL h2 h3 hc HW
            go_wp2_with fail
            refine (encode_any r _).mono ?_
            rintro e w8 ⟨rfl, hb⟩
            rw [H3.out]
            simp only
            have hbz : bs Z.data.toList = Z := rfl
            rw [hbz]
            have hL := HL7.out.step hb
            have HW8 : Hid (LiveP w [TwoN q Z0 Z1] w8) := ⟨hL.1, hL.2.1, fun P hP => by rcases List.mem_singleton.1 hP with rfl; exact hL.2.2 _ (by simp)⟩
            clear hb hL d0 d1 d2 d3 d4 hbz
            go_wp2
            go_roundw
            case rel => exact ⟨j + 1, by omega, by go_num, HW8⟩
            case measure => simp [intOf]; omega
          · rw [h2]
            simp only
            have hL := (HW.out.step hb).alloc (.cells #[.int .i64 r.sec, .int .i64 r.kind, .int .i64 r.a, .int .i64 r.b, .string (bs r.text)] 27)
            have HW8 := Lib.hid hL
            clear hb hL h2 hc HW
            go_wp2
            go_roundw
            case rel => exact ⟨j + 1, by omega, by go_num, HW8⟩
            case measure => simp [intOf]; omega
        · obtain rfl : j = 2 := by omega
          have HB := Lib.hid HW.out.below
          go_wp2
          go_ret
          exact ⟨rfl, HB.out⟩
end Go.Proofs.YthfenbdlolbikaaDoor
