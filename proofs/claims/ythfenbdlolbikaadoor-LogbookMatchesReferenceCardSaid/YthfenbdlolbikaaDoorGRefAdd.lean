/- The reference's Add and Find of logbook. -/
import Derived.Test.YthfenbdlolbikaaDoorGRefVal
set_option linter.unusedVariables false
set_option linter.unusedSimpArgs false
namespace Go.Proofs.YthfenbdlolbikaaDoor
open Go.RowKit Go.Shelf

set_option maxRecDepth 100000 in
set_option maxHeartbeats 4000000 in
theorem refAdd_any (o : Int) (rv : Value) (l : List LRec) (x : LRec) (w : World) (hR : RecsAt w.heap.size w rv l) (hl : l.length ≤ 100000) :
    Calls Tryd.prog 14 #[bookV o rv, recV x] w fun e w' => ∃ rv', e = .returned (.tuple #[bookV (addE ⟨o, l⟩ x).1.office rv', .int .i64 (addE ⟨o, l⟩ x).2]) ∧ OwnG w.heap.size w' rv' (addE ⟨o, l⟩ x).1.recs ∧ Below w.heap.size w w' := by
  obtain ⟨ra, rc, rfl, hrc, hrm⟩ := hR.shape
  unfold maxLen at hrm
  have HR := Lib.hid hR
  clear hR
  go_enter Tryd.func14, Tryd.ntmps14
  go_wp2_with fail
  obtain ⟨W0, hW0⟩ : ∃ W0, W0 = ((w.alloc (.cells #[.int .i64 o, .slice ra l.length rc] 25)).alloc (.cells #[.int .i64 x.sec, .int .i64 x.kind, .int .i64 x.a, .int .i64 x.b, .string (bs x.text)] 27)).alloc (.cells #[.int .i64 0, .slice none 0 0] 25) := ⟨_, rfl⟩
  have hb0 : Below w.heap.size w W0 := by rw [hW0]; exact (((Below.refl _ _).alloc (Nat.le_refl _) _).alloc (by simp) _).alloc (by simp; omega) _
  have hsz0 : W0.heap.size = w.heap.size + 3 := by rw [hW0]; simp
  have hL0 : LogBox W0 w.heap.size o (.slice ra l.length rc) := by rw [hW0]; exact (logBox_new w o (.slice ra l.length rc)).below (((Below.refl (w.heap.size + 1) _).alloc (by simp) _).alloc (by simp) _) (by omega)
  have hX0 : RecBox W0 (w.heap.size + 1) x := by
    rw [hW0]
    have := recBox_new (w.alloc (.cells #[.int .i64 o, .slice ra l.length rc] 25)) x
    rw [World.size_alloc] at this
    exact this.below ((Below.refl (w.heap.size + 2) _).alloc (by simp) _) (by omega)
  have hR0 : LogBox W0 (w.heap.size + 2) 0 (.slice none 0 0) := by
    rw [hW0]
    have := logBox_new ((w.alloc (.cells #[.int .i64 o, .slice ra l.length rc] 25)).alloc (.cells #[.int .i64 x.sec, .int .i64 x.kind, .int .i64 x.a, .int .i64 x.b, .string (bs x.text)] 27)) 0 (.slice none 0 0)
    rwa [World.size_alloc, World.size_alloc] at this
  rw [← hW0]
  simp only [Nat.add_assoc, Nat.reduceAdd]
  clear hW0
  have HQ : Hid (∀ W, W0.grownBy W none → W.cell? ⟨w.heap.size, 0, none⟩ = some (.int .i64 o) ∧ W.cell? ⟨w.heap.size, 1, none⟩ = some (.slice ra l.length rc) ∧ W.cell? ⟨w.heap.size + 1, 0, none⟩ = some (.int .i64 x.sec) ∧ W.cell? ⟨w.heap.size + 1, 1, none⟩ = some (.int .i64 x.kind) ∧ W.cell? ⟨w.heap.size + 1, 2, none⟩ = some (.int .i64 x.a) ∧ W.cell? ⟨w.heap.size + 1, 3, none⟩ = some (.int .i64 x.b) ∧ W.cell? ⟨w.heap.size + 1, 4, none⟩ = some (.string (bs x.text))) := fun W hW => by
    have hb := grown_below hW
    have h1 := hL0.below hb hL0.lt
    have h2 := (hX0.below hb hX0.lt).cells
    exact ⟨h1.c0, h1.c1, h2⟩
  have HB0 := Lib.hid hb0
  have HL0 := Lib.hid hL0
  have HR0 := Lib.hid hR0
  have HRs := Lib.hid (HR.out.later hb0 (Nat.le_refl _))
  clear hb0 hL0 hX0 hR0
  refine wp_region_calm ⟨[2, 5, 7, 8, 10], AddF W0.heap.size l x, fun k => if k = 5 then [2] else if k = 8 then [5] else [], 99, none, 11⟩ (by kernel_rfl) (by kernel_rfl) (by kernel_rfl) (fun g h => by cases h) (fun k hk v W W' c h hg hc => addF_kept h hg fun g hh => ?_) ?_
  · obtain ⟨n1, _, i, j, u, hd, hik, hre, hu, hF⟩ := hc g hh
    refine ⟨n1, j, u, ?_, hu, hF⟩
    simp only at hd
    split at hd
    · exact .inl (by simpa using hd)
    · split at hd
      · exact .inr (by simpa using hd)
      · simp at hd
  iterate 2 (refine calm_quiet (v := ?_) (by rfl) (by rfl) (fun W hW hD => ?_) ?_; rotate_left; (· (obtain ⟨z0, z1, z2, z3, z4, z5, z6⟩ := HQ.out W hW; clear hD hW; go_simp; try with_reducible rfl)); simp only [Act.put, List.setIfInBounds_toArray, List.set_cons_zero, List.set_cons_succ, Nat.reduceAdd, Nat.zero_add])
  refine calm_makes (by rfl) (by rfl) (fun W hW hD K hK => ?_) (fun v9 => ?_)
  · refine wp_of_run (v := .slice (some ⟨W.heap.size, 0, none⟩) 0 0) (w' := W.alloc (.cells #[] 27)) ?_ (hK _ _ (made_below (OwnG.mono (ownG_lit0 W) hW.size) ((Below.refl _ _).alloc (Nat.le_refl _) _) (World.ownsRow.lt (ownG_lit0 W))))
    clear hD hW hK
    go_simp
  simp only [Act.put, List.setIfInBounds_toArray, List.set_cons_zero, List.set_cons_succ, Nat.reduceAdd, Nat.zero_add]
  iterate 2 (refine calm_quiet (v := ?_) (by rfl) (by rfl) (fun W hW hD => ?_) ?_; rotate_left; (· (obtain ⟨z0, z1, z2, z3, z4, z5, z6⟩ := HQ.out W hW; clear hD hW; go_simp; try with_reducible rfl)); simp only [Act.put, List.setIfInBounds_toArray, List.set_cons_zero, List.set_cons_succ, Nat.reduceAdd, Nat.zero_add])
  refine calm_makes (by rfl) (by rfl) (fun W hW hD K hK => ?_) (fun v12 => ?_)
  · have h2 : OwnG W0.heap.size W v9 [] := hD [] 2 (by kernel_rfl) (by kernel_rfl) (by kernel_rfl)
    exact wp_append_G (.tmp 9) (.tmp 11) rfl W0.heap.size _ v9 (.slice ra l.length rc) [] l rfl rfl h2 (HRs.out.below (grown_below hW) (Nat.le_refl _)) (by simp; omega) hW.size (fun v' w' h1 h2 h3 => hK _ _ (made_grown (j := 2) (u := v9) (by kernel_rfl) rfl h1 h2 (fun g hg => ⟨(World.ownsRow.lt h1 g hg).2, grown_own h3 hg⟩)))
  simp only [Act.put, List.setIfInBounds_toArray, List.set_cons_zero, List.set_cons_succ, Nat.reduceAdd, Nat.zero_add]
  refine calm_quiet (v := recV x) (by rfl) (by rfl) (fun W hW hD => ?_) ?_
  · obtain ⟨z0, z1, z2, z3, z4, z5, z6⟩ := HQ.out W hW
    clear hD hW
    go_simp
  simp only [Act.put, List.setIfInBounds_toArray, List.set_cons_zero, List.set_cons_succ, Nat.reduceAdd, Nat.zero_add]
  refine calm_makes (by rfl) (by rfl) (fun W hW hD K hK => ?_) (fun v14 => ?_)
  · refine wp_of_run (v := .slice (some ⟨W.heap.size, 0, none⟩) 1 1) (w' := W.alloc (.cells #[.int .i64 x.sec, .int .i64 x.kind, .int .i64 x.a, .int .i64 x.b, .string (bs x.text)] 27)) ?_ (hK _ _ (made_below (OwnG.mono (ownG_lit1 W x) hW.size) ((Below.refl _ _).alloc (Nat.le_refl _) _) (World.ownsRow.lt (ownG_lit1 W x))))
    clear hD hW hK
    go_simp
  simp only [Act.put, List.setIfInBounds_toArray, List.set_cons_zero, List.set_cons_succ, Nat.reduceAdd, Nat.zero_add]
  refine calm_makes (by rfl) (by rfl) (fun W hW hD K hK => ?_) (fun v15 => ?_)
  · have h5 : OwnG W0.heap.size W v12 l := hD [] 5 (by kernel_rfl) (by kernel_rfl) (by kernel_rfl)
    have h7 : OwnG W0.heap.size W v14 [x] := hD [] 7 (by kernel_rfl) (by kernel_rfl) (by kernel_rfl)
    exact wp_append_G (.tmp 12) (.tmp 14) rfl W0.heap.size _ v12 v14 l [x] rfl rfl h5 h7.recs (by simp; omega) hW.size (fun v' w' h1 h2 h3 => hK _ _ (made_grown (j := 5) (u := v12) (by kernel_rfl) rfl h1 h2 (fun g hg => ⟨(World.ownsRow.lt h1 g hg).2, grown_own h3 hg⟩)))
  simp only [Act.put, List.setIfInBounds_toArray, List.set_cons_zero, List.set_cons_succ, Nat.reduceAdd, Nat.zero_add]
  refine calm_quiet (v := bookV o v15) (by rfl) (by rfl) (fun W hW hD => ?_) ?_
  · have h8 : OwnG W0.heap.size W v15 (l ++ [x]) := hD [] 8 (by kernel_rfl) (by kernel_rfl) (by kernel_rfl)
    obtain ⟨xa, xc, rfl, _, _⟩ := h8.shape
    clear hD hW h8
    go_simp
  simp only [Act.put, List.setIfInBounds_toArray, List.set_cons_zero, List.set_cons_succ, Nat.reduceAdd, Nat.zero_add]
  refine calm_makes (by rfl) (by rfl) (fun W hW hD K hK => ?_) (fun v6 => ?_)
  · refine wp_of_run (v := .pointer (some ⟨W.heap.size, 0, none⟩)) (w' := W.alloc (.cells #[.int .i64 0, .slice none 0 0] 25)) ?_ (hK _ _ (made_plain ⟨W.heap.size, rfl, hW.size, heap_alloc_new W _⟩ ((Below.refl _ _).alloc (Nat.le_refl _) _) rfl))
    clear hD hW hK
    go_simp
  simp only [Act.put, List.setIfInBounds_toArray, List.set_cons_zero, List.set_cons_succ, Nat.reduceAdd, Nat.zero_add]
  refine calm_tail (by rfl) fun W hW hF => ?_
  have h8 : OwnG W0.heap.size W v15 (l ++ [x]) := hF 8 (by kernel_rfl) (by kernel_rfl)
  obtain ⟨g, hv6, hgB, hgb⟩ : ∃ g, v6 = .pointer (some ⟨g, 0, none⟩) ∧ W0.heap.size ≤ g ∧ W.heap[g]? = some (.cells #[.int .i64 0, .slice none 0 0] 25 (0, 0)) := hF 10 (by kernel_rfl) (by kernel_rfl)
  subst hv6
  have hbW := grown_below hW
  obtain ⟨xa, xc, hv15, hxc1, hxc2⟩ := h8.shape
  subst hv15
  clear hF hW
  have hgl : g < W.heap.size := (Array.getElem?_eq_some_iff.1 hgb).1
  obtain ⟨W1, hW1⟩ : ∃ W1, W1 = (W.setCell ⟨g, 0, none⟩ (.int .i64 o)).setCell ⟨g, 1, none⟩ (.slice xa (l ++ [x]).length xc) := ⟨_, rfl⟩
  have hb1 : Below W0.heap.size W0 W1 := by rw [hW1]; exact (hbW.setCell (p := ⟨g, 0, none⟩) hgB _).setCell (p := ⟨g, 1, none⟩) hgB _
  have hg1 : LogBox W1 g o (.slice xa (l ++ [x]).length xc) := by rw [hW1]; exact LogBox.set (o := 0) (rv := .slice none 0 0) hgb o _
  have ho1 : OwnG W0.heap.size W1 (.slice xa (l ++ [x]).length xc) (l ++ [x]) := by
    rw [hW1]
    exact (h8.set hgb (by decide) 0 (.int .i64 o)).set (heap_set hgb 0 (.int .i64 o)) (by decide) 1 _
  have g0 : W.cell? ⟨g, 0, none⟩ = some (.int .i64 0) := by rw [Lib.cell_of_heap hgb]; rfl
  have g1 : W.cell? ⟨g, 1, none⟩ = some (.slice none 0 0) := by rw [Lib.cell_of_heap hgb]; rfl
  have gf : ∀ j, W.frozen? ⟨g, j, none⟩ = false := Lib.frozen_of_heap hgb
  have hLx := HL0.out.below hbW HL0.out.lt
  have e0 := hLx.c0
  have e1 := hLx.c1
  have ne1 : w.heap.size ≠ g := by omega
  have ne2 : g ≠ w.heap.size := by omega
  have HW1 := Lib.hid hW1
  have HBl := Lib.hid (HB0.out.trans (hb1.mono HB0.out.size))
  have HG1 := Lib.hid hg1
  have HO1 := Lib.hid ho1
  have HRW := Lib.hid (HR0.out.below hb1 HR0.out.lt)
  have HLW := Lib.hid (HL0.out.below hb1 HL0.out.lt)
  have HRW1 := Lib.hid (HRs.out.later hb1 (Nat.le_refl _))
  have hz1 := hb1.size
  have HNN : Hid ((l ++ [x]).length = l.length + 1) := by show _ = _; simp
  have HE : Hid (addE ⟨o, l⟩ x = if bookB ⟨o, l⟩ && bookB ⟨o, l ++ [x]⟩ then (⟨o, l ++ [x]⟩, 0) else (⟨0, []⟩, 380)) := rfl
  have hzz : W0.heap.size ≤ W1.heap.size := hz1
  clear hW1 hb1 hg1 ho1 h8 hbW hgb HQ HL0 HR0 HB0 HR hLx hxc1 hxc2 hz1
  generalize hN : (l ++ [x]).length = N at *
  clear hN
  go_wp2_with fail
  rw [← HW1.out]
  refine (refValid_any o _ l W1 HRW1.out (by omega)).mono ?_
  rintro e W2 ⟨rfl, hb2⟩
  have HR2 := Lib.hid (HRW.out.below hb2 HRW.out.lt)
  have HG2 := Lib.hid (HG1.out.below hb2 HG1.out.lt)
  have HO2 := Lib.hid (HO1.out.below hb2 (Nat.le_refl _))
  have HBx := Lib.hid (HBl.out.trans (hb2.mono HBl.out.size))
  have hz2 := hb2.size
  clear hb2 HRW HLW HRW1 HBl HO1 HG1 HRs e0 e1 g0 g1 gf
  cases hv1 : bookB ⟨o, l⟩
  · have HF : Hid (addE ⟨o, l⟩ x = (⟨0, []⟩, 380)) := by show _ = _; rw [HE.out, hv1]; rfl
    clear HW1 hv1
    have hE := HR2.out.set 0 (.slice none 0 0)
    have rc0 := HR2.out.c0
    have rc1 := HR2.out.c1
    have rf := HR2.out.frozen
    have HE2 := Lib.hid hE
    have HBf := Lib.hid ((HBx.out.setCell (p := ⟨w.heap.size + 2, 0, none⟩) (by simp) (.int .i64 0)).setCell (p := ⟨w.heap.size + 2, 1, none⟩) (by simp) (.slice none 0 0))
    skip
    clear hE
    go_wp2
    have hE := HE2.out
    exact bodyPost_ret (v := .tuple #[bookV 0 (.slice none 0 0), .int .i64 380]) (by simp [results, Tryd.results14, go_sem, hE.c0, hE.c1]) rfl ⟨(.slice none 0 0), by rw [HF.out], by rw [HF.out]; exact World.ownsRow_nil _ _ _ _, HBf.out⟩
  · rw [hv1, Bool.true_and] at HE
    have k0 := HG2.out.c0
    have k1 := HG2.out.c1
    clear HW1 hv1
    go_wp2_with fail
    refine (refValid_any o _ (l ++ [x]) W2 (by rw [HNN.out] at HO2 ⊢; exact HO2.out.recs) (by rw [List.length_append, List.length_singleton]; omega)).mono ?_
    rintro e W3 ⟨rfl, hb3⟩
    have HR3 := Lib.hid (HR2.out.below hb3 HR2.out.lt)
    have HG3 := Lib.hid (HG2.out.below hb3 HG2.out.lt)
    have HO3 := Lib.hid (HO2.out.below hb3 (Nat.le_refl _))
    have HBy := Lib.hid (HBx.out.trans (hb3.mono HBx.out.size))
    clear hb3 HR2 HG2 HO2 HBx k0 k1
    have HBx := HBy
    cases hv2 : bookB ⟨o, l ++ [x]⟩
    · have HF : Hid (addE ⟨o, l⟩ x = (⟨0, []⟩, 380)) := by show _ = _; rw [HE.out, hv2]; rfl
      clear hv2
      have hE := HR3.out.set 0 (.slice none 0 0)
      have rc0 := HR3.out.c0
      have rc1 := HR3.out.c1
      have rf := HR3.out.frozen
      have HE2 := Lib.hid hE
      have HBf := Lib.hid ((HBx.out.setCell (p := ⟨w.heap.size + 2, 0, none⟩) (by simp) (.int .i64 0)).setCell (p := ⟨w.heap.size + 2, 1, none⟩) (by simp) (.slice none 0 0))
      skip
      clear hE
      go_wp2
      have hE := HE2.out
      exact bodyPost_ret (v := .tuple #[bookV 0 (.slice none 0 0), .int .i64 380]) (by simp [results, Tryd.results14, go_sem, hE.c0, hE.c1]) rfl ⟨(.slice none 0 0), by rw [HF.out], by rw [HF.out]; exact World.ownsRow_nil _ _ _ _, HBf.out⟩
    · have HF : Hid (addE ⟨o, l⟩ x = (⟨o, l ++ [x]⟩, 0)) := by show _ = _; rw [HE.out, hv2]; rfl
      have k0 := HG3.out.c0
      have k1 := HG3.out.c1
      clear hv2
      have hE := HR3.out.set o (.slice xa N xc)
      have rc0 := HR3.out.c0
      have rc1 := HR3.out.c1
      have rf := HR3.out.frozen
      have HE2 := Lib.hid hE
      have HBf := Lib.hid ((HBx.out.setCell (p := ⟨w.heap.size + 2, 0, none⟩) (by simp) (.int .i64 o)).setCell (p := ⟨w.heap.size + 2, 1, none⟩) (by simp) (.slice xa N xc))
      have HOf := Lib.hid ((HO3.out.set HR3.out (by decide) 0 (.int .i64 o)).set (heap_set HR3.out 0 (.int .i64 o)) (by decide) 1 (.slice xa N xc))
      clear hE
      go_wp2
      have hE := HE2.out
      exact bodyPost_ret (v := .tuple #[bookV o (.slice xa N xc), .int .i64 0]) (by simp [results, Tryd.results14, go_sem, hE.c0, hE.c1]) rfl ⟨(.slice xa N xc), by rw [HF.out], by rw [HF.out]; exact HOf.out.mono (by omega), HBf.out⟩
theorem findDn_bd (l : List LRec) (k s : Int) : ∀ j : Nat, -1 ≤ findDn l k s j ∧ findDn l k s j < j
  | 0 => by simp [findDn]
  | j + 1 => by
    rw [findDn]
    have := findDn_bd l k s j
    split <;> omega
set_option maxHeartbeats 2000000 in
set_option maxRecDepth 100000 in
theorem refFind_any (o : Int) (rv : Value) (l : List LRec) (k s : Int) (w : World) (h : RecsAt w.heap.size w rv l) (hl : l.length ≤ 1000000) :
    Calls Tryd.prog 21 #[bookV o rv, .int .i64 k, .int .i64 s] w fun e w' => e = .returned (.int .i64 (findB ⟨o, l⟩ k s)) ∧ Below w.heap.size w w' := by
  obtain ⟨a, c, rfl, hlc, hcm⟩ := h.shape
  unfold maxLen at hcm
  have HL := Lib.hid h
  have hb0 : Below w.heap.size w (w.alloc (.cells #[.int .i64 o, .slice a l.length c] 25)) := (Below.refl _ _).alloc (Nat.le_refl _) _
  have hbx := logBox_new w o (.slice a l.length c)
  have q0 := hbx.c0
  have q1 := hbx.c1
  have HB0 := Lib.hid hb0
  have HX := Lib.hid hbx
  clear h hb0 hbx
  have HF : Hid (findB ⟨o, l⟩ k s = if bookB ⟨o, l⟩ then findDn l k s l.length else -1) := rfl
  generalize hn : l.length = n at *
  have HN := Lib.hid hn
  clear hn
  go_enter Tryd.func21, Tryd.ntmps21
  go_wp2_with fail
  refine (refValid_any o _ l _ (HL.out.later HB0.out (Nat.le_refl _)) (by rw [HN.out]; omega)).mono ?_
  rintro e w1 ⟨rfl, hb⟩
  have HB1 := Lib.hid (HB0.out.trans (hb.mono HB0.out.size))
  have HX1 := Lib.hid (HX.out.below hb HX.out.lt)
  clear hb q0 q1 HX HB0
  cases hv : bookB ⟨o, l⟩
  · rw [hv, if_neg (by simp)] at HF
    clear hv
    go_wp2
    go_ret
    exact ⟨by rw [HF.out]; try rfl, HB1.out⟩
  · rw [hv, if_pos rfl] at HF
    clear hv
    go_wp2
    go_loopw [7, 8] (fun ov i wr => ∃ j : Nat, j ≤ n ∧ i = .int .i64 j ∧ ov = .int .i64 (findDn l k s j) ∧ Below w.heap.size w wr ∧ LogBox wr w.heap.size o (.slice a n c)) (fun _ i _ => n - (intOf i).toNat)
    case atStart => exact ⟨0, Nat.zero_le _, rfl, rfl, HB1.out, HX1.out⟩
    case round =>
      clear HB1 HX1
      obtain ⟨j, hj, rfl, rfl, hW, hX⟩ := hrel
      have q0 := hX.c0
      have q1 := hX.c1
      have HW := Lib.hid hW
      have HX := Lib.hid hX
      by_cases h1 : j < n
      · have jj : (j : Int) < (n : Int) := by omega
        have j0 : 0 ≤ (j : Int) := by omega
        obtain ⟨b, off, hae, hb, hat⟩ := HL.out.at j (by rw [HN.out]; exact h1)
        subst hae
        obtain ⟨c0, c1, _, _, _⟩ := hat.below hW hb
        have HS : Hid (findDn l k s (j + 1) = if hitB l k s j then (j : Int) else findDn l k s j) := rfl
        have HH : Hid (hitB l k s j = (decide ((l.getD j default).kind = k) && decide ((l.getD j default).sec ≤ s))) := rfl
        generalize (l.getD j default).sec = sx at *
        generalize (l.getD j default).kind = kx at *
        generalize findDn l k s j = fj at *
        clear hW hX hat
        by_cases hkx : kx = k
        · have d1 : (kx == k) = true := by simp [hkx]
          by_cases hsx : sx ≤ s
          · have d2 : decide (sx ≤ s) = true := by simp [hsx]
            have HR : Hid (findDn l k s (j + 1) = (j : Int)) := by show _ = _; rw [HS.out, HH.out, d2, hkx]; simp
            clear hkx hsx
            go_wp2
            go_roundw
            case rel => exact ⟨j + 1, by omega, by go_num, by rw [HR.out], HW.out, HX.out⟩
            case measure => simp [intOf]; omega
          · have d2 : decide (sx ≤ s) = false := by simp; omega
            have HR : Hid (findDn l k s (j + 1) = fj) := by show _ = _; rw [HS.out, HH.out, d2]; simp
            clear hkx hsx
            go_wp2
            go_roundw
            case rel => exact ⟨j + 1, by omega, by go_num, by rw [HR.out], HW.out, HX.out⟩
            case measure => simp [intOf]; omega
        · have d1 : (kx == k) = false := by simp [hkx]
          have HR : Hid (findDn l k s (j + 1) = fj) := by show _ = _; rw [HS.out, HH.out, decide_eq_false hkx]; simp
          clear hkx
          go_wp2
          go_roundw
          case rel => exact ⟨j + 1, by omega, by go_num, by rw [HR.out], HW.out, HX.out⟩
          case measure => simp [intOf]; omega
      · obtain rfl : j = n := by omega
        clear hW hX
        go_wp2
        go_ret
        exact ⟨by rw [HF.out]; try rfl, HW.out⟩
end Go.Proofs.YthfenbdlolbikaaDoor
