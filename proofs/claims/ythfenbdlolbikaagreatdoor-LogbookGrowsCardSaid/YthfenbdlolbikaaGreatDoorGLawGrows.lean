/- LogbookGrows: the walk. -/
import Derived.Test.YthfenbdlolbikaaGreatDoorGGrowsP
import Derived.Test.YthfenbdlolbikaaGreatDoorGRefHead
set_option linter.unusedVariables false
set_option linter.unusedSimpArgs false
namespace Go.Proofs.YthfenbdlolbikaaGreatDoor
open Go.RowKit Go.Shelf

set_option maxRecDepth 100000 in
set_option maxHeartbeats 40000000 in
theorem lawGrows (o : Int) (xv : Value) (N : Nat) (f : Nat → Nat → Int) (nn wh : Int) (tk : Bool) (pv : Value) (pl : List Bytes) (w : World) (ho : I64 o) (hnn : I64 nn) (hwh : I64 wh) (hX : FiveAt w.heap.size w xv N f) (hP : StrsAt w.heap.size w pv pl) (hT : Rounds w) :
    Calls Tryz.prog 4 #[.int .i64 o, xv, .int .i64 nn, .int .i64 wh, .bool tk, pv] w fun e w' => e = .returned (.bool true) ∧ Below w.heap.size w w' := by
  have hL0 := ((LiveP.start hT).add (P := FiveN xv N f) (keep_five hX)).add (P := StrsN pv pl) (keep_strs hP)
  have HL0 := Lib.hid hL0
  obtain ⟨⟨xa, xc, rfl, _, _, _⟩, _⟩ := hX
  obtain ⟨pva, pvc, rfl, _, _⟩ := hP.shape
  have hv := made_ok o N f
  have hml := madeB_len o N f
  have HAa := Lib.hid (made_a o N f)
  have HMa := Lib.hid (fun (W : World) (h : FiveN (.slice xa N xc) N f W) => made_any o _ N f W ho h)
  have HPn := Lib.hid (fun (n : Nat) (hn : 1 ≤ n) (hn2 : n ≤ 1000000) (W : World) => gpick_any nn n W hnn.1 hnn.2 (by omega) (by omega))
  have HPw := Lib.hid (fun (n : Nat) (hn : 1 ≤ n) (hn2 : n ≤ 1000000) (W : World) => gpick_any wh n W hwh.1 hwh.2 (by omega) (by omega))
  have HPz := Lib.hid (fun (n : Nat) (hn : 1 ≤ n) => pickZ_bd nn n (by omega))
  have HPy := Lib.hid (fun (n : Nat) (hn : 1 ≤ n) => pickZ_bd wh n (by omega))
  generalize madeBook o N f = bk at *
  obtain ⟨O, l⟩ := bk
  simp only at hml HMa HAa
  have HV := Lib.hid hv
  clear hT hL0 hP
  go_enter Tryz.func4, Tryz.ntmps4
  go_wp2_with fail
  refine (gsane_any _ HL0.out.rounds).mono ?_
  rintro e w1 ⟨rfl, hb⟩
  have HL1 := Lib.hid (HL0.out.step hb)
  clear hb HL0
  go_wp2_with fail
  refine (HMa.out _ (HL1.out.get (by simp))).mono ?_
  rintro e w2 ⟨rv, rfl, hO, hb⟩
  obtain ⟨ra, rc, hrv, hrc1, hrc2⟩ := hO.shape
  subst hrv
  unfold maxLen at hrc2
  have hL := (((HL1.out.step hb).add (keep_recs hO.recs)).alloc (.cells #[.int .i64 O, .slice ra l.length rc] 25)).add (keep_book (logBox_new w2 O (.slice ra l.length rc)))
  obtain ⟨B, hB⟩ : ∃ B, B = w2.heap.size := ⟨_, rfl⟩
  rw [← hB] at hL
  have b1 := show BookN B O (.slice ra l.length rc) _ from hL.get (by simp)
  rw [hB] at b1
  have q0 := b1.c0
  have q1 := b1.c1
  have HL2 := Lib.hid hL
  have HB := Lib.hid hB
  clear hb hL hO HL1 b1 hB
  have hpz := HPz.out (l.length + 1) (by omega)
  have HPk := Lib.hid (HPn.out (l.length + 1) (by omega) (by omega))
  obtain ⟨k, hk⟩ := Int.eq_ofNat_of_zero_le hpz.1
  rw [hk] at HPk hpz
  have hkm : k ≤ l.length := by omega
  obtain ⟨M1, hM1⟩ : ∃ x, x = l.length + 1 := ⟨_, rfl⟩
  rw [← hM1] at HPk
  have wm : IntKind.i64.wrap ((l.length : Int) + 1) = (M1 : Int) := by rw [IntWalk.i64_in _ (by omega)]; omega
  have HCut := Lib.hid (fun (j : Nat) (h : j ≤ rc) => run_cutR ra l.length rc j h)
  have hpk := book_pack HV.out
  have hpk1 := book_pack (book_take HV.out k)
  have HHd := Lib.hid hpk.2.2.2.1
  have HHd1 := Lib.hid hpk1.2.2.2.1
  have HGr : Hid (grownE ⟨O, l⟩ k = ((extE (codesL ⟨O, l⟩) k).1, 0)) := grown_in (b := ⟨O, l⟩) HV.out hkm
  have HAcc : Hid (verExtB (rootL (codesL ⟨O, l.take k⟩)) (k : Nat) (rootL (codesL ⟨O, l⟩)) (l.length : Nat) (extE (codesL ⟨O, l⟩) k).1 = true) := grown_acc hkm
  have HPack := Lib.hid hpk
  have hcl : (codesL ⟨O, l⟩).length = l.length := codesL_len ⟨O, l⟩
  have HSmE := Lib.hid (fun (j : Nat) (h : j ≤ l.length) => extE_sm (l := codesL ⟨O, l⟩) (k := j) (by omega) (by omega))
  have HUse := Lib.hid (fun (d : List LRec) (hd : bookB ⟨O, d⟩ = true) (many : Nat) (h1 : 1 ≤ many) (hm : many ≤ l.length) (hdl : d.length = many) (hne : (l.take many == d) = false) (q : List Bytes) hq => grows_use HV.out hd h1 hm hdl hne q hq)
  have HGrM := Lib.hid (fun (j : Nat) (h : j ≤ l.length) => grown_in (b := ⟨O, l⟩) HV.out (k := j) h)
  have HTkl : Hid ((l.take k).length = k) := by show _ = _; rw [List.length_take]; omega
  have HBT := Lib.hid (fun (j : Nat) => book_take HV.out j)
  have HBE := Lib.hid (fun (j : Nat) => book_erase (book_take HV.out k) j)
  have HBB := Lib.hid (fun (j : Nat) (hj : j < (l.take k).length) => book_bump (book_take HV.out k) j hj (HAa.out _ (List.mem_of_mem_take (by rw [List.getD_eq_getElem?_getD, List.getElem?_eq_getElem hj]; exact List.getElem_mem _ : (l.take k).getD j default ∈ l.take k))).2)
  have HAk := Lib.hid (fun (j : Nat) (hj : j < (l.take k).length) => HAa.out _ (List.mem_of_mem_take (by rw [List.getD_eq_getElem?_getD, List.getElem?_eq_getElem hj]; exact List.getElem_mem _ : (l.take k).getD j default ∈ l.take k)))
  have hps := HSmE.out k hkm
  have hPe := hps.2
  have hPl := hps.1
  clear hk hpk hpk1 hcl hps HPz HPn HAa
  generalize rootL (codesL ⟨O, l.take k⟩) = R1 at *
  obtain ⟨C, hC⟩ : ∃ x, x = codesL ⟨O, l⟩ := ⟨_, rfl⟩
  rw [← hC] at HHd HGr HAcc HPack HSmE HUse HGrM hPe hPl
  have HC := Lib.hid hC
  obtain ⟨R, hR⟩ : ∃ x, x = rootL C := ⟨_, rfl⟩
  rw [← hR] at HHd HAcc HUse HPack
  have hRl : R.length = 32 := HPack.out.2.2.2.2.2.2
  generalize hPL : (extE C k).1 = PL at *
  obtain ⟨HL, hHL⟩ : ∃ x, x = hashedL C := ⟨_, rfl⟩
  rw [← hHL] at HPack HUse
  have HHL := Lib.hid hHL
  obtain ⟨T1, hT1⟩ : ∃ x, x = l.take k := ⟨_, rfl⟩
  rw [← hT1] at HHd1 HTkl HBE HBB HAk
  have HT1 := Lib.hid hT1
  generalize hm : l.length = m at *
  have HM := Lib.hid hm
  generalize hpn : PL.length = PN at *
  have HPN := Lib.hid hpn
  have HPe := Lib.hid hPe
  clear hm hpn hC hR hPL hHL hT1 hPe hpz hv
  have HSk := Lib.hid (HCut.out k (by omega))
  obtain ⟨V, hV⟩ : ∃ V, V = w2.alloc (.cells #[.int .i64 O, .slice ra m rc] 25) := ⟨_, rfl⟩
  rw [← hV] at HL2
  have HVv := Lib.hid hV
  clear hV hM1
  go_wp2_with fail
  rw [← HVv.out, ← HB.out]
  clear wm q0 q1
  refine (HPk.out _).mono ?_
  rintro e w' ⟨rfl, rfl⟩
  clear HPk HVv
  have HQ : Hid (∀ W, V.grownBy W none → W.cell? ⟨B, 0, none⟩ = some (.int .i64 O) ∧ W.cell? ⟨B, 1, none⟩ = some (.slice ra m rc)) := fun W hW => by
    have hL := HL2.out.step (grown_below hW)
    have hb := show BookN B O (.slice ra m rc) W from hL.get (by simp)
    exact ⟨hb.c0, hb.c1⟩
  go_wp2
  refine wp_region_calm ⟨[8], NewF V.heap.size, fun _ => [], 99, none, 9⟩ (by kernel_rfl) (by kernel_rfl) (by kernel_rfl) (fun g h => by cases h) (fun k hk v W W' c h hg hc => newF_kept (k := k) h hg fun g hh => ?_) ?_
  · obtain ⟨_, _, i, j, u, hd, _⟩ := hc g hh
    simp at hd
  iterate 6 (refine calm_quiet (v := ?_) (by rfl) (by rfl) (fun W hW hD => ?_) ?_; rotate_left; (· (obtain ⟨z0, z1⟩ := HQ.out W hW; clear hD hW; go_simp; try with_reducible rfl)); simp only [Act.put, List.setIfInBounds_toArray, List.set_cons_zero, List.set_cons_succ, Nat.reduceAdd, Nat.zero_add])
  refine calm_quiet (v := .slice ra k k) (by rfl) (by rfl) (fun W hW hD => ?_) ?_
  · have hs := HSk.out W
    clear hD hW
    go_simp
  simp only [Act.put, List.setIfInBounds_toArray, List.set_cons_zero, List.set_cons_succ, Nat.reduceAdd, Nat.zero_add]
  iterate 1 (refine calm_quiet (v := ?_) (by rfl) (by rfl) (fun W hW hD => ?_) ?_; rotate_left; (· (clear hD hW; go_simp; try with_reducible rfl)); simp only [Act.put, List.setIfInBounds_toArray, List.set_cons_zero, List.set_cons_succ, Nat.reduceAdd, Nat.zero_add])
  refine calm_makes (by rfl) (by rfl) (fun W hW hD K hK => ?_) (fun v16 => ?_)
  · refine wp_of_run (v := .pointer (some ⟨W.heap.size, 0, none⟩)) (w' := W.alloc (.cells #[.int .i64 0, .slice none 0 0] 25)) ?_ (hK _ _ (made_plain ⟨W.heap.size, rfl, hW.size, heap_alloc_new W _⟩ ((Below.refl _ _).alloc (Nat.le_refl _) _) rfl))
    clear hD hW hK
    go_simp
  simp only [Act.put, List.setIfInBounds_toArray, List.set_cons_zero, List.set_cons_succ, Nat.reduceAdd, Nat.zero_add]
  refine calm_tail (by rfl) fun W hW hF => ?_
  obtain ⟨G1, hpv, hgB, hgb⟩ : ∃ g, v16 = .pointer (some ⟨g, 0, none⟩) ∧ V.heap.size ≤ g ∧ W.heap[g]? = some (.cells #[.int .i64 0, .slice none 0 0] 25 (0, 0)) := hF 8 (by kernel_rfl) (by kernel_rfl)
  subst hpv
  have hbW := grown_below hW
  obtain ⟨e0, e1⟩ := HQ.out W hW
  have hLw := HL2.out.step hbW
  clear hF hW
  obtain ⟨X1, hX1⟩ : ∃ X, X = (W.setCell ⟨G1, 0, none⟩ (.int .i64 O)).setCell ⟨G1, 1, none⟩ (.slice ra k k) := ⟨_, rfl⟩
  have hb1 : Below V.heap.size V X1 := by rw [hX1]; exact (hbW.setCell (p := ⟨G1, 0, none⟩) hgB _).setCell (p := ⟨G1, 1, none⟩) hgB _
  have hg1 : LogBox X1 G1 O (.slice ra k k) := by rw [hX1]; exact LogBox.set (o := 0) (rv := .slice none 0 0) hgb O _
  have g0 : W.cell? ⟨G1, 0, none⟩ = some (.int .i64 0) := by rw [Lib.cell_of_heap hgb]; rfl
  have g1 : W.cell? ⟨G1, 1, none⟩ = some (.slice none 0 0) := by rw [Lib.cell_of_heap hgb]; rfl
  have gf : ∀ j, W.frozen? ⟨G1, j, none⟩ = false := Lib.frozen_of_heap hgb
  have hBV : B < V.heap.size := (show LogBox V B O (.slice ra m rc) from (show BookN B O (.slice ra m rc) V from HL2.out.get (by simp))).lt
  have ne1 : B ≠ G1 := by omega
  have ne2 : G1 ≠ B := by omega
  have hLx := HL2.out.step hb1
  have hrk := (show RecsAt X1.heap.size X1 (.slice ra m rc) l from (show RecsN (.slice ra m rc) l X1 from hLx.get (by simp))).take k k (by rw [HM.out]; omega) (Nat.le_refl _) (by unfold maxLen; omega)
  have HL3 := Lib.hid ((hLx.add (keep_book hg1)).add (keep_recs hrk))
  have HX1 := Lib.hid hX1
  clear hX1 hb1 hg1 hbW hgb hgB hLx hLw hrk HQ 
  go_wp2_with fail
  rw [← HX1.out]
  clear HX1 e0 e1 g0 g1 gf ne1 ne2
  refine (head_any O _ l _ (show RecsN (.slice ra m rc) l _ from HL3.out.get (by simp)) (by rw [HM.out]; omega) HL3.out.rounds).mono ?_
  rintro e w3 ⟨rfl, hb⟩
  rw [HHd.out]
  simp only
  have HL4 := Lib.hid (HL3.out.step hb)
  clear hb HL3
  have b1 := show BookN G1 O (.slice ra k k) w3 from HL4.out.get (by simp)
  have q0 := b1.c0
  have q1 := b1.c1
  clear b1
  go_wp2_with fail
  refine (head_any O _ T1 _ (by rw [HT1.out]; exact (show RecsN (.slice ra k k) (l.take k) _ from HL4.out.get (by simp))) (by rw [HTkl.out]; omega) HL4.out.rounds).mono ?_
  rintro e w4 ⟨rfl, hb⟩
  rw [HHd1.out]
  simp only
  have HL5 := Lib.hid (HL4.out.step hb)
  clear hb HL4 q0 q1
  have b1 := show BookN B O (.slice ra m rc) w4 from HL5.out.get (by simp)
  have q0 := b1.c0
  have q1 := b1.c1
  clear b1
  go_wp2_with fail
  refine (grown_any O _ l k _ (show RecsN (.slice ra m rc) l _ from HL5.out.get (by simp)) (by rw [HM.out]; omega) HL5.out.rounds).mono ?_
  rintro e w5 ⟨vp, rfl, hO, hb⟩
  rw [HGr.out] at hO ⊢
  simp only at hO ⊢
  obtain ⟨pa, pc, hvp, hpc1, hpc2⟩ := hO.shape2
  subst hvp
  rw [HPN.out] at hO hpc1 ⊢
  have HL6 := Lib.hid ((HL5.out.step hb).add (P := OwnsN 0 (.slice pa PN pc) PL) (keep_owns (hO.mono (Nat.zero_le _))))
  clear hb hO HL5 q0 q1
  go_wp2_with fail
  refine (checkGrown_any R1 k R m _ PL _ (by omega) (by omega) (show OwnsN 0 (.slice pa PN pc) PL _ from HL6.out.get (by simp)).strs (by rw [HPN.out]; omega) HL6.out.rounds).mono ?_
  rintro e w6 ⟨rfl, hb⟩
  rw [HAcc.out]
  have HL7 := Lib.hid (HL6.out.step hb)
  clear hb HL6 HAcc HHd HHd1 HGr
  by_cases hk0 : k = 0
  · have kz : ((k : Int) == 0) = true := by rw [beq_iff_eq]; omega
    have HBl := Lib.hid HL7.out.below
    clear hk0
    go_wp2
    go_ret
    exact ⟨rfl, HBl.out⟩
  · have kz : ((k : Int) == 0) = false := by rw [beq_eq_false_iff_ne]; omega
    have k1 : 1 ≤ k := by omega
    clear hk0
    have HRk := Lib.hid (show RecsAt w6.heap.size w6 (.slice ra k k) T1 from by rw [HT1.out]; exact (show RecsN (.slice ra k k) (l.take k) _ from HL7.out.get (by simp)))
    have HQ : Hid (∀ W, w6.grownBy W none → W.cell? ⟨B, 0, none⟩ = some (.int .i64 O) ∧ W.cell? ⟨G1, 1, none⟩ = some (.slice ra k k)) := fun W hW => by
      have hL := HL7.out.step (grown_below hW)
      have hb := show BookN B O (.slice ra m rc) W from hL.get (by simp)
      have hb2 := show BookN G1 O (.slice ra k k) W from hL.get (by simp)
      exact ⟨hb.c0, hb2.c1⟩
    go_wp2
    refine wp_region_calm ⟨[2, 5, 7], OthF w6.heap.size T1, fun k => if k = 5 then [2] else [], 99, none, 8⟩ (by kernel_rfl) (by kernel_rfl) (by kernel_rfl) (fun g h => by cases h) (fun k hk v W W' c h hg hc => othF_kept h hg fun g hh => ?_) ?_
    · obtain ⟨n1, _, i, j, u, hd, hik, hre, hu, hF⟩ := hc g hh
      refine ⟨n1, u, hu, ?_⟩
      simp only at hd
      split at hd
      · obtain rfl : j = 2 := by simpa using hd
        exact hF
      · simp at hd
    iterate 2 (refine calm_quiet (v := ?_) (by rfl) (by rfl) (fun W hW hD => ?_) ?_; rotate_left; (· (obtain ⟨z0, z1⟩ := HQ.out W hW; clear hD hW; go_simp; try with_reducible rfl)); simp only [Act.put, List.setIfInBounds_toArray, List.set_cons_zero, List.set_cons_succ, Nat.reduceAdd, Nat.zero_add])
    refine calm_makes (by rfl) (by rfl) (fun W hW hD K hK => ?_) (fun v101 => ?_)
    · refine wp_of_run (v := .slice (some ⟨W.heap.size, 0, none⟩) 0 0) (w' := W.alloc (.cells #[] 48)) ?_ (hK _ _ (made_below (OwnG.mono (ownG_lit0 W) hW.size) ((Below.refl _ _).alloc (Nat.le_refl _) _) (World.ownsRow.lt (ownG_lit0 W))))
      clear hD hW hK
      go_simp
    simp only [Act.put, List.setIfInBounds_toArray, List.set_cons_zero, List.set_cons_succ, Nat.reduceAdd, Nat.zero_add]
    iterate 2 (refine calm_quiet (v := ?_) (by rfl) (by rfl) (fun W hW hD => ?_) ?_; rotate_left; (· (obtain ⟨z0, z1⟩ := HQ.out W hW; clear hD hW; go_simp; try with_reducible rfl)); simp only [Act.put, List.setIfInBounds_toArray, List.set_cons_zero, List.set_cons_succ, Nat.reduceAdd, Nat.zero_add])
    refine calm_makes (by rfl) (by rfl) (fun W hW hD K hK => ?_) (fun v104 => ?_)
    · have h2 : OwnG w6.heap.size W v101 [] := hD [] 2 (by kernel_rfl) (by kernel_rfl) (by kernel_rfl)
      exact wp_append_G (.tmp 101) (.tmp 103) rfl w6.heap.size _ v101 (.slice ra k k) [] T1 rfl rfl h2 (HRk.out.below (grown_below hW) (Nat.le_refl _)) (by rw [HTkl.out]; simp; omega) hW.size (fun v' w' h1 h2 h3 => hK _ _ (made_grown (j := 2) (u := v101) (by kernel_rfl) rfl h1 h2 (fun g hg => ⟨(World.ownsRow.lt h1 g hg).2, grown_own h3 hg⟩)))
    simp only [Act.put, List.setIfInBounds_toArray, List.set_cons_zero, List.set_cons_succ, Nat.reduceAdd, Nat.zero_add]
    refine calm_quiet (v := bookV O v104) (by rfl) (by rfl) (fun W hW hD => ?_) ?_
    · have h8 : OwnG w6.heap.size W v104 T1 := hD [] 5 (by kernel_rfl) (by kernel_rfl) (by kernel_rfl)
      obtain ⟨xa, xc, rfl, _, _⟩ := h8.shape
      clear hD hW h8
      go_simp
    simp only [Act.put, List.setIfInBounds_toArray, List.set_cons_zero, List.set_cons_succ, Nat.reduceAdd, Nat.zero_add]
    refine calm_makes (by rfl) (by rfl) (fun W hW hD K hK => ?_) (fun v23 => ?_)
    · refine wp_of_run (v := .pointer (some ⟨W.heap.size, 0, none⟩)) (w' := W.alloc (.cells #[.int .i64 0, .slice none 0 0] 25)) ?_ (hK _ _ (made_plain ⟨W.heap.size, rfl, hW.size, heap_alloc_new W _⟩ ((Below.refl _ _).alloc (Nat.le_refl _) _) rfl))
      clear hD hW hK
      go_simp
    simp only [Act.put, List.setIfInBounds_toArray, List.set_cons_zero, List.set_cons_succ, Nat.reduceAdd, Nat.zero_add]
    refine calm_tail (by rfl) fun W hW hF => ?_
    have h8 : OwnG w6.heap.size W v104 T1 := hF 5 (by kernel_rfl) (by kernel_rfl)
    obtain ⟨G3, hpv, hgB, hgb⟩ : ∃ g, v23 = .pointer (some ⟨g, 0, none⟩) ∧ w6.heap.size ≤ g ∧ W.heap[g]? = some (.cells #[.int .i64 0, .slice none 0 0] 25 (0, 0)) := hF 7 (by kernel_rfl) (by kernel_rfl)
    subst hpv
    have hbW := grown_below hW
    obtain ⟨r3, c3, hv104, hr3⟩ : ∃ g c, v104 = .slice (some ⟨g, 0, none⟩) k c ∧ w6.heap.size ≤ g ∧ k ≤ c ∧ c ≤ maxLen := by
      rcases h8.2 with ⟨_, h0⟩ | ⟨g, cap, cur, hv, hBg, _, hn1, hn2, _⟩
      · rw [HTkl.out] at h0; omega
      · rw [HTkl.out] at hv hn1; exact ⟨g, cap, hv, hBg, hn1, hn2⟩
    subst hv104
    clear hF hW
    obtain ⟨hr3, hc3a, hc3b⟩ := hr3
    unfold maxLen at hc3b
    obtain ⟨X2, hX1⟩ : ∃ X, X = (W.setCell ⟨G3, 0, none⟩ (.int .i64 O)).setCell ⟨G3, 1, none⟩ (.slice (some ⟨r3, 0, none⟩) k c3) := ⟨_, rfl⟩
    have hb1 : Below w6.heap.size w6 X2 := by rw [hX1]; exact (hbW.setCell (p := ⟨G3, 0, none⟩) hgB _).setCell (p := ⟨G3, 1, none⟩) hgB _
    have hg1 : LogBox X2 G3 O (.slice (some ⟨r3, 0, none⟩) k c3) := by rw [hX1]; exact LogBox.set (o := 0) (rv := .slice none 0 0) hgb O _
    have ho1 : OwnG w6.heap.size X2 (.slice (some ⟨r3, 0, none⟩) k c3) T1 := by
      rw [hX1]
      exact (h8.set hgb (by decide) 0 (.int .i64 O)).set (heap_set hgb 0 (.int .i64 O)) (by decide) 1 _
    have hr3l : r3 < X2.heap.size := (World.ownsRow.lt ho1 r3 rfl).2
    have hne3 : r3 ≠ G3 := by
      intro e
      have := ownG_block ho1 (show (Value.slice (some ⟨r3, 0, none⟩) k c3).ownBlock = some r3 from rfl) (by rw [e]; exact hg1)
      exact absurd this (by decide)
    have g0 : W.cell? ⟨G3, 0, none⟩ = some (.int .i64 0) := by rw [Lib.cell_of_heap hgb]; rfl
    have g1 : W.cell? ⟨G3, 1, none⟩ = some (.slice none 0 0) := by rw [Lib.cell_of_heap hgb]; rfl
    have gf : ∀ j, W.frozen? ⟨G3, j, none⟩ = false := Lib.frozen_of_heap hgb
    have HB3 := Lib.hid hb1
    have HG3 := Lib.hid hg1
    have HO3 := Lib.hid ho1
    have HX1 := Lib.hid hX1
    clear hX1 hb1 hg1 ho1 hbW hgb h8 HQ
    have hpz := HPy.out k (by omega)
    have HPk := Lib.hid (HPw.out k (by omega) (by omega))
    obtain ⟨i, hi⟩ := Int.eq_ofNat_of_zero_le hpz.1
    rw [hi] at HPk hpz
    have hik : i < k := by omega
    clear hpz hi HPy HPw
    go_wp2_with fail
    rw [← HX1.out]
    clear HX1 g0 g1 gf
    refine (HPk.out _).mono ?_
    rintro e w' ⟨rfl, rfl⟩
    clear HPk
    cases tk
    · obtain ⟨la, hla⟩ : ∃ x, x = T1.getD i default := ⟨_, rfl⟩
      have hA := HAk.out i (by rw [HTkl.out]; exact hik)
      rw [← hla] at hA
      have hbk : bookB ⟨O, T1.set i (setF la 2 (la.a + 1))⟩ = true := by rw [hla]; exact HBB.out i (by rw [HTkl.out]; exact hik)
      have hDl : (T1.set i (setF la 2 (la.a + 1))).length = k := by rw [List.length_set, HTkl.out]
      have wa : IntKind.i64.wrap (la.a + 1) = la.a + 1 := IntWalk.i64_in _ (by omega)
      have HRc : Hid (∀ W, X2.grownBy W none → RecAt W r3 (i * 5) la) := fun W hW => by
        obtain ⟨b', off', ha, _, hc⟩ := (HO3.out.below (grown_below hW) (Nat.le_refl _)).recs.at i (by rw [HTkl.out]; exact hik)
        cases ha
        rw [hla]
        simpa using hc
      have HQ : Hid (∀ W, X2.grownBy W none → W.cell? ⟨G3, 1, none⟩ = some (.slice (some ⟨r3, 0, none⟩) k c3) ∧ W.cell? ⟨r3, i * 5 + 2, none⟩ = some (.int .i64 la.a)) := fun W hW => ⟨(HG3.out.below (grown_below hW) HG3.out.lt).c1, (HRc.out W hW).2.2.1⟩
      have ii1 : (i : Int) < (k : Int) := by omega
      have i0 : 0 ≤ (i : Int) := by omega
      have HLa := Lib.hid hA
      have HLz := Lib.hid hla
      have HBk := Lib.hid hbk
      have HDl := Lib.hid hDl
      clear hA hla hbk hDl
      go_wp2
      refine wp_region_calm ⟨[], fun _ _ _ => True, fun _ => [], 99, none, 12⟩ (by kernel_rfl) (by kernel_rfl) (by kernel_rfl) (fun g h => by cases h) (fun k hk v W W' c h hg hc => h) ?_
      iterate 12 (refine calm_quiet (v := ?_) (by rfl) (by rfl) (fun W hW hD => ?_) ?_; rotate_left; (· (obtain ⟨z0, z1⟩ := HQ.out W hW; clear hD hW; go_simp; try with_reducible rfl)); simp only [Act.put, List.setIfInBounds_toArray, List.set_cons_zero, List.set_cons_succ, Nat.reduceAdd, Nat.zero_add])
      refine calm_tail (by rfl) fun W hW hF => ?_
      have hbW := grown_below hW
      have ho := HO3.out.below hbW (Nat.le_refl _)
      have hgW := HG3.out.below hbW HG3.out.lt
      have a2 := (HRc.out W hW).2.2.1
      have rf : ∀ j, W.frozen? ⟨r3, j, none⟩ = false := fun j => World.ownsRow.frozenAt (show W.ownsRow w6.heap.size 48 5 (.slice (some ⟨r3, 0, none⟩) k c3) k (cellsG T1) from by have h := ho; unfold OwnG at h; rwa [HTkl.out] at h) j
      have hst := ho.storeN (by rw [HTkl.out]) i 2 (by rw [HTkl.out]; exact hik) (by decide) (la.a + 1)
      rw [← HLz.out] at hst
      obtain ⟨X3, hX3⟩ : ∃ X, X = W.setCell ⟨r3, i * 5 + 2, none⟩ (.int .i64 (la.a + 1)) := ⟨_, rfl⟩
      rw [← hX3] at hst
      have hb3 : Below w6.heap.size w6 X3 := by rw [hX3]; exact (HB3.out.trans (hbW.mono HB3.out.size)).setCell (p := ⟨r3, i * 5 + 2, none⟩) hr3 _
      have hg3 : LogBox X3 G3 O (.slice (some ⟨r3, 0, none⟩) k c3) := by rw [hX3]; exact (heap_set_ne W (Ne.symm hne3) _ _).trans hgW
      obtain ⟨D, hD⟩ : ∃ x, x = T1.set i (setF la 2 (la.a + 1)) := ⟨_, rfl⟩
      rw [← hD] at hst HBk HDl
      have HLD := Lib.hid (((HL7.out.step hb3).add (keep_recs hst.recs)).add (keep_book hg3))
      have e0 := hgW.c0
      have e1 := hgW.c1
      have HX3 := Lib.hid hX3
      have ne1 : G3 ≠ r3 := Ne.symm hne3
      have ne2 : r3 ≠ G3 := hne3
      clear hX3 hb3 hg3 hD hst ho hbW hgW hW hF HL7 HRc HQ HO3 HG3 HB3 HLa HLz
      have hpd := book_pack HBk.out
      have HHdD := Lib.hid hpd.2.2.2.1
      obtain ⟨S, hS⟩ : ∃ x, x = l.take k := ⟨_, rfl⟩
      have hSl : S.length = k := by rw [hS, List.length_take, HM.out]; omega
      have hps := book_pack (HBT.out k)
      rw [← hS] at hps
      have HHdS := Lib.hid hps.2.2.2.1
      have HUd := Lib.hid (fun (h1 : 1 ≤ k) => HUse.out D HBk.out k h1 (by omega) HDl.out)
      have hgm := HGrM.out k (by omega)
      have hso := HSmE.out k (by omega)
      rw [← hS] at HUd
      obtain ⟨CD, hCD⟩ : ∃ x, x = codesL ⟨O, D⟩ := ⟨_, rfl⟩
      obtain ⟨CS, hCS⟩ : ∃ x, x = codesL ⟨O, S⟩ := ⟨_, rfl⟩
      rw [← hCD] at hpd HHdD HUd
      rw [← hCS] at hps HHdS HUd
      obtain ⟨RD, hRD⟩ : ∃ x, x = rootL CD := ⟨_, rfl⟩
      obtain ⟨RS, hRS⟩ : ∃ x, x = rootL CS := ⟨_, rfl⟩
      rw [← hRD] at hpd HHdD HUd
      rw [← hRS] at hps HHdS HUd
      obtain ⟨HD, hHD⟩ : ∃ x, x = hashedL CD := ⟨_, rfl⟩
      obtain ⟨HS, hHS⟩ : ∃ x, x = hashedL CS := ⟨_, rfl⟩
      rw [← hHD] at hpd HUd
      rw [← hHS] at hps HUd
      obtain ⟨OL, hOL⟩ : ∃ x, x = (extE C k).1 := ⟨_, rfl⟩
      rw [← hOL] at HUd hgm hso
      have HPd := Lib.hid hpd
      have HPs := Lib.hid hps
      have HGm := Lib.hid hgm
      have HSo := Lib.hid hso
      have HHD := Lib.hid hHD
      have HHS := Lib.hid hHS
      have hRDl : RD.length = 32 := hpd.2.2.2.2.2.2
      have hRSl : RS.length = 32 := hps.2.2.2.2.2.2
      have HS0 := Lib.hid hS
      have HSl := Lib.hid hSl
      have HEqB : Hid (((⟨O, S⟩ : LBook) == ⟨O, D⟩) = (S == D)) := by show _ = _; rw [Bool.eq_iff_iff]; simp
      clear hpd hps hgm hso hCD hCS hRD hRS hHD hHS hOL hS hSl HUse HGrM HSmE HBT HBE HBB HAk HRk
      have HCk := Lib.hid (HCut.out k (by omega))
      clear HCut
      go_wp2_with fail
      rw [← HX3.out]
      clear HX3 e0 e1 ne1 ne2 a2 rf
      refine (head_any O _ D _ (show RecsN (.slice (some ⟨r3, 0, none⟩) k c3) D _ from HLD.out.get (by simp)) (by rw [HDl.out]; omega) HLD.out.rounds).mono ?_
      rintro e w7 ⟨rfl, hb⟩
      rw [HHdD.out]
      simp only
      have HL8 := Lib.hid (HLD.out.step hb)
      clear hb HLD HHdD
      have HQ : Hid (∀ W, w7.grownBy W none → W.cell? ⟨B, 0, none⟩ = some (.int .i64 O) ∧ W.cell? ⟨B, 1, none⟩ = some (.slice ra m rc)) := fun W hW => by
        have hL := HL8.out.step (grown_below hW)
        have hb := show BookN B O (.slice ra m rc) W from hL.get (by simp)
        exact ⟨hb.c0, hb.c1⟩
      go_wp2
      refine wp_region_calm ⟨[8], NewF w7.heap.size, fun _ => [], 99, none, 9⟩ (by kernel_rfl) (by kernel_rfl) (by kernel_rfl) (fun g h => by cases h) (fun k hk v W W' c h hg hc => newF_kept (k := k) h hg fun g hh => ?_) ?_
      · obtain ⟨_, _, i, j, u, hd, _⟩ := hc g hh
        simp at hd
      iterate 6 (refine calm_quiet (v := ?_) (by rfl) (by rfl) (fun W hW hD => ?_) ?_; rotate_left; (· (obtain ⟨z0, z1⟩ := HQ.out W hW; clear hD hW; go_simp; try with_reducible rfl)); simp only [Act.put, List.setIfInBounds_toArray, List.set_cons_zero, List.set_cons_succ, Nat.reduceAdd, Nat.zero_add])
      refine calm_quiet (v := .slice ra k k) (by rfl) (by rfl) (fun W hW hD => ?_) ?_
      · have hs := HCk.out W
        clear hD hW
        go_simp
      simp only [Act.put, List.setIfInBounds_toArray, List.set_cons_zero, List.set_cons_succ, Nat.reduceAdd, Nat.zero_add]
      iterate 1 (refine calm_quiet (v := ?_) (by rfl) (by rfl) (fun W hW hD => ?_) ?_; rotate_left; (· (clear hD hW; go_simp; try with_reducible rfl)); simp only [Act.put, List.setIfInBounds_toArray, List.set_cons_zero, List.set_cons_succ, Nat.reduceAdd, Nat.zero_add])
      refine calm_makes (by rfl) (by rfl) (fun W hW hD K hK => ?_) (fun v28 => ?_)
      · refine wp_of_run (v := .pointer (some ⟨W.heap.size, 0, none⟩)) (w' := W.alloc (.cells #[.int .i64 0, .slice none 0 0] 25)) ?_ (hK _ _ (made_plain ⟨W.heap.size, rfl, hW.size, heap_alloc_new W _⟩ ((Below.refl _ _).alloc (Nat.le_refl _) _) rfl))
        clear hD hW hK
        go_simp
      simp only [Act.put, List.setIfInBounds_toArray, List.set_cons_zero, List.set_cons_succ, Nat.reduceAdd, Nat.zero_add]
      refine calm_tail (by rfl) fun W hW hF => ?_
      obtain ⟨G5, hpv, hgB, hgb⟩ : ∃ g, v28 = .pointer (some ⟨g, 0, none⟩) ∧ w7.heap.size ≤ g ∧ W.heap[g]? = some (.cells #[.int .i64 0, .slice none 0 0] 25 (0, 0)) := hF 8 (by kernel_rfl) (by kernel_rfl)
      subst hpv
      have hbW := grown_below hW
      obtain ⟨e0, e1⟩ := HQ.out W hW
      have hLw := HL8.out.step hbW
      clear hF hW
      obtain ⟨X5, hX1⟩ : ∃ X, X = (W.setCell ⟨G5, 0, none⟩ (.int .i64 O)).setCell ⟨G5, 1, none⟩ (.slice ra k k) := ⟨_, rfl⟩
      have hb1 : Below w7.heap.size w7 X5 := by rw [hX1]; exact (hbW.setCell (p := ⟨G5, 0, none⟩) hgB _).setCell (p := ⟨G5, 1, none⟩) hgB _
      have hg1 : LogBox X5 G5 O (.slice ra k k) := by rw [hX1]; exact LogBox.set (o := 0) (rv := .slice none 0 0) hgb O _
      have g0 : W.cell? ⟨G5, 0, none⟩ = some (.int .i64 0) := by rw [Lib.cell_of_heap hgb]; rfl
      have g1 : W.cell? ⟨G5, 1, none⟩ = some (.slice none 0 0) := by rw [Lib.cell_of_heap hgb]; rfl
      have gf : ∀ j, W.frozen? ⟨G5, j, none⟩ = false := Lib.frozen_of_heap hgb
      have hBV : B < w7.heap.size := (show LogBox w7 B O (.slice ra m rc) from (show BookN B O (.slice ra m rc) w7 from HL8.out.get (by simp))).lt
      have ne1 : B ≠ G5 := by omega
      have ne2 : G5 ≠ B := by omega
      have hLx := HL8.out.step hb1
      have hrk := (show RecsAt X5.heap.size X5 (.slice ra m rc) l from (show RecsN (.slice ra m rc) l X5 from hLx.get (by simp))).take k k (by rw [HM.out]; omega) (Nat.le_refl _) (by unfold maxLen; omega)
      have HL9 := Lib.hid ((hLx.add (keep_book hg1)).add (keep_recs hrk))
      have HX1 := Lib.hid hX1
      clear hX1 hb1 hg1 hbW hgb hgB hLx hLw hrk HQ 
      by_cases hmn : k < 1
      · have dl : decide ((k : Int) < 1) = true := decide_eq_true (by omega)
        have HBl := Lib.hid HL9.out.below
        clear hmn
        go_wp2_with fail
        rw [← HX1.out]
        clear HX1 e0 e1 g0 g1 gf ne1 ne2
        go_ret
        exact ⟨rfl, HBl.out⟩
      · have dl : decide ((k : Int) < 1) = false := decide_eq_false (by omega)
        have h1n : 1 ≤ k := by omega
        have HUe := Lib.hid (HUd.out h1n)
        clear hmn HUd
        have hG5 := show BookN G5 O (.slice ra k k) X5 from HL9.out.get (by simp)
        have hG3 := show BookN G3 O (.slice (some ⟨r3, 0, none⟩) k c3) X5 from HL9.out.get (by simp)
        rw [HX1.out] at hG5 hG3
        have p0 := hG5.c0
        have p1 := hG5.c1
        have r0 := hG3.c0
        have r1 := hG3.c1
        clear hG5 hG3
        go_wp2_with fail
        rw [← HX1.out]
        clear HX1 e0 e1 g0 g1 gf ne1 ne2 p0 p1 r0 r1
        refine (sameBook_any O O _ _ S D _ (by rw [HS0.out]; exact (show RecsN (.slice ra k k) (l.take k) _ from HL9.out.get (by simp))) (show RecsN (.slice (some ⟨r3, 0, none⟩) k c3) D _ from HL9.out.get (by simp))).mono ?_
        rintro e w8 ⟨rfl, hb⟩
        rw [HEqB.out]
        have HL10 := Lib.hid (HL9.out.step hb)
        clear hb HL9 HEqB
        cases hsd : (S == D)
        rotate_left
        · have HBl := Lib.hid HL10.out.below
          clear hsd
          go_wp2
          go_ret
          exact ⟨rfl, HBl.out⟩
        have HUf := Lib.hid (fun q hq => HUe.out hsd q hq)
        clear hsd HUe
        go_wp2_with fail
        refine (few_any _ pl 6 _ (show StrsN (.slice pva pl.length pvc) pl _ from HL10.out.get (by simp)) (by omega)).mono ?_
        rintro e w9 ⟨vf, rfl, hO, hb⟩
        have hfe := fewL_el pl 6
        have hfl : (fewL pl 6).length ≤ 6 := by rw [fewL_len]; omega
        obtain ⟨fa, fc, hvf, hfc1, hfc2⟩ := hO.shape2
        subst hvf
        generalize fewL pl 6 = F at *
        generalize hfn : F.length = FN at *
        have HFN := Lib.hid hfn
        have HFe := Lib.hid hfe
        have hL := (((HL10.out.step hb).add (P := OwnsN 0 (.slice fa FN fc) F) (keep_owns (hO.mono (Nat.zero_le _)))).sub (Qs := [OwnsN 0 (.slice fa FN fc) F, BookN G5 O (.slice ra k k), RecsN (.slice ra k k) (l.take k), BookN G3 O (.slice (some ⟨r3, 0, none⟩) k c3), RecsN (.slice (some ⟨r3, 0, none⟩) k c3) D, OwnsN 0 (.slice pa PN pc) PL, BookN B O (.slice ra m rc), RecsN (.slice ra m rc) l]) (fun Q hQ => by simp at hQ; rcases hQ with rfl | rfl | rfl | rfl | rfl | rfl | rfl | rfl <;> simp))
        have hL2 := (hL.alloc (.cells #[.slice pa PN pc, .slice fa FN fc] 26)).add (P := TwoV w9.heap.size (.slice pa PN pc) (.slice fa FN fc)) (keep_twoV (twoV_new w9 (.slice pa PN pc) (.slice fa FN fc)))
        obtain ⟨gx, hgx⟩ : ∃ g, g = w9.heap.size := ⟨_, rfl⟩
        rw [← hgx] at hL2
        have HWx := Lib.hid hL2
        clear hb hL hL2 hO HL10 hfn hfe
        go_wp2
        rw [← hgx]
        clear hgx dl
        go_loopw [164] (fun i wr => ∃ j : Nat, j ≤ 2 ∧ i = .int .i64 j ∧ Hid (LiveP w (TwoV gx (.slice pa PN pc) (.slice fa FN fc) :: [OwnsN 0 (.slice fa FN fc) F, BookN G5 O (.slice ra k k), RecsN (.slice ra k k) (l.take k), BookN G3 O (.slice (some ⟨r3, 0, none⟩) k c3), RecsN (.slice (some ⟨r3, 0, none⟩) k c3) D, OwnsN 0 (.slice pa PN pc) PL, BookN B O (.slice ra m rc), RecsN (.slice ra m rc) l]) wr)) (fun i _ => 2 - (intOf i).toNat)
        case atStart => exact ⟨0, by omega, rfl, HWx⟩
        case round =>
          clear HWx
          obtain ⟨j, hj, rfl, HW⟩ := hrel
          by_cases h1 : j < 2
          · have ji : (j : Int) < 2 := by omega
            have j0 : 0 ≤ (j : Int) := by omega
            have ct := (show TwoV gx (.slice pa PN pc) (.slice fa FN fc) wr from HW.out.get (by simp)).cell j h1
            have hst := strs2 (show StrsN (.slice pa PN pc) PL wr from (show OwnsN 0 (.slice pa PN pc) PL wr from HW.out.get (by simp)).strs) (show StrsN (.slice fa FN fc) F wr from (show OwnsN 0 (.slice fa FN fc) F wr from HW.out.get (by simp)).strs) j
            have hql : (one2 PL F j).length ≤ 1000 ∧ ∀ x ∈ one2 PL F j, x.length ≤ 1000 := by
              unfold one2
              split
              · exact ⟨by rw [HPN.out]; omega, HPe.out⟩
              · exact ⟨by rw [HFN.out]; omega, fun x hx => by have := HFe.out x hx; omega⟩
            obtain ⟨qa, qc, hqv, hqc1, hqc2⟩ := (show StrsAt wr.heap.size wr _ _ from hst).shape
            rw [hqv] at ct hst
            unfold maxLen at hqc2
            generalize one2 PL F j = q at *
            have HQl := Lib.hid hql
            obtain ⟨qn, hqn⟩ : ∃ n, n = q.length := ⟨_, rfl⟩
            rw [← hqn] at ct hst hqc1
            have hqb : qn ≤ 1000 := by rw [hqn]; exact hql.1
            have HQN := Lib.hid hqn
            have HWq := Lib.hid (HW.out.add (P := StrsN (.slice qa qn qc) q) (keep_strs hst))
            have HUq := Lib.hid (HUf.out q)
            clear hql hqn hqv hst HW
            go_wp2_with fail
            refine (checkGrown_any RD k R m _ q _ (by omega) (by omega) (show StrsN (.slice qa qn qc) q _ from HWq.out.get (by simp)) (by rw [← HQN.out]; omega) HWq.out.rounds).mono ?_
            rintro e w10 ⟨rfl, hb⟩
            have HW1 := Lib.hid (HWq.out.step hb)
            clear hb HWq ct
            cases hcb : verExtB RD (k : Nat) R (m : Nat) q
            · have HWz := Lib.hid (HW1.out.sub (Qs := TwoV gx (.slice pa PN pc) (.slice fa FN fc) :: [OwnsN 0 (.slice fa FN fc) F, BookN G5 O (.slice ra k k), RecsN (.slice ra k k) (l.take k), BookN G3 O (.slice (some ⟨r3, 0, none⟩) k c3), RecsN (.slice (some ⟨r3, 0, none⟩) k c3) D, OwnsN 0 (.slice pa PN pc) PL, BookN B O (.slice ra m rc), RecsN (.slice ra m rc) l]) (fun Q hQ => List.mem_cons_of_mem _ hQ))
              clear HW1 hcb HUq
              go_wp2
              go_roundw
              case rel => exact ⟨j + 1, by omega, by go_num, HWz⟩
              case measure => simp [intOf]; omega
            · have HOut := Lib.hid (HUq.out hcb)
              clear hcb HUq
              have hB0 := show BookN B O (.slice ra m rc) w10 from HW1.out.get (by simp)
              have q0 := hB0.c0
              have q1 := hB0.c1
              clear hB0
              go_wp2_with fail
              refine (refGrown_any O _ l k _ (show RecsN (.slice ra m rc) l _ from HW1.out.get (by simp)) (by rw [HM.out]; omega)).mono ?_
              rintro e w11 ⟨vo, rfl, hO, hb⟩
              rw [HGm.out] at hO ⊢
              simp only at hO ⊢
              have HW2 := Lib.hid ((HW1.out.step hb).add (P := OwnsN 0 vo OL) (keep_owns (hO.mono (Nat.zero_le _))))
              clear hb hO HW1 q0 q1
              have hB0 := show BookN G5 O (.slice ra k k) w11 from HW2.out.get (by simp)
              have q0 := hB0.c0
              have q1 := hB0.c1
              clear hB0
              go_wp2_with fail
              refine (refHead_any O _ S _ (by rw [HS0.out]; exact (show RecsN (.slice ra k k) (l.take k) _ from HW2.out.get (by simp))) (by rw [HSl.out]; omega)).mono ?_
              rintro e w12 ⟨rfl, hb⟩
              rw [HHdS.out]
              simp only
              have HW3 := Lib.hid (HW2.out.step hb)
              clear hb HW2 q0 q1
              have HQ : Hid (∀ W, w12.grownBy W none → W.cell? ⟨B, 0, none⟩ = some (.int .i64 O) ∧ W.cell? ⟨B, 1, none⟩ = some (.slice ra m rc) ∧ W.cell? ⟨G3, 0, none⟩ = some (.int .i64 O) ∧ W.cell? ⟨G3, 1, none⟩ = some (.slice (some ⟨r3, 0, none⟩) k c3)) := fun W hW => by
                have hL := HW3.out.step (grown_below hW)
                have hb := show BookN B O (.slice ra m rc) W from hL.get (by simp)
                have hb2 := show BookN G3 O (.slice (some ⟨r3, 0, none⟩) k c3) W from hL.get (by simp)
                exact ⟨hb.c0, hb.c1, hb2.c0, hb2.c1⟩
              go_wp2
              refine wp_region_calm ⟨[1, 2, 4, 5, 6], AllF w12.heap.size C HL CD HD, fun k => if k = 6 then [2] else [], 99, none, 1000⟩ (by kernel_rfl) (by kernel_rfl) (by kernel_rfl) (fun g h => by cases h) (fun k hk v W W' c h hg hc => allF_kept h hg fun g hh => (hc g hh).1) ?_
              iterate 1 (refine calm_quiet (v := ?_) (by rfl) (by rfl) (fun W hW hD => ?_) ?_; rotate_left; (· (obtain ⟨z0, z1, z2, z3⟩ := HQ.out W hW; clear hD hW; go_simp; try with_reducible rfl)); simp only [Act.put, List.setIfInBounds_toArray, List.set_cons_zero, List.set_cons_succ, Nat.reduceAdd, Nat.zero_add])
              refine calm_makes (by rfl) (by rfl) (fun W hW hD K hK => ?_) (fun v193 => ?_)
              · have hL := HW3.out.step (grown_below hW)
                refine wp_of_call (f := 29) ?_ ((refCodes_any O _ l W (show RecsN (.slice ra m rc) l W from hL.get (by simp)) (by rw [HM.out]; omega) HPack.out.1).mono ?_)
                · clear hL hD hW hK
                  go_simp
                · rintro e w5 ⟨v, rfl, hO, hb5⟩
                  rw [HPack.out.2.1] at hO
                  exact ⟨_, rfl, hK _ _ (made_below (show AllF w12.heap.size C HL CD HD 1 _ _ from OwnS.mono hO hW.size) hb5 (World.ownsRow.lt hO))⟩
              simp only [Act.put, List.setIfInBounds_toArray, List.set_cons_zero, List.set_cons_succ, Nat.reduceAdd, Nat.zero_add]
              refine calm_makes (by rfl) (by rfl) (fun W hW hD K hK => ?_) (fun v194 => ?_)
              · have h1 : OwnS w12.heap.size W v193 C := hD [] 1 (by kernel_rfl) (by kernel_rfl) (by kernel_rfl)
                refine wp_of_call (f := 28) ?_ ((hashed_any C.length C v193 W (Nat.le_refl _) HPack.out.2.2.1 h1.strs).mono ?_)
                · clear h1 hD hW hK
                  go_simp
                · rintro e w5 ⟨v, rfl, hO, hb5⟩
                  rw [← HHL.out] at hO
                  exact ⟨_, rfl, hK _ _ (made_below (show AllF w12.heap.size C HL CD HD 2 _ _ from OwnS.mono hO hW.size) hb5 (World.ownsRow.lt hO))⟩
              simp only [Act.put, List.setIfInBounds_toArray, List.set_cons_zero, List.set_cons_succ, Nat.reduceAdd, Nat.zero_add]
              iterate 1 (refine calm_quiet (v := ?_) (by rfl) (by rfl) (fun W hW hD => ?_) ?_; rotate_left; (· (obtain ⟨z0, z1, z2, z3⟩ := HQ.out W hW; clear hD hW; go_simp; try with_reducible rfl)); simp only [Act.put, List.setIfInBounds_toArray, List.set_cons_zero, List.set_cons_succ, Nat.reduceAdd, Nat.zero_add])
              refine calm_makes (by rfl) (by rfl) (fun W hW hD K hK => ?_) (fun v196 => ?_)
              · have hL := HW3.out.step (grown_below hW)
                refine wp_of_call (f := 29) ?_ ((refCodes_any O _ D W (show RecsN (.slice (some ⟨r3, 0, none⟩) k c3) D W from hL.get (by simp)) (by rw [HDl.out]; omega) HPd.out.1).mono ?_)
                · clear hL hD hW hK
                  go_simp
                · rintro e w5 ⟨v, rfl, hO, hb5⟩
                  rw [HPd.out.2.1] at hO
                  exact ⟨_, rfl, hK _ _ (made_below (show AllF w12.heap.size C HL CD HD 4 _ _ from OwnS.mono hO hW.size) hb5 (World.ownsRow.lt hO))⟩
              simp only [Act.put, List.setIfInBounds_toArray, List.set_cons_zero, List.set_cons_succ, Nat.reduceAdd, Nat.zero_add]
              refine calm_makes (by rfl) (by rfl) (fun W hW hD K hK => ?_) (fun v197 => ?_)
              · have h1 : OwnS w12.heap.size W v196 CD := hD [] 4 (by kernel_rfl) (by kernel_rfl) (by kernel_rfl)
                refine wp_of_call (f := 28) ?_ ((hashed_any CD.length CD v196 W (Nat.le_refl _) HPd.out.2.2.1 h1.strs).mono ?_)
                · clear h1 hD hW hK
                  go_simp
                · rintro e w5 ⟨v, rfl, hO, hb5⟩
                  rw [← HHD.out] at hO
                  exact ⟨_, rfl, hK _ _ (made_below (show AllF w12.heap.size C HL CD HD 5 _ _ from OwnS.mono hO hW.size) hb5 (World.ownsRow.lt hO))⟩
              simp only [Act.put, List.setIfInBounds_toArray, List.set_cons_zero, List.set_cons_succ, Nat.reduceAdd, Nat.zero_add]
              refine calm_makes (by rfl) (by rfl) (fun W hW hD K hK => ?_) (fun v198 => ?_)
              · have h2 : OwnS w12.heap.size W v194 HL := hD [] 2 (by kernel_rfl) (by kernel_rfl) (by kernel_rfl)
                have h5 : OwnS w12.heap.size W v197 HD := hD [] 5 (by kernel_rfl) (by kernel_rfl) (by kernel_rfl)
                exact wp_append_SS (.tmp 194) (.tmp 197) rfl w12.heap.size w12.heap.size v194 v197 HL HD rfl rfl h2 h5 (by have := HPack.out.2.2.2.2.1; have := HPd.out.2.2.2.2.1; omega) hW.size (fun v' w' h1 h2 h3 => hK _ _ (made_grown (j := 2) (u := v194) (by kernel_rfl) rfl (show AllF w12.heap.size C HL CD HD 6 _ _ from h1) h2 (fun g hg => ⟨(World.ownsRow.lt h1 g hg).2, grown_own h3 hg⟩)))
              simp only [Act.put, List.setIfInBounds_toArray, List.set_cons_zero, List.set_cons_succ, Nat.reduceAdd, Nat.zero_add]
              iterate 1 (refine calm_quiet (v := ?_) (by rfl) (by rfl) (fun W hW hD => ?_) ?_; rotate_left; (· (obtain ⟨z0, z1, z2, z3⟩ := HQ.out W hW; clear hD hW; go_simp; try with_reducible rfl)); simp only [Act.put, List.setIfInBounds_toArray, List.set_cons_zero, List.set_cons_succ, Nat.reduceAdd, Nat.zero_add])
              refine calm_nil fun W hW hF => ?_
              have h6 : OwnS w12.heap.size W v198 (HL ++ HD) := hF 6 (by kernel_rfl) (by kernel_rfl)
              have hbW := grown_below hW
              have HA1 := Lib.hid h6
              have HB1 := Lib.hid hbW
              have hL := HW3.out.step hbW
              have hB0 := show BookN G5 O (.slice ra k k) W from hL.get (by simp)
              have q0 := hB0.c0
              have q1 := hB0.c1
              have hhl := HPack.out.2.2.2.2.1
              have hhd := HPd.out.2.2.2.2.1
              have hhs := HPs.out.2.2.2.2.1
              clear hF hW h6 hbW hL hB0 HQ
              go_wp2_with fail
              refine (refCodes_any O _ S W (by rw [HS0.out]; exact (show RecsN (.slice ra k k) (l.take k) _ from (HW3.out.step HB1.out).get (by simp))) (by rw [HSl.out]; omega) HPs.out.1).mono ?_
              rintro e w13 ⟨vc, rfl, hO, hb⟩
              rw [HPs.out.2.1] at hO
              have HOc := Lib.hid hO
              have HB2 := Lib.hid (HB1.out.trans (hb.mono HB1.out.size))
              have HA2 := Lib.hid (HA1.out.below hb (Nat.le_refl _))
              clear hb hO q0 q1 HA1 HB1
              go_wp2_with fail
              refine (hashed_any CS.length CS vc w13 (Nat.le_refl _) HPs.out.2.2.1 HOc.out.strs).mono ?_
              rintro e w14 ⟨vh, rfl, hO, hb⟩
              rw [← HHS.out] at hO
              have HOh := Lib.hid hO
              have HB3 := Lib.hid (HB2.out.trans (hb.mono HB2.out.size))
              have HA3 := Lib.hid (HA2.out.below hb (Nat.le_refl _))
              clear hb hO HA2 HB2 HOc
              have hz14 := HB3.out.size
              have HSd1 := Lib.hid (fun (W : World) (hh : StrsAt W.heap.size W (.slice qa qn qc) q) => refSides_any RD (by omega) q.reverse k m true (.slice qa qn qc) W (by omega) (by omega) (by omega) (fun x hx => HQl.out.2 x (List.mem_reverse.1 hx)) (by rw [List.length_reverse, ← HQN.out]; omega) (by rw [List.reverse_reverse]; exact hh))
              have HSd2 := Lib.hid (fun (W : World) (hh : StrsAt W.heap.size W vo OL) => refSides_any RS (by omega) OL.reverse k m true vo W (by omega) (by omega) (by omega) (fun x hx => HSo.out.2 x (List.mem_reverse.1 hx)) (by rw [List.length_reverse]; have := HSo.out.1; omega) (by rw [List.reverse_reverse]; exact hh))
              have hsl1 := (sides3R_len RD q.reverse k m true).1
              have hsl2 := (sides3R_len RS OL.reverse k m true).1
              rw [List.length_reverse, ← HQN.out] at hsl1
              rw [List.length_reverse] at hsl2
              have hsl3 := HSo.out.1
              have HSe1 := Lib.hid (sides3R_el RD (by omega) q.reverse (fun x hx => HQl.out.2 x (List.mem_reverse.1 hx)) k m true)
              have HSe2 := Lib.hid (sides3R_el RS (by omega) OL.reverse (fun x hx => HSo.out.2 x (List.mem_reverse.1 hx)) k m true)
              generalize (sides3R RD q.reverse k m true).2.1 = s11 at *
              generalize (sides3R RD q.reverse k m true).2.2 = s12 at *
              generalize (sides3R RD q.reverse k m true).1 = SA at *
              generalize (sides3R RS OL.reverse k m true).2.1 = s21 at *
              generalize (sides3R RS OL.reverse k m true).2.2 = s22 at *
              generalize (sides3R RS OL.reverse k m true).1 = SB at *
              have hl1 : (HL ++ HD).length ≤ 400 := by rw [List.length_append]; omega
              have hl2 : ((HL ++ HD) ++ HS).length ≤ 600 := by rw [List.length_append]; omega
              have hl3 : (((HL ++ HD) ++ HS) ++ SA).length ≤ 3000 := by rw [List.length_append]; omega
              go_wp2_with (at_builtin; refine append_SS rfl _ _ rfl w12.heap.size 0 _ _ (HL ++ HD) HS rfl rfl HA3.out (HOh.out.mono (Nat.zero_le _)) (by omega) hz14 w12 HB3.out ?_; intro v203 w15 hO3 hg3 hb3; have HA4 := Lib.hid hO3; have HB4 := Lib.hid hb3; clear hO3 hg3 hb3)
              refine (HSd1.out _ (show StrsN (.slice qa qn qc) q _ from (HW3.out.step HB4.out).get (by simp))).mono ?_
              rintro e w16 ⟨v36, rfl, hO, hb⟩
              have HO36 := Lib.hid (hO.mono (base' := 0) (Nat.zero_le _))
              have HB5 := Lib.hid (HB4.out.trans (hb.mono HB4.out.size))
              have HA5 := Lib.hid (HA4.out.below hb (Nat.le_refl _))
              clear hb hO HA4 HB4 HA3 HB3 HOh HSd1
              go_wp2_with fail
              refine (HSd2.out _ (show OwnsN 0 vo OL _ from (HW3.out.step HB5.out).get (by simp)).strs).mono ?_
              rintro e w17 ⟨v39, rfl, hO, hb⟩
              have HO39 := Lib.hid hO
              have HO36b := Lib.hid (HO36.out.below hb (Nat.le_refl _))
              have HB6 := Lib.hid (HB5.out.trans (hb.mono HB5.out.size))
              have HA6 := Lib.hid (HA5.out.below hb (Nat.le_refl _))
              clear hb hO HB5 HO36 HSd2
              have hz17 := HB6.out.size
              go_wp2_with (first | (at_builtin; refine append_SS rfl _ _ rfl w12.heap.size 0 _ _ (((HL ++ HD) ++ HS) ++ SA) SB rfl rfl HA7.out (HO39c.out.mono (Nat.zero_le _)) (by omega) HB7.out.size w12 HB7.out ?_; intro v226 w19 hO4 hg4 hb4; have HA8 := Lib.hid hO4; have HB8 := Lib.hid hb4; clear hO4 hg4 hb4) | (at_builtin; refine append_SS rfl _ _ rfl w12.heap.size 0 _ _ ((HL ++ HD) ++ HS) SA rfl rfl HA6.out HO36b.out (by omega) hz17 w12 HB6.out ?_; intro v224 w18 hO3 hg3 hb3; have HA7 := Lib.hid hO3; have HB7 := Lib.hid hb3; have HO39c := Lib.hid (rowS_kept HO39.out hg3 (fun g hg e => by have e1 := (World.ownsRow.lt HO39.out g e).1; have e2 := (World.ownsRow.lt HA5.out g hg).2; omega)); clear hO3 hg3 hb3))
              refine (out_any _ ((((HL ++ HD) ++ HS) ++ SA) ++ SB) _ HA8.out.strs (fun x hx => ?_) (by rw [List.length_append]; omega)).mono ?_
              · rcases List.mem_append.1 hx with hx | hx
                · rcases List.mem_append.1 hx with hx | hx
                  · rcases List.mem_append.1 hx with hx | hx
                    · rcases List.mem_append.1 hx with hx | hx
                      · exact Nat.le_trans (HPack.out.2.2.2.2.2.1 x hx) (by omega)
                      · exact Nat.le_trans (HPd.out.2.2.2.2.2.1 x hx) (by omega)
                    · exact Nat.le_trans (HPs.out.2.2.2.2.2.1 x hx) (by omega)
                  · exact HSe1.out x hx
                · exact HSe2.out x hx
              rintro e w20 ⟨rfl, hb⟩
              rw [HOut.out]
              have HWz := Lib.hid (((HW3.out.step HB8.out).step hb).sub (Qs := TwoV gx (.slice pa PN pc) (.slice fa FN fc) :: [OwnsN 0 (.slice fa FN fc) F, BookN G5 O (.slice ra k k), RecsN (.slice ra k k) (l.take k), BookN G3 O (.slice (some ⟨r3, 0, none⟩) k c3), RecsN (.slice (some ⟨r3, 0, none⟩) k c3) D, OwnsN 0 (.slice pa PN pc) PL, BookN B O (.slice ra m rc), RecsN (.slice ra m rc) l]) (fun Q hQ => List.mem_cons_of_mem _ (List.mem_cons_of_mem _ hQ)))
              clear hb HW3 HA8 HB8 HA7 HB7 HA6 HA5 HB6 HO39 HO39c HO36b HSe1 HSe2 HOut
              go_wp2
              go_roundw
              case rel => exact ⟨j + 1, by omega, by go_num, HWz⟩
              case measure => simp [intOf]; omega
          · have ji : ¬ ((j : Int) < 2) := by omega
            have HBl := Lib.hid HW.out.below
            clear h1 HW
            go_wp2
            go_ret
            exact ⟨rfl, HBl.out⟩
    · have HSi := Lib.hid (fun W => run_cutR (some ⟨r3, 0, none⟩) k c3 i (by omega) W)
      obtain ⟨i1, hi1⟩ : ∃ x, x = i + 1 := ⟨_, rfl⟩
      obtain ⟨sa, sc, hsl, hsr⟩ := run_dropR r3 0 k c3 i1 (by omega) hc3a
      have wi : IntKind.i64.wrap ((i : Int) + 1) = (i1 : Int) := by rw [IntWalk.i64_in _ (by omega)]; omega
      obtain ⟨k2, hk2⟩ : ∃ x, x = k - 1 := ⟨_, rfl⟩
      have wk : IntKind.i64.wrap ((k : Int) - 1) = (k2 : Int) := by rw [IntWalk.i64_in _ (by omega)]; omega
      obtain ⟨D, hD⟩ : ∃ x, x = T1.take i ++ T1.drop i1 := ⟨_, rfl⟩
      have HBk : Hid (bookB ⟨O, D⟩ = true) := by show _ = _; rw [hD, hi1]; exact HBE.out i
      have HDl : Hid (D.length = k2) := by show _ = _; rw [hD, List.length_append, List.length_take, List.length_drop, HTkl.out]; omega
      have hk2k : k2 ≤ k := by omega
      have HSl := Lib.hid hsl
      have HSr := Lib.hid hsr
      have HDd := Lib.hid hD
      have HI1 := Lib.hid hi1
      have hki : k - i1 ≤ k := Nat.sub_le _ _
      have hii : i ≤ k := by omega
      have HQ : Hid (∀ W, X2.grownBy W (some r3) → W.cell? ⟨G3, 1, none⟩ = some (.slice (some ⟨r3, 0, none⟩) k c3)) := fun W hW => hW.cell (a := ⟨G3, 1, none⟩) HG3.out.c1 (fun e => hne3 (by injection e with e; exact e.symm))
      clear hsl hsr hD hi1 hk2
      go_wp2
      refine wp_region_calm ⟨[10], TakF X2 D, fun _ => [], 10, some r3, 12⟩ (by kernel_rfl) (by kernel_rfl) (by kernel_rfl) (fun g h => by cases h; exact hr3l) (fun k hk v W W' c h hg hc => takF_kept (k := k) h hg fun g hh => ?_) ?_
      · obtain ⟨_, _, i, j, u, hd, _⟩ := hc g hh
        simp at hd
      iterate 4 (refine calm_quiet (v := ?_) (by rfl) (by rfl) (fun W hW hD => ?_) ?_; rotate_left; (· (have z0 := HQ.out W hW; clear hD hW; go_simp; try with_reducible rfl)); simp only [Act.put, List.setIfInBounds_toArray, List.set_cons_zero, List.set_cons_succ, Nat.reduceAdd, Nat.zero_add])
      refine calm_quiet (v := .slice (some ⟨r3, 0, none⟩) i i) (by rfl) (by rfl) (fun W hW hD => ?_) ?_
      · have hs := HSi.out W
        clear hD hW
        go_simp
      simp only [Act.put, List.setIfInBounds_toArray, List.set_cons_zero, List.set_cons_succ, Nat.reduceAdd, Nat.zero_add]
      iterate 4 (refine calm_quiet (v := ?_) (by rfl) (by rfl) (fun W hW hD => ?_) ?_; rotate_left; (· (have z0 := HQ.out W hW; clear hD hW; go_simp; try with_reducible rfl)); simp only [Act.put, List.setIfInBounds_toArray, List.set_cons_zero, List.set_cons_succ, Nat.reduceAdd, Nat.zero_add])
      refine calm_quiet (v := .slice sa (k - i1) sc) (by rfl) (by rfl) (fun W hW hD => ?_) ?_
      · have hs := HSl.out W
        clear hD hW
        go_simp
      simp only [Act.put, List.setIfInBounds_toArray, List.set_cons_zero, List.set_cons_succ, Nat.reduceAdd, Nat.zero_add]
      refine calm_makes (by rfl) (by rfl) (fun W hW hD K hK => ?_) (fun v121 => ?_)
      · have hW' : X2.grownBy W none := hW
        have hr := (HO3.out.below (grown_below hW') (Nat.le_refl _)).recs
        have h1 := hr.take i i (by rw [HTkl.out]; omega) (Nat.le_refl _) (by unfold maxLen; omega)
        have h2 := HSr.out _ W T1 hr
        refine wp_append_cutG (.tmp 115) (.tmp 120) rfl r3 i (.slice sa (k - i1) sc) (T1.take i) (T1.drop i1) rfl rfl (Nat.lt_of_lt_of_le hr3l hW'.size) (by rw [List.length_take, HTkl.out]; omega) h1 h2 (by rw [List.length_take, List.length_drop, HTkl.out]; omega) (fun v' w' h1 h2 h3 => hK _ _ ⟨⟨by rw [HDd.out]; exact h1, World.grownBy.trans hW' h2⟩, ⟨none, h2, .inl rfl⟩, fun g hg => ⟨(h3 g hg).1, (h3 g hg).2.imp id fun e => .inr ⟨rfl, e⟩⟩⟩)
      simp only [Act.put, List.setIfInBounds_toArray, List.set_cons_zero, List.set_cons_succ, Nat.reduceAdd, Nat.zero_add]
      iterate 1 (refine calm_quiet (v := ?_) (by rfl) (by rfl) (fun W hW hD => ?_) ?_; rotate_left; (· (have z0 := HQ.out W hW; clear hD hW; go_simp; try with_reducible rfl)); simp only [Act.put, List.setIfInBounds_toArray, List.set_cons_zero, List.set_cons_succ, Nat.reduceAdd, Nat.zero_add])
      refine calm_tail (by rfl) fun W hW hF => ?_
      obtain ⟨hRd, hgn⟩ : TakF X2 D 10 v121 W := hF 10 (by kernel_rfl) (by kernel_rfl)
      obtain ⟨da, dc, hv, hd1, hd2⟩ := hRd.shape
      subst hv
      rw [HDl.out] at hRd hd1 ⊢
      unfold maxLen at hd2
      have hbW := grown_below hgn
      have hgW := HG3.out.below hbW HG3.out.lt
      obtain ⟨X3, hX3⟩ : ∃ X, X = W.setCell ⟨G3, 1, none⟩ (.slice da k2 dc) := ⟨_, rfl⟩
      have hb3 : Below w6.heap.size w6 X3 := by rw [hX3]; exact (HB3.out.trans (hbW.mono HB3.out.size)).setCell (p := ⟨G3, 1, none⟩) hgB _
      have hg3 : LogBox X3 G3 O (.slice da k2 dc) := by rw [hX3]; exact heap_set hgW 1 _
      have hR3 : RecsAt X3.heap.size X3 (.slice da k2 dc) D := by rw [hX3]; exact (hRd.setBox hgW 1 _).mono (by simp)
      have HLD := Lib.hid (((HL7.out.step hb3).add (keep_recs hR3)).add (keep_book hg3))
      have e0 := hgW.c0
      have e1 := hgW.c1
      have gf := hgW.frozen
      have HX3 := Lib.hid hX3
      clear hX3 hb3 hg3 hR3 hRd hgn hbW hgW hW hF HL7 HQ HO3 HG3 HB3 HSi HSl HSr HDd HI1
      have hpd := book_pack HBk.out
      have HHdD := Lib.hid hpd.2.2.2.1
      obtain ⟨S, hS⟩ : ∃ x, x = l.take k2 := ⟨_, rfl⟩
      have hSl : S.length = k2 := by rw [hS, List.length_take, HM.out]; omega
      have hps := book_pack (HBT.out k2)
      rw [← hS] at hps
      have HHdS := Lib.hid hps.2.2.2.1
      have HUd := Lib.hid (fun (h1 : 1 ≤ k2) => HUse.out D HBk.out k2 h1 (by omega) HDl.out)
      have hgm := HGrM.out k2 (by omega)
      have hso := HSmE.out k2 (by omega)
      rw [← hS] at HUd
      obtain ⟨CD, hCD⟩ : ∃ x, x = codesL ⟨O, D⟩ := ⟨_, rfl⟩
      obtain ⟨CS, hCS⟩ : ∃ x, x = codesL ⟨O, S⟩ := ⟨_, rfl⟩
      rw [← hCD] at hpd HHdD HUd
      rw [← hCS] at hps HHdS HUd
      obtain ⟨RD, hRD⟩ : ∃ x, x = rootL CD := ⟨_, rfl⟩
      obtain ⟨RS, hRS⟩ : ∃ x, x = rootL CS := ⟨_, rfl⟩
      rw [← hRD] at hpd HHdD HUd
      rw [← hRS] at hps HHdS HUd
      obtain ⟨HD, hHD⟩ : ∃ x, x = hashedL CD := ⟨_, rfl⟩
      obtain ⟨HS, hHS⟩ : ∃ x, x = hashedL CS := ⟨_, rfl⟩
      rw [← hHD] at hpd HUd
      rw [← hHS] at hps HUd
      obtain ⟨OL, hOL⟩ : ∃ x, x = (extE C k2).1 := ⟨_, rfl⟩
      rw [← hOL] at HUd hgm hso
      have HPd := Lib.hid hpd
      have HPs := Lib.hid hps
      have HGm := Lib.hid hgm
      have HSo := Lib.hid hso
      have HHD := Lib.hid hHD
      have HHS := Lib.hid hHS
      have hRDl : RD.length = 32 := hpd.2.2.2.2.2.2
      have hRSl : RS.length = 32 := hps.2.2.2.2.2.2
      have HS0 := Lib.hid hS
      have HSl := Lib.hid hSl
      have HEqB : Hid (((⟨O, S⟩ : LBook) == ⟨O, D⟩) = (S == D)) := by show _ = _; rw [Bool.eq_iff_iff]; simp
      clear hpd hps hgm hso hCD hCS hRD hRS hHD hHS hOL hS hSl HUse HGrM HSmE HBT HBE HBB HAk HRk
      have HCk := Lib.hid (HCut.out k2 (by omega))
      clear HCut
      go_wp2_with fail
      rw [← HX3.out]
      clear HX3 e0 e1 gf
      refine (head_any O _ D _ (show RecsN (.slice da k2 dc) D _ from HLD.out.get (by simp)) (by rw [HDl.out]; omega) HLD.out.rounds).mono ?_
      rintro e w7 ⟨rfl, hb⟩
      rw [HHdD.out]
      simp only
      have HL8 := Lib.hid (HLD.out.step hb)
      clear hb HLD HHdD
      have HQ : Hid (∀ W, w7.grownBy W none → W.cell? ⟨B, 0, none⟩ = some (.int .i64 O) ∧ W.cell? ⟨B, 1, none⟩ = some (.slice ra m rc)) := fun W hW => by
        have hL := HL8.out.step (grown_below hW)
        have hb := show BookN B O (.slice ra m rc) W from hL.get (by simp)
        exact ⟨hb.c0, hb.c1⟩
      go_wp2
      refine wp_region_calm ⟨[8], NewF w7.heap.size, fun _ => [], 99, none, 9⟩ (by kernel_rfl) (by kernel_rfl) (by kernel_rfl) (fun g h => by cases h) (fun k hk v W W' c h hg hc => newF_kept (k := k) h hg fun g hh => ?_) ?_
      · obtain ⟨_, _, i, j, u, hd, _⟩ := hc g hh
        simp at hd
      iterate 6 (refine calm_quiet (v := ?_) (by rfl) (by rfl) (fun W hW hD => ?_) ?_; rotate_left; (· (obtain ⟨z0, z1⟩ := HQ.out W hW; clear hD hW; go_simp; try with_reducible rfl)); simp only [Act.put, List.setIfInBounds_toArray, List.set_cons_zero, List.set_cons_succ, Nat.reduceAdd, Nat.zero_add])
      refine calm_quiet (v := .slice ra k2 k2) (by rfl) (by rfl) (fun W hW hD => ?_) ?_
      · have hs := HCk.out W
        clear hD hW
        go_simp
      simp only [Act.put, List.setIfInBounds_toArray, List.set_cons_zero, List.set_cons_succ, Nat.reduceAdd, Nat.zero_add]
      iterate 1 (refine calm_quiet (v := ?_) (by rfl) (by rfl) (fun W hW hD => ?_) ?_; rotate_left; (· (clear hD hW; go_simp; try with_reducible rfl)); simp only [Act.put, List.setIfInBounds_toArray, List.set_cons_zero, List.set_cons_succ, Nat.reduceAdd, Nat.zero_add])
      refine calm_makes (by rfl) (by rfl) (fun W hW hD K hK => ?_) (fun v28 => ?_)
      · refine wp_of_run (v := .pointer (some ⟨W.heap.size, 0, none⟩)) (w' := W.alloc (.cells #[.int .i64 0, .slice none 0 0] 25)) ?_ (hK _ _ (made_plain ⟨W.heap.size, rfl, hW.size, heap_alloc_new W _⟩ ((Below.refl _ _).alloc (Nat.le_refl _) _) rfl))
        clear hD hW hK
        go_simp
      simp only [Act.put, List.setIfInBounds_toArray, List.set_cons_zero, List.set_cons_succ, Nat.reduceAdd, Nat.zero_add]
      refine calm_tail (by rfl) fun W hW hF => ?_
      obtain ⟨G5, hpv, hgB, hgb⟩ : ∃ g, v28 = .pointer (some ⟨g, 0, none⟩) ∧ w7.heap.size ≤ g ∧ W.heap[g]? = some (.cells #[.int .i64 0, .slice none 0 0] 25 (0, 0)) := hF 8 (by kernel_rfl) (by kernel_rfl)
      subst hpv
      have hbW := grown_below hW
      obtain ⟨e0, e1⟩ := HQ.out W hW
      have hLw := HL8.out.step hbW
      clear hF hW
      obtain ⟨X5, hX1⟩ : ∃ X, X = (W.setCell ⟨G5, 0, none⟩ (.int .i64 O)).setCell ⟨G5, 1, none⟩ (.slice ra k2 k2) := ⟨_, rfl⟩
      have hb1 : Below w7.heap.size w7 X5 := by rw [hX1]; exact (hbW.setCell (p := ⟨G5, 0, none⟩) hgB _).setCell (p := ⟨G5, 1, none⟩) hgB _
      have hg1 : LogBox X5 G5 O (.slice ra k2 k2) := by rw [hX1]; exact LogBox.set (o := 0) (rv := .slice none 0 0) hgb O _
      have g0 : W.cell? ⟨G5, 0, none⟩ = some (.int .i64 0) := by rw [Lib.cell_of_heap hgb]; rfl
      have g1 : W.cell? ⟨G5, 1, none⟩ = some (.slice none 0 0) := by rw [Lib.cell_of_heap hgb]; rfl
      have gf : ∀ j, W.frozen? ⟨G5, j, none⟩ = false := Lib.frozen_of_heap hgb
      have hBV : B < w7.heap.size := (show LogBox w7 B O (.slice ra m rc) from (show BookN B O (.slice ra m rc) w7 from HL8.out.get (by simp))).lt
      have ne1 : B ≠ G5 := by omega
      have ne2 : G5 ≠ B := by omega
      have hLx := HL8.out.step hb1
      have hrk := (show RecsAt X5.heap.size X5 (.slice ra m rc) l from (show RecsN (.slice ra m rc) l X5 from hLx.get (by simp))).take k2 k2 (by rw [HM.out]; omega) (Nat.le_refl _) (by unfold maxLen; omega)
      have HL9 := Lib.hid ((hLx.add (keep_book hg1)).add (keep_recs hrk))
      have HX1 := Lib.hid hX1
      clear hX1 hb1 hg1 hbW hgb hgB hLx hLw hrk HQ 
      by_cases hmn : k2 < 1
      · have dl : decide ((k2 : Int) < 1) = true := decide_eq_true (by omega)
        have HBl := Lib.hid HL9.out.below
        clear hmn
        go_wp2_with fail
        rw [← HX1.out]
        clear HX1 e0 e1 g0 g1 gf ne1 ne2
        go_ret
        exact ⟨rfl, HBl.out⟩
      · have dl : decide ((k2 : Int) < 1) = false := decide_eq_false (by omega)
        have h1n : 1 ≤ k2 := by omega
        have HUe := Lib.hid (HUd.out h1n)
        clear hmn HUd
        have hG5 := show BookN G5 O (.slice ra k2 k2) X5 from HL9.out.get (by simp)
        have hG3 := show BookN G3 O (.slice da k2 dc) X5 from HL9.out.get (by simp)
        rw [HX1.out] at hG5 hG3
        have p0 := hG5.c0
        have p1 := hG5.c1
        have r0 := hG3.c0
        have r1 := hG3.c1
        clear hG5 hG3
        go_wp2_with fail
        rw [← HX1.out]
        clear HX1 e0 e1 g0 g1 gf ne1 ne2 p0 p1 r0 r1
        refine (sameBook_any O O _ _ S D _ (by rw [HS0.out]; exact (show RecsN (.slice ra k2 k2) (l.take k2) _ from HL9.out.get (by simp))) (show RecsN (.slice da k2 dc) D _ from HL9.out.get (by simp))).mono ?_
        rintro e w8 ⟨rfl, hb⟩
        rw [HEqB.out]
        have HL10 := Lib.hid (HL9.out.step hb)
        clear hb HL9 HEqB
        cases hsd : (S == D)
        rotate_left
        · have HBl := Lib.hid HL10.out.below
          clear hsd
          go_wp2
          go_ret
          exact ⟨rfl, HBl.out⟩
        have HUf := Lib.hid (fun q hq => HUe.out hsd q hq)
        clear hsd HUe
        go_wp2_with fail
        refine (few_any _ pl 6 _ (show StrsN (.slice pva pl.length pvc) pl _ from HL10.out.get (by simp)) (by omega)).mono ?_
        rintro e w9 ⟨vf, rfl, hO, hb⟩
        have hfe := fewL_el pl 6
        have hfl : (fewL pl 6).length ≤ 6 := by rw [fewL_len]; omega
        obtain ⟨fa, fc, hvf, hfc1, hfc2⟩ := hO.shape2
        subst hvf
        generalize fewL pl 6 = F at *
        generalize hfn : F.length = FN at *
        have HFN := Lib.hid hfn
        have HFe := Lib.hid hfe
        have hL := (((HL10.out.step hb).add (P := OwnsN 0 (.slice fa FN fc) F) (keep_owns (hO.mono (Nat.zero_le _)))).sub (Qs := [OwnsN 0 (.slice fa FN fc) F, BookN G5 O (.slice ra k2 k2), RecsN (.slice ra k2 k2) (l.take k2), BookN G3 O (.slice da k2 dc), RecsN (.slice da k2 dc) D, OwnsN 0 (.slice pa PN pc) PL, BookN B O (.slice ra m rc), RecsN (.slice ra m rc) l]) (fun Q hQ => by simp at hQ; rcases hQ with rfl | rfl | rfl | rfl | rfl | rfl | rfl | rfl <;> simp))
        have hL2 := (hL.alloc (.cells #[.slice pa PN pc, .slice fa FN fc] 26)).add (P := TwoV w9.heap.size (.slice pa PN pc) (.slice fa FN fc)) (keep_twoV (twoV_new w9 (.slice pa PN pc) (.slice fa FN fc)))
        obtain ⟨gx, hgx⟩ : ∃ g, g = w9.heap.size := ⟨_, rfl⟩
        rw [← hgx] at hL2
        have HWx := Lib.hid hL2
        clear hb hL hL2 hO HL10 hfn hfe
        go_wp2
        rw [← hgx]
        clear hgx dl
        go_loopw [164] (fun i wr => ∃ j : Nat, j ≤ 2 ∧ i = .int .i64 j ∧ Hid (LiveP w (TwoV gx (.slice pa PN pc) (.slice fa FN fc) :: [OwnsN 0 (.slice fa FN fc) F, BookN G5 O (.slice ra k2 k2), RecsN (.slice ra k2 k2) (l.take k2), BookN G3 O (.slice da k2 dc), RecsN (.slice da k2 dc) D, OwnsN 0 (.slice pa PN pc) PL, BookN B O (.slice ra m rc), RecsN (.slice ra m rc) l]) wr)) (fun i _ => 2 - (intOf i).toNat)
        case atStart => exact ⟨0, by omega, rfl, HWx⟩
        case round =>
          clear HWx
          obtain ⟨j, hj, rfl, HW⟩ := hrel
          by_cases h1 : j < 2
          · have ji : (j : Int) < 2 := by omega
            have j0 : 0 ≤ (j : Int) := by omega
            have ct := (show TwoV gx (.slice pa PN pc) (.slice fa FN fc) wr from HW.out.get (by simp)).cell j h1
            have hst := strs2 (show StrsN (.slice pa PN pc) PL wr from (show OwnsN 0 (.slice pa PN pc) PL wr from HW.out.get (by simp)).strs) (show StrsN (.slice fa FN fc) F wr from (show OwnsN 0 (.slice fa FN fc) F wr from HW.out.get (by simp)).strs) j
            have hql : (one2 PL F j).length ≤ 1000 ∧ ∀ x ∈ one2 PL F j, x.length ≤ 1000 := by
              unfold one2
              split
              · exact ⟨by rw [HPN.out]; omega, HPe.out⟩
              · exact ⟨by rw [HFN.out]; omega, fun x hx => by have := HFe.out x hx; omega⟩
            obtain ⟨qa, qc, hqv, hqc1, hqc2⟩ := (show StrsAt wr.heap.size wr _ _ from hst).shape
            rw [hqv] at ct hst
            unfold maxLen at hqc2
            generalize one2 PL F j = q at *
            have HQl := Lib.hid hql
            obtain ⟨qn, hqn⟩ : ∃ n, n = q.length := ⟨_, rfl⟩
            rw [← hqn] at ct hst hqc1
            have hqb : qn ≤ 1000 := by rw [hqn]; exact hql.1
            have HQN := Lib.hid hqn
            have HWq := Lib.hid (HW.out.add (P := StrsN (.slice qa qn qc) q) (keep_strs hst))
            have HUq := Lib.hid (HUf.out q)
            clear hql hqn hqv hst HW
            go_wp2_with fail
            refine (checkGrown_any RD k2 R m _ q _ (by omega) (by omega) (show StrsN (.slice qa qn qc) q _ from HWq.out.get (by simp)) (by rw [← HQN.out]; omega) HWq.out.rounds).mono ?_
            rintro e w10 ⟨rfl, hb⟩
            have HW1 := Lib.hid (HWq.out.step hb)
            clear hb HWq ct
            cases hcb : verExtB RD (k2 : Nat) R (m : Nat) q
            · have HWz := Lib.hid (HW1.out.sub (Qs := TwoV gx (.slice pa PN pc) (.slice fa FN fc) :: [OwnsN 0 (.slice fa FN fc) F, BookN G5 O (.slice ra k2 k2), RecsN (.slice ra k2 k2) (l.take k2), BookN G3 O (.slice da k2 dc), RecsN (.slice da k2 dc) D, OwnsN 0 (.slice pa PN pc) PL, BookN B O (.slice ra m rc), RecsN (.slice ra m rc) l]) (fun Q hQ => List.mem_cons_of_mem _ hQ))
              clear HW1 hcb HUq
              go_wp2
              go_roundw
              case rel => exact ⟨j + 1, by omega, by go_num, HWz⟩
              case measure => simp [intOf]; omega
            · have HOut := Lib.hid (HUq.out hcb)
              clear hcb HUq
              have hB0 := show BookN B O (.slice ra m rc) w10 from HW1.out.get (by simp)
              have q0 := hB0.c0
              have q1 := hB0.c1
              clear hB0
              go_wp2_with fail
              refine (refGrown_any O _ l k2 _ (show RecsN (.slice ra m rc) l _ from HW1.out.get (by simp)) (by rw [HM.out]; omega)).mono ?_
              rintro e w11 ⟨vo, rfl, hO, hb⟩
              rw [HGm.out] at hO ⊢
              simp only at hO ⊢
              have HW2 := Lib.hid ((HW1.out.step hb).add (P := OwnsN 0 vo OL) (keep_owns (hO.mono (Nat.zero_le _))))
              clear hb hO HW1 q0 q1
              have hB0 := show BookN G5 O (.slice ra k2 k2) w11 from HW2.out.get (by simp)
              have q0 := hB0.c0
              have q1 := hB0.c1
              clear hB0
              go_wp2_with fail
              refine (refHead_any O _ S _ (by rw [HS0.out]; exact (show RecsN (.slice ra k2 k2) (l.take k2) _ from HW2.out.get (by simp))) (by rw [HSl.out]; omega)).mono ?_
              rintro e w12 ⟨rfl, hb⟩
              rw [HHdS.out]
              simp only
              have HW3 := Lib.hid (HW2.out.step hb)
              clear hb HW2 q0 q1
              have HQ : Hid (∀ W, w12.grownBy W none → W.cell? ⟨B, 0, none⟩ = some (.int .i64 O) ∧ W.cell? ⟨B, 1, none⟩ = some (.slice ra m rc) ∧ W.cell? ⟨G3, 0, none⟩ = some (.int .i64 O) ∧ W.cell? ⟨G3, 1, none⟩ = some (.slice da k2 dc)) := fun W hW => by
                have hL := HW3.out.step (grown_below hW)
                have hb := show BookN B O (.slice ra m rc) W from hL.get (by simp)
                have hb2 := show BookN G3 O (.slice da k2 dc) W from hL.get (by simp)
                exact ⟨hb.c0, hb.c1, hb2.c0, hb2.c1⟩
              go_wp2
              refine wp_region_calm ⟨[1, 2, 4, 5, 6], AllF w12.heap.size C HL CD HD, fun k => if k = 6 then [2] else [], 99, none, 1000⟩ (by kernel_rfl) (by kernel_rfl) (by kernel_rfl) (fun g h => by cases h) (fun k hk v W W' c h hg hc => allF_kept h hg fun g hh => (hc g hh).1) ?_
              iterate 1 (refine calm_quiet (v := ?_) (by rfl) (by rfl) (fun W hW hD => ?_) ?_; rotate_left; (· (obtain ⟨z0, z1, z2, z3⟩ := HQ.out W hW; clear hD hW; go_simp; try with_reducible rfl)); simp only [Act.put, List.setIfInBounds_toArray, List.set_cons_zero, List.set_cons_succ, Nat.reduceAdd, Nat.zero_add])
              refine calm_makes (by rfl) (by rfl) (fun W hW hD K hK => ?_) (fun v193 => ?_)
              · have hL := HW3.out.step (grown_below hW)
                refine wp_of_call (f := 29) ?_ ((refCodes_any O _ l W (show RecsN (.slice ra m rc) l W from hL.get (by simp)) (by rw [HM.out]; omega) HPack.out.1).mono ?_)
                · clear hL hD hW hK
                  go_simp
                · rintro e w5 ⟨v, rfl, hO, hb5⟩
                  rw [HPack.out.2.1] at hO
                  exact ⟨_, rfl, hK _ _ (made_below (show AllF w12.heap.size C HL CD HD 1 _ _ from OwnS.mono hO hW.size) hb5 (World.ownsRow.lt hO))⟩
              simp only [Act.put, List.setIfInBounds_toArray, List.set_cons_zero, List.set_cons_succ, Nat.reduceAdd, Nat.zero_add]
              refine calm_makes (by rfl) (by rfl) (fun W hW hD K hK => ?_) (fun v194 => ?_)
              · have h1 : OwnS w12.heap.size W v193 C := hD [] 1 (by kernel_rfl) (by kernel_rfl) (by kernel_rfl)
                refine wp_of_call (f := 28) ?_ ((hashed_any C.length C v193 W (Nat.le_refl _) HPack.out.2.2.1 h1.strs).mono ?_)
                · clear h1 hD hW hK
                  go_simp
                · rintro e w5 ⟨v, rfl, hO, hb5⟩
                  rw [← HHL.out] at hO
                  exact ⟨_, rfl, hK _ _ (made_below (show AllF w12.heap.size C HL CD HD 2 _ _ from OwnS.mono hO hW.size) hb5 (World.ownsRow.lt hO))⟩
              simp only [Act.put, List.setIfInBounds_toArray, List.set_cons_zero, List.set_cons_succ, Nat.reduceAdd, Nat.zero_add]
              iterate 1 (refine calm_quiet (v := ?_) (by rfl) (by rfl) (fun W hW hD => ?_) ?_; rotate_left; (· (obtain ⟨z0, z1, z2, z3⟩ := HQ.out W hW; clear hD hW; go_simp; try with_reducible rfl)); simp only [Act.put, List.setIfInBounds_toArray, List.set_cons_zero, List.set_cons_succ, Nat.reduceAdd, Nat.zero_add])
              refine calm_makes (by rfl) (by rfl) (fun W hW hD K hK => ?_) (fun v196 => ?_)
              · have hL := HW3.out.step (grown_below hW)
                refine wp_of_call (f := 29) ?_ ((refCodes_any O _ D W (show RecsN (.slice da k2 dc) D W from hL.get (by simp)) (by rw [HDl.out]; omega) HPd.out.1).mono ?_)
                · clear hL hD hW hK
                  go_simp
                · rintro e w5 ⟨v, rfl, hO, hb5⟩
                  rw [HPd.out.2.1] at hO
                  exact ⟨_, rfl, hK _ _ (made_below (show AllF w12.heap.size C HL CD HD 4 _ _ from OwnS.mono hO hW.size) hb5 (World.ownsRow.lt hO))⟩
              simp only [Act.put, List.setIfInBounds_toArray, List.set_cons_zero, List.set_cons_succ, Nat.reduceAdd, Nat.zero_add]
              refine calm_makes (by rfl) (by rfl) (fun W hW hD K hK => ?_) (fun v197 => ?_)
              · have h1 : OwnS w12.heap.size W v196 CD := hD [] 4 (by kernel_rfl) (by kernel_rfl) (by kernel_rfl)
                refine wp_of_call (f := 28) ?_ ((hashed_any CD.length CD v196 W (Nat.le_refl _) HPd.out.2.2.1 h1.strs).mono ?_)
                · clear h1 hD hW hK
                  go_simp
                · rintro e w5 ⟨v, rfl, hO, hb5⟩
                  rw [← HHD.out] at hO
                  exact ⟨_, rfl, hK _ _ (made_below (show AllF w12.heap.size C HL CD HD 5 _ _ from OwnS.mono hO hW.size) hb5 (World.ownsRow.lt hO))⟩
              simp only [Act.put, List.setIfInBounds_toArray, List.set_cons_zero, List.set_cons_succ, Nat.reduceAdd, Nat.zero_add]
              refine calm_makes (by rfl) (by rfl) (fun W hW hD K hK => ?_) (fun v198 => ?_)
              · have h2 : OwnS w12.heap.size W v194 HL := hD [] 2 (by kernel_rfl) (by kernel_rfl) (by kernel_rfl)
                have h5 : OwnS w12.heap.size W v197 HD := hD [] 5 (by kernel_rfl) (by kernel_rfl) (by kernel_rfl)
                exact wp_append_SS (.tmp 194) (.tmp 197) rfl w12.heap.size w12.heap.size v194 v197 HL HD rfl rfl h2 h5 (by have := HPack.out.2.2.2.2.1; have := HPd.out.2.2.2.2.1; omega) hW.size (fun v' w' h1 h2 h3 => hK _ _ (made_grown (j := 2) (u := v194) (by kernel_rfl) rfl (show AllF w12.heap.size C HL CD HD 6 _ _ from h1) h2 (fun g hg => ⟨(World.ownsRow.lt h1 g hg).2, grown_own h3 hg⟩)))
              simp only [Act.put, List.setIfInBounds_toArray, List.set_cons_zero, List.set_cons_succ, Nat.reduceAdd, Nat.zero_add]
              iterate 1 (refine calm_quiet (v := ?_) (by rfl) (by rfl) (fun W hW hD => ?_) ?_; rotate_left; (· (obtain ⟨z0, z1, z2, z3⟩ := HQ.out W hW; clear hD hW; go_simp; try with_reducible rfl)); simp only [Act.put, List.setIfInBounds_toArray, List.set_cons_zero, List.set_cons_succ, Nat.reduceAdd, Nat.zero_add])
              refine calm_nil fun W hW hF => ?_
              have h6 : OwnS w12.heap.size W v198 (HL ++ HD) := hF 6 (by kernel_rfl) (by kernel_rfl)
              have hbW := grown_below hW
              have HA1 := Lib.hid h6
              have HB1 := Lib.hid hbW
              have hL := HW3.out.step hbW
              have hB0 := show BookN G5 O (.slice ra k2 k2) W from hL.get (by simp)
              have q0 := hB0.c0
              have q1 := hB0.c1
              have hhl := HPack.out.2.2.2.2.1
              have hhd := HPd.out.2.2.2.2.1
              have hhs := HPs.out.2.2.2.2.1
              clear hF hW h6 hbW hL hB0 HQ
              go_wp2_with fail
              refine (refCodes_any O _ S W (by rw [HS0.out]; exact (show RecsN (.slice ra k2 k2) (l.take k2) _ from (HW3.out.step HB1.out).get (by simp))) (by rw [HSl.out]; omega) HPs.out.1).mono ?_
              rintro e w13 ⟨vc, rfl, hO, hb⟩
              rw [HPs.out.2.1] at hO
              have HOc := Lib.hid hO
              have HB2 := Lib.hid (HB1.out.trans (hb.mono HB1.out.size))
              have HA2 := Lib.hid (HA1.out.below hb (Nat.le_refl _))
              clear hb hO q0 q1 HA1 HB1
              go_wp2_with fail
              refine (hashed_any CS.length CS vc w13 (Nat.le_refl _) HPs.out.2.2.1 HOc.out.strs).mono ?_
              rintro e w14 ⟨vh, rfl, hO, hb⟩
              rw [← HHS.out] at hO
              have HOh := Lib.hid hO
              have HB3 := Lib.hid (HB2.out.trans (hb.mono HB2.out.size))
              have HA3 := Lib.hid (HA2.out.below hb (Nat.le_refl _))
              clear hb hO HA2 HB2 HOc
              have hz14 := HB3.out.size
              have HSd1 := Lib.hid (fun (W : World) (hh : StrsAt W.heap.size W (.slice qa qn qc) q) => refSides_any RD (by omega) q.reverse k2 m true (.slice qa qn qc) W (by omega) (by omega) (by omega) (fun x hx => HQl.out.2 x (List.mem_reverse.1 hx)) (by rw [List.length_reverse, ← HQN.out]; omega) (by rw [List.reverse_reverse]; exact hh))
              have HSd2 := Lib.hid (fun (W : World) (hh : StrsAt W.heap.size W vo OL) => refSides_any RS (by omega) OL.reverse k2 m true vo W (by omega) (by omega) (by omega) (fun x hx => HSo.out.2 x (List.mem_reverse.1 hx)) (by rw [List.length_reverse]; have := HSo.out.1; omega) (by rw [List.reverse_reverse]; exact hh))
              have hsl1 := (sides3R_len RD q.reverse k2 m true).1
              have hsl2 := (sides3R_len RS OL.reverse k2 m true).1
              rw [List.length_reverse, ← HQN.out] at hsl1
              rw [List.length_reverse] at hsl2
              have hsl3 := HSo.out.1
              have HSe1 := Lib.hid (sides3R_el RD (by omega) q.reverse (fun x hx => HQl.out.2 x (List.mem_reverse.1 hx)) k2 m true)
              have HSe2 := Lib.hid (sides3R_el RS (by omega) OL.reverse (fun x hx => HSo.out.2 x (List.mem_reverse.1 hx)) k2 m true)
              generalize (sides3R RD q.reverse k2 m true).2.1 = s11 at *
              generalize (sides3R RD q.reverse k2 m true).2.2 = s12 at *
              generalize (sides3R RD q.reverse k2 m true).1 = SA at *
              generalize (sides3R RS OL.reverse k2 m true).2.1 = s21 at *
              generalize (sides3R RS OL.reverse k2 m true).2.2 = s22 at *
              generalize (sides3R RS OL.reverse k2 m true).1 = SB at *
              have hl1 : (HL ++ HD).length ≤ 400 := by rw [List.length_append]; omega
              have hl2 : ((HL ++ HD) ++ HS).length ≤ 600 := by rw [List.length_append]; omega
              have hl3 : (((HL ++ HD) ++ HS) ++ SA).length ≤ 3000 := by rw [List.length_append]; omega
              go_wp2_with (at_builtin; refine append_SS rfl _ _ rfl w12.heap.size 0 _ _ (HL ++ HD) HS rfl rfl HA3.out (HOh.out.mono (Nat.zero_le _)) (by omega) hz14 w12 HB3.out ?_; intro v203 w15 hO3 hg3 hb3; have HA4 := Lib.hid hO3; have HB4 := Lib.hid hb3; clear hO3 hg3 hb3)
              refine (HSd1.out _ (show StrsN (.slice qa qn qc) q _ from (HW3.out.step HB4.out).get (by simp))).mono ?_
              rintro e w16 ⟨v36, rfl, hO, hb⟩
              have HO36 := Lib.hid (hO.mono (base' := 0) (Nat.zero_le _))
              have HB5 := Lib.hid (HB4.out.trans (hb.mono HB4.out.size))
              have HA5 := Lib.hid (HA4.out.below hb (Nat.le_refl _))
              clear hb hO HA4 HB4 HA3 HB3 HOh HSd1
              go_wp2_with fail
              refine (HSd2.out _ (show OwnsN 0 vo OL _ from (HW3.out.step HB5.out).get (by simp)).strs).mono ?_
              rintro e w17 ⟨v39, rfl, hO, hb⟩
              have HO39 := Lib.hid hO
              have HO36b := Lib.hid (HO36.out.below hb (Nat.le_refl _))
              have HB6 := Lib.hid (HB5.out.trans (hb.mono HB5.out.size))
              have HA6 := Lib.hid (HA5.out.below hb (Nat.le_refl _))
              clear hb hO HB5 HO36 HSd2
              have hz17 := HB6.out.size
              go_wp2_with (first | (at_builtin; refine append_SS rfl _ _ rfl w12.heap.size 0 _ _ (((HL ++ HD) ++ HS) ++ SA) SB rfl rfl HA7.out (HO39c.out.mono (Nat.zero_le _)) (by omega) HB7.out.size w12 HB7.out ?_; intro v226 w19 hO4 hg4 hb4; have HA8 := Lib.hid hO4; have HB8 := Lib.hid hb4; clear hO4 hg4 hb4) | (at_builtin; refine append_SS rfl _ _ rfl w12.heap.size 0 _ _ ((HL ++ HD) ++ HS) SA rfl rfl HA6.out HO36b.out (by omega) hz17 w12 HB6.out ?_; intro v224 w18 hO3 hg3 hb3; have HA7 := Lib.hid hO3; have HB7 := Lib.hid hb3; have HO39c := Lib.hid (rowS_kept HO39.out hg3 (fun g hg e => by have e1 := (World.ownsRow.lt HO39.out g e).1; have e2 := (World.ownsRow.lt HA5.out g hg).2; omega)); clear hO3 hg3 hb3))
              refine (out_any _ ((((HL ++ HD) ++ HS) ++ SA) ++ SB) _ HA8.out.strs (fun x hx => ?_) (by rw [List.length_append]; omega)).mono ?_
              · rcases List.mem_append.1 hx with hx | hx
                · rcases List.mem_append.1 hx with hx | hx
                  · rcases List.mem_append.1 hx with hx | hx
                    · rcases List.mem_append.1 hx with hx | hx
                      · exact Nat.le_trans (HPack.out.2.2.2.2.2.1 x hx) (by omega)
                      · exact Nat.le_trans (HPd.out.2.2.2.2.2.1 x hx) (by omega)
                    · exact Nat.le_trans (HPs.out.2.2.2.2.2.1 x hx) (by omega)
                  · exact HSe1.out x hx
                · exact HSe2.out x hx
              rintro e w20 ⟨rfl, hb⟩
              rw [HOut.out]
              have HWz := Lib.hid (((HW3.out.step HB8.out).step hb).sub (Qs := TwoV gx (.slice pa PN pc) (.slice fa FN fc) :: [OwnsN 0 (.slice fa FN fc) F, BookN G5 O (.slice ra k2 k2), RecsN (.slice ra k2 k2) (l.take k2), BookN G3 O (.slice da k2 dc), RecsN (.slice da k2 dc) D, OwnsN 0 (.slice pa PN pc) PL, BookN B O (.slice ra m rc), RecsN (.slice ra m rc) l]) (fun Q hQ => List.mem_cons_of_mem _ (List.mem_cons_of_mem _ hQ)))
              clear hb HW3 HA8 HB8 HA7 HB7 HA6 HA5 HB6 HO39 HO39c HO36b HSe1 HSe2 HOut
              go_wp2
              go_roundw
              case rel => exact ⟨j + 1, by omega, by go_num, HWz⟩
              case measure => simp [intOf]; omega
          · have ji : ¬ ((j : Int) < 2) := by omega
            have HBl := Lib.hid HW.out.below
            clear h1 HW
            go_wp2
            go_ret
            exact ⟨rfl, HBl.out⟩
end Go.Proofs.YthfenbdlolbikaaGreatDoor
