/- IndexOrder. -/
import Derived.Test.YtcgopilkajfghaaDoorIOrdP
set_option linter.unusedVariables false
set_option linter.unusedSimpArgs false
namespace Go.Proofs.YtcgopilkajfghaaDoor
open Go.RowKit Go.Shelf

set_option maxRecDepth 100000 in
set_option maxHeartbeats 16000000 in
theorem lawO (v : Value) (N : Nat) (f : Nat → Nat → Int) (fz mz tz : Int) (w : World) (hX : SixAt w.heap.size w v N f) (hfz : inI fz) (hmz : inI mz) (htz : inI tz) (hT : Rounds w) :
    Calls Tryd.prog 7 #[v, .int .i64 fz, .int .i64 mz, .int .i64 tz] w fun e w' => e = .returned (.bool true) ∧ Below w.heap.size w w' := by
  have hL := LiveP.start hT
  have HX := Lib.hid hX
  have hfr := pickZ_bd fz 2099 (by omega)
  have HPf := Lib.hid (fun W => ipick_any fz 2099 W hfz.1 hfz.2 (by omega) (by omega))
  generalize pickZ fz 2099 = fr at *
  have hp1 := pickZ_bd mz (2099 - fr) (by omega)
  have HPl := Lib.hid (fun W => ipick_any mz (2099 - fr) W hmz.1 hmz.2 (by omega) (by omega))
  generalize pickZ mz (2099 - fr) = p1 at *
  have hp2 := pickZ_bd tz (2100 - (fr + 1 + p1)) (by omega)
  have HPt := Lib.hid (fun W => ipick_any tz (2100 - (fr + 1 + p1)) W htz.1 htz.2 (by omega) (by omega))
  generalize pickZ tz (2100 - (fr + 1 + p1)) = p2 at *
  obtain ⟨mi, hmi⟩ : ∃ mi, fr + 1 + p1 = mi := ⟨_, rfl⟩
  obtain ⟨to, hto⟩ : ∃ to, mi + 1 + p2 = to := ⟨_, rfl⟩
  rw [hmi] at HPt hp2
  have hb1 : fr < mi := by omega
  have hb2 : mi < to := by omega
  have hb3 : to ≤ 2100 := by omega
  have w1_ : IntKind.i64.wrap (fr + 1) = fr + 1 := IntWalk.i64_in _ (by omega)
  have w2_ : IntKind.i64.wrap (2099 - fr) = 2099 - fr := IntWalk.i64_in _ (by omega)
  have w3_ : IntKind.i64.wrap (fr + 1 + p1) = mi := by rw [hmi]; exact IntWalk.i64_in _ (by omega)
  have w4_ : IntKind.i64.wrap (mi + 1) = mi + 1 := IntWalk.i64_in _ (by omega)
  have w5_ : IntKind.i64.wrap (2100 - mi) = 2100 - mi := IntWalk.i64_in _ (by omega)
  have w6_ : IntKind.i64.wrap (mi + 1 + p2) = to := by rw [hto]; exact IntWalk.i64_in _ (by omega)
  have HW := Lib.hid (⟨w1_, w2_, w3_, w4_, w5_, w6_⟩ : _ ∧ _ ∧ _ ∧ _ ∧ _ ∧ _)
  have HBd := Lib.hid (⟨hfr.1, hb1, hb2, hb3⟩ : _ ∧ _ ∧ _ ∧ _)
  have HL0 := Lib.hid hL
  clear hL hX hfz hmz htz hT hfr hp1 hp2 hmi hto hb1 hb2 hb3 w1_ w2_ w3_ w4_ w5_ w6_
  go_enter Tryd.func7, Tryd.ntmps7
  go_wp2_with fail
  refine (isane_any _ HL0.out.rounds).mono ?_
  rintro e w1 ⟨rfl, hb⟩
  have HZ1 := Lib.hid hb.size
  have HL1 := Lib.hid (HL0.out.step hb)
  clear hb HL0
  go_wp2_with fail
  refine (run_any _ N f _ ((HX.out.below HL1.out.below (Nat.le_refl _)).mono HL1.out.below.size)).mono ?_
  rintro e w2 ⟨S, X, rfl, hi, hb, hS⟩
  have HS := Lib.hid hS
  have HSl := Lib.hid hi.lt
  have HZ2 := Lib.hid hb.size
  have HL2 := Lib.hid ((HL1.out.step hb).add (keep_idx hi))
  clear hb hi hS HL1
  have HLn : Hid ((runL f (min N 40)).length ≤ 40) := Nat.le_trans (runL_length f _) (Nat.min_le_right _ _)
  have HOk : Hid (IOk (runL f (min N 40))) := runL_ok f _
  generalize runL f (min N 40) = l at *
  obtain ⟨rk, q1, q2, q3⟩ := ord_facts HOk.out HBd.out.1 HBd.out.2.1 HBd.out.2.2.1 HBd.out.2.2.2
  have HD1 := Lib.hid (fun W (h : IdxN S X l W) => during_any fr mi W h)
  have HM1 : Hid ((durE l fr mi).length ≤ 40) := Nat.le_trans (durE_length l _ _) HLn.out
  have HD2 := Lib.hid (fun W (h : IdxN S X l W) => during_any mi to W h)
  have HM2 : Hid ((durE l mi to).length ≤ 40) := Nat.le_trans (durE_length l _ _) HLn.out
  have HD3 := Lib.hid (fun W (h : IdxN S X l W) => during_any fr to W h)
  have HM3 : Hid ((durE l fr to).length ≤ 40) := Nat.le_trans (durE_length l _ _) HLn.out
  generalize durE l fr mi = L1 at *
  generalize durE l mi to = L2 at *
  generalize durE l fr to = L3 at *
  have H1 := Lib.hid q1; have H2 := Lib.hid q2; have H3 := Lib.hid q3
  clear q1 q2 q3 HOk HLn HBd
  go_wp2_with fail
  refine (HPf.out _).mono ?_
  rintro e w' ⟨rfl, rfl⟩
  obtain ⟨V, hV⟩ : ∃ V, V = w2.alloc (.cells #[.int .i64 fr, .int .i64 0] 29) := ⟨_, rfl⟩
  have hb7 : Below w2.heap.size w2 V := by rw [hV]; exact (Below.refl _ _).alloc (Nat.le_refl _) _
  have hx7 : BoxN w2.heap.size 29 #[.int .i64 fr, .int .i64 0] V := by rw [hV]; exact box_new w2 _ _
  have HL3 := Lib.hid ((HL2.out.step hb7).add (keep_box hx7))
  have HVe := Lib.hid hV
  have HBs := Lib.hid hb7
  clear hb7 hx7 hV
  obtain ⟨w1_, w2_, w3_, w4_, w5_, w6_⟩ := HW.out
  go_wp2
  rw [← HVe.out]
  have HQ : Hid (∀ W, V.grownBy W none → W.cell? ⟨w2.heap.size, 0, none⟩ = some (.int .i64 fr) ∧ W.cell? ⟨w2.heap.size, 1, none⟩ = some (.int .i64 0)) := fun W hW => by
    have hL := HL3.out.step (grown_below hW)
    exact ⟨BoxN.cell (show (BoxN w2.heap.size 29 #[.int .i64 fr, .int .i64 0]) _ from hL.get (by simp)) 0 _ rfl, BoxN.cell (show (BoxN w2.heap.size 29 #[.int .i64 fr, .int .i64 0]) _ from hL.get (by simp)) 1 _ rfl⟩
  refine wp_region_calm (tagPl [7] [(7, .val (.int .i64 p1))] 10) (by kernel_rfl) (by kernel_rfl) (by kernel_rfl) tag_c0 tag_hst ?_
  iterate 3 (refine calm_quiet (v := ?_) (by rfl) (by rfl) (fun W hW hD => ?_) ?_; rotate_left; (· (obtain ⟨y0, y1⟩ := HQ.out W hW; clear hD hW; go_simp; try with_reducible rfl)); simp only [Act.put, List.setIfInBounds_toArray, List.set_cons_zero, List.set_cons_succ, Nat.reduceAdd, Nat.zero_add])
  iterate 1 (refine calm_quiet (v := ?_) (by rfl) (by rfl) (fun W hW hD => ?_) ?_; rotate_left; (· (clear hD hW; go_simp; try with_reducible rfl)); simp only [Act.put, List.setIfInBounds_toArray, List.set_cons_zero, List.set_cons_succ, Nat.reduceAdd, Nat.zero_add])
  iterate 3 (refine calm_quiet (v := ?_) (by rfl) (by rfl) (fun W hW hD => ?_) ?_; rotate_left; (· (obtain ⟨y0, y1⟩ := HQ.out W hW; clear hD hW; go_simp; try with_reducible rfl)); simp only [Act.put, List.setIfInBounds_toArray, List.set_cons_zero, List.set_cons_succ, Nat.reduceAdd, Nat.zero_add])
  refine calm_fixed (.int .i64 p1) ⟨(default : World), rfl⟩ (fun v W h => h) rfl (by rfl) (by rfl) (fun W hW hD Kc hK => ?_) ?_
  · refine wp_of_call (f := 16) ?_ ((HPl.out W).mono ?_)
    · clear hD hW hK
      go_simp
    · rintro e w5 ⟨rfl, rfl⟩
      exact ⟨_, rfl, hK _ _ (made_plain rfl (Below.refl _ _) rfl)⟩
  simp only [Act.put, List.setIfInBounds_toArray, List.set_cons_zero, List.set_cons_succ, Nat.reduceAdd, Nat.zero_add]
  iterate 2 (refine calm_quiet (v := ?_) (by rfl) (by rfl) (fun W hW hD => ?_) ?_; rotate_left; (· (clear hD hW; go_simp; try with_reducible rfl)); simp only [Act.put, List.setIfInBounds_toArray, List.set_cons_zero, List.set_cons_succ, Nat.reduceAdd, Nat.zero_add])
  refine calm_tail (by rfl) fun W hW hF => ?_
  have hc : BoxN w2.heap.size 29 #[.int .i64 fr, .int .i64 0] W := BoxN.grown (show (BoxN w2.heap.size 29 #[.int .i64 fr, .int .i64 0]) _ from HL3.out.get (by simp)) hW (by simp)
  have z0 := BoxN.cell hc 1 _ rfl
  have zf := BoxN.frozen hc
  obtain ⟨V4, hV4⟩ : ∃ W8, W8 = W.setCell ⟨w2.heap.size, 1, none⟩ (.int .i64 mi) := ⟨_, rfl⟩
  have hb8 : Below w2.heap.size w2 V4 := by rw [hV4]; exact (HBs.out.trans ((grown_below hW).mono HBs.out.size)).setCell (p := ⟨w2.heap.size, 1, none⟩) (Nat.le_refl _) _
  have hx8 : BoxN w2.heap.size 29 #[.int .i64 fr, .int .i64 mi] V4 := by rw [hV4]; exact hc.set 1 _
  have HL4 := Lib.hid ((HL2.out.step hb8).add (keep_box hx8))
  have HWe := Lib.hid hV4
  clear hF hW hc HL3 HL2 HBs HVe hb8 hx8 hV4 HQ w1_ w2_
  go_wp2
  clear z0 zf
  rw [← HWe.out]
  clear HWe
  have HQ : Hid (∀ W, V4.grownBy W none → W.cell? ⟨w2.heap.size, 0, none⟩ = some (.int .i64 fr) ∧ W.cell? ⟨w2.heap.size, 1, none⟩ = some (.int .i64 mi)) := fun W hW => by
    have hL := HL4.out.step (grown_below hW)
    exact ⟨BoxN.cell (show (BoxN w2.heap.size 29 #[.int .i64 fr, .int .i64 mi]) _ from hL.get (by simp)) 0 _ rfl, BoxN.cell (show (BoxN w2.heap.size 29 #[.int .i64 fr, .int .i64 mi]) _ from hL.get (by simp)) 1 _ rfl⟩
  refine wp_region_calm (tagPl [9, 12] [(9, .val (.int .i64 p2)), (12, .box V4.heap.size 29 #[.int .i64 0, .int .i64 0])] 13) (by kernel_rfl) (by kernel_rfl) (by kernel_rfl) tag_c0 tag_hst ?_
  iterate 5 (refine calm_quiet (v := ?_) (by rfl) (by rfl) (fun W hW hD => ?_) ?_; rotate_left; (· (obtain ⟨y0, y1⟩ := HQ.out W hW; clear hD hW; go_simp; try with_reducible rfl)); simp only [Act.put, List.setIfInBounds_toArray, List.set_cons_zero, List.set_cons_succ, Nat.reduceAdd, Nat.zero_add])
  iterate 1 (refine calm_quiet (v := ?_) (by rfl) (by rfl) (fun W hW hD => ?_) ?_; rotate_left; (· (clear hD hW; go_simp; try with_reducible rfl)); simp only [Act.put, List.setIfInBounds_toArray, List.set_cons_zero, List.set_cons_succ, Nat.reduceAdd, Nat.zero_add])
  iterate 3 (refine calm_quiet (v := ?_) (by rfl) (by rfl) (fun W hW hD => ?_) ?_; rotate_left; (· (obtain ⟨y0, y1⟩ := HQ.out W hW; clear hD hW; go_simp; try with_reducible rfl)); simp only [Act.put, List.setIfInBounds_toArray, List.set_cons_zero, List.set_cons_succ, Nat.reduceAdd, Nat.zero_add])
  refine calm_fixed (.int .i64 p2) ⟨(default : World), rfl⟩ (fun v W h => h) rfl (by rfl) (by rfl) (fun W hW hD Kc hK => ?_) ?_
  · refine wp_of_call (f := 16) ?_ ((HPt.out W).mono ?_)
    · clear hD hW hK
      go_simp
    · rintro e w5 ⟨rfl, rfl⟩
      exact ⟨_, rfl, hK _ _ (made_plain rfl (Below.refl _ _) rfl)⟩
  simp only [Act.put, List.setIfInBounds_toArray, List.set_cons_zero, List.set_cons_succ, Nat.reduceAdd, Nat.zero_add]
  iterate 2 (refine calm_quiet (v := ?_) (by rfl) (by rfl) (fun W hW hD => ?_) ?_; rotate_left; (· (clear hD hW; go_simp; try with_reducible rfl)); simp only [Act.put, List.setIfInBounds_toArray, List.set_cons_zero, List.set_cons_succ, Nat.reduceAdd, Nat.zero_add])
  refine calm_makes (by rfl) (by rfl) (fun W hW hD Kc hK => ?_) (fun vb => ?_)
  · have hz := hW.size
    refine wp_of_run (v := .pointer (some ⟨W.heap.size, 0, none⟩)) (w' := W.alloc (.cells #[.int .i64 0, .int .i64 0] 29)) ?_ (hK _ _ (made_plain ⟨_, rfl, hz, box_new W _ _⟩ ((Below.refl _ _).alloc (Nat.le_refl _) _) rfl))
    clear hD hW hK
    go_simp
  simp only [Act.put, List.setIfInBounds_toArray, List.set_cons_zero, List.set_cons_succ, Nat.reduceAdd, Nat.zero_add]
  refine calm_tail (by rfl) fun W hW hF => ?_
  obtain ⟨b, rfl, hbB, hbx⟩ : ∃ b, vb = .pointer (some ⟨b, 0, none⟩) ∧ V4.heap.size ≤ b ∧ BoxN b 29 #[.int .i64 0, .int .i64 0] W := hF 12 (by kernel_rfl) (by kernel_rfl)
  have z0 := BoxN.cell hbx 0 _ rfl
  have z1 := BoxN.cell hbx 1 _ rfl
  have zf := BoxN.frozen hbx
  obtain ⟨V5, hV5⟩ : ∃ W8, W8 = (W.setCell ⟨b, 0, none⟩ (.int .i64 mi)).setCell ⟨b, 1, none⟩ (.int .i64 to) := ⟨_, rfl⟩
  have hb8 : Below V4.heap.size V4 V5 := by rw [hV5]; exact ((grown_below hW).setCell (p := ⟨b, 0, none⟩) hbB _).setCell (p := ⟨b, 1, none⟩) hbB _
  have hx8 : BoxN b 29 #[.int .i64 mi, .int .i64 to] V5 := by rw [hV5]; exact (hbx.set 0 _).set 1 _
  have HL5 := Lib.hid ((HL4.out.step hb8).add (keep_box hx8))
  have HWe := Lib.hid hV5
  have sa := (show (BoxN w2.heap.size 29 #[.int .i64 fr, .int .i64 mi]) _ from HL5.out.get (by simp))
  have a0 := BoxN.cell sa 0 _ rfl
  have a1 := BoxN.cell sa 1 _ rfl
  rw [hV5] at a0 a1
  clear hF hW hbx hbB HL4 hb8 hx8 hV5 HQ w3_ w4_ w5_ w6_ sa
  go_wp2_with fail
  clear a0 a1 z0 z1 zf
  rw [← HWe.out]
  clear HWe
  refine (HD1.out _ (show (IdxN S X l) _ from HL5.out.get (by simp))).mono ?_
  rintro e w6 ⟨v1, rfl, ho, hb⟩
  obtain ⟨oa1, oc1, hov, hlc1, hcm1⟩ := ho.shape
  subst hov
  unfold maxLen at hcm1
  generalize hn1 : L1.length = n1 at *
  have HN1 := Lib.hid hn1
  have HL6 := Lib.hid ((HL5.out.step hb).add (keep_rows (ho.rows intOk)))
  clear ho hb hn1 HL5
  have sa := (show (BoxN w2.heap.size 29 #[.int .i64 fr, .int .i64 mi]) _ from HL6.out.get (by simp))
  have sb := (show (BoxN b 29 #[.int .i64 mi, .int .i64 to]) _ from HL6.out.get (by simp))
  have b0 := BoxN.cell sb 0 _ rfl
  have b1 := BoxN.cell sb 1 _ rfl
  clear sa sb
  go_wp2_with fail
  clear b0 b1
  refine (HD2.out _ (show (IdxN S X l) _ from HL6.out.get (by simp))).mono ?_
  rintro e w7 ⟨v2, rfl, ho, hb⟩
  obtain ⟨oa2, oc2, hov, hlc2, hcm2⟩ := ho.shape
  subst hov
  unfold maxLen at hcm2
  generalize hn2 : L2.length = n2 at *
  have HN2 := Lib.hid hn2
  have HL7 := Lib.hid ((HL6.out.step hb).add (keep_rows (ho.rows intOk)))
  clear ho hb hn2 HL6
  have sa := (show (BoxN w2.heap.size 29 #[.int .i64 fr, .int .i64 mi]) _ from HL7.out.get (by simp))
  have sb := (show (BoxN b 29 #[.int .i64 mi, .int .i64 to]) _ from HL7.out.get (by simp))
  have a0 := BoxN.cell sa 0 _ rfl
  have b1 := BoxN.cell sb 1 _ rfl
  clear sa sb
  go_wp2_with fail
  clear a0 b1
  refine (HD3.out _ (show (IdxN S X l) _ from HL7.out.get (by simp))).mono ?_
  rintro e w8 ⟨v3, rfl, ho, hb⟩
  obtain ⟨oa3, oc3, hov, hlc3, hcm3⟩ := ho.shape
  subst hov
  unfold maxLen at hcm3
  generalize hn3 : L3.length = n3 at *
  have HN3 := Lib.hid hn3
  have HL8 := Lib.hid ((HL7.out.step hb).add (keep_rows (ho.rows intOk)))
  clear ho hb hn3 HL7
  go_wp2
  go_loopw [16, 17] (fun la i wr => ∃ k : Nat, k ≤ n3 ∧ i = .int .i64 k ∧ la = .int .i64 (lastZ rk k) ∧ Hid (Below w8.heap.size w8 wr)) (fun _ i _ => n3 - (intOf i).toNat)
  case atStart => exact ⟨0, Nat.zero_le _, rfl, rfl, Lib.hid (Below.refl _ _)⟩
  case round =>
    obtain ⟨k, hk, rfl, rfl, HB⟩ := hrel
    have hL := HL8.out.step HB.out
    have k0 : 0 ≤ (k : Int) := by omega
    by_cases h1 : k < n3
    · have k1 : (k : Int) < (n3 : Int) := by omega
      have hget : L3[k]? = some (L3.getD k default) := by rw [List.getD_eq_getElem?_getD, List.getElem?_eq_getElem (by rw [HN3.out]; exact h1)]; rfl
      obtain ⟨r1, r2, r3, r4⟩ := H1.out k h1
      have hz9 : L3.getD k default = L3.getD k default := rfl
      generalize L3.getD k default = z at *
      clear hz9
      have hle : ¬ (((rk k : Nat) : Int) ≤ lastZ rk k) := by
        cases k with
        | zero => show ¬ (_ ≤ (-1 : Int)); omega
        | succ j => have := r3 j (Nat.lt_succ_self _); show ¬ (_ ≤ ((rk j : Nat) : Int)); omega
      have hls : lastZ rk (k + 1) = ((rk k : Nat) : Int) := rfl
      generalize lastZ rk k = la at *
      have HLs := Lib.hid hls; have HRk := Lib.hid r1; have HIn := Lib.hid r2; have HOr := Lib.hid r4
      clear hls r1 r2 r3 r4
      obtain ⟨gb, off, hae, hgb, cz⟩ := intsK_at (show (RowsN intK (.slice oa3 n3 oc3) L3) _ from hL.get (by simp)) k z hget
      subst hae
      clear hget
      go_wp2_with fail
      refine (rank_any z _ (show (IdxN S X l) _ from hL.get (by simp)) HIn.out).mono ?_
      rintro e w9 ⟨rfl, hb⟩
      rw [HRk.out]
      simp only
      have cz := (hb.cell (p := ⟨gb, off + k, none⟩) hgb).trans cz
      have HL9 := Lib.hid (hL.step hb)
      have HB9 : Hid (Below w8.heap.size w8 w9) := HB.out.trans (hb.mono HB.out.size)
      clear hL hb HB hgb
      generalize ((rk k : Nat) : Int) = rz at *
      cases hc1 : hasI L1 z
      · have hc2 : hasI L2 z = true := by have := HOr.out; rw [hc1] at this; simpa using this
        have H8 := Lib.hid hc1; have H9 := Lib.hid hc2
        clear hc1 hc2
        go_wp2_with fail
        refine (icontains_any _ L1 z _ (show (RowsN intK (.slice oa1 n1 oc1) L1) _ from HL9.out.get (by simp))).mono ?_
        rintro e w' ⟨rfl, rfl⟩
        rw [H8.out]
        go_wp2_with fail
        refine (icontains_any _ L2 z _ (show (RowsN intK (.slice oa2 n2 oc2) L2) _ from HL9.out.get (by simp))).mono ?_
        rintro e w' ⟨rfl, rfl⟩
        rw [H9.out]
        go_wp2
        go_roundw
        case rel => exact ⟨k + 1, by omega, by go_num, by rw [HLs.out], HB9⟩
        case measure => simp [intOf]; omega
      · have H8 := Lib.hid hc1
        clear hc1
        go_wp2_with fail
        refine (icontains_any _ L1 z _ (show (RowsN intK (.slice oa1 n1 oc1) L1) _ from HL9.out.get (by simp))).mono ?_
        rintro e w' ⟨rfl, rfl⟩
        rw [H8.out]
        go_wp2
        go_roundw
        case rel => exact ⟨k + 1, by omega, by go_num, by rw [HLs.out], HB9⟩
        case measure => simp [intOf]; omega
    · obtain rfl : k = n3 := by omega
      generalize lastZ rk k = la at *
      have HLa := Lib.hid hL
      clear hL HB
      go_wp2
      go_loopw [20] (fun i wq1 => ∃ k : Nat, k ≤ n1 ∧ i = .int .i64 k ∧ Hid (Below wr.heap.size wr wq1)) (fun i _ => n1 - (intOf i).toNat)
      case atStart => exact ⟨0, Nat.zero_le _, rfl, Lib.hid (Below.refl _ _)⟩
      case round =>
        obtain ⟨j, hj, rfl, HB1⟩ := hrel
        have j0 : 0 ≤ (j : Int) := by omega
        by_cases h2 : j < n1
        · have j1 : (j : Int) < (n1 : Int) := by omega
          have HLj := Lib.hid (HLa.out.step HB1.out)
          have hget : L1[j]? = some (L1.getD j default) := by rw [List.getD_eq_getElem?_getD, List.getElem?_eq_getElem (by rw [HN1.out]; exact h2)]; rfl
          have HC : Hid (hasI L3 (L1.getD j default) = true) := H2.out _ (List.mem_of_getElem? hget)
          generalize L1.getD j default = z at *
          obtain ⟨gb, off, hae, hgb, cz⟩ := intsK_at (show (RowsN intK (.slice oa1 n1 oc1) L1) _ from HLj.out.get (by simp)) j z hget
          subst hae
          clear hget hgb
          go_wp2_with fail
          refine (icontains_any _ L3 z _ (show (RowsN intK (.slice oa3 k oc3) L3) _ from HLj.out.get (by simp))).mono ?_
          rintro e w' ⟨rfl, rfl⟩
          rw [HC.out]
          go_wp2
          go_roundw
          case rel => exact ⟨j + 1, by omega, by go_num, HB1⟩
          case measure => simp [intOf]; omega
        · obtain rfl : j = n1 := by omega
          have HLx1 := Lib.hid (HLa.out.step HB1.out)
          clear HB1
          go_wp2
          go_loopw [21] (fun i wq2 => ∃ k : Nat, k ≤ n2 ∧ i = .int .i64 k ∧ Hid (Below wr.heap.size wr wq2)) (fun i _ => n2 - (intOf i).toNat)
          case atStart => exact ⟨0, Nat.zero_le _, rfl, Lib.hid (Below.refl _ _)⟩
          case round =>
            obtain ⟨j, hj, rfl, HB2⟩ := hrel
            have j0 : 0 ≤ (j : Int) := by omega
            by_cases h2 : j < n2
            · have j1 : (j : Int) < (n2 : Int) := by omega
              have HLj := Lib.hid (HLx1.out.step HB2.out)
              have hget : L2[j]? = some (L2.getD j default) := by rw [List.getD_eq_getElem?_getD, List.getElem?_eq_getElem (by rw [HN2.out]; exact h2)]; rfl
              have HC : Hid (hasI L3 (L2.getD j default) = true) := H3.out _ (List.mem_of_getElem? hget)
              generalize L2.getD j default = z at *
              obtain ⟨gb, off, hae, hgb, cz⟩ := intsK_at (show (RowsN intK (.slice oa2 n2 oc2) L2) _ from HLj.out.get (by simp)) j z hget
              subst hae
              clear hget hgb
              go_wp2_with fail
              refine (icontains_any _ L3 z _ (show (RowsN intK (.slice oa3 k oc3) L3) _ from HLj.out.get (by simp))).mono ?_
              rintro e w' ⟨rfl, rfl⟩
              rw [HC.out]
              go_wp2
              go_roundw
              case rel => exact ⟨j + 1, by omega, by go_num, HB2⟩
              case measure => simp [intOf]; omega
            · obtain rfl : j = n2 := by omega
              have HBz := Lib.hid (HLx1.out.step HB2.out).below
              go_wp2
              go_ret
              exact ⟨rfl, HBz.out⟩
end Go.Proofs.YtcgopilkajfghaaDoor
