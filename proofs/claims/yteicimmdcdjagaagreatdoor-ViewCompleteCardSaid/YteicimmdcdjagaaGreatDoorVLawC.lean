import Derived.Test.YteicimmdcdjagaaGreatDoorMVCom
set_option linter.unusedVariables false
set_option linter.unusedSimpArgs false

/- ViewComplete. -/
set_option linter.unusedVariables false
set_option linter.unusedSimpArgs false
namespace Go.Proofs.YteicimmdcdjagaaGreatDoor
open Go.RowKit Go.Shelf

set_option maxRecDepth 100000 in
set_option maxHeartbeats 16000000 in
theorem lawC (z : Int) (xv : Value) (N : Nat) (f : Nat → Nat → Int) (id how bend : Int) (text : List UInt8) (u0 : Int) (nv0 : Value) (A0 : List VNote) (s0 : List UInt8) (pv0 : Value) (Pr0 : List Bytes) (w : World) (hz : -9223372036854775808 ≤ z ∧ z ≤ 9223372036854775807) (hid : -9223372036854775808 ≤ id ∧ id ≤ 9223372036854775807)
    (hho : -9223372036854775808 ≤ how ∧ how ≤ 9223372036854775807) (hbe : -9223372036854775808 ≤ bend ∧ bend ≤ 9223372036854775807) (hX : FourAt w.heap.size w xv N f) (hN0 : RowsAt noteK w.heap.size w nv0 A0) (hP0 : StrsAt w.heap.size w pv0 Pr0) (hT : Rounds w) :
    Calls Tryz.prog 5 #[.int .i64 z, xv, .int .i64 id, .int .i64 how, .int .i64 bend, .string (bs text), pageV u0 nv0 s0 pv0] w fun e w' => e = .returned (.bool true) ∧ Below w.heap.size w w' := by
  obtain ⟨na0, nc0, rfl, hn01, hn02⟩ := hN0.shape
  obtain ⟨pa0, pc0, rfl, hp01, hp02⟩ := hP0.shape
  have hL := (((LiveP.start hT).alloc (.cells #[.int .i64 u0, .slice na0 A0.length nc0, .string (bs s0), .slice pa0 Pr0.length pc0] 39)).add (P := BoxN w.heap.size 39 #[.int .i64 u0, .slice na0 A0.length nc0, .string (bs s0), .slice pa0 Pr0.length pc0]) (keep_box (box_new w _ _)))
  have hz0 : w.heap.size < (w.alloc (.cells #[.int .i64 u0, .slice na0 A0.length nc0, .string (bs s0), .slice pa0 Pr0.length pc0] 39)).heap.size := by simp
  have HX := Lib.hid hX
  have HN0 := Lib.hid hN0
  have HP0 := Lib.hid hP0
  have HT := Lib.hid hT
  have HHo := Lib.hid hho
  have HBe := Lib.hid hbe
  have HU := Lib.hid (fun W => unit_any id W hid.1 hid.2)
  have hub := unitZ_bd id
  obtain ⟨u, hu⟩ := Int.eq_ofNat_of_zero_le hub.1
  have hu9 : u < 100 := by omega
  rw [hu] at HU
  obtain ⟨K, hK⟩ : ∃ K, K = keyB z := ⟨_, rfl⟩
  have hkl : K.length = 32 := by rw [hK]; exact keyB_length _
  have HKl := Lib.hid hkl
  have HdA := Lib.hid (made_dos z N f)
  have HlA := Lib.hid (madeD_ok (keyB_length z) N f).2.2.1
  rw [← hK] at HdA HlA
  have HMa := Lib.hid (fun W h => made_any z xv N f W hz h)
  rw [← hK] at HMa
  generalize (madeD K N f).notes = l at *
  have HL0 := Lib.hid hL
  generalize hn0 : A0.length = n0 at *
  have HN0l := Lib.hid hn0
  generalize hq0 : Pr0.length = q0 at *
  have HP0l := Lib.hid hq0
  unfold maxLen at hn02 hp02
  clear hz hid hX hT hub hu hK hkl hN0 hP0 hho hbe hL hn0 hq0
  go_enter Tryz.func5, Tryz.ntmps5
  go_wp2_with fail
  refine (vsane_any _ HL0.out.rounds).mono ?_
  rintro e w1 ⟨rfl, hb⟩
  have hw1 : w.heap.size < w1.heap.size := Nat.lt_of_lt_of_le hz0 hb.size
  have HL1 := Lib.hid (HL0.out.step hb)
  clear hb HL0 hz0
  go_wp2_with fail
  refine (HMa.out _ (HX.out.later HL1.out.below)).mono ?_
  rintro e w2 ⟨nv, rfl, ho, hb⟩
  obtain ⟨ra, rc, hnv, hrc1, hrc2⟩ := ho.shape
  subst hnv
  generalize hrn : l.length = rn at *
  have HRn := Lib.hid hrn
  have rn12 : rn ≤ 12 := HlA.out
  have hw2 : w.heap.size < w2.heap.size := Nat.lt_of_lt_of_le hw1 hb.size
  have hL := ((((HL1.out.step hb).add (P := OwnKN noteK w1.heap.size (.slice ra rn rc) l) (keep_own ho)).alloc (.cells #[.string (bs K), .slice ra rn rc] 26))).add (P := BoxN w2.heap.size 26 #[.string (bs K), .slice ra rn rc]) (keep_box (box_new w2 _ _))
  have HL2 := Lib.hid hL
  clear hL hrn hb ho hrc1 HL1 HMa HX
  obtain ⟨A, hA⟩ : ∃ A, ofN l (u : Int) = A := ⟨_, rfl⟩
  obtain ⟨S, hS⟩ : ∃ S, saltB K (u : Int) = S := ⟨_, rfl⟩
  obtain ⟨PL, hPL⟩ : ∃ PL, proofL (sealsL ⟨K, l⟩) u = PL := ⟨_, rfl⟩
  obtain ⟨R, hR⟩ : ∃ R, rootL (sealsL ⟨K, l⟩) = R := ⟨_, rfl⟩
  have HRe : Hid (rootE ⟨K, l⟩ = (R, 0)) := by show _ = _; unfold rootE; rw [if_pos HdA.out, hR]
  have HPg : Hid (pageE ⟨K, l⟩ (u : Int) = (⟨u, A, S, PL⟩, 0)) := by show _ = _; rw [pageE_ok (by rw [HdA.out]; exact unit_in ⟨by omega, by omega⟩), Int.toNat_natCast, hPL]; show ((⟨_, ofN l _, saltB K _, _⟩ : VPage), (0 : Int)) = _; rw [hA, hS]
  have HOwn := Lib.hid (comp_own HdA.out hR hu9)
  rw [hA, hS, hPL] at HOwn
  have HAll := Lib.hid (fun (n : Nat) (B : List VNote) (s : Bytes) (P : List Bytes) (hn : n < 100) (hc : checkB R ⟨(n : Int), B, s, P⟩ = true) hne => comp_all HdA.out hR hn hc hne)
  have HAo : Hid (ofN l (u : Int) = A) := hA
  have hal : A.length ≤ 12 := by rw [← hA]; exact Nat.le_trans (ofN_length _ _) (by rw [HRn.out]; exact rn12)
  clear hA hS hPL hR
  have d0 := BoxN.cell (show (BoxN w2.heap.size 26 #[.string (bs K), .slice ra rn rc]) _ from HL2.out.get (by simp)) 0 _ rfl
  have d1 := BoxN.cell (show (BoxN w2.heap.size 26 #[.string (bs K), .slice ra rn rc]) _ from HL2.out.get (by simp)) 1 _ rfl
  go_wp2_with fail
  clear d0 d1
  refine (vRoot_any K _ l _ (OwnK.rows noteOk (show (OwnKN noteK w1.heap.size (.slice ra rn rc) l) _ from HL2.out.get (by simp))) (by rw [HRn.out]; omega) HL2.out.rounds).mono ?_
  rintro e w3 ⟨rfl, hb⟩
  rw [HRe.out]
  simp only
  have hw3 : w.heap.size < w3.heap.size := Nat.lt_of_lt_of_le (Nat.lt_trans hw2 (by simp)) hb.size
  have HL3 := Lib.hid (HL2.out.step hb)
  clear hb HL2 HRe
  have HQ : Hid (∀ W, w3.grownBy W none → W.cell? ⟨w2.heap.size, 0, none⟩ = some (.string (bs K)) ∧ W.cell? ⟨w2.heap.size, 1, none⟩ = some (.slice ra rn rc)) := fun W hW =>
    have hL := HL3.out.step (grown_below hW)
    ⟨BoxN.cell (show (BoxN w2.heap.size 26 #[.string (bs K), .slice ra rn rc]) _ from hL.get (by simp)) 0 _ rfl, BoxN.cell (show (BoxN w2.heap.size 26 #[.string (bs K), .slice ra rn rc]) _ from hL.get (by simp)) 1 _ rfl⟩
  go_wp2
  refine wp_region_calm_late 8 6 ⟨[2, 3, 7], fun q v W => if q = 2 then v = .int .i64 (u : Int) else if q = 3 then ∃ nv' pv, v = .tuple #[pageV u nv' S pv, .int .i64 0] ∧ OwnK noteK w3.heap.size W nv' A ∧ OwnS w3.heap.size W pv PL else ∃ b, v = .pointer (some ⟨b, 0, none⟩) ∧ w3.heap.size ≤ b ∧ BoxN b 39 #[.int .i64 0, .slice none 0 0, .string (⟨#[]⟩ : ByteArray), .slice none 0 0] W, fun _ => [], 99, none, 8⟩ (by kernel_rfl) (by kernel_rfl) (by kernel_rfl) (by kernel_rfl) (fun g h => by cases h) (fun q hk v W W' c h hg hc => ?_) ?_
  · cases c with
    | some g => obtain ⟨_, _, i, j, u, hd, _⟩ := hc g rfl; simp at hd
    | none =>
      by_cases h2 : q = 2
      · simp only [h2, if_true] at h ⊢; exact h
      · by_cases h3 : q = 3
        · simp only [h3] at h ⊢
          obtain ⟨nv', pv, h4, h5, h6⟩ := h
          exact ⟨nv', pv, h4, h5.kept hg (fun g h => by cases h), ownS_kept h6 hg (fun g h => by cases h)⟩
        · simp only [h2, h3, if_false] at h ⊢
          obtain ⟨b, h4, h5, h6⟩ := h
          exact ⟨b, h4, h5, BoxN.grown h6 hg (by simp)⟩
  iterate 2 (refine calm_quiet (v := ?_) (by rfl) (by rfl) (fun W hW hD => ?_) ?_; rotate_left; (· (obtain ⟨z0, z1⟩ := HQ.out W hW; clear hD hW; go_simp; try with_reducible rfl)); simp only [Act.put, List.setIfInBounds_toArray, List.set_cons_zero, List.set_cons_succ, Nat.reduceAdd, Nat.zero_add])
  refine calm_makes (by rfl) (by rfl) (fun W hW hD Kc hK => ?_) (fun v42 => ?_)
  · refine wp_of_call (f := 17) ?_ ((HU.out W).mono ?_)
    · clear hD hW hK
      go_simp
    · rintro e w5 ⟨rfl, hb5⟩
      exact ⟨_, rfl, hK _ _ (made_plain rfl hb5 rfl)⟩
  simp only [Act.put, List.setIfInBounds_toArray, List.set_cons_zero, List.set_cons_succ, Nat.reduceAdd, Nat.zero_add]
  refine calm_makes (by rfl) (by rfl) (fun W hW hD Kc hK => ?_) (fun v43 => ?_)
  · obtain rfl : v42 = .int .i64 (u : Int) := hD [] 2 (by kernel_rfl) (by kernel_rfl) (by kernel_rfl)
    have hL := HL3.out.step (grown_below hW)
    have hz := hW.size
    refine wp_of_call (f := 16) (args := #[dosV K (.slice ra rn rc), .int .i64 (u : Int)]) ?_ ((vPage_any K (.slice ra rn rc) l (u : Int) W (OwnK.rows noteOk (show (OwnKN noteK w1.heap.size (.slice ra rn rc) l) _ from hL.get (by simp))) (by rw [HRn.out]; omega) hL.rounds).mono ?_)
    · clear hD hW hK hL
      go_simp
    · rintro e w5 ⟨nv', pv, rfl, hn5, hp5, hb5⟩
      rw [HPg.out] at hn5 hp5 ⊢
      simp only at hn5 hp5 ⊢
      obtain ⟨xa, xc, rfl, _, _⟩ := hn5.shape
      obtain ⟨pa, pc, rfl, _, _⟩ := ownS_shape hp5
      exact ⟨_, rfl, hK _ _ (made_plain ⟨_, _, rfl, hn5.mono hz, OwnS.mono hp5 hz⟩ hb5 rfl)⟩
  simp only [Act.put, List.setIfInBounds_toArray, List.set_cons_zero, List.set_cons_succ, Nat.reduceAdd, Nat.zero_add]
  iterate 1 (refine calm_quiet (v := ?_) (by rfl) (by rfl) (fun W hW hD => ?_) ?_; rotate_left; (· (clear hD hW; go_simp; try with_reducible rfl)); simp only [Act.put, List.setIfInBounds_toArray, List.set_cons_zero, List.set_cons_succ, Nat.reduceAdd, Nat.zero_add])
  refine calm_quiet (v := vtupAt v43 0) (by rfl) (by rfl) (fun W hW hD => ?_) ?_
  · obtain ⟨nv', pv, rfl, _⟩ : ∃ nv' pv, v43 = .tuple #[pageV u nv' S pv, .int .i64 0] ∧ OwnK noteK w3.heap.size W nv' A ∧ OwnS w3.heap.size W pv PL := hD [4] 3 (by kernel_rfl) (by kernel_rfl) (by kernel_rfl)
    clear hD hW
    go_simp
    try rfl
  simp only [Act.put, List.setIfInBounds_toArray, List.set_cons_zero, List.set_cons_succ, Nat.reduceAdd, Nat.zero_add]
  refine calm_quiet (v := vtupAt v43 1) (by rfl) (by rfl) (fun W hW hD => ?_) ?_
  · obtain ⟨nv', pv, rfl, _⟩ : ∃ nv' pv, v43 = .tuple #[pageV u nv' S pv, .int .i64 0] ∧ OwnK noteK w3.heap.size W nv' A ∧ OwnS w3.heap.size W pv PL := hD [4] 3 (by kernel_rfl) (by kernel_rfl) (by kernel_rfl)
    clear hD hW
    go_simp
    try rfl
  simp only [Act.put, List.setIfInBounds_toArray, List.set_cons_zero, List.set_cons_succ, Nat.reduceAdd, Nat.zero_add]
  refine calm_makes (by rfl) (by rfl) (fun W hW hD Kc hK => ?_) (fun v19 => ?_)
  · have hz := hW.size
    refine wp_of_run (v := .pointer (some ⟨W.heap.size, 0, none⟩)) (w' := W.alloc (.cells #[.int .i64 0, .slice none 0 0, .string (⟨#[]⟩ : ByteArray), .slice none 0 0] 39)) ?_ (hK _ _ (made_plain ⟨_, rfl, hz, box_new W _ _⟩ ((Below.refl _ _).alloc (Nat.le_refl _) _) rfl))
    clear hD hW hK
    go_simp
  simp only [Act.put, List.setIfInBounds_toArray, List.set_cons_zero, List.set_cons_succ, Nat.reduceAdd, Nat.zero_add]
  refine calm_tail (by rfl) fun W hW hF => ?_
  obtain ⟨nv', pv, rfl, hown, hpo⟩ : ∃ nv' pv, v43 = .tuple #[pageV u nv' S pv, .int .i64 0] ∧ OwnK noteK w3.heap.size W nv' A ∧ OwnS w3.heap.size W pv PL := hF 3 (by kernel_rfl) (by kernel_rfl)
  obtain ⟨b, rfl, hbB, hbx⟩ : ∃ b, v19 = .pointer (some ⟨b, 0, none⟩) ∧ w3.heap.size ≤ b ∧ BoxN b 39 #[.int .i64 0, .slice none 0 0, .string (⟨#[]⟩ : ByteArray), .slice none 0 0] W := hF 7 (by kernel_rfl) (by kernel_rfl)
  obtain ⟨xa, xc, hx, hxc1, hxc2⟩ := hown.shape
  obtain ⟨pa, pc, hx2, _, _⟩ := ownS_shape hpo
  subst hx hx2
  generalize hxn : A.length = xn at *
  have HXn := Lib.hid hxn
  generalize hpn : PL.length = pn at *
  have HPn := Lib.hid hpn
  clear hxn hpn
  rw [show vtupAt (.tuple #[pageV u (.slice xa xn xc) S (.slice pa pn pc), .int .i64 0]) 0 = pageV u (.slice xa xn xc) S (.slice pa pn pc) from rfl, show vtupAt (.tuple #[pageV u (.slice xa xn xc) S (.slice pa pn pc), .int .i64 0]) 1 = .int .i64 0 from rfl]
  have z0 := BoxN.cell hbx 0 _ rfl
  have z1 := BoxN.cell hbx 1 _ rfl
  have z2 := BoxN.cell hbx 2 _ rfl
  have z3 := BoxN.cell hbx 3 _ rfl
  have zf := BoxN.frozen hbx
  have HWb : Hid (Below w3.heap.size w3 ((((W.setCell ⟨b, 0, none⟩ (.int .i64 (u : Int))).setCell ⟨b, 1, none⟩ (.slice xa xn xc)).setCell ⟨b, 2, none⟩ (.string (bs S))).setCell ⟨b, 3, none⟩ (.slice pa pn pc))) := below_set4 (grown_below hW) hbB _ _ _ _
  have HWx : Hid (BoxN b 39 #[.int .i64 (u : Int), .slice xa xn xc, .string (bs S), .slice pa pn pc] ((((W.setCell ⟨b, 0, none⟩ (.int .i64 (u : Int))).setCell ⟨b, 1, none⟩ (.slice xa xn xc)).setCell ⟨b, 2, none⟩ (.string (bs S))).setCell ⟨b, 3, none⟩ (.slice pa pn pc))) := BoxN.set4 hbx _ _ _ _
  have HWo : Hid (OwnK noteK w3.heap.size ((((W.setCell ⟨b, 0, none⟩ (.int .i64 (u : Int))).setCell ⟨b, 1, none⟩ (.slice xa xn xc)).setCell ⟨b, 2, none⟩ (.string (bs S))).setCell ⟨b, 3, none⟩ (.slice pa pn pc)) (.slice xa xn xc) A) :=
    (((hown.setBox hbx (by decide) 0 _).setBox (hbx.set 0 _) (by decide) 1 _).setBox ((hbx.set 0 _).set 1 _) (by decide) 2 _).setBox (((hbx.set 0 _).set 1 _).set 2 _) (by decide) 3 _
  have HWp : Hid (OwnK strK w3.heap.size ((((W.setCell ⟨b, 0, none⟩ (.int .i64 (u : Int))).setCell ⟨b, 1, none⟩ (.slice xa xn xc)).setCell ⟨b, 2, none⟩ (.string (bs S))).setCell ⟨b, 3, none⟩ (.slice pa pn pc)) (.slice pa pn pc) PL) :=
    ((((ownS_K hpo).setBox hbx (by decide) 0 _).setBox (hbx.set 0 _) (by decide) 1 _).setBox ((hbx.set 0 _).set 1 _) (by decide) 2 _).setBox (((hbx.set 0 _).set 1 _).set 2 _) (by decide) 3 _
  have hbw : w.heap.size < b := Nat.lt_of_lt_of_le hw3 hbB
  clear hF hW hbx hown hpo hbB HQ
  go_wp2
  refine NoPanic.normal ?_
  clear z0 z1 z2 z3 zf
  generalize ((((W.setCell ⟨b, 0, none⟩ (.int .i64 (u : Int))).setCell ⟨b, 1, none⟩ (.slice xa xn xc)).setCell ⟨b, 2, none⟩ (.string (bs S))).setCell ⟨b, 3, none⟩ (.slice pa pn pc)) = W9 at *
  have HL9 := Lib.hid ((((HL3.out.step HWb.out).add (P := OwnKN noteK w3.heap.size (.slice xa xn xc) A) (keep_own HWo.out)).add (P := OwnKN strK w3.heap.size (.slice pa pn pc) PL) (keep_own HWp.out)).add (P := BoxN b 39 #[.int .i64 (u : Int), .slice xa xn xc, .string (bs S), .slice pa pn pc]) (keep_box HWx.out))
  clear HWb HWx HWo HWp HL3
  have HLs := Lib.hid (fun W (hW : W9.grownBy W none) => HL9.out.step (grown_below hW))
  have HQ : Hid (∀ W, W9.grownBy W none → (W.cell? ⟨b, 0, none⟩ = some (.int .i64 (u : Int)) ∧ W.cell? ⟨b, 1, none⟩ = some (.slice xa xn xc) ∧ W.cell? ⟨b, 2, none⟩ = some (.string (bs S)) ∧ W.cell? ⟨b, 3, none⟩ = some (.slice pa pn pc)) ∧ (W.cell? ⟨w2.heap.size, 0, none⟩ = some (.string (bs K)) ∧ W.cell? ⟨w2.heap.size, 1, none⟩ = some (.slice ra rn rc))) := fun W hW => by
    have h := HLs.out W hW
    have hq := (show (BoxN b 39 #[.int .i64 (u : Int), .slice xa xn xc, .string (bs S), .slice pa pn pc]) _ from h.get (by simp))
    have hd := (show (BoxN w2.heap.size 26 #[.string (bs K), .slice ra rn rc]) _ from h.get (by simp))
    exact ⟨⟨BoxN.cell hq 0 _ rfl, BoxN.cell hq 1 _ rfl, BoxN.cell hq 2 _ rfl, BoxN.cell hq 3 _ rfl⟩, BoxN.cell hd 0 _ rfl, BoxN.cell hd 1 _ rfl⟩
  go_wp2
  refine wp_region_calm ⟨[9, 18, 19], ComF W9.heap.size A, fun _ => [], 99, none, 1000⟩ (by kernel_rfl) (by kernel_rfl) (by kernel_rfl) (fun g h => by cases h) (fun q hq v W W' c h hg hc => ?_) ?_
  · cases c with
    | some g => obtain ⟨_, _, i, j, u, hd, _⟩ := hc g rfl; simp at hd
    | none => exact comF_kept h hg
  iterate 9 (refine calm_quiet (v := ?_) (by rfl) (by rfl) (fun W hW hD => ?_) ?_; rotate_left; (· (obtain ⟨⟨z0, z1, z2, z3⟩, y0, y1⟩ := HQ.out W hW; clear hD hW; go_simp; try with_reducible rfl)); simp only [Act.put, List.setIfInBounds_toArray, List.set_cons_zero, List.set_cons_succ, Nat.reduceAdd, Nat.zero_add])
  refine calm_makes (by rfl) (by rfl) (fun W hW hD Kc hK => ?_) (fun v55 => ?_)
  · have h := HLs.out W hW
    refine wp_of_call (f := 20) (args := #[.string (bs R), pageV (u : Int) (.slice xa xn xc) S (.slice pa pn pc)]) ?_ ((check_any R (u : Int) (.slice xa xn xc) A S (.slice pa pn pc) PL W (OwnK.rows noteOk (show (OwnKN noteK w3.heap.size (.slice xa xn xc) A) _ from h.get (by simp))) (by rw [HXn.out]; omega) (OwnK.rows strOk (show (OwnKN strK w3.heap.size (.slice pa pn pc) PL) _ from h.get (by simp))).strsK (by rw [HPn.out]; have := HOwn.out.2.1; omega) h.rounds).mono ?_)
    · clear hD hW hK h
      go_simp
    · rintro e w5 ⟨rfl, hb5⟩
      rw [HOwn.out.1]
      exact ⟨_, rfl, hK _ _ (made_plain (by exact (rfl : (Value.bool true) = .bool true)) hb5 rfl)⟩
  simp only [Act.put, List.setIfInBounds_toArray, List.set_cons_zero, List.set_cons_succ, Nat.reduceAdd, Nat.zero_add]
  refine calm_quiet (v := .bool false) (by rfl) (by rfl) (fun W hW hD => ?_) ?_
  · obtain rfl : v55 = .bool true := hD [] 9 (by kernel_rfl) (by kernel_rfl) (by kernel_rfl)
    clear hD hW
    go_simp
  simp only [Act.put, List.setIfInBounds_toArray, List.set_cons_zero, List.set_cons_succ, Nat.reduceAdd, Nat.zero_add]
  iterate 7 (refine calm_quiet (v := ?_) (by rfl) (by rfl) (fun W hW hD => ?_) ?_; rotate_left; (· (obtain ⟨⟨z0, z1, z2, z3⟩, y0, y1⟩ := HQ.out W hW; clear hD hW; go_simp; try with_reducible rfl)); simp only [Act.put, List.setIfInBounds_toArray, List.set_cons_zero, List.set_cons_succ, Nat.reduceAdd, Nat.zero_add])
  refine calm_makes (by rfl) (by rfl) (fun W hW hD Kc hK => ?_) (fun v64 => ?_)
  · have h := HLs.out W hW
    have hz := hW.size
    refine wp_of_call (f := 21) (args := #[dosV K (.slice ra rn rc), .int .i64 (u : Int)]) ?_ ((refOf_any K (.slice ra rn rc) l (u : Int) W (OwnK.rows noteOk (show (OwnKN noteK w1.heap.size (.slice ra rn rc) l) _ from h.get (by simp))) (by rw [HRn.out]; omega) h.rounds).mono ?_)
    · clear hD hW hK h
      go_simp
    · rintro e w5 ⟨nv', rfl, ho, hb5⟩
      rw [HAo.out] at ho
      exact ⟨_, rfl, hK _ _ (made_below (by exact (ho.mono hz : ComF W9.heap.size A 18 nv' w5)) hb5 (World.ownsRow.lt ho))⟩
  simp only [Act.put, List.setIfInBounds_toArray, List.set_cons_zero, List.set_cons_succ, Nat.reduceAdd, Nat.zero_add]
  refine calm_makes (by rfl) (by rfl) (fun W hW hD Kc hK => ?_) (fun v65 => ?_)
  · have h18 : OwnK noteK W9.heap.size W v64 A := hD [] 18 (by kernel_rfl) (by kernel_rfl) (by kernel_rfl)
    have h := HLs.out W hW
    obtain ⟨oa, oc, rfl, _, _⟩ := h18.shape
    refine wp_of_call (f := 13) (args := #[.slice xa xn xc, .slice oa A.length oc]) ?_ ((sameNotes_any (.slice xa xn xc) (.slice oa A.length oc) A A W (OwnK.rows noteOk (show (OwnKN noteK w3.heap.size (.slice xa xn xc) A) _ from h.get (by simp))) (h18.rows noteOk)).mono ?_)
    · clear hD hW hK h h18
      go_simp
    · rintro e w5 ⟨rfl, hb5⟩
      rw [beq_self_eq_true]
      exact ⟨_, rfl, hK _ _ (made_plain (by exact (rfl : (Value.bool true) = .bool true)) hb5 rfl)⟩
  simp only [Act.put, List.setIfInBounds_toArray, List.set_cons_zero, List.set_cons_succ, Nat.reduceAdd, Nat.zero_add]
  refine calm_quiet (v := .bool false) (by rfl) (by rfl) (fun W hW hD => ?_) ?_
  · obtain rfl : v65 = .bool true := hD [] 19 (by kernel_rfl) (by kernel_rfl) (by kernel_rfl)
    clear hD hW
    go_simp
  simp only [Act.put, List.setIfInBounds_toArray, List.set_cons_zero, List.set_cons_succ, Nat.reduceAdd, Nat.zero_add]
  iterate 1 (refine calm_quiet (v := ?_) (by rfl) (by rfl) (fun W hW hD => ?_) ?_; rotate_left; (· (clear hD hW; go_simp; try with_reducible rfl)); simp only [Act.put, List.setIfInBounds_toArray, List.set_cons_zero, List.set_cons_succ, Nat.reduceAdd, Nat.zero_add])
  refine calm_nil fun W hW hF => ?_
  have HL10 := Lib.hid (HLs.out W hW)
  clear hF hW HLs HL9 HQ
  have HCut := Lib.hid (fun (W : World) h => cut_any (.slice na0 n0 nc0) A0 4 (by omega) W h)
  rw [show (((4 : Nat) : Int)) = 4 from rfl] at HCut
  have p1 := BoxN.cell (show (BoxN w.heap.size 39 #[.int .i64 u0, .slice na0 n0 nc0, .string (bs s0), .slice pa0 q0 pc0]) _ from HL10.out.get (by simp)) 1 _ rfl
  go_wp2_with fail
  clear p1
  refine (HCut.out _ (HN0.out.later HL10.out.below (Nat.le_refl _))).mono ?_
  rintro e w4 ⟨nv1, A1, rfl, ho1, hl1, hb⟩
  obtain ⟨ya, yc, hx, _, _⟩ := ho1.shape
  subst hx
  generalize hyn : A1.length = yn at *
  have HYn := Lib.hid hyn
  have HL11 := Lib.hid (HL10.out.step hb)
  have HW10 : Hid (w.heap.size < W.heap.size) := Nat.lt_of_lt_of_le (BoxN.lt (show (BoxN w.heap.size 39 #[.int .i64 u0, .slice na0 n0 nc0, .string (bs s0), .slice pa0 q0 pc0]) _ from HL10.out.get (by simp))) (Nat.le_refl _)
  have HO1 := Lib.hid (ho1.mono (show w.heap.size + 1 ≤ W.heap.size from HW10.out))
  clear hb ho1 HL10 HCut hyn
  obtain ⟨q, hq⟩ : ∃ q, q = min (bs s0).size 40 := ⟨_, rfl⟩
  have hmin : min ((bs s0).size : Int) 40 = (q : Int) := by rw [hq]; omega
  have sl1 : (q : Int) ≤ ((bs s0).size : Int) := by omega
  have sl0 : 0 ≤ (q : Int) := by omega
  have hex := extract_bs s0 q
  obtain ⟨s1, hs1⟩ : ∃ s1, s1 = s0.take q := ⟨_, rfl⟩
  rw [← hs1] at hex
  have hs1l : s1.length ≤ 40 := by rw [hs1, List.length_take]; omega
  have HS1 := Lib.hid hs1l
  clear hq hs1 hs1l
  have hX4 := (show (BoxN w.heap.size 39 #[.int .i64 u0, .slice na0 n0 nc0, .string (bs s0), .slice pa0 q0 pc0]) _ from HL11.out.get (by simp))
  have p1 := BoxN.cell hX4 1 _ rfl
  have pf := BoxN.frozen hX4
  have hX5 : BoxN w.heap.size 39 #[.int .i64 u0, .slice ya yn yc, .string (bs s0), .slice pa0 q0 pc0] (w4.setCell ⟨w.heap.size, 1, none⟩ (.slice ya yn yc)) := hX4.set 1 _
  have p2 := BoxN.cell hX5 2 _ rfl
  have pf5 := BoxN.frozen hX5
  obtain ⟨W6, hW6⟩ : ∃ X, X = (w4.setCell ⟨w.heap.size, 1, none⟩ (.slice ya yn yc)).setCell ⟨w.heap.size, 2, none⟩ (.string (bs s1)) := ⟨_, rfl⟩
  have HX6 : Hid (BoxN w.heap.size 39 #[.int .i64 u0, .slice ya yn yc, .string (bs s1), .slice pa0 q0 pc0] W6) := by show BoxN _ _ _ _; rw [hW6]; exact hX5.set 2 _
  have HR6 : Hid (RestC w.heap.size w2.heap.size b K ra rn rc l (u : Int) xa xn xc A S pa pn pc PL ya yn yc A1 W6) := by
    rw [hW6]
    exact (RestC.set (RestC.set ⟨(show (BoxN w2.heap.size 26 #[.string (bs K), .slice ra rn rc]) _ from HL11.out.get (by simp)), (show (BoxN b 39 #[.int .i64 (u : Int), .slice xa xn xc, .string (bs S), .slice pa pn pc]) _ from HL11.out.get (by simp)), OwnK.mono (show (OwnKN noteK w1.heap.size (.slice ra rn rc) l) _ from HL11.out.get (by simp)) hw1, OwnK.mono (show (OwnKN noteK w3.heap.size (.slice xa xn xc) A) _ from HL11.out.get (by simp)) hw3, OwnK.mono (show (OwnKN strK w3.heap.size (.slice pa pn pc) PL) _ from HL11.out.get (by simp)) hw3, HO1.out, by omega, by omega⟩ 1 _) 2 _)
  have HB6 : Hid (Below w.heap.size w W6) := by show Below _ _ _; rw [hW6]; exact (HL11.out.below.setCell (p := ⟨w.heap.size, 1, none⟩) (Nat.le_refl _) _).setCell (p := ⟨w.heap.size, 2, none⟩) (Nat.le_refl _) _
  have HW6 := Lib.hid hW6
  clear hX4 hX5 hW6 HL11 HO1 HW10 hw1 hw3
  go_wp2
  rw [← HW6.out]
  clear p1 pf p2 pf5 HW6 hmin sl1 sl0 hex
  go_loopw [21, 22] (fun v i wr => ∃ (k : Nat) (T : List Bytes), k ≤ 8 ∧ k ≤ q0 ∧ i = .int .i64 k ∧ (∃ ta tc, v = .slice ta k tc) ∧ Hid (T.length = k) ∧ Hid (OwnK strK W6.heap.size wr v T) ∧ Hid (Below W6.heap.size W6 wr)) (fun _ i _ => 8 - (intOf i).toNat)
  case atStart => exact ⟨0, [], Nat.zero_le _, Nat.zero_le _, rfl, ⟨_, _, rfl⟩, Lib.hid rfl, Lib.hid (OwnK.nil _ _), Lib.hid (Below.refl _ _)⟩
  case round =>
    obtain ⟨k, T, hk8, hkq, rfl, ⟨ta, tc, rfl⟩, HTl, HO, HB⟩ := hrel
    have hxr := BoxN.below HX6.out HB.out HX6.out.lt
    have e3 := BoxN.cell hxr 3 _ rfl
    by_cases h12 : k < q0 ∧ k < 8
    · obtain ⟨h1, h2⟩ := h12
      have d1 : decide ((k : Int) < (q0 : Int)) = true := by simp; omega
      have d2 : decide ((k : Int) < 8) = true := by simp; omega
      have ji : (k : Int) < (q0 : Int) := by omega
      have j0 : 0 ≤ (k : Int) := by omega
      have j8 : (k : Int) < 8 := by omega
      have wk : IntKind.i64.wrap ((k : Int) + 1) = (k : Int) + 1 := IntWalk.i64_in _ (by omega)
      obtain ⟨x, hx⟩ : ∃ x, x = Pr0.getD k [] := ⟨_, rfl⟩
      obtain ⟨gp, op, hpe, hgp, x1⟩ := HP0.out.at k (by rw [HP0l.out]; exact h1)
      subst hpe
      rw [← hx] at x1
      obtain ⟨q, hq⟩ : ∃ q, q = min (bs x).size 40 := ⟨_, rfl⟩
      have hmin : min ((bs x).size : Int) 40 = (q : Int) := by rw [hq]; omega
      have sl1 : (q : Int) ≤ ((bs x).size : Int) := by omega
      have sl0 : 0 ≤ (q : Int) := by omega
      have hex := extract_bs x q
      obtain ⟨y, hy⟩ : ∃ y, y = x.take q := ⟨_, rfl⟩
      rw [← hy] at hex
      have HBw : Hid (Below w.heap.size w wr) := HB6.out.trans (HB.out.mono HB6.out.size)
      have hHW6 : w.heap.size < W6.heap.size := HX6.out.lt
      have HLt : Hid (∀ g, (Value.slice ta k tc).ownBlock = some g → W6.heap.size ≤ g ∧ g < wr.heap.size) := World.ownsRow.lt HO.out
      have HQ : Hid (∀ W, wr.grownBy W (Value.slice ta k tc).ownBlock → W.cell? ⟨w.heap.size, 3, none⟩ = some (.slice (some ⟨gp, op, none⟩) q0 pc0) ∧ W.cell? ⟨gp, op + k, none⟩ = some (.string (bs x))) := fun W hW =>
        ⟨hW.cell (a := ⟨w.heap.size, 3, none⟩) e3 (fun e => by have := (HLt.out _ e.symm).1; simp only at this; omega), hW.cell (a := ⟨gp, op + k, none⟩) ((HBw.out.cell (p := ⟨gp, op + k, none⟩) hgp).trans x1) (fun e => by have := (HLt.out _ e.symm).1; simp only at this; omega)⟩
      have HSl1 := Lib.hid (⟨hmin, sl0, sl1, hex⟩ : _ ∧ _ ∧ _ ∧ _)
      clear hx hq hy hmin sl0 sl1 hex x1 hxr h1 h2
      go_wp2
      clear e3
      refine wp_region_calm ⟨[0, 14, 15], ProofF W6.heap.size (.slice ta k tc) T y, fun i => if i = 15 then [0] else [], 0, (Value.slice ta k tc).ownBlock, 1000⟩ (by kernel_rfl) (by kernel_rfl) (by kernel_rfl) (fun g h => (HLt.out g h).2) (fun i hi v W W' c h hg hc => proofF_kept h hg fun g hh => (hc g hh).1) ?_
      refine calm_makes (by rfl) (by rfl) (fun W hW hD Kc hK => ?_) (fun v91 => ?_)
      · have hWn : wr.grownBy W none := hW
        refine wp_of_run (v := .slice ta k tc) (w' := W) ?_ (hK _ _ ⟨show ProofF W6.heap.size (.slice ta k tc) T y 0 (.slice ta k tc) W from by unfold ProofF; rw [if_pos rfl]; exact ⟨rfl, HO.out.kept hWn (fun g hg => by cases hg)⟩, ⟨none, ⟨rfl, rfl, rfl, Nat.le_refl _, fun _ _ _ => rfl⟩, .inl rfl⟩, fun g hg => ⟨Nat.lt_of_lt_of_le (HLt.out g hg).2 hWn.size, .inr (.inr ⟨rfl, hg⟩)⟩⟩)
        clear hD hW hK hWn
        go_simp
      simp only [Act.put, List.setIfInBounds_toArray, List.set_cons_zero, List.set_cons_succ, Nat.reduceAdd, Nat.zero_add]
      iterate 11 (refine calm_quiet (v := ?_) (by rfl) (by rfl) (fun W hW hD => ?_) ?_; rotate_left; (· (obtain ⟨z3, y0⟩ := HQ.out W hW; clear hD hW; go_simp; try with_reducible rfl)); simp only [Act.put, List.setIfInBounds_toArray, List.set_cons_zero, List.set_cons_succ, Nat.reduceAdd, Nat.zero_add])
      refine calm_quiet (v := .int .i64 (q : Int)) (by rfl) (by rfl) (fun W hW hD => ?_) ?_
      · obtain ⟨hmin, sl0, sl1, hex⟩ := HSl1.out
        clear hD hW
        go_simp
      simp only [Act.put, List.setIfInBounds_toArray, List.set_cons_zero, List.set_cons_succ, Nat.reduceAdd, Nat.zero_add]
      refine calm_quiet (v := .string (bs y)) (by rfl) (by rfl) (fun W hW hD => ?_) ?_
      · obtain ⟨hmin, sl0, sl1, hex⟩ := HSl1.out
        clear hD hW
        go_simp
      simp only [Act.put, List.setIfInBounds_toArray, List.set_cons_zero, List.set_cons_succ, Nat.reduceAdd, Nat.zero_add]
      refine calm_makes (by rfl) (by rfl) (fun W hW hD Kc hK => ?_) (fun v105 => ?_)
      · have hws : W6.heap.size ≤ W.heap.size := Nat.le_trans HB.out.size hW.size
        refine wp_of_run (v := .slice (some ⟨W.heap.size, 0, none⟩) 1 1) (w' := W.alloc (.cells #[.string (bs y)] 9)) ?_ (hK _ _ (made_below (show ProofF W6.heap.size (.slice ta k tc) T y 14 (.slice (some ⟨W.heap.size, 0, none⟩) 1 1) (W.alloc (.cells #[.string (bs y)] 9)) from by unfold ProofF; rw [if_neg (by decide), if_pos rfl]; exact ⟨_, rfl, (ownK_lit strOk W [y] _ rfl (by simp)).rows strOk, hws⟩) ((Below.refl _ _).alloc (Nat.le_refl _) _) (fun g hg => ?_)))
        · clear hD hW hK
          go_simp
        · have hg' : some W.heap.size = some g := hg
          injection hg' with hg'
          subst hg'
          exact ⟨Nat.le_refl _, by simp⟩
      simp only [Act.put, List.setIfInBounds_toArray, List.set_cons_zero, List.set_cons_succ, Nat.reduceAdd, Nat.zero_add]
      refine calm_makes (by rfl) (by rfl) (fun W hW hD Kc hK => ?_) (fun v106 => ?_)
      · have h1 : ProofF W6.heap.size (.slice ta k tc) T y 0 v91 W := hD [] 0 (by kernel_rfl) (by kernel_rfl) (by kernel_rfl)
        have h14 : ProofF W6.heap.size (.slice ta k tc) T y 14 v105 W := hD [] 14 (by kernel_rfl) (by kernel_rfl) (by kernel_rfl)
        unfold ProofF at h1 h14
        rw [if_pos rfl] at h1
        rw [if_neg (by decide), if_pos rfl] at h14
        obtain ⟨e91, h1⟩ := h1
        obtain ⟨g, e105, hr, hgB⟩ := h14
        subst e91 e105
        have hws : W6.heap.size ≤ W.heap.size := Nat.le_trans HB.out.size hW.size
        exact wp_append_K strOk (.tmp 91) (.tmp 105) rfl W6.heap.size _ (.slice ta k tc) (.slice (some ⟨g, 0, none⟩) 1 1) T [y] rfl rfl h1 hr (by rw [HTl.out]; simp; omega) hws (fun v' w' h1 h2 h3 => hK _ _ (made_grown (j := 0) (u := .slice ta k tc) (by kernel_rfl) rfl (show ProofF W6.heap.size (.slice ta k tc) T y 15 v' w' from by unfold ProofF; rw [if_neg (by decide), if_neg (by decide)]; exact h1) h2 (fun g hg => ⟨(World.ownsRow.lt h1 g hg).2, grown_own h3 hg⟩)))
      simp only [Act.put, List.setIfInBounds_toArray, List.set_cons_zero, List.set_cons_succ, Nat.reduceAdd, Nat.zero_add]
      iterate 1 (refine calm_quiet (v := ?_) (by rfl) (by rfl) (fun W hW hD => ?_) ?_; rotate_left; (· (clear hD hW; go_simp; try with_reducible rfl)); simp only [Act.put, List.setIfInBounds_toArray, List.set_cons_zero, List.set_cons_succ, Nat.reduceAdd, Nat.zero_add])
      refine calm_nil fun W hW hF => ?_
      have h15 : ProofF W6.heap.size (.slice ta k tc) T y 15 v106 W := hF 15 (by kernel_rfl) (by kernel_rfl)
      unfold ProofF at h15
      rw [if_neg (by decide), if_neg (by decide)] at h15
      obtain ⟨xa', xc', hv, _, _⟩ := h15.shape
      rw [List.length_append, HTl.out, List.length_singleton] at hv
      subst hv
      have HO2 := Lib.hid h15
      have HB2 : Hid (Below W6.heap.size W6 W) := HB.out.grown hW HB.out.size (fun g hg => (HLt.out g hg).1)
      have HT2 : Hid ((T ++ [y]).length = k + 1) := by show _ = _; rw [List.length_append, HTl.out, List.length_singleton]
      clear hF hW h15 HQ HSl1
      go_wp2
      go_roundw
      case rel => exact ⟨k + 1, T ++ [y], by omega, by omega, by go_num, ⟨_, _, rfl⟩, HT2, HO2, HB2⟩
      case measure => simp [intOf]; omega
    have hcs : (¬ k < q0 ∧ decide ((k : Int) < (q0 : Int)) = false) ∨ (k < q0 ∧ decide ((k : Int) < (q0 : Int)) = true ∧ ¬ k < 8 ∧ decide ((k : Int) < 8) = false) := by simp; omega
    clear h12
    rcases hcs with ⟨h1, d1⟩ | ⟨h1, d1, h2, d2⟩
    all_goals
      have HX7 := Lib.hid hxr
      have HR7 := Lib.hid (HR6.out.later HB.out)
      have HB7 : Hid (Below w.heap.size w wr) := HB6.out.trans (HB.out.mono HB6.out.size)
      have HO7 : Hid (OwnK strK (w.heap.size + 1) wr (.slice ta k tc) T) := HO.out.mono (by have := HX6.out.lt; omega)
      have HTk : Hid (T.length ≤ 8) := by show _ ≤ _; rw [HTl.out]; exact hk8
      clear hxr HX6 HR6 HB6 HO HB HTl hkq
      have ef := BoxN.frozen HX7.out
      have hX8 : BoxN w.heap.size 39 #[.int .i64 u0, .slice ya yn yc, .string (bs s1), .slice ta k tc] (wr.setCell ⟨w.heap.size, 3, none⟩ (.slice ta k tc)) := HX7.out.set 3 _
      have g0 := BoxN.cell hX8 0 _ rfl
      have g1 := BoxN.cell hX8 1 _ rfl
      have g2 := BoxN.cell hX8 2 _ rfl
      have g3 := BoxN.cell hX8 3 _ rfl
      have hM : BoxN wr.heap.size 39 #[.int .i64 u0, .slice ya yn yc, .string (bs s1), .slice ta k tc] ((wr.setCell ⟨w.heap.size, 3, none⟩ (.slice ta k tc)).alloc (.cells #[.int .i64 u0, .slice ya yn yc, .string (bs s1), .slice ta k tc] 39)) := by have h := box_new (wr.setCell ⟨w.heap.size, 3, none⟩ (.slice ta k tc)) 39 #[.int .i64 u0, .slice ya yn yc, .string (bs s1), .slice ta k tc]; rwa [World.size_setCell] at h
      have hM4 : BoxN wr.heap.size 39 #[.int .i64 (u : Int), .slice ya yn yc, .string (bs s1), .slice ta k tc] ((wr.setCell ⟨w.heap.size, 3, none⟩ (.slice ta k tc)).alloc (.cells #[.int .i64 (u : Int), .slice ya yn yc, .string (bs s1), .slice ta k tc] 39)) := by have h := box_new (wr.setCell ⟨w.heap.size, 3, none⟩ (.slice ta k tc)) 39 #[.int .i64 (u : Int), .slice ya yn yc, .string (bs s1), .slice ta k tc]; rwa [World.size_setCell] at h
      have hR8 := (HR7.out.set 3 (.slice ta k tc)).later ((Below.refl _ _).alloc (Nat.le_refl _) (.cells #[.int .i64 u0, .slice ya yn yc, .string (bs s1), .slice ta k tc] 39))
      have hR9 := (HR7.out.set 3 (.slice ta k tc)).later ((Below.refl _ _).alloc (Nat.le_refl _) (.cells #[.int .i64 (u : Int), .slice ya yn yc, .string (bs s1), .slice ta k tc] 39))
      have b0 := BoxN.cell hR8.2.1 0 _ rfl
      have b3 := BoxN.cell hR9.2.1 3 _ rfl
      have m0 := BoxN.cell hM 0 _ rfl
      have mf := BoxN.frozen hM
      have m3 := BoxN.cell hM4 3 _ rfl
      have mf4 := BoxN.frozen hM4
      obtain ⟨V, hV⟩ : ∃ V, V = ((wr.setCell ⟨w.heap.size, 3, none⟩ (.slice ta k tc)).alloc (.cells #[.int .i64 (u : Int), .slice ya yn yc, .string (bs s1), .slice pa pn pc] 39)) := ⟨_, rfl⟩
      have hMV : BoxN wr.heap.size 39 #[.int .i64 (u : Int), .slice ya yn yc, .string (bs s1), .slice pa pn pc] V := by rw [hV]; have h := box_new (wr.setCell ⟨w.heap.size, 3, none⟩ (.slice ta k tc)) 39 #[.int .i64 (u : Int), .slice ya yn yc, .string (bs s1), .slice pa pn pc]; rwa [World.size_setCell] at h
      have hRV : RestC w.heap.size w2.heap.size b K ra rn rc l (u : Int) xa xn xc A S pa pn pc PL ya yn yc A1 V := by rw [hV]; exact (HR7.out.set 3 (.slice ta k tc)).later ((Below.refl _ _).alloc (Nat.le_refl _) (.cells #[.int .i64 (u : Int), .slice ya yn yc, .string (bs s1), .slice pa pn pc] 39))
      have hHV : BoxN w.heap.size 39 #[.int .i64 u0, .slice ya yn yc, .string (bs s1), .slice ta k tc] V := by rw [hV]; exact hX8.alloc _
      have hOV : OwnK strK (w.heap.size + 1) V (.slice ta k tc) T := by rw [hV]; exact (HO7.out.setOther (by omega) 3 _).kept (World.grownBy_alloc _ _ none) (fun g h => by cases h)
      have hBV : Below w.heap.size w V := by rw [hV]; exact (HB7.out.setCell (p := ⟨w.heap.size, 3, none⟩) (Nat.le_refl _) _).alloc (by rw [World.size_setCell]; exact HB7.out.size) _
      have HVe := Lib.hid hV
      obtain ⟨r1, hr1⟩ : ∃ r1 : PageR, r1 = ⟨u0, ya, yn, yc, s1, ta, k, tc⟩ := ⟨_, rfl⟩
      obtain ⟨r2, hr2⟩ : ∃ r2 : PageR, r2 = ⟨(u : Int), ya, yn, yc, s1, pa, pn, pc⟩ := ⟨_, rfl⟩
      have hP1 : PgOk V r1 := by rw [hr1]; exact ⟨A1, T, hRV.2.2.2.2.2.1.rows noteOk, by rw [HYn.out]; omega, (hOV.rows strOk).strsK, by have := HTk.out; omega⟩
      have hP2 : PgOk V r2 := by rw [hr2]; exact ⟨A1, PL, hRV.2.2.2.2.2.1.rows noteOk, by rw [HYn.out]; omega, (hRV.2.2.2.2.1.rows strOk).strsK, by have := HOwn.out.2.1; rw [HPn.out]; omega⟩
      have hL := (LiveP.start (HT.out.below hBV (Nat.le_refl _))).add (P := BoxN w2.heap.size 26 #[.string (bs K), .slice ra rn rc]) (keep_box hRV.1)
      have hL := hL.add (P := BoxN b 39 #[.int .i64 (u : Int), .slice xa xn xc, .string (bs S), .slice pa pn pc]) (keep_box hRV.2.1)
      have hL := hL.add (P := RowsN noteK (.slice ra rn rc) l) (keep_rows (hRV.2.2.1.rows noteOk))
      have hL := hL.add (P := RowsN noteK (.slice xa xn xc) A) (keep_rows (hRV.2.2.2.1.rows noteOk))
      have hL := hL.add (P := StrsN (.slice pa pn pc) PL) (keep_strs (hRV.2.2.2.2.1.rows strOk).strsK)
      have hL := hL.add (P := PgN r1) (keep_pg hP1)
      have hL := hL.add (P := PgN r2) (keep_pg hP2)
      have hL := hL.add (P := BoxN w.heap.size 39 (pgC r1)) (keep_box (by rw [hr1]; exact hHV))
      have hL := hL.add (P := BoxN wr.heap.size 39 (pgC r2)) (keep_box (by rw [hr2]; exact hMV))
      have HLV := Lib.hid hL
      have HBV := Lib.hid hBV
      have HR1 := Lib.hid hr1
      have HR2 := Lib.hid hr2
      obtain ⟨tq, htq⟩ : ∃ q, q = min (bs text).size 40 := ⟨_, rfl⟩
      have hmin : min ((bs text).size : Int) 40 = (tq : Int) := by rw [htq]; omega
      have sl1 : (tq : Int) ≤ ((bs text).size : Int) := by omega
      have sl0 : 0 ≤ (tq : Int) := by omega
      have hex := extract_bs text tq
      obtain ⟨ty, hty⟩ : ∃ y, y = text.take tq := ⟨_, rfl⟩
      rw [← hty] at hex
      have HSt := Lib.hid (⟨hmin, sl0, sl1, hex⟩ : _ ∧ _ ∧ _ ∧ _)
      have HLs := Lib.hid (fun W (hW : V.grownBy W none) => HLV.out.step (grown_below hW))
      have HQ : Hid (∀ W, V.grownBy W none → (W.cell? ⟨b, 0, none⟩ = some (.int .i64 (u : Int)) ∧ W.cell? ⟨b, 1, none⟩ = some (.slice xa xn xc) ∧ W.cell? ⟨b, 2, none⟩ = some (.string (bs S)) ∧ W.cell? ⟨b, 3, none⟩ = some (.slice pa pn pc)) ∧ (W.cell? ⟨w.heap.size, 0, none⟩ = some (.int .i64 r1.unit) ∧ W.cell? ⟨w.heap.size, 1, none⟩ = some (.slice r1.na r1.nn r1.nc) ∧ W.cell? ⟨w.heap.size, 2, none⟩ = some (.string (bs r1.salt)) ∧ W.cell? ⟨w.heap.size, 3, none⟩ = some (.slice r1.pa r1.pn r1.pc)) ∧ (W.cell? ⟨wr.heap.size, 0, none⟩ = some (.int .i64 r2.unit) ∧ W.cell? ⟨wr.heap.size, 1, none⟩ = some (.slice r2.na r2.nn r2.nc) ∧ W.cell? ⟨wr.heap.size, 2, none⟩ = some (.string (bs r2.salt)) ∧ W.cell? ⟨wr.heap.size, 3, none⟩ = some (.slice r2.pa r2.pn r2.pc))) := fun W hW => by
        have h := HLs.out W hW
        have hq := (show (BoxN b 39 #[.int .i64 (u : Int), .slice xa xn xc, .string (bs S), .slice pa pn pc]) _ from h.get (by simp))
        have hh := (show (BoxN w.heap.size 39 (pgC r1)) _ from h.get (by simp))
        have hm := (show (BoxN wr.heap.size 39 (pgC r2)) _ from h.get (by simp))
        exact ⟨⟨BoxN.cell hq 0 _ rfl, BoxN.cell hq 1 _ rfl, BoxN.cell hq 2 _ rfl, BoxN.cell hq 3 _ rfl⟩, ⟨BoxN.cell hh 0 _ rfl, BoxN.cell hh 1 _ rfl, BoxN.cell hh 2 _ rfl, BoxN.cell hh 3 _ rfl⟩, ⟨BoxN.cell hm 0 _ rfl, BoxN.cell hm 1 _ rfl, BoxN.cell hm 2 _ rfl, BoxN.cell hm 3 _ rfl⟩⟩
      clear hmin sl0 sl1 hex htq hty hL hP1 hP2 hr1 hr2 hBV hMV hRV hHV hOV hV hR8 hR9 hM hM4 hX8 HX7 HR7 HO7 HB7
      go_wp2
      rw [← HVe.out]
      clear ef g0 g1 g2 g3 b0 b3 m0 mf m3 mf4 HVe
      refine wp_region_calm ⟨[8, 11], PagesF V.heap.size r1 r2, fun _ => [], 99, none, 1000⟩ (by kernel_rfl) (by kernel_rfl) (by kernel_rfl) (fun g h => by cases h) (fun q hq v W W' c h hg hc => ?_) ?_
      · cases c with
        | some g => obtain ⟨_, _, i, j, u, hd, _⟩ := hc g rfl; simp at hd
        | none => exact pagesF_kept h hg
      iterate 6 (refine calm_quiet (v := ?_) (by rfl) (by rfl) (fun W hW hD => ?_) ?_; rotate_left; (· (obtain ⟨⟨a0, a1, a2, a3⟩, ⟨c0, c1, c2, c3⟩, ⟨e0, e1, e2, e3⟩⟩ := HQ.out W hW; clear hD hW; go_simp; try with_reducible rfl)); simp only [Act.put, List.setIfInBounds_toArray, List.set_cons_zero, List.set_cons_succ, Nat.reduceAdd, Nat.zero_add])
      refine calm_quiet (v := .int .i64 (tq : Int)) (by rfl) (by rfl) (fun W hW hD => ?_) ?_
      · obtain ⟨hmin, sl0, sl1, hex⟩ := HSt.out
        clear hD hW
        go_simp
      simp only [Act.put, List.setIfInBounds_toArray, List.set_cons_zero, List.set_cons_succ, Nat.reduceAdd, Nat.zero_add]
      refine calm_quiet (v := .string (bs ty)) (by rfl) (by rfl) (fun W hW hD => ?_) ?_
      · obtain ⟨hmin, sl0, sl1, hex⟩ := HSt.out
        clear hD hW
        go_simp
      simp only [Act.put, List.setIfInBounds_toArray, List.set_cons_zero, List.set_cons_succ, Nat.reduceAdd, Nat.zero_add]
      refine calm_makes (by rfl) (by rfl) (fun W hW hD Kc hK => ?_) (fun v124 => ?_)
      · have h := HLs.out W hW
        refine wp_of_call (f := 23) (args := #[pageV (u : Int) (.slice xa xn xc) S (.slice pa pn pc), .int .i64 how, .int .i64 bend, .string (bs ty)]) ?_ ((bent_any (u : Int) (.slice xa xn xc) A S (.slice pa pn pc) PL how bend ty W (show (RowsN noteK (.slice xa xn xc) A) _ from h.get (by simp)) (by rw [HXn.out]; omega) (show (StrsN (.slice pa pn pc) PL) _ from h.get (by simp)) (by rw [HPn.out]; have := HOwn.out.2.1; omega) HHo.out HBe.out).mono ?_)
        · clear hD hW hK h
          go_simp
        · rintro e w5 ⟨u', nv', A', s', pv', P', rfl, h1, h2, h3, h4, _, hb5⟩
          obtain ⟨ya', yc', rfl, _, _⟩ := h1.shape
          obtain ⟨pa', pc', rfl, _, _⟩ := h2.shape
          exact ⟨_, rfl, hK _ _ (made_plain ⟨⟨u', ya', A'.length, yc', s', pa', P'.length, pc'⟩, rfl, A', P', h1, by rw [HXn.out] at h3; omega, h2, by rw [HPn.out] at h4; have := HOwn.out.2.1; omega⟩ hb5 rfl)⟩
      simp only [Act.put, List.setIfInBounds_toArray, List.set_cons_zero, List.set_cons_succ, Nat.reduceAdd, Nat.zero_add]
      iterate 2 (refine calm_quiet (v := ?_) (by rfl) (by rfl) (fun W hW hD => ?_) ?_; rotate_left; (· (obtain ⟨⟨a0, a1, a2, a3⟩, ⟨c0, c1, c2, c3⟩, ⟨e0, e1, e2, e3⟩⟩ := HQ.out W hW; clear hD hW; go_simp; try with_reducible rfl)); simp only [Act.put, List.setIfInBounds_toArray, List.set_cons_zero, List.set_cons_succ, Nat.reduceAdd, Nat.zero_add])
      refine calm_makes (by rfl) (by rfl) (fun W hW hD Kc hK => ?_) (fun v127 => ?_)
      · have hz := hW.size
        obtain ⟨r0, rfl, hr0⟩ : ∃ r, v124 = pgV r ∧ PgOk W r := hD [] 8 (by kernel_rfl) (by kernel_rfl) (by kernel_rfl)
        refine wp_of_run (v := .slice (some ⟨W.heap.size, 0, none⟩) 3 3) (w' := W.alloc (.cells #[.int .i64 r0.unit, .slice r0.na r0.nn r0.nc, .string (bs r0.salt), .slice r0.pa r0.pn r0.pc, .int .i64 r1.unit, .slice r1.na r1.nn r1.nc, .string (bs r1.salt), .slice r1.pa r1.pn r1.pc, .int .i64 r2.unit, .slice r2.na r2.nn r2.nc, .string (bs r2.salt), .slice r2.pa r2.pn r2.pc] 39)) ?_ (hK _ _ (made_below ⟨_, r0, rfl, (ownK_lit pageOk W [r0, r1, r2] _ rfl (by simp)).mono hz, hr0.later ((Below.refl _ _).alloc (Nat.le_refl _) _)⟩ ((Below.refl _ _).alloc (Nat.le_refl _) _) (fun g hg => by cases hg; simp)))
        clear hD hW hK hr0
        go_simp
      simp only [Act.put, List.setIfInBounds_toArray, List.set_cons_zero, List.set_cons_succ, Nat.reduceAdd, Nat.zero_add]
      refine calm_quiet (v := .int .i64 3) (by rfl) (by rfl) (fun W hW hD => ?_) ?_
      · obtain ⟨g, r0, rfl, _⟩ : ∃ (g : Nat) (r0 : PageR), v127 = .slice (some ⟨g, 0, none⟩) 3 3 ∧ OwnK pageK V.heap.size W v127 [r0, r1, r2] ∧ PgOk W r0 := hD [] 11 (by kernel_rfl) (by kernel_rfl) (by kernel_rfl)
        clear hD hW
        go_simp
      simp only [Act.put, List.setIfInBounds_toArray, List.set_cons_zero, List.set_cons_succ, Nat.reduceAdd, Nat.zero_add]
      iterate 1 (refine calm_quiet (v := ?_) (by rfl) (by rfl) (fun W hW hD => ?_) ?_; rotate_left; (· (clear hD hW; go_simp; try with_reducible rfl)); simp only [Act.put, List.setIfInBounds_toArray, List.set_cons_zero, List.set_cons_succ, Nat.reduceAdd, Nat.zero_add])
      refine calm_nil fun W hW hF => ?_
      obtain ⟨g, r0, rfl, hown, hr0⟩ : ∃ (g : Nat) (r0 : PageR), v127 = .slice (some ⟨g, 0, none⟩) 3 3 ∧ OwnK pageK V.heap.size W v127 [r0, r1, r2] ∧ PgOk W r0 := hF 11 (by kernel_rfl) (by kernel_rfl)
      have HL1 := Lib.hid (((HLs.out W hW).add (P := PgN r0) (keep_pg hr0)).add (P := RowsN pageK (.slice (some ⟨g, 0, none⟩) 3 3) [r0, r1, r2]) (keep_rows (hown.rows pageOk))).rebase
      have HB1 : Hid (Below w.heap.size w W) := HBV.out.trans ((grown_below hW).mono HBV.out.size)
      clear hF hW hown hr0 HLs HLV HBV HQ HSt HR1 HR2
      go_wp2
      go_loopw [129] (fun i wq => ∃ kk : Nat, kk ≤ 3 ∧ i = .int .i64 kk ∧ Hid (Below W.heap.size W wq)) (fun i _ => 3 - (intOf i).toNat)
      case atStart => exact ⟨0, by omega, rfl, Lib.hid (Below.refl _ _)⟩
      case round =>
        obtain ⟨kk, hkk, rfl, HB⟩ := hrel
        have hL := HL1.out.step HB.out
        by_cases h3 : kk < 3
        · have k3 : (kk : Int) < 3 := by omega
          have kk0 : 0 ≤ (kk : Int) := by omega
          have wkk : IntKind.i64.wrap ((kk : Int) + 1) = (kk : Int) + 1 := IntWalk.i64_in _ (by omega)
          obtain ⟨r, hget, hr⟩ : ∃ r, [r0, r1, r2][kk]? = some r ∧ ∀ W', Below W.heap.size W W' → PgOk W' r := by
            have hc : kk = 0 ∨ kk = 1 ∨ kk = 2 := by omega
            rcases hc with rfl | rfl | rfl
            · exact ⟨r0, rfl, fun W' hW' => (show PgN r0 _ from (HL1.out.step hW').get (by simp))⟩
            · exact ⟨r1, rfl, fun W' hW' => (show PgN r1 _ from (HL1.out.step hW').get (by simp))⟩
            · exact ⟨r2, rfl, fun W' hW' => (show PgN r2 _ from (HL1.out.step hW').get (by simp))⟩
          obtain ⟨zA, zP, hzA, hzl, hzP, hzp⟩ := hr _ HB.out
          have hel := ElAt.page (RowsAt.el (show RowsAt pageK _ _ (.slice (some ⟨g, 0, none⟩) 3 3) [r0, r1, r2] from (show RowsN pageK (.slice (some ⟨g, 0, none⟩) 3 3) [r0, r1, r2] _ from hL.get (by simp))) kk r hget)
          obtain ⟨ru, rna, rnn, rnc, rs, rpa, rpn, rpc⟩ := r
          rw [Nat.zero_add, show pageK.size = 4 from rfl] at hel
          simp only at hel hzA hzP
          obtain ⟨x0, x1, x2, x3⟩ := hel
          have hL := ((hL.add (P := RowsN noteK (.slice rna rnn rnc) zA) (keep_rows hzA)).add (P := StrsN (.slice rpa rpn rpc) zP) (keep_strs hzP)).alloc (.cells #[.int .i64 ru, .slice rna rnn rnc, .string (bs rs), .slice rpa rpn rpc] 39)
          clear hget hr hzA hzP h3
          have hL := hL.add (keep_box (box_new _ 39 #[.int .i64 ru, .slice rna rnn rnc, .string (bs rs), .slice rpa rpn rpc]))
          have HL2 := Lib.hid hL
          clear hL
          have zz0 := BoxN.cell (show (BoxN wr.heap.size 39 #[.int .i64 ru, .slice rna rnn rnc, .string (bs rs), .slice rpa rpn rpc]) _ from HL2.out.get (by simp)) 0 _ rfl
          have zz1 := BoxN.cell (show (BoxN wr.heap.size 39 #[.int .i64 ru, .slice rna rnn rnc, .string (bs rs), .slice rpa rpn rpc]) _ from HL2.out.get (by simp)) 1 _ rfl
          have zz2 := BoxN.cell (show (BoxN wr.heap.size 39 #[.int .i64 ru, .slice rna rnn rnc, .string (bs rs), .slice rpa rpn rpc]) _ from HL2.out.get (by simp)) 2 _ rfl
          have zz3 := BoxN.cell (show (BoxN wr.heap.size 39 #[.int .i64 ru, .slice rna rnn rnc, .string (bs rs), .slice rpa rpn rpc]) _ from HL2.out.get (by simp)) 3 _ rfl
          go_wp2_with fail
          clear x0 x1 x2 x3 zz0 zz1 zz2 zz3
          obtain ⟨Z, hZ⟩ : ∃ Z, Z = wr.heap.size := ⟨_, rfl⟩
          generalize wr.alloc (.cells #[.int .i64 ru, .slice rna rnn rnc, .string (bs rs), .slice rpa rpn rpc] 39) = Wz at *
          rw [← hZ] at HL2 ⊢
          clear hZ
          refine (check_any R ru (.slice rna rnn rnc) zA rs (.slice rpa rpn rpc) zP Wz (show (RowsN noteK (.slice rna rnn rnc) zA) _ from HL2.out.get (by simp)) (by omega) (show (StrsN (.slice rpa rpn rpc) zP) _ from HL2.out.get (by simp)) (by omega) HL2.out.rounds).mono ?_
          rintro e w5 ⟨rfl, hb⟩
          have HL3 := Lib.hid (HL2.out.step hb)
          clear hb HL2
          obtain ⟨cc, hcc⟩ : ∃ cc, checkB R ⟨ru, zA, rs, zP⟩ = cc := ⟨_, rfl⟩
          rw [hcc]
          cases cc
          · clear hcc
            have HBn : Hid (Below W.heap.size W _) := HL3.out.below
            clear HL3 HB
            go_wp2
            go_roundw
            case rel => exact ⟨kk + 1, by omega, by go_num, HBn⟩
            case measure => simp [intOf]; omega
          · obtain ⟨m, rfl, hm9, hnb, hsl, hpl, _, _⟩ := check_true hcc
            have HAm := Lib.hid (HAll.out m zA rs zP hm9 hcc)
            obtain ⟨hOc, hOp, hOd, hOn, hOs⟩ := comp_own HdA.out rfl hm9
            have HPgm : Hid (pageE ⟨K, l⟩ (m : Int) = (⟨m, ofN l m, saltB K m, proofL (sealsL ⟨K, l⟩) m⟩, 0)) := by show _ = _; rw [pageE_ok (by rw [HdA.out]; exact unit_in ⟨by omega, by omega⟩), Int.toNat_natCast]; rfl
            have hfl : (ofN l (m : Int)).length ≤ 12 := Nat.le_trans (ofN_length _ _) (by rw [HRn.out]; exact rn12)
            clear hcc hOc
            generalize ofN l (m : Int) = An at *
            generalize saltB K (m : Int) = Sn at *
            generalize proofL (sealsL ⟨K, l⟩) m = Pn at *
            have d0 := BoxN.cell (show (BoxN w2.heap.size 26 #[.string (bs K), .slice ra rn rc]) _ from HL3.out.get (by simp)) 0 _ rfl
            have d1 := BoxN.cell (show (BoxN w2.heap.size 26 #[.string (bs K), .slice ra rn rc]) _ from HL3.out.get (by simp)) 1 _ rfl
            have z0 := BoxN.cell (show (BoxN Z 39 #[.int .i64 (m : Int), .slice rna rnn rnc, .string (bs rs), .slice rpa rpn rpc]) _ from HL3.out.get (by simp)) 0 _ rfl
            go_wp2_with fail
            clear d0 d1 z0
            refine (vPage_any K _ l (m : Int) _ (show (RowsN noteK (.slice ra rn rc) l) _ from HL3.out.get (by simp)) (by rw [HRn.out]; omega) HL3.out.rounds).mono ?_
            rintro e w6 ⟨nv, pv, rfl, hn, hp, hb⟩
            rw [HPgm.out] at hn hp ⊢
            simp only at hn hp ⊢
            obtain ⟨fa, fc, hx, _, _⟩ := hn.shape
            obtain ⟨ha, hc, hpx, _, _⟩ := ownS_shape hp
            subst hx hpx
            generalize hfn : An.length = fn at *
            generalize hgn : Pn.length = gn at *
            have hL := (((((HL3.out.step hb).add (P := RowsN noteK (.slice fa fn fc) An) (keep_rows (hn.rows noteOk))).add (P := StrsN (.slice ha gn hc) Pn) (keep_strs hp.strs)).alloc (.cells #[.int .i64 (m : Int), .slice fa fn fc, .string (bs Sn), .slice ha gn hc] 39))).add (keep_box (box_new w6 39 #[.int .i64 (m : Int), .slice fa fn fc, .string (bs Sn), .slice ha gn hc]))
            obtain ⟨Y, hY⟩ : ∃ Y, Y = w6.heap.size := ⟨_, rfl⟩
            rw [← hY] at hL
            have HL4 := Lib.hid hL
            have HY := Lib.hid hY
            clear hL hY hb hn hp HL3 HPgm
            have y1 := BoxN.cell (show (BoxN Y 39 #[.int .i64 (m : Int), .slice fa fn fc, .string (bs Sn), .slice ha gn hc]) _ from HL4.out.get (by simp)) 1 _ rfl
            have z1 := BoxN.cell (show (BoxN Z 39 #[.int .i64 (m : Int), .slice rna rnn rnc, .string (bs rs), .slice rpa rpn rpc]) _ from HL4.out.get (by simp)) 1 _ rfl
            rw [HY.out] at y1
            go_wp2_with fail
            rw [← HY.out]
            clear y1 z1
            generalize w6.alloc (.cells #[.int .i64 (m : Int), .slice fa fn fc, .string (bs Sn), .slice ha gn hc] 39) = Wy at *
            clear HY
            refine (sameNotes_any _ _ An zA _ (show (RowsN noteK (.slice fa fn fc) An) _ from HL4.out.get (by simp)) (show (RowsN noteK (.slice rna rnn rnc) zA) _ from HL4.out.get (by simp))).mono ?_
            rintro e w7 ⟨rfl, hb⟩
            have HL5 := Lib.hid (HL4.out.step hb)
            clear hb HL4
            obtain ⟨sm, hsm⟩ : ∃ sm, (An == zA) = sm := ⟨_, rfl⟩
            rw [hsm]
            have y2 := BoxN.cell (show (BoxN Y 39 #[.int .i64 (m : Int), .slice fa fn fc, .string (bs Sn), .slice ha gn hc]) _ from HL5.out.get (by simp)) 2 _ rfl
            have z2 := BoxN.cell (show (BoxN Z 39 #[.int .i64 (m : Int), .slice rna rnn rnc, .string (bs rs), .slice rpa rpn rpc]) _ from HL5.out.get (by simp)) 2 _ rfl
            cases sm
            · have hne : ¬ (An = zA ∧ Sn = rs) := fun h => beq_eq_false_iff_ne.1 hsm h.1
              have HM : Hid (meetB (pageHF m An Sn Pn) (pageHF m zA rs zP) = true) := HAm.out hne
              have HLs := Lib.hid (fun W' (hW : w7.grownBy W' none) => HL5.out.step (grown_below hW))
              have HQ : Hid (∀ W', w7.grownBy W' none → (W'.cell? ⟨Y, 0, none⟩ = some (.int .i64 (m : Int)) ∧ W'.cell? ⟨Y, 1, none⟩ = some (.slice fa fn fc) ∧ W'.cell? ⟨Y, 2, none⟩ = some (.string (bs Sn)) ∧ W'.cell? ⟨Y, 3, none⟩ = some (.slice ha gn hc)) ∧ (W'.cell? ⟨Z, 0, none⟩ = some (.int .i64 (m : Int)) ∧ W'.cell? ⟨Z, 1, none⟩ = some (.slice rna rnn rnc) ∧ W'.cell? ⟨Z, 2, none⟩ = some (.string (bs rs)) ∧ W'.cell? ⟨Z, 3, none⟩ = some (.slice rpa rpn rpc))) := fun W' hW => by
                have h := HLs.out W' hW
                have hy := (show (BoxN Y 39 #[.int .i64 (m : Int), .slice fa fn fc, .string (bs Sn), .slice ha gn hc]) _ from h.get (by simp))
                have hz := (show (BoxN Z 39 #[.int .i64 (m : Int), .slice rna rnn rnc, .string (bs rs), .slice rpa rpn rpc]) _ from h.get (by simp))
                exact ⟨⟨BoxN.cell hy 0 _ rfl, BoxN.cell hy 1 _ rfl, BoxN.cell hy 2 _ rfl, BoxN.cell hy 3 _ rfl⟩, ⟨BoxN.cell hz 0 _ rfl, BoxN.cell hz 1 _ rfl, BoxN.cell hz 2 _ rfl, BoxN.cell hz 3 _ rfl⟩⟩
              go_wp2
              clear y2 z2
              refine wp_region_calm ⟨[1, 3, 4], CallF w7.heap.size 1 3 99 true (pageHF m An Sn Pn) (pageHF m zA rs zP), fun _ => [], 99, none, 1000⟩ (by kernel_rfl) (by kernel_rfl) (by kernel_rfl) (fun g h => by cases h) (fun q hq v W W' c h hg hc => ?_) ?_
              · cases c with
                | some g => obtain ⟨_, _, i, j, u, hd, _⟩ := hc g rfl; simp at hd
                | none => exact callF_kept h hg
              iterate 1 (refine calm_quiet (v := ?_) (by rfl) (by rfl) (fun W hW hD => ?_) ?_; rotate_left; (· (obtain ⟨⟨z0, z1, z2, z3⟩, y0, y1, y2, y3⟩ := HQ.out W hW; clear hD hW; go_simp; try with_reducible rfl)); simp only [Act.put, List.setIfInBounds_toArray, List.set_cons_zero, List.set_cons_succ, Nat.reduceAdd, Nat.zero_add])
              refine calm_makes (by rfl) (by rfl) (fun W' hW hD Kc hK => ?_) (fun v159 => ?_)
              · have h := HLs.out W' hW
                have hws := hW.size
                refine wp_of_call (f := 24) (args := #[pageV (m : Int) (.slice fa fn fc) Sn (.slice ha gn hc)]) ?_ ((refPageH_any m (.slice fa fn fc) An Sn (.slice ha gn hc) Pn W' (show (RowsN noteK (.slice fa fn fc) An) _ from h.get (by simp)) (by have := (notesB_ok hOn).2.2; omega) (fun x hx => (noteB_z ((notesB_ok hOn).1 x hx)).1) (by omega) (show (StrsN (.slice ha gn hc) Pn) _ from h.get (by simp)) (fun x hx => by rw [hOd x hx]; omega) (by rw [hgn]; omega) hm9 h.rounds).mono ?_)
                · clear hD hW hK h
                  go_simp
                · rintro e w8 ⟨rv, rfl, ho, hb5⟩
                  exact ⟨_, rfl, hK _ _ (made_below (by exact ((callF_a 1).2 (ho.mono hws) : CallF w7.heap.size 1 3 99 true (pageHF m An Sn Pn) (pageHF m zA rs zP) 1 rv w8)) hb5 (fun g hg => (World.ownsRow.lt ho g hg)))⟩
              simp only [Act.put, List.setIfInBounds_toArray, List.set_cons_zero, List.set_cons_succ, Nat.reduceAdd, Nat.zero_add]
              iterate 1 (refine calm_quiet (v := ?_) (by rfl) (by rfl) (fun W hW hD => ?_) ?_; rotate_left; (· (obtain ⟨⟨z0, z1, z2, z3⟩, y0, y1, y2, y3⟩ := HQ.out W hW; clear hD hW; go_simp; try with_reducible rfl)); simp only [Act.put, List.setIfInBounds_toArray, List.set_cons_zero, List.set_cons_succ, Nat.reduceAdd, Nat.zero_add])
              refine calm_makes (by rfl) (by rfl) (fun W' hW hD Kc hK => ?_) (fun v161 => ?_)
              · have h := HLs.out W' hW
                have hws := hW.size
                refine wp_of_call (f := 24) (args := #[pageV (m : Int) (.slice rna rnn rnc) rs (.slice rpa rpn rpc)]) ?_ ((refPageH_any m (.slice rna rnn rnc) zA rs (.slice rpa rpn rpc) zP W' (show (RowsN noteK (.slice rna rnn rnc) zA) _ from h.get (by simp)) (by have := (notesB_ok hnb).2.2; omega) (fun x hx => (noteB_z ((notesB_ok hnb).1 x hx)).1) (by omega) (show (StrsN (.slice rpa rpn rpc) zP) _ from h.get (by simp)) (fun x hx => by rw [hpl x hx]; omega) (by omega) hm9 h.rounds).mono ?_)
                · clear hD hW hK h
                  go_simp
                · rintro e w8 ⟨rv, rfl, ho, hb5⟩
                  exact ⟨_, rfl, hK _ _ (made_below (by exact ((callF_b 3 (by decide)).2 (ho.mono hws) : CallF w7.heap.size 1 3 99 true (pageHF m An Sn Pn) (pageHF m zA rs zP) 3 rv w8)) hb5 (fun g hg => (World.ownsRow.lt ho g hg)))⟩
              simp only [Act.put, List.setIfInBounds_toArray, List.set_cons_zero, List.set_cons_succ, Nat.reduceAdd, Nat.zero_add]
              refine calm_makes (by rfl) (by rfl) (fun W' hW hD Kc hK => ?_) (fun v162 => ?_)
              · have h13 := (callF_a (kb := 3) (kc := 99) 1 (B := w7.heap.size) (c := true) (p := pageHF m An Sn Pn) (q := pageHF m zA rs zP) (W := W') (v := v159)).1 (hD [] 1 (by kernel_rfl) (by kernel_rfl) (by kernel_rfl))
                have h15 := (callF_b (ka := 1) (kc := 99) 3 (B := w7.heap.size) (c := true) (p := pageHF m An Sn Pn) (q := pageHF m zA rs zP) (W := W') (v := v161) (by decide)).1 (hD [] 3 (by kernel_rfl) (by kernel_rfl) (by kernel_rfl))
                have hf1 := pageHF_few (u := m) (s := Sn) (ps := Pn) hOn (by omega) (fun x hx => by rw [hOd x hx]; omega) (by rw [hgn]; omega)
                have hf2 := pageHF_few (u := m) (s := rs) (ps := zP) hnb (by omega) (fun x hx => by rw [hpl x hx]; omega) hzp
                refine wp_of_call (f := 14) (args := #[v159, v161]) ?_ ((collided_any v159 v161 (pageHF m An Sn Pn) (pageHF m zA rs zP) W' h13.strs h15.strs hf1.1 hf2.1 hf2.2).mono ?_)
                · clear hD hW hK h13 h15 hf1 hf2
                  go_simp
                · rintro e w8 ⟨rfl, hb5⟩
                  exact ⟨_, rfl, hK _ _ (made_plain (by exact ((callF_d 4 (by decide) (by decide) (by decide)).2 (by rw [HM.out]) : CallF w7.heap.size 1 3 99 true (pageHF m An Sn Pn) (pageHF m zA rs zP) 4 (.bool (meetB (pageHF m An Sn Pn) (pageHF m zA rs zP))) w8)) hb5 rfl)⟩
              simp only [Act.put, List.setIfInBounds_toArray, List.set_cons_zero, List.set_cons_succ, Nat.reduceAdd, Nat.zero_add]
              refine calm_quiet (v := .bool false) (by rfl) (by rfl) (fun W' hW hD => ?_) ?_
              · obtain rfl : v162 = .bool true := (callF_d (ka := 1) (kb := 3) (kc := 99) 4 (B := w7.heap.size) (c := true) (p := pageHF m An Sn Pn) (q := pageHF m zA rs zP) (W := W') (v := v162) (by decide) (by decide) (by decide)).1 (hD [] 4 (by kernel_rfl) (by kernel_rfl) (by kernel_rfl))
                clear hD hW
                go_simp
              simp only [Act.put, List.setIfInBounds_toArray, List.set_cons_zero, List.set_cons_succ, Nat.reduceAdd, Nat.zero_add]
              refine calm_nil fun W' hW hF => ?_
              have HL6 := Lib.hid (HLs.out W' hW)
              clear hF hW HLs HL5 HQ
              have HBn : Hid (Below W.heap.size W _) := HL6.out.below
              clear HL6 HB
              go_wp2
              go_roundw
              case rel => exact ⟨kk + 1, by omega, by go_num, HBn⟩
              case measure => simp [intOf]; omega
            · have hss := bs_eq_list Sn rs
              by_cases hs : Sn = rs
              · rw [show (Sn == rs) = true from by rw [hs]; simp] at hss
                clear hs hsm
                have HLx := HL5
                clear HL5
                have HBn : Hid (Below W.heap.size W _) := HLx.out.below
                clear HLx HB
                go_wp2
                go_roundw
                case rel => exact ⟨kk + 1, by omega, by go_num, HBn⟩
                case measure => simp [intOf]; omega
              · rw [show (Sn == rs) = false from beq_eq_false_iff_ne.2 hs] at hss
                have hne : ¬ (An = zA ∧ Sn = rs) := fun h => hs h.2
                clear hs hsm
                have HM : Hid (meetB (pageHF m An Sn Pn) (pageHF m zA rs zP) = true) := HAm.out hne
                have HLs := Lib.hid (fun W' (hW : w7.grownBy W' none) => HL5.out.step (grown_below hW))
                have HQ : Hid (∀ W', w7.grownBy W' none → (W'.cell? ⟨Y, 0, none⟩ = some (.int .i64 (m : Int)) ∧ W'.cell? ⟨Y, 1, none⟩ = some (.slice fa fn fc) ∧ W'.cell? ⟨Y, 2, none⟩ = some (.string (bs Sn)) ∧ W'.cell? ⟨Y, 3, none⟩ = some (.slice ha gn hc)) ∧ (W'.cell? ⟨Z, 0, none⟩ = some (.int .i64 (m : Int)) ∧ W'.cell? ⟨Z, 1, none⟩ = some (.slice rna rnn rnc) ∧ W'.cell? ⟨Z, 2, none⟩ = some (.string (bs rs)) ∧ W'.cell? ⟨Z, 3, none⟩ = some (.slice rpa rpn rpc))) := fun W' hW => by
                  have h := HLs.out W' hW
                  have hy := (show (BoxN Y 39 #[.int .i64 (m : Int), .slice fa fn fc, .string (bs Sn), .slice ha gn hc]) _ from h.get (by simp))
                  have hz := (show (BoxN Z 39 #[.int .i64 (m : Int), .slice rna rnn rnc, .string (bs rs), .slice rpa rpn rpc]) _ from h.get (by simp))
                  exact ⟨⟨BoxN.cell hy 0 _ rfl, BoxN.cell hy 1 _ rfl, BoxN.cell hy 2 _ rfl, BoxN.cell hy 3 _ rfl⟩, ⟨BoxN.cell hz 0 _ rfl, BoxN.cell hz 1 _ rfl, BoxN.cell hz 2 _ rfl, BoxN.cell hz 3 _ rfl⟩⟩
                go_wp2
                clear y2 z2
                refine wp_region_calm ⟨[1, 3, 4], CallF w7.heap.size 1 3 99 true (pageHF m An Sn Pn) (pageHF m zA rs zP), fun _ => [], 99, none, 1000⟩ (by kernel_rfl) (by kernel_rfl) (by kernel_rfl) (fun g h => by cases h) (fun q hq v W W' c h hg hc => ?_) ?_
                · cases c with
                  | some g => obtain ⟨_, _, i, j, u, hd, _⟩ := hc g rfl; simp at hd
                  | none => exact callF_kept h hg
                iterate 1 (refine calm_quiet (v := ?_) (by rfl) (by rfl) (fun W hW hD => ?_) ?_; rotate_left; (· (obtain ⟨⟨z0, z1, z2, z3⟩, y0, y1, y2, y3⟩ := HQ.out W hW; clear hD hW; go_simp; try with_reducible rfl)); simp only [Act.put, List.setIfInBounds_toArray, List.set_cons_zero, List.set_cons_succ, Nat.reduceAdd, Nat.zero_add])
                refine calm_makes (by rfl) (by rfl) (fun W' hW hD Kc hK => ?_) (fun v159 => ?_)
                · have h := HLs.out W' hW
                  have hws := hW.size
                  refine wp_of_call (f := 24) (args := #[pageV (m : Int) (.slice fa fn fc) Sn (.slice ha gn hc)]) ?_ ((refPageH_any m (.slice fa fn fc) An Sn (.slice ha gn hc) Pn W' (show (RowsN noteK (.slice fa fn fc) An) _ from h.get (by simp)) (by have := (notesB_ok hOn).2.2; omega) (fun x hx => (noteB_z ((notesB_ok hOn).1 x hx)).1) (by omega) (show (StrsN (.slice ha gn hc) Pn) _ from h.get (by simp)) (fun x hx => by rw [hOd x hx]; omega) (by rw [hgn]; omega) hm9 h.rounds).mono ?_)
                  · clear hD hW hK h
                    go_simp
                  · rintro e w8 ⟨rv, rfl, ho, hb5⟩
                    exact ⟨_, rfl, hK _ _ (made_below (by exact ((callF_a 1).2 (ho.mono hws) : CallF w7.heap.size 1 3 99 true (pageHF m An Sn Pn) (pageHF m zA rs zP) 1 rv w8)) hb5 (fun g hg => (World.ownsRow.lt ho g hg)))⟩
                simp only [Act.put, List.setIfInBounds_toArray, List.set_cons_zero, List.set_cons_succ, Nat.reduceAdd, Nat.zero_add]
                iterate 1 (refine calm_quiet (v := ?_) (by rfl) (by rfl) (fun W hW hD => ?_) ?_; rotate_left; (· (obtain ⟨⟨z0, z1, z2, z3⟩, y0, y1, y2, y3⟩ := HQ.out W hW; clear hD hW; go_simp; try with_reducible rfl)); simp only [Act.put, List.setIfInBounds_toArray, List.set_cons_zero, List.set_cons_succ, Nat.reduceAdd, Nat.zero_add])
                refine calm_makes (by rfl) (by rfl) (fun W' hW hD Kc hK => ?_) (fun v161 => ?_)
                · have h := HLs.out W' hW
                  have hws := hW.size
                  refine wp_of_call (f := 24) (args := #[pageV (m : Int) (.slice rna rnn rnc) rs (.slice rpa rpn rpc)]) ?_ ((refPageH_any m (.slice rna rnn rnc) zA rs (.slice rpa rpn rpc) zP W' (show (RowsN noteK (.slice rna rnn rnc) zA) _ from h.get (by simp)) (by have := (notesB_ok hnb).2.2; omega) (fun x hx => (noteB_z ((notesB_ok hnb).1 x hx)).1) (by omega) (show (StrsN (.slice rpa rpn rpc) zP) _ from h.get (by simp)) (fun x hx => by rw [hpl x hx]; omega) (by omega) hm9 h.rounds).mono ?_)
                  · clear hD hW hK h
                    go_simp
                  · rintro e w8 ⟨rv, rfl, ho, hb5⟩
                    exact ⟨_, rfl, hK _ _ (made_below (by exact ((callF_b 3 (by decide)).2 (ho.mono hws) : CallF w7.heap.size 1 3 99 true (pageHF m An Sn Pn) (pageHF m zA rs zP) 3 rv w8)) hb5 (fun g hg => (World.ownsRow.lt ho g hg)))⟩
                simp only [Act.put, List.setIfInBounds_toArray, List.set_cons_zero, List.set_cons_succ, Nat.reduceAdd, Nat.zero_add]
                refine calm_makes (by rfl) (by rfl) (fun W' hW hD Kc hK => ?_) (fun v162 => ?_)
                · have h13 := (callF_a (kb := 3) (kc := 99) 1 (B := w7.heap.size) (c := true) (p := pageHF m An Sn Pn) (q := pageHF m zA rs zP) (W := W') (v := v159)).1 (hD [] 1 (by kernel_rfl) (by kernel_rfl) (by kernel_rfl))
                  have h15 := (callF_b (ka := 1) (kc := 99) 3 (B := w7.heap.size) (c := true) (p := pageHF m An Sn Pn) (q := pageHF m zA rs zP) (W := W') (v := v161) (by decide)).1 (hD [] 3 (by kernel_rfl) (by kernel_rfl) (by kernel_rfl))
                  have hf1 := pageHF_few (u := m) (s := Sn) (ps := Pn) hOn (by omega) (fun x hx => by rw [hOd x hx]; omega) (by rw [hgn]; omega)
                  have hf2 := pageHF_few (u := m) (s := rs) (ps := zP) hnb (by omega) (fun x hx => by rw [hpl x hx]; omega) hzp
                  refine wp_of_call (f := 14) (args := #[v159, v161]) ?_ ((collided_any v159 v161 (pageHF m An Sn Pn) (pageHF m zA rs zP) W' h13.strs h15.strs hf1.1 hf2.1 hf2.2).mono ?_)
                  · clear hD hW hK h13 h15 hf1 hf2
                    go_simp
                  · rintro e w8 ⟨rfl, hb5⟩
                    exact ⟨_, rfl, hK _ _ (made_plain (by exact ((callF_d 4 (by decide) (by decide) (by decide)).2 (by rw [HM.out]) : CallF w7.heap.size 1 3 99 true (pageHF m An Sn Pn) (pageHF m zA rs zP) 4 (.bool (meetB (pageHF m An Sn Pn) (pageHF m zA rs zP))) w8)) hb5 rfl)⟩
                simp only [Act.put, List.setIfInBounds_toArray, List.set_cons_zero, List.set_cons_succ, Nat.reduceAdd, Nat.zero_add]
                refine calm_quiet (v := .bool false) (by rfl) (by rfl) (fun W' hW hD => ?_) ?_
                · obtain rfl : v162 = .bool true := (callF_d (ka := 1) (kb := 3) (kc := 99) 4 (B := w7.heap.size) (c := true) (p := pageHF m An Sn Pn) (q := pageHF m zA rs zP) (W := W') (v := v162) (by decide) (by decide) (by decide)).1 (hD [] 4 (by kernel_rfl) (by kernel_rfl) (by kernel_rfl))
                  clear hD hW
                  go_simp
                simp only [Act.put, List.setIfInBounds_toArray, List.set_cons_zero, List.set_cons_succ, Nat.reduceAdd, Nat.zero_add]
                refine calm_nil fun W' hW hF => ?_
                have HL6 := Lib.hid (HLs.out W' hW)
                clear hF hW HLs HL5 HQ
                have HBn : Hid (Below W.heap.size W _) := HL6.out.below
                clear HL6 HB
                go_wp2
                go_roundw
                case rel => exact ⟨kk + 1, by omega, by go_num, HBn⟩
                case measure => simp [intOf]; omega
        · obtain rfl : kk = 3 := by omega
          have HBf : Hid (Below w.heap.size w wr) := HB1.out.trans (HB.out.mono HB1.out.size)
          clear hL HB h3 hkk
          go_wp2
          go_ret
          exact ⟨rfl, HBf.out⟩
end Go.Proofs.YteicimmdcdjagaaGreatDoor
