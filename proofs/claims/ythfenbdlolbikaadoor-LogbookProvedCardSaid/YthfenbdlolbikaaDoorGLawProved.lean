/- LogbookProved: the walk. -/
import Derived.Test.YthfenbdlolbikaaDoorGProvedP
set_option linter.unusedVariables false
set_option linter.unusedSimpArgs false
namespace Go.Proofs.YthfenbdlolbikaaDoor
open Go.RowKit Go.Shelf

/-- What the steps of the region leave. -/
def PrvF (B : Nat) (re r2 : LRec) (j2 : Int) : Nat → Value → World → Prop := fun k v W =>
  if k = 7 then v = recV re else if k = 12 then v = .int .i64 j2 else ∃ g, v = .slice (some ⟨g, 0, none⟩) 2 2 ∧ B ≤ g ∧ TwoR g re r2 W
theorem prvF_kept {B k : Nat} {re r2 : LRec} {j2 : Int} {v : Value} {W W' : World} {cc : Option Nat} (h : PrvF B re r2 j2 k v W) (hg : W.grownBy W' cc) (hc : ∀ g, cc = some g → False) : PrvF B re r2 j2 k v W' := by
  unfold PrvF at h ⊢
  split at h
  · rename_i hk; rw [if_pos hk]; exact h
  · rename_i hk; rw [if_neg hk]; split at h
    · rename_i hk; rw [if_pos hk]; exact h
    · rename_i hk; rw [if_neg hk]
      obtain ⟨g, rfl, hB, hb⟩ := h
      exact ⟨g, rfl, hB, (hg.block g (Array.getElem?_eq_some_iff.1 (show W.heap[g]? = _ from hb)).1 fun e => hc g e.symm).trans hb⟩
set_option maxRecDepth 100000 in
set_option maxHeartbeats 40000000 in
theorem lawProved (o : Int) (xv : Value) (N : Nat) (f : Nat → Nat → Int) (i : Int) (y : Nat → Int) (pv : Value) (pl : List Bytes) (at_ : Int) (w : World) (ho : I64 o) (hi : I64 i) (hy : ∀ i, i < 4 → -9223372036854775808 ≤ y i ∧ y i ≤ 9223372036854775807) (hat : I64 at_) (hX : FiveAt w.heap.size w xv N f) (hP : StrsAt w.heap.size w pv pl) (hT : Rounds w) :
    Calls Tryd.prog 6 #[.int .i64 o, xv, .int .i64 i, fourV y, pv, .int .i64 at_] w fun e w' => e = .returned (.bool true) ∧ Below w.heap.size w w' := by
  have HY := Lib.hid hy
  have hL0 := ((((LiveP.start hT).add (P := FiveN xv N f) (keep_five hX)).add (P := StrsN pv pl) (keep_strs hP)).alloc (.cells #[.int .i64 (y 0), .int .i64 (y 1), .int .i64 (y 2), .int .i64 (y 3)] 37)).add (P := FourN w.heap.size y) (keep_four (four_new w y))
  have HL0 := Lib.hid hL0
  obtain ⟨⟨xa, xc, rfl, _, _, _⟩, _⟩ := hX
  obtain ⟨pva, pvc, rfl, _, _⟩ := hP.shape
  have hv := made_ok o N f
  have hml := madeB_len o N f
  have hsec := fun k (hk : k < (madeBook o N f).recs.length) => (inZ_iff.1 (by have := book_recs hv _ (by rw [List.getD_eq_getElem?_getD, List.getElem?_eq_getElem hk]; exact List.getElem_mem _ : (madeBook o N f).recs.getD k default ∈ _); unfold recB at this; simp only [Bool.and_eq_true] at this; exact this.1.1.1.1) : 0 ≤ ((madeBook o N f).recs.getD k default).sec ∧ _)
  have HMa := Lib.hid (fun (W : World) (h : FiveN (.slice xa N xc) N f W) => made_any o _ N f W ho h)
  have HPk := Lib.hid (fun (n : Nat) (hn : 1 ≤ n) (hn2 : n ≤ 1000000) (W : World) => gpick_any i n W hi.1 hi.2 (by omega) (by omega))
  have HPa := Lib.hid (fun (n : Nat) (hn : 1 ≤ n) (hn2 : n ≤ 1000000) (W : World) => gpick_any at_ n W hat.1 hat.2 (by omega) (by omega))
  have HPz := Lib.hid (fun (n : Nat) (hn : 1 ≤ n) => pickZ_bd i n (by omega))
  have HPy := Lib.hid (fun (n : Nat) (hn : 1 ≤ n) => pickZ_bd at_ n (by omega))
  have HEnt := Lib.hid (fun (s : Int) (h1 : 0 ≤ s) (h2 : s ≤ 10000000) (W : World) => entry_any s y W (by omega) hy)
  generalize madeBook o N f = bk at *
  obtain ⟨O, l⟩ := bk
  simp only at hml HMa hsec
  have HHd : Hid (headE ⟨O, l⟩ = (rootL (codesL ⟨O, l⟩), 0)) := by show _ = _; rw [headE, hv]; rfl
  have HSec := Lib.hid hsec
  have HV := Lib.hid hv
  have hRl := rootL_le (codesL ⟨O, l⟩)
  clear hT hL0 hv hy hP hsec
  go_enter Tryd.func6, Tryd.ntmps6
  go_wp2_with fail
  refine (gsane_any _ HL0.out.rounds).mono ?_
  rintro e w1 ⟨rfl, hb⟩
  have HL1 := Lib.hid (HL0.out.step hb)
  clear hb HL0
  go_wp2_with fail
  refine (HMa.out _ (HL1.out.get (by simp))).mono ?_
  rintro e w2 ⟨rv, rfl, hO, hb⟩
  obtain ⟨ra, rc, hrv, hrc1, hrc2⟩ := hO.shape
  subst hrv
  unfold maxLen at hrc2
  have hL := (((HL1.out.step hb).add (keep_recs hO.recs)).alloc (.cells #[.int .i64 O, .slice ra l.length rc] 25)).add (keep_book (logBox_new w2 O (.slice ra l.length rc)))
  obtain ⟨B, hB⟩ : ∃ B, B = w2.heap.size := ⟨_, rfl⟩
  rw [← hB] at hL
  have b1 := show BookN B O (.slice ra l.length rc) _ from hL.get (by simp)
  rw [hB] at b1
  have q0 := b1.c0
  have q1 := b1.c1
  have HL2 := Lib.hid hL
  clear hb hL hO HL1 b1
  go_wp2_with fail
  refine (head_any O _ l _ (show RecsN (.slice ra l.length rc) l _ from HL2.out.get (by simp)) (by omega) HL2.out.rounds).mono ?_
  rintro e w3 ⟨rfl, hb⟩
  rw [HHd.out]
  simp only
  have hL := HL2.out.step hb
  clear q0 q1
  have b1 := show BookN B O (.slice ra l.length rc) w3 from hL.get (by simp)
  rw [hB] at b1
  have q0 := b1.c0
  have q1 := b1.c1
  have HL3 := Lib.hid hL
  clear hb hL HL2 b1
  by_cases hm0 : l.length = 0
  · obtain rfl : l = [] := List.eq_nil_of_length_eq_zero hm0
    have HPn := Lib.hid (prove_none O i)
    clear hm0
    go_wp2_with fail
    refine (prove_any O _ [] i _ (show RecsN (.slice ra ([] : List LRec).length rc) [] _ from HL3.out.get (by simp)) (by simp) HL3.out.rounds).mono ?_
    rintro e w4 ⟨vp, rfl, hO, hb⟩
    rw [HPn.out]
    obtain ⟨pa, pc, hvp, _, _⟩ := hO.shape2
    subst hvp
    have HBl := Lib.hid (HL3.out.step hb).below
    clear hb hO q0 q1
    go_wp2
    go_ret
    exact ⟨rfl, HBl.out⟩
  · have hpz := HPz.out l.length (by omega)
    have HPkm := Lib.hid (HPk.out l.length (by omega) (by omega))
    obtain ⟨k, hk⟩ := Int.eq_ofNat_of_zero_le hpz.1
    rw [hk] at HPkm hpz
    have hkm : k < l.length := by omega
    have hpy := HPy.out l.length (by omega)
    have HPam := Lib.hid (HPa.out l.length (by omega) (by omega))
    obtain ⟨j2, hj2⟩ := Int.eq_ofNat_of_zero_le hpy.1
    rw [hj2] at HPam hpy
    have hjm : j2 < l.length := by omega
    have HPv : Hid (proveE ⟨O, l⟩ k = (proofL (codesL ⟨O, l⟩) k, 0)) := prove_in (b := ⟨O, l⟩) HV.out hkm
    have HCk : Hid (checkB (rootL (codesL ⟨O, l⟩)) (l.length : Nat) k (l.getD k default) (proofL (codesL ⟨O, l⟩) k) = true) := check_in (b := ⟨O, l⟩) HV.out hkm
    have HUse : Hid (∀ (r : LRec) (q : List Bytes), checkB (rootL (codesL ⟨O, l⟩)) (l.length : Nat) k r q = true → (r == l.getD k default) = false → encE r = (encR r, 0) ∧ (encR r).length ≤ 250 ∧ outB (hashedL (codesL ⟨O, l⟩) ++ (wayF q.reverse l.length k (encR r)).1) = true) := fun r q h1 h2 => proved_use (b := ⟨O, l⟩) HV.out hkm r q h1 h2
    have HCo : Hid (codesR l = codesL ⟨O, l⟩) := codesR_ok (book_recs (b := ⟨O, l⟩) HV.out)
    have HTx : Hid (∀ x ∈ l, x.text.length ≤ 1000000) := fun x hx => by have := book_recs (b := ⟨O, l⟩) HV.out x hx; unfold recB at this; simp only [Bool.and_eq_true, decide_eq_true_eq] at this; omega
    have hSmC := codesL_sm (b := ⟨O, l⟩) HV.out
    have hcl : (codesL ⟨O, l⟩).length = l.length := codesL_len ⟨O, l⟩
    have hSmP := proofL_sm (codesL ⟨O, l⟩) k (by omega)
    have hPLl := proofL_bin (l := codesL ⟨O, l⟩) k 4 (by show _ < 16; omega)
    have hHLb := hashedL_bd (codesL ⟨O, l⟩)
    have hHLe := hashedL_el (codesL ⟨O, l⟩).length (codesL ⟨O, l⟩) (Nat.le_refl _) hSmC.2
    have hsk := HSec.out k hkm
    have HSmC := Lib.hid hSmC
    have HSmP := Lib.hid hSmP
    have HHe := Lib.hid hHLe
    have hHl : (hashedL (codesL ⟨O, l⟩)).length ≤ 100 := by omega
    clear hk hj2 hSmC hSmP hHLe hHLb hcl HSec hm0 HPk HPz HV HHd
    generalize rootL (codesL ⟨O, l⟩) = R at *
    generalize proofL (codesL ⟨O, l⟩) k = PL at *
    generalize hHH : hashedL (codesL ⟨O, l⟩) = HL at *
    generalize codesL ⟨O, l⟩ = C at *
    have HHH := Lib.hid hHH
    clear hHH
    obtain ⟨lk, hlk⟩ : ∃ x, x = l.getD k default := ⟨_, rfl⟩
    obtain ⟨lj, hlj⟩ : ∃ x, x = l.getD j2 default := ⟨_, rfl⟩
    rw [← hlk] at HCk HUse hsk
    have HLK := Lib.hid hlk
    have HLJ := Lib.hid hlj
    clear hlk hlj
    generalize hm : l.length = m at *
    have HM := Lib.hid hm
    have HEn := Lib.hid (HEnt.out lk.sec hsk.1 hsk.2)
    generalize entryZ lk.sec y = re at *
    generalize hpn : PL.length = PN at *
    have HPN := Lib.hid hpn
    clear hm hpn hpz hpy HEnt
    have kk1 : (k : Int) < (m : Int) := by omega
    have k0 : 0 ≤ (k : Int) := by omega
    have mz : ((m : Int) == 0) = false := by rw [beq_eq_false_iff_ne]; omega
    have jj1 : (j2 : Int) < (m : Int) := by omega
    have j20 : 0 ≤ (j2 : Int) := by omega
    go_wp2_with fail
    refine (HPkm.out _).mono ?_
    rintro e w' ⟨rfl, rfl⟩
    go_wp2_with fail
    refine (prove_any O _ l k _ (show RecsN (.slice ra m rc) l _ from HL3.out.get (by simp)) (by rw [HM.out]; omega) HL3.out.rounds).mono ?_
    rintro e w4 ⟨vp, rfl, hO, hb⟩
    rw [HPv.out] at hO ⊢
    simp only at hO ⊢
    obtain ⟨pa, pc, hvp, hpc1, hpc2⟩ := hO.shape2
    subst hvp
    rw [HPN.out] at hO hpc1 ⊢
    have hL := (HL3.out.step hb).add (P := OwnsN 0 (.slice pa PN pc) PL) (keep_owns (hO.mono (Nat.zero_le _)))
    clear q0 q1
    have b1 := show BookN B O (.slice ra m rc) w4 from hL.get (by simp)
    rw [hB] at b1
    have q0 := b1.c0
    have q1 := b1.c1
    obtain ⟨b, off, hae, hbb, hat⟩ := (show RecsAt _ _ (.slice ra m rc) l from (show RecsN (.slice ra m rc) l w4 from hL.get (by simp))).at k (by rw [HM.out]; omega)
    subst hae
    rw [← HLK.out] at hat
    obtain ⟨c0, c1, c2, c3, c4⟩ := hat
    have HL4 := Lib.hid hL
    clear hb hL hO HL3 b1 hbb
    go_wp2_with fail
    refine (gcheck_any R m k lk _ PL w4 (by omega) (by omega) (show OwnsN 0 (.slice pa PN pc) PL _ from HL4.out.get (by simp)).strs (by rw [HPN.out]; omega) HL4.out.rounds).mono ?_
    rintro e w5 ⟨rfl, hb⟩
    rw [HCk.out]
    have HL5 := Lib.hid (HL4.out.step hb)
    clear hb HL4 q0 q1 c0 c1 c2 c3 c4 HCk
    go_wp2_with fail
    refine (few_any _ pl 6 _ (show StrsN (.slice pva pl.length pvc) pl _ from HL5.out.get (by simp)) (by omega)).mono ?_
    rintro e w6 ⟨vf, rfl, hO, hb⟩
    have hfe := fewL_el pl 6
    have hfl : (fewL pl 6).length ≤ 6 := by rw [fewL_len]; omega
    obtain ⟨fa, fc, hvf, hfc1, hfc2⟩ := hO.shape2
    subst hvf
    generalize fewL pl 6 = F at *
    generalize hfn : F.length = FN at *
    have HFN := Lib.hid hfn
    have HFe := Lib.hid hfe
    have hL := (((HL5.out.step hb).add (P := OwnsN 0 (.slice fa FN fc) F) (keep_owns (hO.mono (Nat.zero_le _)))).sub (Qs := [OwnsN 0 (.slice fa FN fc) F, OwnsN 0 (.slice pa PN pc) PL, RecsN (.slice (some ⟨b, off, none⟩) m rc) l, BookN B O (.slice (some ⟨b, off, none⟩) m rc), FourN w.heap.size y]) (fun Q hQ => by simp at hQ; rcases hQ with rfl | rfl | rfl | rfl | rfl <;> simp))
    have HL6 := Lib.hid hL
    clear hb hL hO HL5 hfn hfe
    have HOp := Lib.hid (show OwnsN 0 (.slice pa PN pc) PL w6 from HL6.out.get (by simp))
    have hcase : (PN = 0 ∨ FN = 0) ∨ (0 < PN ∧ 0 < FN) := by omega
    rcases hcase with hcase | ⟨hp0, hf0⟩
    · by_cases hp0 : PN = 0
      · have g0 : ¬ ((0 : Int) < (PN : Int)) := by omega
        clear hp0 hcase
        go_wp2_with (at_builtin; refine append_SS rfl _ _ rfl w6.heap.size 0 _ _ [] PL rfl rfl (ownS_lit0 w6 w6.heap.size (Nat.le_refl _)) (World.ownsRow.alloc HOp.out _) (by simp only [List.length_nil]; rw [HPN.out]; omega) (by simp) w6 ((Below.refl _ _).alloc (Nat.le_refl _) _) ?_; intro vb w7 hO7 hg7 hb7; rw [List.nil_append] at hO7; obtain ⟨ba, bc, hvb, _, _⟩ := hO7.shape2; rw [HPN.out] at hvb; subst hvb; have b1 := show BookN B O (.slice (some ⟨b, off, none⟩) m rc) w7 from (HL6.out.step hb7).get (by simp); rw [hB] at b1; have q0 := b1.c0; have q1 := b1.c1; clear b1; have HO7 := Lib.hid hO7; have HB7 := Lib.hid hb7; clear hO7 hg7 hb7)
        clear HOp
        obtain ⟨BL, hBL⟩ : ∃ x, x = PL := ⟨_, rfl⟩
        have HL7 := Lib.hid (((HL6.out.step HB7.out).add (P := OwnsN 0 (.slice ba PN bc) BL) (keep_owns (by rw [hBL]; exact HO7.out.mono (Nat.zero_le _)))))
        have HBe : Hid (∀ x ∈ BL, x.length ≤ 1000) := by rw [hBL]; exact HSmP.out.2
        have HBl : Hid (BL.length = PN) := by rw [hBL]; exact HPN.out
        clear HO7 HB7 HL6 hBL
        obtain ⟨W7, hW7⟩ : ∃ x, x = w7 := ⟨_, rfl⟩
        rw [← hW7] at HL7 ⊢
        clear hW7
        refine (refCodes_any O _ l _ (show RecsN (.slice (some ⟨b, off, none⟩) m rc) l _ from HL7.out.get (by simp)) (by rw [HM.out]; omega) HTx.out).mono ?_
        rintro e w8 ⟨vc, rfl, hO, hb⟩
        rw [HCo.out] at hO
        have HL8 := Lib.hid (HL7.out.step hb)
        have HOc := Lib.hid hO
        clear hb hO HL7 q0 q1 g0
        go_wp2_with fail
        refine (hashed_any C.length C vc _ (Nat.le_refl _) HSmC.out HOc.out.strs).mono ?_
        rintro e w9 ⟨va, rfl, hO, hb⟩
        rw [HHH.out] at hO
        have HL9 := Lib.hid ((HL8.out.step hb).add (P := OwnsN 0 va HL) (keep_owns (hO.mono (Nat.zero_le _))))
        clear hb hO HL8 HOc
        have HQ : Hid (∀ W, w9.grownBy W none → W.cell? ⟨w2.heap.size, 1, none⟩ = some (.slice (some ⟨b, off, none⟩) m rc) ∧ RecAt W b (off + k * 5) lk ∧ RecAt W b (off + j2 * 5) lj ∧ (W.cell? ⟨w.heap.size, 0, none⟩ = some (.int .i64 (y 0)) ∧ W.cell? ⟨w.heap.size, 1, none⟩ = some (.int .i64 (y 1)) ∧ W.cell? ⟨w.heap.size, 2, none⟩ = some (.int .i64 (y 2)) ∧ W.cell? ⟨w.heap.size, 3, none⟩ = some (.int .i64 (y 3)))) := fun W hW => by
          have hL := HL9.out.step (grown_below hW)
          have hb := show BookN B O (.slice (some ⟨b, off, none⟩) m rc) W from hL.get (by simp)
          rw [hB] at hb
          have hr := show RecsN (.slice (some ⟨b, off, none⟩) m rc) l W from hL.get (by simp)
          have h1 := hr.cells k (by rw [HM.out]; omega)
          have h2 := hr.cells j2 (by rw [HM.out]; omega)
          rw [← HLK.out] at h1
          rw [← HLJ.out] at h2
          exact ⟨hb.c1, h1, h2, (show FourBox W w.heap.size y from (show FourN w.heap.size y W from hL.get (by simp))).cells⟩
        go_wp2
        refine wp_region_calm ⟨[7, 12, 15], PrvF w9.heap.size re lj j2, fun _ => [], 99, none, 1000⟩ (by kernel_rfl) (by kernel_rfl) (by kernel_rfl) (fun g h => by cases h) (fun k hk v W W' c h hg hc => prvF_kept h hg fun g hh => ?_) ?_
        · obtain ⟨_, _, i, j, u, hd, _⟩ := hc g hh
          simp at hd
        iterate 7 (refine calm_quiet (v := ?_) (by rfl) (by rfl) (fun W hW hD => ?_) ?_; rotate_left; (· (obtain ⟨z0, ⟨y0, y1, y2, y3, y4⟩, ⟨x0, x1, x2, x3, x4⟩, f0, f1, f2, f3⟩ := HQ.out W hW; clear hD hW; go_simp; try with_reducible rfl)); simp only [Act.put, List.setIfInBounds_toArray, List.set_cons_zero, List.set_cons_succ, Nat.reduceAdd, Nat.zero_add])
        refine calm_makes (by rfl) (by rfl) (fun W hW hD Kc hK => ?_) (fun v113 => ?_)
        · refine wp_of_call (f := 15) ?_ ((HEn.out W).mono ?_)
          · obtain ⟨z0, ⟨y0, y1, y2, y3, y4⟩, ⟨x0, x1, x2, x3, x4⟩, f0, f1, f2, f3⟩ := HQ.out W hW
            clear hD hW
            go_simp
          · rintro e w5 ⟨rfl, hb5⟩
            exact ⟨_, rfl, hK _ _ (made_plain rfl hb5 rfl)⟩
        simp only [Act.put, List.setIfInBounds_toArray, List.set_cons_zero, List.set_cons_succ, Nat.reduceAdd, Nat.zero_add]
        iterate 4 (refine calm_quiet (v := ?_) (by rfl) (by rfl) (fun W hW hD => ?_) ?_; rotate_left; (· (obtain ⟨z0, ⟨y0, y1, y2, y3, y4⟩, ⟨x0, x1, x2, x3, x4⟩, f0, f1, f2, f3⟩ := HQ.out W hW; clear hD hW; go_simp; try with_reducible rfl)); simp only [Act.put, List.setIfInBounds_toArray, List.set_cons_zero, List.set_cons_succ, Nat.reduceAdd, Nat.zero_add])
        refine calm_makes (by rfl) (by rfl) (fun W hW hD Kc hK => ?_) (fun v118 => ?_)
        · refine wp_of_call (f := 19) ?_ ((HPam.out W).mono ?_)
          · clear hD hW hK
            go_simp
          · rintro e w5 ⟨rfl, rfl⟩
            exact ⟨_, rfl, hK _ _ (made_plain rfl (Below.refl _ _) rfl)⟩
        simp only [Act.put, List.setIfInBounds_toArray, List.set_cons_zero, List.set_cons_succ, Nat.reduceAdd, Nat.zero_add]
        refine calm_quiet (v := .pointer (some ⟨b, off + j2 * 5, none⟩)) (by rfl) (by rfl) (fun W hW hD => ?_) ?_
        · obtain rfl : v118 = .int .i64 j2 := hD [] 12 (by kernel_rfl) (by kernel_rfl) (by kernel_rfl)
          clear hD hW
          go_simp
        simp only [Act.put, List.setIfInBounds_toArray, List.set_cons_zero, List.set_cons_succ, Nat.reduceAdd, Nat.zero_add]
        refine calm_quiet (v := recV lj) (by rfl) (by rfl) (fun W hW hD => ?_) ?_
        · obtain ⟨z0, ⟨y0, y1, y2, y3, y4⟩, ⟨x0, x1, x2, x3, x4⟩, f0, f1, f2, f3⟩ := HQ.out W hW
          clear hD hW
          go_simp
        simp only [Act.put, List.setIfInBounds_toArray, List.set_cons_zero, List.set_cons_succ, Nat.reduceAdd, Nat.zero_add]
        refine calm_makes (by rfl) (by rfl) (fun W hW hD Kc hK => ?_) (fun v121 => ?_)
        · obtain rfl : v113 = recV re := hD [] 7 (by kernel_rfl) (by kernel_rfl) (by kernel_rfl)
          refine wp_of_run (v := .slice (some ⟨W.heap.size, 0, none⟩) 2 2) (w' := W.alloc (.cells #[.int .i64 re.sec, .int .i64 re.kind, .int .i64 re.a, .int .i64 re.b, .string (bs re.text), .int .i64 lj.sec, .int .i64 lj.kind, .int .i64 lj.a, .int .i64 lj.b, .string (bs lj.text)] 27)) ?_ (hK _ _ (made_below ⟨W.heap.size, rfl, hW.size, heap_alloc_new W _⟩ ((Below.refl _ _).alloc (Nat.le_refl _) _) (fun g hg => ?_)))
          · clear hD hW hK
            go_simp
          · have hg' : some W.heap.size = some g := hg
            cases hg'
            exact ⟨Nat.le_refl _, by simp⟩
        simp only [Act.put, List.setIfInBounds_toArray, List.set_cons_zero, List.set_cons_succ, Nat.reduceAdd, Nat.zero_add]
        refine calm_quiet (v := .int .i64 2) (by rfl) (by rfl) (fun W hW hD => ?_) ?_
        · obtain ⟨q, rfl, _, hq⟩ : ∃ q, v121 = .slice (some ⟨q, 0, none⟩) 2 2 ∧ w9.heap.size ≤ q ∧ TwoR q re lj W := hD [] 15 (by kernel_rfl) (by kernel_rfl) (by kernel_rfl)
          clear hD hW
          go_simp
        simp only [Act.put, List.setIfInBounds_toArray, List.set_cons_zero, List.set_cons_succ, Nat.reduceAdd, Nat.zero_add]
        iterate 1 (refine calm_quiet (v := ?_) (by rfl) (by rfl) (fun W hW hD => ?_) ?_; rotate_left; (· (clear hD hW; go_simp; try with_reducible rfl)); simp only [Act.put, List.setIfInBounds_toArray, List.set_cons_zero, List.set_cons_succ, Nat.reduceAdd, Nat.zero_add])
        refine calm_nil fun W hW hF => ?_
        obtain ⟨g1, hv121, _, hq⟩ : ∃ q, v121 = .slice (some ⟨q, 0, none⟩) 2 2 ∧ w9.heap.size ≤ q ∧ TwoR q re lj W := hF 15 (by kernel_rfl) (by kernel_rfl)
        subst hv121
        have HWx := Lib.hid ((HL9.out.step (grown_below hW)).add (P := TwoR g1 re lj) (keep_twoR hq))
        clear hF hW hq HL9 HQ
        go_wp2
        go_loopw [123] (fun i wr => ∃ j : Nat, j ≤ 2 ∧ i = .int .i64 j ∧ Hid (LiveP w [TwoR g1 re lj, OwnsN 0 va HL, OwnsN 0 (.slice ba PN bc) BL, OwnsN 0 (.slice fa FN fc) F, OwnsN 0 (.slice pa PN pc) PL, RecsN (.slice (some ⟨b, off, none⟩) m rc) l, BookN B O (.slice (some ⟨b, off, none⟩) m rc), FourN w.heap.size y] wr)) (fun i _ => 2 - (intOf i).toNat)
        case atStart => exact ⟨0, by omega, rfl, HWx⟩
        case round =>
          clear HWx
          obtain ⟨j, hj, rfl, HW⟩ := hrel
          by_cases h1 : j < 2
          · have ji : (j : Int) < 2 := by omega
            have j0 : 0 ≤ (j : Int) := by omega
            obtain ⟨d0, d1, d2, d3, d4⟩ := (show TwoR g1 re lj wr from HW.out.get (by simp)).cell j h1
            generalize one2 re lj j = r at *
            have hW2 := (HW.out.alloc (.cells #[.int .i64 r.sec, .int .i64 r.kind, .int .i64 r.a, .int .i64 r.b, .string (bs r.text)] 27)).add (P := RecN wr.heap.size r) (keep_rec (recBox_new wr r))
            have hth := three_new (wr.alloc (.cells #[.int .i64 r.sec, .int .i64 r.kind, .int .i64 r.a, .int .i64 r.b, .string (bs r.text)] 27)) (.slice pa PN pc) (.slice fa FN fc) (.slice ba PN bc)
            rw [World.size_alloc] at hth
            have HWx := Lib.hid ((hW2.alloc (.cells #[.slice pa PN pc, .slice fa FN fc, .slice ba PN bc] 45)).add (P := ThreeV (wr.heap.size + 1) (.slice pa PN pc) (.slice fa FN fc) (.slice ba PN bc)) (keep_three hth))
            clear hW2 hth HW
            go_wp2
            obtain ⟨gx, hgx⟩ : ∃ g, g = wr.heap.size := ⟨_, rfl⟩
            rw [← hgx] at HWx ⊢
            clear hgx d0 d1 d2 d3 d4
            have HEq := fun W : World => run_eqlRec r lk W
            go_loopw [132] (fun i wr => ∃ j3 : Nat, j3 ≤ 3 ∧ i = .int .i64 j3 ∧ Hid (LiveP w [ThreeV (gx + 1) (.slice pa PN pc) (.slice fa FN fc) (.slice ba PN bc), RecN gx r, TwoR g1 re lj, OwnsN 0 va HL, OwnsN 0 (.slice ba PN bc) BL, OwnsN 0 (.slice fa FN fc) F, OwnsN 0 (.slice pa PN pc) PL, RecsN (.slice (some ⟨b, off, none⟩) m rc) l, BookN B O (.slice (some ⟨b, off, none⟩) m rc), FourN w.heap.size y] wr)) (fun i _ => 3 - (intOf i).toNat)
            case atStart => exact ⟨0, by omega, rfl, HWx⟩
            case round =>
              clear HWx
              obtain ⟨j3, hj3, rfl, HW⟩ := hrel
              by_cases h3 : j3 < 3
              · have ji3 : (j3 : Int) < 3 := by omega
                have j30 : 0 ≤ (j3 : Int) := by omega
                have ct := (show ThreeV (gx + 1) (.slice pa PN pc) (.slice fa FN fc) (.slice ba PN bc) wr from HW.out.get (by simp)).cell j3 h3
                have hst := strs3 (show StrsN (.slice pa PN pc) PL wr from (show OwnsN 0 (.slice pa PN pc) PL wr from HW.out.get (by simp)).strs) (show StrsN (.slice fa FN fc) F wr from (show OwnsN 0 (.slice fa FN fc) F wr from HW.out.get (by simp)).strs) (show StrsN (.slice ba PN bc) BL wr from (show OwnsN 0 (.slice ba PN bc) BL wr from HW.out.get (by simp)).strs) j3
                have hql : (one3 PL F BL j3).length ≤ 1000 ∧ ∀ x ∈ one3 PL F BL j3, x.length ≤ 1000 := by
                  unfold one3
                  split
                  · exact ⟨by rw [HPN.out]; omega, HSmP.out.2⟩
                  · split
                    · exact ⟨by rw [HFN.out]; omega, fun x hx => by have := HFe.out x hx; omega⟩
                    · exact ⟨by rw [HBl.out]; omega, HBe.out⟩
                obtain ⟨qa, qc, hqv, hqc1, hqc2⟩ := (show StrsAt wr.heap.size wr _ _ from hst).shape
                rw [hqv] at ct hst
                unfold maxLen at hqc2
                generalize one3 PL F BL j3 = q at *
                have HQl := Lib.hid hql
                obtain ⟨qn, hqn⟩ : ∃ n, n = q.length := ⟨_, rfl⟩
                rw [← hqn] at ct hst hqc1
                have hqb : qn ≤ 1000 := by rw [hqn]; exact hql.1
                have HQN := Lib.hid hqn
                have hWq := HW.out.add (P := StrsN (.slice qa qn qc) q) (keep_strs hst)
                have b1 := show BookN B O (.slice (some ⟨b, off, none⟩) m rc) wr from HW.out.get (by simp)
                rw [hB] at b1
                have HQ : Hid (∀ W, wr.grownBy W none → W.cell? ⟨w2.heap.size, 1, none⟩ = some (.slice (some ⟨b, off, none⟩) m rc) ∧ RecAt W b (off + k * 5) lk ∧ RecAt W gx 0 r) := fun W hW => by
                  have hL := HW.out.step (grown_below hW)
                  have hb := show BookN B O (.slice (some ⟨b, off, none⟩) m rc) W from hL.get (by simp)
                  rw [hB] at hb
                  have hr := show RecsN (.slice (some ⟨b, off, none⟩) m rc) l W from hL.get (by simp)
                  have h1 := hr.cells k (by rw [HM.out]; omega)
                  rw [← HLK.out] at h1
                  exact ⟨hb.c1, h1, (show RecBox W gx r from (show RecN gx r W from hL.get (by simp))).cells⟩
                have HWq := Lib.hid hWq
                have HUs := Lib.hid (HUse.out r q)
                clear hql hqn hqv hWq b1 hst HW
                cases hrl : (r == lk)
                · rw [hrl] at HEq
                  cases hcb : checkB R m k r q
                  · clear HUs hrl
                    go_wp2
                    refine wp_region_calm ⟨[13], fun _ v _ => v = .bool (checkB R m k r q), fun _ => [], 99, none, 1000⟩ (by kernel_rfl) (by kernel_rfl) (by kernel_rfl) (fun g h => by cases h) (fun k hk v W W' c h hg hc => h) ?_
                    iterate 6 (refine calm_quiet (v := ?_) (by rfl) (by rfl) (fun W hW hD => ?_) ?_; rotate_left; (· (obtain ⟨z0, ⟨y0, y1, y2, y3, y4⟩, ⟨x0, x1, x2, x3, x4⟩⟩ := HQ.out W hW; clear hD hW; go_simp; try with_reducible rfl)); simp only [Act.put, List.setIfInBounds_toArray, List.set_cons_zero, List.set_cons_succ, Nat.reduceAdd, Nat.zero_add])
                    refine calm_quiet (v := .bool false) (by rfl) (by rfl) (fun W hW hD => ?_) ?_
                    · have he := HEq W
                      clear hD hW
                      go_simp
                    simp only [Act.put, List.setIfInBounds_toArray, List.set_cons_zero, List.set_cons_succ, Nat.reduceAdd, Nat.zero_add]
                    iterate 6 (refine calm_quiet (v := ?_) (by rfl) (by rfl) (fun W hW hD => ?_) ?_; rotate_left; (· (obtain ⟨z0, ⟨y0, y1, y2, y3, y4⟩, ⟨x0, x1, x2, x3, x4⟩⟩ := HQ.out W hW; clear hD hW; go_simp; try with_reducible rfl)); simp only [Act.put, List.setIfInBounds_toArray, List.set_cons_zero, List.set_cons_succ, Nat.reduceAdd, Nat.zero_add])
                    refine calm_makes (by rfl) (by rfl) (fun W hW hD Kc hK => ?_) (fun v149 => ?_)
                    · have hLW := HWq.out.step (grown_below hW)
                      refine wp_of_call (f := 29) ?_ ((gcheck_any R m k r _ q W (by omega) (by omega) (show StrsN (.slice qa qn qc) q W from hLW.get (by simp)) (by rw [← HQN.out]; omega) hLW.rounds).mono ?_)
                      · clear hLW
                        obtain ⟨z0, ⟨y0, y1, y2, y3, y4⟩, ⟨x0, x1, x2, x3, x4⟩⟩ := HQ.out W hW
                        clear hD hW
                        clear hK
                        go_simp
                      · rintro e w5 ⟨rfl, hb5⟩
                        exact ⟨_, rfl, hK _ _ (made_plain rfl hb5 rfl)⟩
                    simp only [Act.put, List.setIfInBounds_toArray, List.set_cons_zero, List.set_cons_succ, Nat.reduceAdd, Nat.zero_add]
                    refine calm_quiet (v := .bool (true)) (by rfl) (by rfl) (fun W hW hD => ?_) ?_
                    · obtain rfl : v149 = .bool (checkB R m k r q) := hD [] 13 (by kernel_rfl) (by kernel_rfl) (by kernel_rfl)
                      rw [hcb]
                      clear hD hW
                      go_simp
                    simp only [Act.put, List.setIfInBounds_toArray, List.set_cons_zero, List.set_cons_succ, Nat.reduceAdd, Nat.zero_add]
                    iterate 1 (refine calm_quiet (v := ?_) (by rfl) (by rfl) (fun W hW hD => ?_) ?_; rotate_left; (· (clear hD hW; go_simp; try with_reducible rfl)); simp only [Act.put, List.setIfInBounds_toArray, List.set_cons_zero, List.set_cons_succ, Nat.reduceAdd, Nat.zero_add])
                    refine calm_nil fun W hW hF => ?_
                    have HW2 := Lib.hid ((HWq.out.step (grown_below hW)).sub (Qs := [ThreeV (gx + 1) (.slice pa PN pc) (.slice fa FN fc) (.slice ba PN bc), RecN gx r, TwoR g1 re lj, OwnsN 0 va HL, OwnsN 0 (.slice ba PN bc) BL, OwnsN 0 (.slice fa FN fc) F, OwnsN 0 (.slice pa PN pc) PL, RecsN (.slice (some ⟨b, off, none⟩) m rc) l, BookN B O (.slice (some ⟨b, off, none⟩) m rc), FourN w.heap.size y]) (fun Q hQ => List.mem_cons_of_mem _ hQ))
                    clear hF hW HWq HQ ct
                    go_wp2
                    go_roundw
                    case rel => exact ⟨j3 + 1, by omega, by go_num, HW2⟩
                    case measure => simp [intOf]; omega
                  · obtain ⟨he, hle, hout⟩ := HUs.out hcb hrl
                    have hrt : r.text.length ≤ 1000000 := by
                      unfold checkB recB at hcb
                      simp only [Bool.and_eq_true, decide_eq_true_eq] at hcb
                      omega
                    have HE := Lib.hid he
                    have HOut := Lib.hid hout
                    clear HUs hrl he hout
                    go_wp2
                    refine wp_region_calm ⟨[13], fun _ v _ => v = .bool (checkB R m k r q), fun _ => [], 99, none, 1000⟩ (by kernel_rfl) (by kernel_rfl) (by kernel_rfl) (fun g h => by cases h) (fun k hk v W W' c h hg hc => h) ?_
                    iterate 6 (refine calm_quiet (v := ?_) (by rfl) (by rfl) (fun W hW hD => ?_) ?_; rotate_left; (· (obtain ⟨z0, ⟨y0, y1, y2, y3, y4⟩, ⟨x0, x1, x2, x3, x4⟩⟩ := HQ.out W hW; clear hD hW; go_simp; try with_reducible rfl)); simp only [Act.put, List.setIfInBounds_toArray, List.set_cons_zero, List.set_cons_succ, Nat.reduceAdd, Nat.zero_add])
                    refine calm_quiet (v := .bool false) (by rfl) (by rfl) (fun W hW hD => ?_) ?_
                    · have he := HEq W
                      clear hD hW
                      go_simp
                    simp only [Act.put, List.setIfInBounds_toArray, List.set_cons_zero, List.set_cons_succ, Nat.reduceAdd, Nat.zero_add]
                    iterate 6 (refine calm_quiet (v := ?_) (by rfl) (by rfl) (fun W hW hD => ?_) ?_; rotate_left; (· (obtain ⟨z0, ⟨y0, y1, y2, y3, y4⟩, ⟨x0, x1, x2, x3, x4⟩⟩ := HQ.out W hW; clear hD hW; go_simp; try with_reducible rfl)); simp only [Act.put, List.setIfInBounds_toArray, List.set_cons_zero, List.set_cons_succ, Nat.reduceAdd, Nat.zero_add])
                    refine calm_makes (by rfl) (by rfl) (fun W hW hD Kc hK => ?_) (fun v149 => ?_)
                    · have hLW := HWq.out.step (grown_below hW)
                      refine wp_of_call (f := 29) ?_ ((gcheck_any R m k r _ q W (by omega) (by omega) (show StrsN (.slice qa qn qc) q W from hLW.get (by simp)) (by rw [← HQN.out]; omega) hLW.rounds).mono ?_)
                      · clear hLW
                        obtain ⟨z0, ⟨y0, y1, y2, y3, y4⟩, ⟨x0, x1, x2, x3, x4⟩⟩ := HQ.out W hW
                        clear hD hW
                        clear hK
                        go_simp
                      · rintro e w5 ⟨rfl, hb5⟩
                        exact ⟨_, rfl, hK _ _ (made_plain rfl hb5 rfl)⟩
                    simp only [Act.put, List.setIfInBounds_toArray, List.set_cons_zero, List.set_cons_succ, Nat.reduceAdd, Nat.zero_add]
                    refine calm_quiet (v := .bool (false)) (by rfl) (by rfl) (fun W hW hD => ?_) ?_
                    · obtain rfl : v149 = .bool (checkB R m k r q) := hD [] 13 (by kernel_rfl) (by kernel_rfl) (by kernel_rfl)
                      rw [hcb]
                      clear hD hW
                      go_simp
                    simp only [Act.put, List.setIfInBounds_toArray, List.set_cons_zero, List.set_cons_succ, Nat.reduceAdd, Nat.zero_add]
                    iterate 1 (refine calm_quiet (v := ?_) (by rfl) (by rfl) (fun W hW hD => ?_) ?_; rotate_left; (· (clear hD hW; go_simp; try with_reducible rfl)); simp only [Act.put, List.setIfInBounds_toArray, List.set_cons_zero, List.set_cons_succ, Nat.reduceAdd, Nat.zero_add])
                    refine calm_nil fun W hW hF => ?_
                    obtain ⟨z0, z1, z2⟩ := HQ.out W hW
                    obtain ⟨e0, e1, e2, e3, e4⟩ := z2
                    have HW2 := Lib.hid (HWq.out.step (grown_below hW))
                    clear hF hW HWq HQ ct z0 z1 hcb
                    go_wp2_with fail
                    refine (refEncode_any r _ hrt).mono ?_
                    rintro e w11 ⟨rfl, hb⟩
                    rw [HE.out]
                    simp only
                    have HW3 := Lib.hid (HW2.out.step hb)
                    clear hb HW2 e0 e1 e2 e3 e4
                    generalize encR r = er at *
                    have hwl := wayF_len q.reverse m k er
                    have hwe := wayF_el q.reverse m k er (by omega) (fun x hx => HQl.out.2 x (List.mem_reverse.1 hx))
                    rw [List.length_reverse] at hwl
                    go_wp2_with fail
                    refine (refWay_any q.reverse m k er _ _ (by omega) (by omega) (by omega) (fun x hx => HQl.out.2 x (List.mem_reverse.1 hx)) (by rw [List.length_reverse, ← HQN.out]; omega) (by rw [List.reverse_reverse]; exact (show StrsN (.slice qa qn qc) q _ from HW3.out.get (by simp)))).mono ?_
                    rintro e w12 ⟨vw, rfl, hO, hb⟩
                    generalize (wayF q.reverse m k er).2 = wv at *
                    generalize (wayF q.reverse m k er).1 = wl at *
                    have HW4 := Lib.hid ((HW3.out.step hb).add (P := OwnsN 0 vw wl) (keep_owns (hO.mono (Nat.zero_le _))))
                    have HWe := Lib.hid hwe
                    have hwl1 : wl.length ≤ 2000 := by have := hwl.1; rw [← HQN.out] at this; omega
                    have HOa := Lib.hid (show OwnsN 0 va HL w12 from HW4.out.get (by simp))
                    have HOw : Hid (∀ W, Below w12.heap.size w12 W → OwnsN 0 vw wl W) := fun W hb => (HW4.out.step hb).get (by simp)
                    clear hb hO HW3 hwe hwl
                    go_wp2_with (first | (at_builtin; refine append_SS rfl _ _ rfl w12.heap.size 0 _ _ HL wl rfl rfl HO3.out (HOw.out _ HB3.out) (by omega) HB3.out.size w12 HB3.out ?_; intro v6 w14 hO4 hg4 hb4; have HO4 := Lib.hid hO4; have HB4 := Lib.hid hb4; clear hO4 hg4 hb4) | (at_builtin; refine append_SS rfl _ _ rfl w12.heap.size 0 _ _ [] HL rfl rfl (ownS_lit0 w12 w12.heap.size (Nat.le_refl _)) (World.ownsRow.alloc HOa.out _) (by simp only [List.length_nil]; omega) (by simp) w12 ((Below.refl _ _).alloc (Nat.le_refl _) _) ?_; intro v5 w13 hO3 hg3 hb3; rw [List.nil_append] at hO3; have HO3 := Lib.hid hO3; have HB3 := Lib.hid hb3; clear hO3 hg3 hb3))
                    refine (out_any _ (HL ++ wl) _ HO4.out.strs (fun x hx => by rcases List.mem_append.1 hx with hx | hx; exact Nat.le_trans (HHe.out x hx) (by omega); exact HWe.out x hx) (by rw [List.length_append]; omega)).mono ?_
                    rintro e w15 ⟨rfl, hb⟩
                    rw [HOut.out]
                    have HW5 := Lib.hid (((HW4.out.step (HB4.out)).step hb).sub (Qs := [ThreeV (gx + 1) (.slice pa PN pc) (.slice fa FN fc) (.slice ba PN bc), RecN gx r, TwoR g1 re lj, OwnsN 0 va HL, OwnsN 0 (.slice ba PN bc) BL, OwnsN 0 (.slice fa FN fc) F, OwnsN 0 (.slice pa PN pc) PL, RecsN (.slice (some ⟨b, off, none⟩) m rc) l, BookN B O (.slice (some ⟨b, off, none⟩) m rc), FourN w.heap.size y]) (fun Q hQ => List.mem_cons_of_mem _ (List.mem_cons_of_mem _ hQ)))
                    clear hb HW4 HO4 HB4 HO3 HB3 HOw HOa
                    go_wp2
                    go_roundw
                    case rel => exact ⟨j3 + 1, by omega, by go_num, HW5⟩
                    case measure => simp [intOf]; omega
                · rw [hrl] at HEq
                  have HW2 : Hid (∀ n, LiveP w [ThreeV (gx + 1) (.slice pa PN pc) (.slice fa FN fc) (.slice ba PN bc), RecN gx r, TwoR g1 re lj, OwnsN 0 va HL, OwnsN 0 (.slice ba PN bc) BL, OwnsN 0 (.slice fa FN fc) F, OwnsN 0 (.slice pa PN pc) PL, RecsN (.slice (some ⟨b, off, none⟩) m rc) l, BookN B O (.slice (some ⟨b, off, none⟩) m rc), FourN w.heap.size y] (wr.drewN n)) := fun n => (HWq.out.step (below_drewN0 (Below.refl _ _) n)).sub (fun Q hQ => List.mem_cons_of_mem _ hQ)
                  have HW0 := Lib.hid (HWq.out.sub (Qs := [ThreeV (gx + 1) (.slice pa PN pc) (.slice fa FN fc) (.slice ba PN bc), RecN gx r, TwoR g1 re lj, OwnsN 0 va HL, OwnsN 0 (.slice ba PN bc) BL, OwnsN 0 (.slice fa FN fc) F, OwnsN 0 (.slice pa PN pc) PL, RecsN (.slice (some ⟨b, off, none⟩) m rc) l, BookN B O (.slice (some ⟨b, off, none⟩) m rc), FourN w.heap.size y]) (fun Q hQ => List.mem_cons_of_mem _ hQ))
                  obtain ⟨z0, z1, z2⟩ := HQ.out wr (World.grownBy.refl _ _)
                  obtain ⟨y0, y1, y2, y3, y4⟩ := z1
                  obtain ⟨e0, e1, e2, e3, e4⟩ := z2
                  clear HUs hrl HWq HQ
                  go_wp2
                  go_quiet (fail)
                  go_wp2
                  go_roundw
                  case rel => exact ⟨j3 + 1, by omega, by go_num, Lib.hid (HW2.out _)⟩
                  case measure => simp [intOf]; omega
              · obtain rfl : j3 = 3 := by omega
                have HWy := Lib.hid (HW.out.sub (Qs := [TwoR g1 re lj, OwnsN 0 va HL, OwnsN 0 (.slice ba PN bc) BL, OwnsN 0 (.slice fa FN fc) F, OwnsN 0 (.slice pa PN pc) PL, RecsN (.slice (some ⟨b, off, none⟩) m rc) l, BookN B O (.slice (some ⟨b, off, none⟩) m rc), FourN w.heap.size y]) (fun Q hQ => List.mem_cons_of_mem _ (List.mem_cons_of_mem _ hQ)))
                go_wp2
                go_roundw
                case rel => exact ⟨j + 1, by omega, by go_num, HWy⟩
                case measure => simp [intOf]; omega
          · obtain rfl : j = 2 := by omega
            have HBl2 := Lib.hid HW.out.below
            go_wp2
            go_ret
            exact ⟨rfl, HBl2.out⟩
      · have g0 : (0 : Int) < (PN : Int) := by omega
        have g1 : ¬ ((0 : Int) < (FN : Int)) := by omega
        clear hp0 hcase
        go_wp2_with (at_builtin; refine append_SS rfl _ _ rfl w6.heap.size 0 _ _ [] PL rfl rfl (ownS_lit0 w6 w6.heap.size (Nat.le_refl _)) (World.ownsRow.alloc HOp.out _) (by simp only [List.length_nil]; rw [HPN.out]; omega) (by simp) w6 ((Below.refl _ _).alloc (Nat.le_refl _) _) ?_; intro vb w7 hO7 hg7 hb7; rw [List.nil_append] at hO7; obtain ⟨ba, bc, hvb, _, _⟩ := hO7.shape2; rw [HPN.out] at hvb; subst hvb; have b1 := show BookN B O (.slice (some ⟨b, off, none⟩) m rc) w7 from (HL6.out.step hb7).get (by simp); rw [hB] at b1; have q0 := b1.c0; have q1 := b1.c1; clear b1; have HO7 := Lib.hid hO7; have HB7 := Lib.hid hb7; clear hO7 hg7 hb7)
        clear HOp
        obtain ⟨BL, hBL⟩ : ∃ x, x = PL := ⟨_, rfl⟩
        have HL7 := Lib.hid (((HL6.out.step HB7.out).add (P := OwnsN 0 (.slice ba PN bc) BL) (keep_owns (by rw [hBL]; exact HO7.out.mono (Nat.zero_le _)))))
        have HBe : Hid (∀ x ∈ BL, x.length ≤ 1000) := by rw [hBL]; exact HSmP.out.2
        have HBl : Hid (BL.length = PN) := by rw [hBL]; exact HPN.out
        clear HO7 HB7 HL6 hBL
        obtain ⟨W7, hW7⟩ : ∃ x, x = w7 := ⟨_, rfl⟩
        rw [← hW7] at HL7 ⊢
        clear hW7
        refine (refCodes_any O _ l _ (show RecsN (.slice (some ⟨b, off, none⟩) m rc) l _ from HL7.out.get (by simp)) (by rw [HM.out]; omega) HTx.out).mono ?_
        rintro e w8 ⟨vc, rfl, hO, hb⟩
        rw [HCo.out] at hO
        have HL8 := Lib.hid (HL7.out.step hb)
        have HOc := Lib.hid hO
        clear hb hO HL7 q0 q1 g0
        go_wp2_with fail
        refine (hashed_any C.length C vc _ (Nat.le_refl _) HSmC.out HOc.out.strs).mono ?_
        rintro e w9 ⟨va, rfl, hO, hb⟩
        rw [HHH.out] at hO
        have HL9 := Lib.hid ((HL8.out.step hb).add (P := OwnsN 0 va HL) (keep_owns (hO.mono (Nat.zero_le _))))
        clear hb hO HL8 HOc
        have HQ : Hid (∀ W, w9.grownBy W none → W.cell? ⟨w2.heap.size, 1, none⟩ = some (.slice (some ⟨b, off, none⟩) m rc) ∧ RecAt W b (off + k * 5) lk ∧ RecAt W b (off + j2 * 5) lj ∧ (W.cell? ⟨w.heap.size, 0, none⟩ = some (.int .i64 (y 0)) ∧ W.cell? ⟨w.heap.size, 1, none⟩ = some (.int .i64 (y 1)) ∧ W.cell? ⟨w.heap.size, 2, none⟩ = some (.int .i64 (y 2)) ∧ W.cell? ⟨w.heap.size, 3, none⟩ = some (.int .i64 (y 3)))) := fun W hW => by
          have hL := HL9.out.step (grown_below hW)
          have hb := show BookN B O (.slice (some ⟨b, off, none⟩) m rc) W from hL.get (by simp)
          rw [hB] at hb
          have hr := show RecsN (.slice (some ⟨b, off, none⟩) m rc) l W from hL.get (by simp)
          have h1 := hr.cells k (by rw [HM.out]; omega)
          have h2 := hr.cells j2 (by rw [HM.out]; omega)
          rw [← HLK.out] at h1
          rw [← HLJ.out] at h2
          exact ⟨hb.c1, h1, h2, (show FourBox W w.heap.size y from (show FourN w.heap.size y W from hL.get (by simp))).cells⟩
        go_wp2
        refine wp_region_calm ⟨[7, 12, 15], PrvF w9.heap.size re lj j2, fun _ => [], 99, none, 1000⟩ (by kernel_rfl) (by kernel_rfl) (by kernel_rfl) (fun g h => by cases h) (fun k hk v W W' c h hg hc => prvF_kept h hg fun g hh => ?_) ?_
        · obtain ⟨_, _, i, j, u, hd, _⟩ := hc g hh
          simp at hd
        iterate 7 (refine calm_quiet (v := ?_) (by rfl) (by rfl) (fun W hW hD => ?_) ?_; rotate_left; (· (obtain ⟨z0, ⟨y0, y1, y2, y3, y4⟩, ⟨x0, x1, x2, x3, x4⟩, f0, f1, f2, f3⟩ := HQ.out W hW; clear hD hW; go_simp; try with_reducible rfl)); simp only [Act.put, List.setIfInBounds_toArray, List.set_cons_zero, List.set_cons_succ, Nat.reduceAdd, Nat.zero_add])
        refine calm_makes (by rfl) (by rfl) (fun W hW hD Kc hK => ?_) (fun v113 => ?_)
        · refine wp_of_call (f := 15) ?_ ((HEn.out W).mono ?_)
          · obtain ⟨z0, ⟨y0, y1, y2, y3, y4⟩, ⟨x0, x1, x2, x3, x4⟩, f0, f1, f2, f3⟩ := HQ.out W hW
            clear hD hW
            go_simp
          · rintro e w5 ⟨rfl, hb5⟩
            exact ⟨_, rfl, hK _ _ (made_plain rfl hb5 rfl)⟩
        simp only [Act.put, List.setIfInBounds_toArray, List.set_cons_zero, List.set_cons_succ, Nat.reduceAdd, Nat.zero_add]
        iterate 4 (refine calm_quiet (v := ?_) (by rfl) (by rfl) (fun W hW hD => ?_) ?_; rotate_left; (· (obtain ⟨z0, ⟨y0, y1, y2, y3, y4⟩, ⟨x0, x1, x2, x3, x4⟩, f0, f1, f2, f3⟩ := HQ.out W hW; clear hD hW; go_simp; try with_reducible rfl)); simp only [Act.put, List.setIfInBounds_toArray, List.set_cons_zero, List.set_cons_succ, Nat.reduceAdd, Nat.zero_add])
        refine calm_makes (by rfl) (by rfl) (fun W hW hD Kc hK => ?_) (fun v118 => ?_)
        · refine wp_of_call (f := 19) ?_ ((HPam.out W).mono ?_)
          · clear hD hW hK
            go_simp
          · rintro e w5 ⟨rfl, rfl⟩
            exact ⟨_, rfl, hK _ _ (made_plain rfl (Below.refl _ _) rfl)⟩
        simp only [Act.put, List.setIfInBounds_toArray, List.set_cons_zero, List.set_cons_succ, Nat.reduceAdd, Nat.zero_add]
        refine calm_quiet (v := .pointer (some ⟨b, off + j2 * 5, none⟩)) (by rfl) (by rfl) (fun W hW hD => ?_) ?_
        · obtain rfl : v118 = .int .i64 j2 := hD [] 12 (by kernel_rfl) (by kernel_rfl) (by kernel_rfl)
          clear hD hW
          go_simp
        simp only [Act.put, List.setIfInBounds_toArray, List.set_cons_zero, List.set_cons_succ, Nat.reduceAdd, Nat.zero_add]
        refine calm_quiet (v := recV lj) (by rfl) (by rfl) (fun W hW hD => ?_) ?_
        · obtain ⟨z0, ⟨y0, y1, y2, y3, y4⟩, ⟨x0, x1, x2, x3, x4⟩, f0, f1, f2, f3⟩ := HQ.out W hW
          clear hD hW
          go_simp
        simp only [Act.put, List.setIfInBounds_toArray, List.set_cons_zero, List.set_cons_succ, Nat.reduceAdd, Nat.zero_add]
        refine calm_makes (by rfl) (by rfl) (fun W hW hD Kc hK => ?_) (fun v121 => ?_)
        · obtain rfl : v113 = recV re := hD [] 7 (by kernel_rfl) (by kernel_rfl) (by kernel_rfl)
          refine wp_of_run (v := .slice (some ⟨W.heap.size, 0, none⟩) 2 2) (w' := W.alloc (.cells #[.int .i64 re.sec, .int .i64 re.kind, .int .i64 re.a, .int .i64 re.b, .string (bs re.text), .int .i64 lj.sec, .int .i64 lj.kind, .int .i64 lj.a, .int .i64 lj.b, .string (bs lj.text)] 27)) ?_ (hK _ _ (made_below ⟨W.heap.size, rfl, hW.size, heap_alloc_new W _⟩ ((Below.refl _ _).alloc (Nat.le_refl _) _) (fun g hg => ?_)))
          · clear hD hW hK
            go_simp
          · have hg' : some W.heap.size = some g := hg
            cases hg'
            exact ⟨Nat.le_refl _, by simp⟩
        simp only [Act.put, List.setIfInBounds_toArray, List.set_cons_zero, List.set_cons_succ, Nat.reduceAdd, Nat.zero_add]
        refine calm_quiet (v := .int .i64 2) (by rfl) (by rfl) (fun W hW hD => ?_) ?_
        · obtain ⟨q, rfl, _, hq⟩ : ∃ q, v121 = .slice (some ⟨q, 0, none⟩) 2 2 ∧ w9.heap.size ≤ q ∧ TwoR q re lj W := hD [] 15 (by kernel_rfl) (by kernel_rfl) (by kernel_rfl)
          clear hD hW
          go_simp
        simp only [Act.put, List.setIfInBounds_toArray, List.set_cons_zero, List.set_cons_succ, Nat.reduceAdd, Nat.zero_add]
        iterate 1 (refine calm_quiet (v := ?_) (by rfl) (by rfl) (fun W hW hD => ?_) ?_; rotate_left; (· (clear hD hW; go_simp; try with_reducible rfl)); simp only [Act.put, List.setIfInBounds_toArray, List.set_cons_zero, List.set_cons_succ, Nat.reduceAdd, Nat.zero_add])
        refine calm_nil fun W hW hF => ?_
        obtain ⟨g1, hv121, _, hq⟩ : ∃ q, v121 = .slice (some ⟨q, 0, none⟩) 2 2 ∧ w9.heap.size ≤ q ∧ TwoR q re lj W := hF 15 (by kernel_rfl) (by kernel_rfl)
        subst hv121
        have HWx := Lib.hid ((HL9.out.step (grown_below hW)).add (P := TwoR g1 re lj) (keep_twoR hq))
        clear hF hW hq HL9 HQ
        go_wp2
        go_loopw [123] (fun i wr => ∃ j : Nat, j ≤ 2 ∧ i = .int .i64 j ∧ Hid (LiveP w [TwoR g1 re lj, OwnsN 0 va HL, OwnsN 0 (.slice ba PN bc) BL, OwnsN 0 (.slice fa FN fc) F, OwnsN 0 (.slice pa PN pc) PL, RecsN (.slice (some ⟨b, off, none⟩) m rc) l, BookN B O (.slice (some ⟨b, off, none⟩) m rc), FourN w.heap.size y] wr)) (fun i _ => 2 - (intOf i).toNat)
        case atStart => exact ⟨0, by omega, rfl, HWx⟩
        case round =>
          clear HWx
          obtain ⟨j, hj, rfl, HW⟩ := hrel
          by_cases h1 : j < 2
          · have ji : (j : Int) < 2 := by omega
            have j0 : 0 ≤ (j : Int) := by omega
            obtain ⟨d0, d1, d2, d3, d4⟩ := (show TwoR g1 re lj wr from HW.out.get (by simp)).cell j h1
            generalize one2 re lj j = r at *
            have hW2 := (HW.out.alloc (.cells #[.int .i64 r.sec, .int .i64 r.kind, .int .i64 r.a, .int .i64 r.b, .string (bs r.text)] 27)).add (P := RecN wr.heap.size r) (keep_rec (recBox_new wr r))
            have hth := three_new (wr.alloc (.cells #[.int .i64 r.sec, .int .i64 r.kind, .int .i64 r.a, .int .i64 r.b, .string (bs r.text)] 27)) (.slice pa PN pc) (.slice fa FN fc) (.slice ba PN bc)
            rw [World.size_alloc] at hth
            have HWx := Lib.hid ((hW2.alloc (.cells #[.slice pa PN pc, .slice fa FN fc, .slice ba PN bc] 45)).add (P := ThreeV (wr.heap.size + 1) (.slice pa PN pc) (.slice fa FN fc) (.slice ba PN bc)) (keep_three hth))
            clear hW2 hth HW
            go_wp2
            obtain ⟨gx, hgx⟩ : ∃ g, g = wr.heap.size := ⟨_, rfl⟩
            rw [← hgx] at HWx ⊢
            clear hgx d0 d1 d2 d3 d4
            have HEq := fun W : World => run_eqlRec r lk W
            go_loopw [132] (fun i wr => ∃ j3 : Nat, j3 ≤ 3 ∧ i = .int .i64 j3 ∧ Hid (LiveP w [ThreeV (gx + 1) (.slice pa PN pc) (.slice fa FN fc) (.slice ba PN bc), RecN gx r, TwoR g1 re lj, OwnsN 0 va HL, OwnsN 0 (.slice ba PN bc) BL, OwnsN 0 (.slice fa FN fc) F, OwnsN 0 (.slice pa PN pc) PL, RecsN (.slice (some ⟨b, off, none⟩) m rc) l, BookN B O (.slice (some ⟨b, off, none⟩) m rc), FourN w.heap.size y] wr)) (fun i _ => 3 - (intOf i).toNat)
            case atStart => exact ⟨0, by omega, rfl, HWx⟩
            case round =>
              clear HWx
              obtain ⟨j3, hj3, rfl, HW⟩ := hrel
              by_cases h3 : j3 < 3
              · have ji3 : (j3 : Int) < 3 := by omega
                have j30 : 0 ≤ (j3 : Int) := by omega
                have ct := (show ThreeV (gx + 1) (.slice pa PN pc) (.slice fa FN fc) (.slice ba PN bc) wr from HW.out.get (by simp)).cell j3 h3
                have hst := strs3 (show StrsN (.slice pa PN pc) PL wr from (show OwnsN 0 (.slice pa PN pc) PL wr from HW.out.get (by simp)).strs) (show StrsN (.slice fa FN fc) F wr from (show OwnsN 0 (.slice fa FN fc) F wr from HW.out.get (by simp)).strs) (show StrsN (.slice ba PN bc) BL wr from (show OwnsN 0 (.slice ba PN bc) BL wr from HW.out.get (by simp)).strs) j3
                have hql : (one3 PL F BL j3).length ≤ 1000 ∧ ∀ x ∈ one3 PL F BL j3, x.length ≤ 1000 := by
                  unfold one3
                  split
                  · exact ⟨by rw [HPN.out]; omega, HSmP.out.2⟩
                  · split
                    · exact ⟨by rw [HFN.out]; omega, fun x hx => by have := HFe.out x hx; omega⟩
                    · exact ⟨by rw [HBl.out]; omega, HBe.out⟩
                obtain ⟨qa, qc, hqv, hqc1, hqc2⟩ := (show StrsAt wr.heap.size wr _ _ from hst).shape
                rw [hqv] at ct hst
                unfold maxLen at hqc2
                generalize one3 PL F BL j3 = q at *
                have HQl := Lib.hid hql
                obtain ⟨qn, hqn⟩ : ∃ n, n = q.length := ⟨_, rfl⟩
                rw [← hqn] at ct hst hqc1
                have hqb : qn ≤ 1000 := by rw [hqn]; exact hql.1
                have HQN := Lib.hid hqn
                have hWq := HW.out.add (P := StrsN (.slice qa qn qc) q) (keep_strs hst)
                have b1 := show BookN B O (.slice (some ⟨b, off, none⟩) m rc) wr from HW.out.get (by simp)
                rw [hB] at b1
                have HQ : Hid (∀ W, wr.grownBy W none → W.cell? ⟨w2.heap.size, 1, none⟩ = some (.slice (some ⟨b, off, none⟩) m rc) ∧ RecAt W b (off + k * 5) lk ∧ RecAt W gx 0 r) := fun W hW => by
                  have hL := HW.out.step (grown_below hW)
                  have hb := show BookN B O (.slice (some ⟨b, off, none⟩) m rc) W from hL.get (by simp)
                  rw [hB] at hb
                  have hr := show RecsN (.slice (some ⟨b, off, none⟩) m rc) l W from hL.get (by simp)
                  have h1 := hr.cells k (by rw [HM.out]; omega)
                  rw [← HLK.out] at h1
                  exact ⟨hb.c1, h1, (show RecBox W gx r from (show RecN gx r W from hL.get (by simp))).cells⟩
                have HWq := Lib.hid hWq
                have HUs := Lib.hid (HUse.out r q)
                clear hql hqn hqv hWq b1 hst HW
                cases hrl : (r == lk)
                · rw [hrl] at HEq
                  cases hcb : checkB R m k r q
                  · clear HUs hrl
                    go_wp2
                    refine wp_region_calm ⟨[13], fun _ v _ => v = .bool (checkB R m k r q), fun _ => [], 99, none, 1000⟩ (by kernel_rfl) (by kernel_rfl) (by kernel_rfl) (fun g h => by cases h) (fun k hk v W W' c h hg hc => h) ?_
                    iterate 6 (refine calm_quiet (v := ?_) (by rfl) (by rfl) (fun W hW hD => ?_) ?_; rotate_left; (· (obtain ⟨z0, ⟨y0, y1, y2, y3, y4⟩, ⟨x0, x1, x2, x3, x4⟩⟩ := HQ.out W hW; clear hD hW; go_simp; try with_reducible rfl)); simp only [Act.put, List.setIfInBounds_toArray, List.set_cons_zero, List.set_cons_succ, Nat.reduceAdd, Nat.zero_add])
                    refine calm_quiet (v := .bool false) (by rfl) (by rfl) (fun W hW hD => ?_) ?_
                    · have he := HEq W
                      clear hD hW
                      go_simp
                    simp only [Act.put, List.setIfInBounds_toArray, List.set_cons_zero, List.set_cons_succ, Nat.reduceAdd, Nat.zero_add]
                    iterate 6 (refine calm_quiet (v := ?_) (by rfl) (by rfl) (fun W hW hD => ?_) ?_; rotate_left; (· (obtain ⟨z0, ⟨y0, y1, y2, y3, y4⟩, ⟨x0, x1, x2, x3, x4⟩⟩ := HQ.out W hW; clear hD hW; go_simp; try with_reducible rfl)); simp only [Act.put, List.setIfInBounds_toArray, List.set_cons_zero, List.set_cons_succ, Nat.reduceAdd, Nat.zero_add])
                    refine calm_makes (by rfl) (by rfl) (fun W hW hD Kc hK => ?_) (fun v149 => ?_)
                    · have hLW := HWq.out.step (grown_below hW)
                      refine wp_of_call (f := 29) ?_ ((gcheck_any R m k r _ q W (by omega) (by omega) (show StrsN (.slice qa qn qc) q W from hLW.get (by simp)) (by rw [← HQN.out]; omega) hLW.rounds).mono ?_)
                      · clear hLW
                        obtain ⟨z0, ⟨y0, y1, y2, y3, y4⟩, ⟨x0, x1, x2, x3, x4⟩⟩ := HQ.out W hW
                        clear hD hW
                        clear hK
                        go_simp
                      · rintro e w5 ⟨rfl, hb5⟩
                        exact ⟨_, rfl, hK _ _ (made_plain rfl hb5 rfl)⟩
                    simp only [Act.put, List.setIfInBounds_toArray, List.set_cons_zero, List.set_cons_succ, Nat.reduceAdd, Nat.zero_add]
                    refine calm_quiet (v := .bool (true)) (by rfl) (by rfl) (fun W hW hD => ?_) ?_
                    · obtain rfl : v149 = .bool (checkB R m k r q) := hD [] 13 (by kernel_rfl) (by kernel_rfl) (by kernel_rfl)
                      rw [hcb]
                      clear hD hW
                      go_simp
                    simp only [Act.put, List.setIfInBounds_toArray, List.set_cons_zero, List.set_cons_succ, Nat.reduceAdd, Nat.zero_add]
                    iterate 1 (refine calm_quiet (v := ?_) (by rfl) (by rfl) (fun W hW hD => ?_) ?_; rotate_left; (· (clear hD hW; go_simp; try with_reducible rfl)); simp only [Act.put, List.setIfInBounds_toArray, List.set_cons_zero, List.set_cons_succ, Nat.reduceAdd, Nat.zero_add])
                    refine calm_nil fun W hW hF => ?_
                    have HW2 := Lib.hid ((HWq.out.step (grown_below hW)).sub (Qs := [ThreeV (gx + 1) (.slice pa PN pc) (.slice fa FN fc) (.slice ba PN bc), RecN gx r, TwoR g1 re lj, OwnsN 0 va HL, OwnsN 0 (.slice ba PN bc) BL, OwnsN 0 (.slice fa FN fc) F, OwnsN 0 (.slice pa PN pc) PL, RecsN (.slice (some ⟨b, off, none⟩) m rc) l, BookN B O (.slice (some ⟨b, off, none⟩) m rc), FourN w.heap.size y]) (fun Q hQ => List.mem_cons_of_mem _ hQ))
                    clear hF hW HWq HQ ct
                    go_wp2
                    go_roundw
                    case rel => exact ⟨j3 + 1, by omega, by go_num, HW2⟩
                    case measure => simp [intOf]; omega
                  · obtain ⟨he, hle, hout⟩ := HUs.out hcb hrl
                    have hrt : r.text.length ≤ 1000000 := by
                      unfold checkB recB at hcb
                      simp only [Bool.and_eq_true, decide_eq_true_eq] at hcb
                      omega
                    have HE := Lib.hid he
                    have HOut := Lib.hid hout
                    clear HUs hrl he hout
                    go_wp2
                    refine wp_region_calm ⟨[13], fun _ v _ => v = .bool (checkB R m k r q), fun _ => [], 99, none, 1000⟩ (by kernel_rfl) (by kernel_rfl) (by kernel_rfl) (fun g h => by cases h) (fun k hk v W W' c h hg hc => h) ?_
                    iterate 6 (refine calm_quiet (v := ?_) (by rfl) (by rfl) (fun W hW hD => ?_) ?_; rotate_left; (· (obtain ⟨z0, ⟨y0, y1, y2, y3, y4⟩, ⟨x0, x1, x2, x3, x4⟩⟩ := HQ.out W hW; clear hD hW; go_simp; try with_reducible rfl)); simp only [Act.put, List.setIfInBounds_toArray, List.set_cons_zero, List.set_cons_succ, Nat.reduceAdd, Nat.zero_add])
                    refine calm_quiet (v := .bool false) (by rfl) (by rfl) (fun W hW hD => ?_) ?_
                    · have he := HEq W
                      clear hD hW
                      go_simp
                    simp only [Act.put, List.setIfInBounds_toArray, List.set_cons_zero, List.set_cons_succ, Nat.reduceAdd, Nat.zero_add]
                    iterate 6 (refine calm_quiet (v := ?_) (by rfl) (by rfl) (fun W hW hD => ?_) ?_; rotate_left; (· (obtain ⟨z0, ⟨y0, y1, y2, y3, y4⟩, ⟨x0, x1, x2, x3, x4⟩⟩ := HQ.out W hW; clear hD hW; go_simp; try with_reducible rfl)); simp only [Act.put, List.setIfInBounds_toArray, List.set_cons_zero, List.set_cons_succ, Nat.reduceAdd, Nat.zero_add])
                    refine calm_makes (by rfl) (by rfl) (fun W hW hD Kc hK => ?_) (fun v149 => ?_)
                    · have hLW := HWq.out.step (grown_below hW)
                      refine wp_of_call (f := 29) ?_ ((gcheck_any R m k r _ q W (by omega) (by omega) (show StrsN (.slice qa qn qc) q W from hLW.get (by simp)) (by rw [← HQN.out]; omega) hLW.rounds).mono ?_)
                      · clear hLW
                        obtain ⟨z0, ⟨y0, y1, y2, y3, y4⟩, ⟨x0, x1, x2, x3, x4⟩⟩ := HQ.out W hW
                        clear hD hW
                        clear hK
                        go_simp
                      · rintro e w5 ⟨rfl, hb5⟩
                        exact ⟨_, rfl, hK _ _ (made_plain rfl hb5 rfl)⟩
                    simp only [Act.put, List.setIfInBounds_toArray, List.set_cons_zero, List.set_cons_succ, Nat.reduceAdd, Nat.zero_add]
                    refine calm_quiet (v := .bool (false)) (by rfl) (by rfl) (fun W hW hD => ?_) ?_
                    · obtain rfl : v149 = .bool (checkB R m k r q) := hD [] 13 (by kernel_rfl) (by kernel_rfl) (by kernel_rfl)
                      rw [hcb]
                      clear hD hW
                      go_simp
                    simp only [Act.put, List.setIfInBounds_toArray, List.set_cons_zero, List.set_cons_succ, Nat.reduceAdd, Nat.zero_add]
                    iterate 1 (refine calm_quiet (v := ?_) (by rfl) (by rfl) (fun W hW hD => ?_) ?_; rotate_left; (· (clear hD hW; go_simp; try with_reducible rfl)); simp only [Act.put, List.setIfInBounds_toArray, List.set_cons_zero, List.set_cons_succ, Nat.reduceAdd, Nat.zero_add])
                    refine calm_nil fun W hW hF => ?_
                    obtain ⟨z0, z1, z2⟩ := HQ.out W hW
                    obtain ⟨e0, e1, e2, e3, e4⟩ := z2
                    have HW2 := Lib.hid (HWq.out.step (grown_below hW))
                    clear hF hW HWq HQ ct z0 z1 hcb
                    go_wp2_with fail
                    refine (refEncode_any r _ hrt).mono ?_
                    rintro e w11 ⟨rfl, hb⟩
                    rw [HE.out]
                    simp only
                    have HW3 := Lib.hid (HW2.out.step hb)
                    clear hb HW2 e0 e1 e2 e3 e4
                    generalize encR r = er at *
                    have hwl := wayF_len q.reverse m k er
                    have hwe := wayF_el q.reverse m k er (by omega) (fun x hx => HQl.out.2 x (List.mem_reverse.1 hx))
                    rw [List.length_reverse] at hwl
                    go_wp2_with fail
                    refine (refWay_any q.reverse m k er _ _ (by omega) (by omega) (by omega) (fun x hx => HQl.out.2 x (List.mem_reverse.1 hx)) (by rw [List.length_reverse, ← HQN.out]; omega) (by rw [List.reverse_reverse]; exact (show StrsN (.slice qa qn qc) q _ from HW3.out.get (by simp)))).mono ?_
                    rintro e w12 ⟨vw, rfl, hO, hb⟩
                    generalize (wayF q.reverse m k er).2 = wv at *
                    generalize (wayF q.reverse m k er).1 = wl at *
                    have HW4 := Lib.hid ((HW3.out.step hb).add (P := OwnsN 0 vw wl) (keep_owns (hO.mono (Nat.zero_le _))))
                    have HWe := Lib.hid hwe
                    have hwl1 : wl.length ≤ 2000 := by have := hwl.1; rw [← HQN.out] at this; omega
                    have HOa := Lib.hid (show OwnsN 0 va HL w12 from HW4.out.get (by simp))
                    have HOw : Hid (∀ W, Below w12.heap.size w12 W → OwnsN 0 vw wl W) := fun W hb => (HW4.out.step hb).get (by simp)
                    clear hb hO HW3 hwe hwl
                    go_wp2_with (first | (at_builtin; refine append_SS rfl _ _ rfl w12.heap.size 0 _ _ HL wl rfl rfl HO3.out (HOw.out _ HB3.out) (by omega) HB3.out.size w12 HB3.out ?_; intro v6 w14 hO4 hg4 hb4; have HO4 := Lib.hid hO4; have HB4 := Lib.hid hb4; clear hO4 hg4 hb4) | (at_builtin; refine append_SS rfl _ _ rfl w12.heap.size 0 _ _ [] HL rfl rfl (ownS_lit0 w12 w12.heap.size (Nat.le_refl _)) (World.ownsRow.alloc HOa.out _) (by simp only [List.length_nil]; omega) (by simp) w12 ((Below.refl _ _).alloc (Nat.le_refl _) _) ?_; intro v5 w13 hO3 hg3 hb3; rw [List.nil_append] at hO3; have HO3 := Lib.hid hO3; have HB3 := Lib.hid hb3; clear hO3 hg3 hb3))
                    refine (out_any _ (HL ++ wl) _ HO4.out.strs (fun x hx => by rcases List.mem_append.1 hx with hx | hx; exact Nat.le_trans (HHe.out x hx) (by omega); exact HWe.out x hx) (by rw [List.length_append]; omega)).mono ?_
                    rintro e w15 ⟨rfl, hb⟩
                    rw [HOut.out]
                    have HW5 := Lib.hid (((HW4.out.step (HB4.out)).step hb).sub (Qs := [ThreeV (gx + 1) (.slice pa PN pc) (.slice fa FN fc) (.slice ba PN bc), RecN gx r, TwoR g1 re lj, OwnsN 0 va HL, OwnsN 0 (.slice ba PN bc) BL, OwnsN 0 (.slice fa FN fc) F, OwnsN 0 (.slice pa PN pc) PL, RecsN (.slice (some ⟨b, off, none⟩) m rc) l, BookN B O (.slice (some ⟨b, off, none⟩) m rc), FourN w.heap.size y]) (fun Q hQ => List.mem_cons_of_mem _ (List.mem_cons_of_mem _ hQ)))
                    clear hb HW4 HO4 HB4 HO3 HB3 HOw HOa
                    go_wp2
                    go_roundw
                    case rel => exact ⟨j3 + 1, by omega, by go_num, HW5⟩
                    case measure => simp [intOf]; omega
                · rw [hrl] at HEq
                  have HW2 : Hid (∀ n, LiveP w [ThreeV (gx + 1) (.slice pa PN pc) (.slice fa FN fc) (.slice ba PN bc), RecN gx r, TwoR g1 re lj, OwnsN 0 va HL, OwnsN 0 (.slice ba PN bc) BL, OwnsN 0 (.slice fa FN fc) F, OwnsN 0 (.slice pa PN pc) PL, RecsN (.slice (some ⟨b, off, none⟩) m rc) l, BookN B O (.slice (some ⟨b, off, none⟩) m rc), FourN w.heap.size y] (wr.drewN n)) := fun n => (HWq.out.step (below_drewN0 (Below.refl _ _) n)).sub (fun Q hQ => List.mem_cons_of_mem _ hQ)
                  have HW0 := Lib.hid (HWq.out.sub (Qs := [ThreeV (gx + 1) (.slice pa PN pc) (.slice fa FN fc) (.slice ba PN bc), RecN gx r, TwoR g1 re lj, OwnsN 0 va HL, OwnsN 0 (.slice ba PN bc) BL, OwnsN 0 (.slice fa FN fc) F, OwnsN 0 (.slice pa PN pc) PL, RecsN (.slice (some ⟨b, off, none⟩) m rc) l, BookN B O (.slice (some ⟨b, off, none⟩) m rc), FourN w.heap.size y]) (fun Q hQ => List.mem_cons_of_mem _ hQ))
                  obtain ⟨z0, z1, z2⟩ := HQ.out wr (World.grownBy.refl _ _)
                  obtain ⟨y0, y1, y2, y3, y4⟩ := z1
                  obtain ⟨e0, e1, e2, e3, e4⟩ := z2
                  clear HUs hrl HWq HQ
                  go_wp2
                  go_quiet (fail)
                  go_wp2
                  go_roundw
                  case rel => exact ⟨j3 + 1, by omega, by go_num, Lib.hid (HW2.out _)⟩
                  case measure => simp [intOf]; omega
              · obtain rfl : j3 = 3 := by omega
                have HWy := Lib.hid (HW.out.sub (Qs := [TwoR g1 re lj, OwnsN 0 va HL, OwnsN 0 (.slice ba PN bc) BL, OwnsN 0 (.slice fa FN fc) F, OwnsN 0 (.slice pa PN pc) PL, RecsN (.slice (some ⟨b, off, none⟩) m rc) l, BookN B O (.slice (some ⟨b, off, none⟩) m rc), FourN w.heap.size y]) (fun Q hQ => List.mem_cons_of_mem _ (List.mem_cons_of_mem _ hQ)))
                go_wp2
                go_roundw
                case rel => exact ⟨j + 1, by omega, by go_num, HWy⟩
                case measure => simp [intOf]; omega
          · obtain rfl : j = 2 := by omega
            have HBl2 := Lib.hid HW.out.below
            go_wp2
            go_ret
            exact ⟨rfl, HBl2.out⟩
    · have g0 : (0 : Int) < (PN : Int) := by omega
      have g1 : (0 : Int) < (FN : Int) := by omega
      have hpy2 := HPy.out PN (by omega)
      have HPb := Lib.hid (HPa.out PN (by omega) (by omega))
      obtain ⟨jb, hjb⟩ := Int.eq_ofNat_of_zero_le hpy2.1
      rw [hjb] at HPb hpy2
      clear hjb
      have jb1 : (jb : Int) < (PN : Int) := by omega
      have jb0 : 0 ≤ (jb : Int) := by omega
      obtain ⟨fb, fo, hfa, hfb, hf⟩ := (show OwnsN 0 (.slice fa FN fc) F _ from HL6.out.get (by simp)).strs.at 0 (by rw [HFN.out]; omega)
      subst hfa
      obtain ⟨f0, hf0'⟩ : ∃ x, x = F.getD 0 [] := ⟨_, rfl⟩
      rw [← hf0'] at hf
      have hf0l : f0.length ≤ 1000 := by rw [hf0']; have := HFe.out _ (getD_mem' F [] 0 (by rw [HFN.out]; omega)); omega
      go_wp2_with (at_builtin; refine append_SS rfl _ _ rfl w6.heap.size 0 _ _ [] PL rfl rfl (ownS_lit0 w6 w6.heap.size (Nat.le_refl _)) (World.ownsRow.alloc HOp.out _) (by simp only [List.length_nil]; rw [HPN.out]; omega) (by simp) w6 ((Below.refl _ _).alloc (Nat.le_refl _) _) ?_; intro vb w7 hO7 hg7 hb7; rw [List.nil_append] at hO7; obtain ⟨bb, bc, hvb, hgb, _, _, hbc⟩ := hO7.shape3 (by rw [HPN.out]; omega); rw [HPN.out] at hvb; subst hvb; have HO7 := Lib.hid hO7; have HB7 := Lib.hid hb7; clear hO7 hg7 hb7)
      clear HOp
      have HQf : Hid (∀ W, w7.grownBy W none → W.cell? ⟨fb, fo, none⟩ = some (.string (bs f0))) := fun W hW => ((HB7.out.trans ((grown_below hW).mono HB7.out.size)).cell (p := ⟨fb, fo, none⟩) hfb).trans hf
      clear hf hf0' hpy2 hfb
      refine wp_region_calm ⟨[4], fun k v _ => v = .int .i64 jb, fun _ => [], 99, none, 9⟩ (by kernel_rfl) (by kernel_rfl) (by kernel_rfl) (fun g h => by cases h) (fun k hk v W W' c h hg hc => h) ?_
      iterate 4 (refine calm_quiet (v := ?_) (by rfl) (by rfl) (fun W hW hD => ?_) ?_; rotate_left; (· (clear hD hW; go_simp; try with_reducible rfl)); simp only [Act.put, List.setIfInBounds_toArray, List.set_cons_zero, List.set_cons_succ, Nat.reduceAdd, Nat.zero_add])
      refine calm_makes (by rfl) (by rfl) (fun W hW hD Kc hK => ?_) (fun v98 => ?_)
      · refine wp_of_call (f := 19) ?_ ((HPb.out W).mono ?_)
        · clear hD hW hK
          go_simp
        · rintro e w5 ⟨rfl, rfl⟩
          exact ⟨_, rfl, hK _ _ (made_plain rfl (Below.refl _ _) rfl)⟩
      simp only [Act.put, List.setIfInBounds_toArray, List.set_cons_zero, List.set_cons_succ, Nat.reduceAdd, Nat.zero_add]
      iterate 3 (refine calm_quiet (v := ?_) (by rfl) (by rfl) (fun W hW hD => ?_) ?_; rotate_left; (· (have z0 := HQf.out W hW; clear hD hW; go_simp; try with_reducible rfl)); simp only [Act.put, List.setIfInBounds_toArray, List.set_cons_zero, List.set_cons_succ, Nat.reduceAdd, Nat.zero_add])
      refine calm_quiet (v := .pointer (some ⟨bb, jb, none⟩)) (by rfl) (by rfl) (fun W hW hD => ?_) ?_
      · obtain rfl : v98 = .int .i64 jb := hD [] 4 (by kernel_rfl) (by kernel_rfl) (by kernel_rfl)
        clear hD hW
        go_simp
        try simp [Addr.add]
      simp only [Act.put, List.setIfInBounds_toArray, List.set_cons_zero, List.set_cons_succ, Nat.reduceAdd, Nat.zero_add]
      refine calm_tail (by rfl) fun W hW hF => ?_
      have hbW := grown_below hW
      have hO := HO7.out.below hbW (Nat.le_refl _)
      have hcell := hO.strs
      have cb : W.cell? ⟨bb, jb, none⟩ = some (.string (bs (PL.getD jb []))) := by
        obtain ⟨b', o', ha', _, hc'⟩ := hO.strs.at jb (by rw [HPN.out]; omega)
        cases ha'
        rwa [Nat.zero_add] at hc'
      have fb0 : W.frozen? ⟨bb, jb, none⟩ = false := World.ownsRow.frozenAt (show W.ownsRow w6.heap.size 9 1 (.slice (some ⟨bb, 0, none⟩) PN bc) PN (PL.map fun b => Value.string (bs b)) from by have h := hO; unfold OwnS at h; rwa [HPN.out] at h) jb
      have bW := show BookN B O (.slice (some ⟨b, off, none⟩) m rc) W from (HL6.out.step (HB7.out.trans (hbW.mono HB7.out.size))).get (by simp)
      have ne1 : w2.heap.size ≠ bb := by have := (show BookN B O (.slice (some ⟨b, off, none⟩) m rc) w6 from HL6.out.get (by simp)).lt; omega
      have ne2 : bb ≠ w2.heap.size := fun e => ne1 e.symm
      rw [hB] at bW
      have r0 := bW.c0
      have r1 := bW.c1
      obtain ⟨W7, hW7⟩ : ∃ x, x = W.setCell ⟨bb, jb, none⟩ (.string (bs f0)) := ⟨_, rfl⟩
      obtain ⟨BL, hBL⟩ : ∃ x, x = PL.set jb f0 := ⟨_, rfl⟩
      have hOs : OwnS w6.heap.size W7 (.slice (some ⟨bb, 0, none⟩) PN bc) BL := by rw [hW7, hBL]; exact hO.store HPN.out.symm jb f0
      have hBs : Below w6.heap.size w6 W7 := by rw [hW7]; exact (HB7.out.trans (hbW.mono HB7.out.size)).setCell (p := ⟨bb, jb, none⟩) hgb _
      have HL7 := Lib.hid (((HL6.out.step hBs).add (P := OwnsN 0 (.slice (some ⟨bb, 0, none⟩) PN bc) BL) (keep_owns (hOs.mono (Nat.zero_le _)))))
      have HBe : Hid (∀ x ∈ BL, x.length ≤ 1000) := by
        show ∀ x ∈ BL, x.length ≤ 1000
        rw [hBL]
        intro x hx
        rcases List.mem_or_eq_of_mem_set hx with hx | rfl
        · exact HSmP.out.2 x hx
        · exact hf0l
      have HBl : Hid (BL.length = PN) := by rw [hBL]; show _ = _; rw [List.length_set, HPN.out]
      have HW7 := Lib.hid hW7
      clear hW hF hbW bW hO hcell hOs hBs hBL hW7 HO7 HB7 HL6 HQf HPb hf0l jb1 jb0
      generalize hfa : (some ⟨fb, fo, none⟩ : Option Addr) = fa at *
      generalize hba : (some ⟨bb, 0, none⟩ : Option Addr) = ba at *
      clear hfa hba
      have hL := HL7.out
      have b1 := show BookN B O (.slice (some ⟨b, off, none⟩) m rc) W7 from hL.get (by simp)
      rw [hB] at b1
      have q0 := b1.c0
      have q1 := b1.c1
      rw [HW7.out] at q0 q1
      clear hL b1
      go_wp2_with fail
      rw [← HW7.out]
      refine (refCodes_any O _ l _ (show RecsN (.slice (some ⟨b, off, none⟩) m rc) l _ from HL7.out.get (by simp)) (by rw [HM.out]; omega) HTx.out).mono ?_
      rintro e w8 ⟨vc, rfl, hO, hb⟩
      rw [HCo.out] at hO
      have HL8 := Lib.hid (HL7.out.step hb)
      have HOc := Lib.hid hO
      clear hb hO HL7 q0 q1 g0 g1 cb fb0 ne1 ne2 r0 r1
      go_wp2_with fail
      refine (hashed_any C.length C vc _ (Nat.le_refl _) HSmC.out HOc.out.strs).mono ?_
      rintro e w9 ⟨va, rfl, hO, hb⟩
      rw [HHH.out] at hO
      have HL9 := Lib.hid ((HL8.out.step hb).add (P := OwnsN 0 va HL) (keep_owns (hO.mono (Nat.zero_le _))))
      clear hb hO HL8 HOc
      have HQ : Hid (∀ W, w9.grownBy W none → W.cell? ⟨w2.heap.size, 1, none⟩ = some (.slice (some ⟨b, off, none⟩) m rc) ∧ RecAt W b (off + k * 5) lk ∧ RecAt W b (off + j2 * 5) lj ∧ (W.cell? ⟨w.heap.size, 0, none⟩ = some (.int .i64 (y 0)) ∧ W.cell? ⟨w.heap.size, 1, none⟩ = some (.int .i64 (y 1)) ∧ W.cell? ⟨w.heap.size, 2, none⟩ = some (.int .i64 (y 2)) ∧ W.cell? ⟨w.heap.size, 3, none⟩ = some (.int .i64 (y 3)))) := fun W hW => by
        have hL := HL9.out.step (grown_below hW)
        have hb := show BookN B O (.slice (some ⟨b, off, none⟩) m rc) W from hL.get (by simp)
        rw [hB] at hb
        have hr := show RecsN (.slice (some ⟨b, off, none⟩) m rc) l W from hL.get (by simp)
        have h1 := hr.cells k (by rw [HM.out]; omega)
        have h2 := hr.cells j2 (by rw [HM.out]; omega)
        rw [← HLK.out] at h1
        rw [← HLJ.out] at h2
        exact ⟨hb.c1, h1, h2, (show FourBox W w.heap.size y from (show FourN w.heap.size y W from hL.get (by simp))).cells⟩
      go_wp2
      refine wp_region_calm ⟨[7, 12, 15], PrvF w9.heap.size re lj j2, fun _ => [], 99, none, 1000⟩ (by kernel_rfl) (by kernel_rfl) (by kernel_rfl) (fun g h => by cases h) (fun k hk v W W' c h hg hc => prvF_kept h hg fun g hh => ?_) ?_
      · obtain ⟨_, _, i, j, u, hd, _⟩ := hc g hh
        simp at hd
      iterate 7 (refine calm_quiet (v := ?_) (by rfl) (by rfl) (fun W hW hD => ?_) ?_; rotate_left; (· (obtain ⟨z0, ⟨y0, y1, y2, y3, y4⟩, ⟨x0, x1, x2, x3, x4⟩, f0, f1, f2, f3⟩ := HQ.out W hW; clear hD hW; go_simp; try with_reducible rfl)); simp only [Act.put, List.setIfInBounds_toArray, List.set_cons_zero, List.set_cons_succ, Nat.reduceAdd, Nat.zero_add])
      refine calm_makes (by rfl) (by rfl) (fun W hW hD Kc hK => ?_) (fun v113 => ?_)
      · refine wp_of_call (f := 15) ?_ ((HEn.out W).mono ?_)
        · obtain ⟨z0, ⟨y0, y1, y2, y3, y4⟩, ⟨x0, x1, x2, x3, x4⟩, f0, f1, f2, f3⟩ := HQ.out W hW
          clear hD hW
          go_simp
        · rintro e w5 ⟨rfl, hb5⟩
          exact ⟨_, rfl, hK _ _ (made_plain rfl hb5 rfl)⟩
      simp only [Act.put, List.setIfInBounds_toArray, List.set_cons_zero, List.set_cons_succ, Nat.reduceAdd, Nat.zero_add]
      iterate 4 (refine calm_quiet (v := ?_) (by rfl) (by rfl) (fun W hW hD => ?_) ?_; rotate_left; (· (obtain ⟨z0, ⟨y0, y1, y2, y3, y4⟩, ⟨x0, x1, x2, x3, x4⟩, f0, f1, f2, f3⟩ := HQ.out W hW; clear hD hW; go_simp; try with_reducible rfl)); simp only [Act.put, List.setIfInBounds_toArray, List.set_cons_zero, List.set_cons_succ, Nat.reduceAdd, Nat.zero_add])
      refine calm_makes (by rfl) (by rfl) (fun W hW hD Kc hK => ?_) (fun v118 => ?_)
      · refine wp_of_call (f := 19) ?_ ((HPam.out W).mono ?_)
        · clear hD hW hK
          go_simp
        · rintro e w5 ⟨rfl, rfl⟩
          exact ⟨_, rfl, hK _ _ (made_plain rfl (Below.refl _ _) rfl)⟩
      simp only [Act.put, List.setIfInBounds_toArray, List.set_cons_zero, List.set_cons_succ, Nat.reduceAdd, Nat.zero_add]
      refine calm_quiet (v := .pointer (some ⟨b, off + j2 * 5, none⟩)) (by rfl) (by rfl) (fun W hW hD => ?_) ?_
      · obtain rfl : v118 = .int .i64 j2 := hD [] 12 (by kernel_rfl) (by kernel_rfl) (by kernel_rfl)
        clear hD hW
        go_simp
      simp only [Act.put, List.setIfInBounds_toArray, List.set_cons_zero, List.set_cons_succ, Nat.reduceAdd, Nat.zero_add]
      refine calm_quiet (v := recV lj) (by rfl) (by rfl) (fun W hW hD => ?_) ?_
      · obtain ⟨z0, ⟨y0, y1, y2, y3, y4⟩, ⟨x0, x1, x2, x3, x4⟩, f0, f1, f2, f3⟩ := HQ.out W hW
        clear hD hW
        go_simp
      simp only [Act.put, List.setIfInBounds_toArray, List.set_cons_zero, List.set_cons_succ, Nat.reduceAdd, Nat.zero_add]
      refine calm_makes (by rfl) (by rfl) (fun W hW hD Kc hK => ?_) (fun v121 => ?_)
      · obtain rfl : v113 = recV re := hD [] 7 (by kernel_rfl) (by kernel_rfl) (by kernel_rfl)
        refine wp_of_run (v := .slice (some ⟨W.heap.size, 0, none⟩) 2 2) (w' := W.alloc (.cells #[.int .i64 re.sec, .int .i64 re.kind, .int .i64 re.a, .int .i64 re.b, .string (bs re.text), .int .i64 lj.sec, .int .i64 lj.kind, .int .i64 lj.a, .int .i64 lj.b, .string (bs lj.text)] 27)) ?_ (hK _ _ (made_below ⟨W.heap.size, rfl, hW.size, heap_alloc_new W _⟩ ((Below.refl _ _).alloc (Nat.le_refl _) _) (fun g hg => ?_)))
        · clear hD hW hK
          go_simp
        · have hg' : some W.heap.size = some g := hg
          cases hg'
          exact ⟨Nat.le_refl _, by simp⟩
      simp only [Act.put, List.setIfInBounds_toArray, List.set_cons_zero, List.set_cons_succ, Nat.reduceAdd, Nat.zero_add]
      refine calm_quiet (v := .int .i64 2) (by rfl) (by rfl) (fun W hW hD => ?_) ?_
      · obtain ⟨q, rfl, _, hq⟩ : ∃ q, v121 = .slice (some ⟨q, 0, none⟩) 2 2 ∧ w9.heap.size ≤ q ∧ TwoR q re lj W := hD [] 15 (by kernel_rfl) (by kernel_rfl) (by kernel_rfl)
        clear hD hW
        go_simp
      simp only [Act.put, List.setIfInBounds_toArray, List.set_cons_zero, List.set_cons_succ, Nat.reduceAdd, Nat.zero_add]
      iterate 1 (refine calm_quiet (v := ?_) (by rfl) (by rfl) (fun W hW hD => ?_) ?_; rotate_left; (· (clear hD hW; go_simp; try with_reducible rfl)); simp only [Act.put, List.setIfInBounds_toArray, List.set_cons_zero, List.set_cons_succ, Nat.reduceAdd, Nat.zero_add])
      refine calm_nil fun W hW hF => ?_
      obtain ⟨g1, hv121, _, hq⟩ : ∃ q, v121 = .slice (some ⟨q, 0, none⟩) 2 2 ∧ w9.heap.size ≤ q ∧ TwoR q re lj W := hF 15 (by kernel_rfl) (by kernel_rfl)
      subst hv121
      have HWx := Lib.hid ((HL9.out.step (grown_below hW)).add (P := TwoR g1 re lj) (keep_twoR hq))
      clear hF hW hq HL9 HQ
      go_wp2
      go_loopw [123] (fun i wr => ∃ j : Nat, j ≤ 2 ∧ i = .int .i64 j ∧ Hid (LiveP w [TwoR g1 re lj, OwnsN 0 va HL, OwnsN 0 (.slice ba PN bc) BL, OwnsN 0 (.slice fa FN fc) F, OwnsN 0 (.slice pa PN pc) PL, RecsN (.slice (some ⟨b, off, none⟩) m rc) l, BookN B O (.slice (some ⟨b, off, none⟩) m rc), FourN w.heap.size y] wr)) (fun i _ => 2 - (intOf i).toNat)
      case atStart => exact ⟨0, by omega, rfl, HWx⟩
      case round =>
        clear HWx
        obtain ⟨j, hj, rfl, HW⟩ := hrel
        by_cases h1 : j < 2
        · have ji : (j : Int) < 2 := by omega
          have j0 : 0 ≤ (j : Int) := by omega
          obtain ⟨d0, d1, d2, d3, d4⟩ := (show TwoR g1 re lj wr from HW.out.get (by simp)).cell j h1
          generalize one2 re lj j = r at *
          have hW2 := (HW.out.alloc (.cells #[.int .i64 r.sec, .int .i64 r.kind, .int .i64 r.a, .int .i64 r.b, .string (bs r.text)] 27)).add (P := RecN wr.heap.size r) (keep_rec (recBox_new wr r))
          have hth := three_new (wr.alloc (.cells #[.int .i64 r.sec, .int .i64 r.kind, .int .i64 r.a, .int .i64 r.b, .string (bs r.text)] 27)) (.slice pa PN pc) (.slice fa FN fc) (.slice ba PN bc)
          rw [World.size_alloc] at hth
          have HWx := Lib.hid ((hW2.alloc (.cells #[.slice pa PN pc, .slice fa FN fc, .slice ba PN bc] 45)).add (P := ThreeV (wr.heap.size + 1) (.slice pa PN pc) (.slice fa FN fc) (.slice ba PN bc)) (keep_three hth))
          clear hW2 hth HW
          go_wp2
          obtain ⟨gx, hgx⟩ : ∃ g, g = wr.heap.size := ⟨_, rfl⟩
          rw [← hgx] at HWx ⊢
          clear hgx d0 d1 d2 d3 d4
          have HEq := fun W : World => run_eqlRec r lk W
          go_loopw [132] (fun i wr => ∃ j3 : Nat, j3 ≤ 3 ∧ i = .int .i64 j3 ∧ Hid (LiveP w [ThreeV (gx + 1) (.slice pa PN pc) (.slice fa FN fc) (.slice ba PN bc), RecN gx r, TwoR g1 re lj, OwnsN 0 va HL, OwnsN 0 (.slice ba PN bc) BL, OwnsN 0 (.slice fa FN fc) F, OwnsN 0 (.slice pa PN pc) PL, RecsN (.slice (some ⟨b, off, none⟩) m rc) l, BookN B O (.slice (some ⟨b, off, none⟩) m rc), FourN w.heap.size y] wr)) (fun i _ => 3 - (intOf i).toNat)
          case atStart => exact ⟨0, by omega, rfl, HWx⟩
          case round =>
            clear HWx
            obtain ⟨j3, hj3, rfl, HW⟩ := hrel
            by_cases h3 : j3 < 3
            · have ji3 : (j3 : Int) < 3 := by omega
              have j30 : 0 ≤ (j3 : Int) := by omega
              have ct := (show ThreeV (gx + 1) (.slice pa PN pc) (.slice fa FN fc) (.slice ba PN bc) wr from HW.out.get (by simp)).cell j3 h3
              have hst := strs3 (show StrsN (.slice pa PN pc) PL wr from (show OwnsN 0 (.slice pa PN pc) PL wr from HW.out.get (by simp)).strs) (show StrsN (.slice fa FN fc) F wr from (show OwnsN 0 (.slice fa FN fc) F wr from HW.out.get (by simp)).strs) (show StrsN (.slice ba PN bc) BL wr from (show OwnsN 0 (.slice ba PN bc) BL wr from HW.out.get (by simp)).strs) j3
              have hql : (one3 PL F BL j3).length ≤ 1000 ∧ ∀ x ∈ one3 PL F BL j3, x.length ≤ 1000 := by
                unfold one3
                split
                · exact ⟨by rw [HPN.out]; omega, HSmP.out.2⟩
                · split
                  · exact ⟨by rw [HFN.out]; omega, fun x hx => by have := HFe.out x hx; omega⟩
                  · exact ⟨by rw [HBl.out]; omega, HBe.out⟩
              obtain ⟨qa, qc, hqv, hqc1, hqc2⟩ := (show StrsAt wr.heap.size wr _ _ from hst).shape
              rw [hqv] at ct hst
              unfold maxLen at hqc2
              generalize one3 PL F BL j3 = q at *
              have HQl := Lib.hid hql
              obtain ⟨qn, hqn⟩ : ∃ n, n = q.length := ⟨_, rfl⟩
              rw [← hqn] at ct hst hqc1
              have hqb : qn ≤ 1000 := by rw [hqn]; exact hql.1
              have HQN := Lib.hid hqn
              have hWq := HW.out.add (P := StrsN (.slice qa qn qc) q) (keep_strs hst)
              have b1 := show BookN B O (.slice (some ⟨b, off, none⟩) m rc) wr from HW.out.get (by simp)
              rw [hB] at b1
              have HQ : Hid (∀ W, wr.grownBy W none → W.cell? ⟨w2.heap.size, 1, none⟩ = some (.slice (some ⟨b, off, none⟩) m rc) ∧ RecAt W b (off + k * 5) lk ∧ RecAt W gx 0 r) := fun W hW => by
                have hL := HW.out.step (grown_below hW)
                have hb := show BookN B O (.slice (some ⟨b, off, none⟩) m rc) W from hL.get (by simp)
                rw [hB] at hb
                have hr := show RecsN (.slice (some ⟨b, off, none⟩) m rc) l W from hL.get (by simp)
                have h1 := hr.cells k (by rw [HM.out]; omega)
                rw [← HLK.out] at h1
                exact ⟨hb.c1, h1, (show RecBox W gx r from (show RecN gx r W from hL.get (by simp))).cells⟩
              have HWq := Lib.hid hWq
              have HUs := Lib.hid (HUse.out r q)
              clear hql hqn hqv hWq b1 hst HW
              cases hrl : (r == lk)
              · rw [hrl] at HEq
                cases hcb : checkB R m k r q
                · clear HUs hrl
                  go_wp2
                  refine wp_region_calm ⟨[13], fun _ v _ => v = .bool (checkB R m k r q), fun _ => [], 99, none, 1000⟩ (by kernel_rfl) (by kernel_rfl) (by kernel_rfl) (fun g h => by cases h) (fun k hk v W W' c h hg hc => h) ?_
                  iterate 6 (refine calm_quiet (v := ?_) (by rfl) (by rfl) (fun W hW hD => ?_) ?_; rotate_left; (· (obtain ⟨z0, ⟨y0, y1, y2, y3, y4⟩, ⟨x0, x1, x2, x3, x4⟩⟩ := HQ.out W hW; clear hD hW; go_simp; try with_reducible rfl)); simp only [Act.put, List.setIfInBounds_toArray, List.set_cons_zero, List.set_cons_succ, Nat.reduceAdd, Nat.zero_add])
                  refine calm_quiet (v := .bool false) (by rfl) (by rfl) (fun W hW hD => ?_) ?_
                  · have he := HEq W
                    clear hD hW
                    go_simp
                  simp only [Act.put, List.setIfInBounds_toArray, List.set_cons_zero, List.set_cons_succ, Nat.reduceAdd, Nat.zero_add]
                  iterate 6 (refine calm_quiet (v := ?_) (by rfl) (by rfl) (fun W hW hD => ?_) ?_; rotate_left; (· (obtain ⟨z0, ⟨y0, y1, y2, y3, y4⟩, ⟨x0, x1, x2, x3, x4⟩⟩ := HQ.out W hW; clear hD hW; go_simp; try with_reducible rfl)); simp only [Act.put, List.setIfInBounds_toArray, List.set_cons_zero, List.set_cons_succ, Nat.reduceAdd, Nat.zero_add])
                  refine calm_makes (by rfl) (by rfl) (fun W hW hD Kc hK => ?_) (fun v149 => ?_)
                  · have hLW := HWq.out.step (grown_below hW)
                    refine wp_of_call (f := 29) ?_ ((gcheck_any R m k r _ q W (by omega) (by omega) (show StrsN (.slice qa qn qc) q W from hLW.get (by simp)) (by rw [← HQN.out]; omega) hLW.rounds).mono ?_)
                    · clear hLW
                      obtain ⟨z0, ⟨y0, y1, y2, y3, y4⟩, ⟨x0, x1, x2, x3, x4⟩⟩ := HQ.out W hW
                      clear hD hW
                      clear hK
                      go_simp
                    · rintro e w5 ⟨rfl, hb5⟩
                      exact ⟨_, rfl, hK _ _ (made_plain rfl hb5 rfl)⟩
                  simp only [Act.put, List.setIfInBounds_toArray, List.set_cons_zero, List.set_cons_succ, Nat.reduceAdd, Nat.zero_add]
                  refine calm_quiet (v := .bool (true)) (by rfl) (by rfl) (fun W hW hD => ?_) ?_
                  · obtain rfl : v149 = .bool (checkB R m k r q) := hD [] 13 (by kernel_rfl) (by kernel_rfl) (by kernel_rfl)
                    rw [hcb]
                    clear hD hW
                    go_simp
                  simp only [Act.put, List.setIfInBounds_toArray, List.set_cons_zero, List.set_cons_succ, Nat.reduceAdd, Nat.zero_add]
                  iterate 1 (refine calm_quiet (v := ?_) (by rfl) (by rfl) (fun W hW hD => ?_) ?_; rotate_left; (· (clear hD hW; go_simp; try with_reducible rfl)); simp only [Act.put, List.setIfInBounds_toArray, List.set_cons_zero, List.set_cons_succ, Nat.reduceAdd, Nat.zero_add])
                  refine calm_nil fun W hW hF => ?_
                  have HW2 := Lib.hid ((HWq.out.step (grown_below hW)).sub (Qs := [ThreeV (gx + 1) (.slice pa PN pc) (.slice fa FN fc) (.slice ba PN bc), RecN gx r, TwoR g1 re lj, OwnsN 0 va HL, OwnsN 0 (.slice ba PN bc) BL, OwnsN 0 (.slice fa FN fc) F, OwnsN 0 (.slice pa PN pc) PL, RecsN (.slice (some ⟨b, off, none⟩) m rc) l, BookN B O (.slice (some ⟨b, off, none⟩) m rc), FourN w.heap.size y]) (fun Q hQ => List.mem_cons_of_mem _ hQ))
                  clear hF hW HWq HQ ct
                  go_wp2
                  go_roundw
                  case rel => exact ⟨j3 + 1, by omega, by go_num, HW2⟩
                  case measure => simp [intOf]; omega
                · obtain ⟨he, hle, hout⟩ := HUs.out hcb hrl
                  have hrt : r.text.length ≤ 1000000 := by
                    unfold checkB recB at hcb
                    simp only [Bool.and_eq_true, decide_eq_true_eq] at hcb
                    omega
                  have HE := Lib.hid he
                  have HOut := Lib.hid hout
                  clear HUs hrl he hout
                  go_wp2
                  refine wp_region_calm ⟨[13], fun _ v _ => v = .bool (checkB R m k r q), fun _ => [], 99, none, 1000⟩ (by kernel_rfl) (by kernel_rfl) (by kernel_rfl) (fun g h => by cases h) (fun k hk v W W' c h hg hc => h) ?_
                  iterate 6 (refine calm_quiet (v := ?_) (by rfl) (by rfl) (fun W hW hD => ?_) ?_; rotate_left; (· (obtain ⟨z0, ⟨y0, y1, y2, y3, y4⟩, ⟨x0, x1, x2, x3, x4⟩⟩ := HQ.out W hW; clear hD hW; go_simp; try with_reducible rfl)); simp only [Act.put, List.setIfInBounds_toArray, List.set_cons_zero, List.set_cons_succ, Nat.reduceAdd, Nat.zero_add])
                  refine calm_quiet (v := .bool false) (by rfl) (by rfl) (fun W hW hD => ?_) ?_
                  · have he := HEq W
                    clear hD hW
                    go_simp
                  simp only [Act.put, List.setIfInBounds_toArray, List.set_cons_zero, List.set_cons_succ, Nat.reduceAdd, Nat.zero_add]
                  iterate 6 (refine calm_quiet (v := ?_) (by rfl) (by rfl) (fun W hW hD => ?_) ?_; rotate_left; (· (obtain ⟨z0, ⟨y0, y1, y2, y3, y4⟩, ⟨x0, x1, x2, x3, x4⟩⟩ := HQ.out W hW; clear hD hW; go_simp; try with_reducible rfl)); simp only [Act.put, List.setIfInBounds_toArray, List.set_cons_zero, List.set_cons_succ, Nat.reduceAdd, Nat.zero_add])
                  refine calm_makes (by rfl) (by rfl) (fun W hW hD Kc hK => ?_) (fun v149 => ?_)
                  · have hLW := HWq.out.step (grown_below hW)
                    refine wp_of_call (f := 29) ?_ ((gcheck_any R m k r _ q W (by omega) (by omega) (show StrsN (.slice qa qn qc) q W from hLW.get (by simp)) (by rw [← HQN.out]; omega) hLW.rounds).mono ?_)
                    · clear hLW
                      obtain ⟨z0, ⟨y0, y1, y2, y3, y4⟩, ⟨x0, x1, x2, x3, x4⟩⟩ := HQ.out W hW
                      clear hD hW
                      clear hK
                      go_simp
                    · rintro e w5 ⟨rfl, hb5⟩
                      exact ⟨_, rfl, hK _ _ (made_plain rfl hb5 rfl)⟩
                  simp only [Act.put, List.setIfInBounds_toArray, List.set_cons_zero, List.set_cons_succ, Nat.reduceAdd, Nat.zero_add]
                  refine calm_quiet (v := .bool (false)) (by rfl) (by rfl) (fun W hW hD => ?_) ?_
                  · obtain rfl : v149 = .bool (checkB R m k r q) := hD [] 13 (by kernel_rfl) (by kernel_rfl) (by kernel_rfl)
                    rw [hcb]
                    clear hD hW
                    go_simp
                  simp only [Act.put, List.setIfInBounds_toArray, List.set_cons_zero, List.set_cons_succ, Nat.reduceAdd, Nat.zero_add]
                  iterate 1 (refine calm_quiet (v := ?_) (by rfl) (by rfl) (fun W hW hD => ?_) ?_; rotate_left; (· (clear hD hW; go_simp; try with_reducible rfl)); simp only [Act.put, List.setIfInBounds_toArray, List.set_cons_zero, List.set_cons_succ, Nat.reduceAdd, Nat.zero_add])
                  refine calm_nil fun W hW hF => ?_
                  obtain ⟨z0, z1, z2⟩ := HQ.out W hW
                  obtain ⟨e0, e1, e2, e3, e4⟩ := z2
                  have HW2 := Lib.hid (HWq.out.step (grown_below hW))
                  clear hF hW HWq HQ ct z0 z1 hcb
                  go_wp2_with fail
                  refine (refEncode_any r _ hrt).mono ?_
                  rintro e w11 ⟨rfl, hb⟩
                  rw [HE.out]
                  simp only
                  have HW3 := Lib.hid (HW2.out.step hb)
                  clear hb HW2 e0 e1 e2 e3 e4
                  generalize encR r = er at *
                  have hwl := wayF_len q.reverse m k er
                  have hwe := wayF_el q.reverse m k er (by omega) (fun x hx => HQl.out.2 x (List.mem_reverse.1 hx))
                  rw [List.length_reverse] at hwl
                  go_wp2_with fail
                  refine (refWay_any q.reverse m k er _ _ (by omega) (by omega) (by omega) (fun x hx => HQl.out.2 x (List.mem_reverse.1 hx)) (by rw [List.length_reverse, ← HQN.out]; omega) (by rw [List.reverse_reverse]; exact (show StrsN (.slice qa qn qc) q _ from HW3.out.get (by simp)))).mono ?_
                  rintro e w12 ⟨vw, rfl, hO, hb⟩
                  generalize (wayF q.reverse m k er).2 = wv at *
                  generalize (wayF q.reverse m k er).1 = wl at *
                  have HW4 := Lib.hid ((HW3.out.step hb).add (P := OwnsN 0 vw wl) (keep_owns (hO.mono (Nat.zero_le _))))
                  have HWe := Lib.hid hwe
                  have hwl1 : wl.length ≤ 2000 := by have := hwl.1; rw [← HQN.out] at this; omega
                  have HOa := Lib.hid (show OwnsN 0 va HL w12 from HW4.out.get (by simp))
                  have HOw : Hid (∀ W, Below w12.heap.size w12 W → OwnsN 0 vw wl W) := fun W hb => (HW4.out.step hb).get (by simp)
                  clear hb hO HW3 hwe hwl
                  go_wp2_with (first | (at_builtin; refine append_SS rfl _ _ rfl w12.heap.size 0 _ _ HL wl rfl rfl HO3.out (HOw.out _ HB3.out) (by omega) HB3.out.size w12 HB3.out ?_; intro v6 w14 hO4 hg4 hb4; have HO4 := Lib.hid hO4; have HB4 := Lib.hid hb4; clear hO4 hg4 hb4) | (at_builtin; refine append_SS rfl _ _ rfl w12.heap.size 0 _ _ [] HL rfl rfl (ownS_lit0 w12 w12.heap.size (Nat.le_refl _)) (World.ownsRow.alloc HOa.out _) (by simp only [List.length_nil]; omega) (by simp) w12 ((Below.refl _ _).alloc (Nat.le_refl _) _) ?_; intro v5 w13 hO3 hg3 hb3; rw [List.nil_append] at hO3; have HO3 := Lib.hid hO3; have HB3 := Lib.hid hb3; clear hO3 hg3 hb3))
                  refine (out_any _ (HL ++ wl) _ HO4.out.strs (fun x hx => by rcases List.mem_append.1 hx with hx | hx; exact Nat.le_trans (HHe.out x hx) (by omega); exact HWe.out x hx) (by rw [List.length_append]; omega)).mono ?_
                  rintro e w15 ⟨rfl, hb⟩
                  rw [HOut.out]
                  have HW5 := Lib.hid (((HW4.out.step (HB4.out)).step hb).sub (Qs := [ThreeV (gx + 1) (.slice pa PN pc) (.slice fa FN fc) (.slice ba PN bc), RecN gx r, TwoR g1 re lj, OwnsN 0 va HL, OwnsN 0 (.slice ba PN bc) BL, OwnsN 0 (.slice fa FN fc) F, OwnsN 0 (.slice pa PN pc) PL, RecsN (.slice (some ⟨b, off, none⟩) m rc) l, BookN B O (.slice (some ⟨b, off, none⟩) m rc), FourN w.heap.size y]) (fun Q hQ => List.mem_cons_of_mem _ (List.mem_cons_of_mem _ hQ)))
                  clear hb HW4 HO4 HB4 HO3 HB3 HOw HOa
                  go_wp2
                  go_roundw
                  case rel => exact ⟨j3 + 1, by omega, by go_num, HW5⟩
                  case measure => simp [intOf]; omega
              · rw [hrl] at HEq
                have HW2 : Hid (∀ n, LiveP w [ThreeV (gx + 1) (.slice pa PN pc) (.slice fa FN fc) (.slice ba PN bc), RecN gx r, TwoR g1 re lj, OwnsN 0 va HL, OwnsN 0 (.slice ba PN bc) BL, OwnsN 0 (.slice fa FN fc) F, OwnsN 0 (.slice pa PN pc) PL, RecsN (.slice (some ⟨b, off, none⟩) m rc) l, BookN B O (.slice (some ⟨b, off, none⟩) m rc), FourN w.heap.size y] (wr.drewN n)) := fun n => (HWq.out.step (below_drewN0 (Below.refl _ _) n)).sub (fun Q hQ => List.mem_cons_of_mem _ hQ)
                have HW0 := Lib.hid (HWq.out.sub (Qs := [ThreeV (gx + 1) (.slice pa PN pc) (.slice fa FN fc) (.slice ba PN bc), RecN gx r, TwoR g1 re lj, OwnsN 0 va HL, OwnsN 0 (.slice ba PN bc) BL, OwnsN 0 (.slice fa FN fc) F, OwnsN 0 (.slice pa PN pc) PL, RecsN (.slice (some ⟨b, off, none⟩) m rc) l, BookN B O (.slice (some ⟨b, off, none⟩) m rc), FourN w.heap.size y]) (fun Q hQ => List.mem_cons_of_mem _ hQ))
                obtain ⟨z0, z1, z2⟩ := HQ.out wr (World.grownBy.refl _ _)
                obtain ⟨y0, y1, y2, y3, y4⟩ := z1
                obtain ⟨e0, e1, e2, e3, e4⟩ := z2
                clear HUs hrl HWq HQ
                go_wp2
                go_quiet (fail)
                go_wp2
                go_roundw
                case rel => exact ⟨j3 + 1, by omega, by go_num, Lib.hid (HW2.out _)⟩
                case measure => simp [intOf]; omega
            · obtain rfl : j3 = 3 := by omega
              have HWy := Lib.hid (HW.out.sub (Qs := [TwoR g1 re lj, OwnsN 0 va HL, OwnsN 0 (.slice ba PN bc) BL, OwnsN 0 (.slice fa FN fc) F, OwnsN 0 (.slice pa PN pc) PL, RecsN (.slice (some ⟨b, off, none⟩) m rc) l, BookN B O (.slice (some ⟨b, off, none⟩) m rc), FourN w.heap.size y]) (fun Q hQ => List.mem_cons_of_mem _ (List.mem_cons_of_mem _ hQ)))
              go_wp2
              go_roundw
              case rel => exact ⟨j + 1, by omega, by go_num, HWy⟩
              case measure => simp [intOf]; omega
        · obtain rfl : j = 2 := by omega
          have HBl2 := Lib.hid HW.out.below
          go_wp2
          go_ret
          exact ⟨rfl, HBl2.out⟩
end Go.Proofs.YthfenbdlolbikaaDoor
