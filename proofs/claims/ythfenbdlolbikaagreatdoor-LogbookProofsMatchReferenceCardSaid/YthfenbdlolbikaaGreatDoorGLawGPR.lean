/- LogbookProofsMatchReference: the walk. -/
import Derived.Test.YthfenbdlolbikaaGreatDoorGGprP
set_option linter.unusedVariables false
set_option linter.unusedSimpArgs false
namespace Go.Proofs.YthfenbdlolbikaaGreatDoor
open Go.RowKit Go.Shelf

set_option maxRecDepth 100000 in
set_option maxHeartbeats 40000000 in
theorem lawGPR (o : Int) (xv : Value) (N : Nat) (f : Nat → Nat → Int) (ro : Int) (rrv : Value) (rl : List LRec) (how n at_ kz : Int) (txt : ByteArray) (pv : Value) (pl : List Bytes) (w : World) (ho : I64 o) (hX : FiveAt w.heap.size w xv N f) (hRl : RecsAt w.heap.size w rrv rl) (hh : I64 how) (hn : I64 n) (ha : I64 at_) (hkz : I64 kz) (hP : StrsAt w.heap.size w pv pl) (hT : Rounds w) :
    Calls Tryz.prog 3 #[.int .i64 o, xv, bookV ro rrv, .int .i64 how, .int .i64 n, .int .i64 at_, .int .i64 kz, .string txt, pv] w fun e w' => e = .returned (.bool true) ∧ Below w.heap.size w w' := by
  obtain ⟨⟨xa, xc, rfl, hx1, hx2, hx3⟩, hx4⟩ := id hX
  obtain ⟨rra, rrc, rfl, _, _⟩ := hRl.shape
  obtain ⟨pva, pvc, rfl, _, _⟩ := hP.shape
  obtain ⟨mt, emt, hmt1, hmt2⟩ := cut_min txt 40 (by omega)
  have mt1 : (mt : Int) ≤ (txt.size : Int) := by omega
  have mt0 : 0 ≤ (mt : Int) := by omega
  obtain ⟨TX, hTX⟩ : ∃ x, x = bs_cut txt mt := ⟨_, rfl⟩
  have hTs : TX.length ≤ 40 := by rw [hTX]; unfold bs_cut; rw [blen, ByteArray.size_extract]; omega
  have HTX : Hid (txt.extract 0 mt = bs TX) := by show _ = _; rw [hTX]; rfl
  clear hTX
  have HMa := Lib.hid (fun (W : World) (h : FiveN (.slice xa N xc) N f W) => made_any o _ N f W ho h)
  have HBt := Lib.hid (fun (O : Int) (v : Value) (l : List LRec) (W : World) (h : RecsAt W.heap.size W v l) (hl : l.length ≤ 100000) => bent_any O v l how n at_ W h hl hh hn ha)
  have HCt := Lib.hid (fun (W : World) (h : RecsAt W.heap.size W (.slice rra rl.length rrc) rl) => cut_any ro _ rl W h)
  have HPn := Lib.hid (fun (m : Nat) (h1 : 1 ≤ m) (h2 : m ≤ 1000000) (W : World) => gpick_any n m W hn.1 hn.2 (by omega) (by omega))
  have HPz := Lib.hid (fun (z : Int) (m : Nat) (h1 : 1 ≤ m) => pickZ_bd z m (by omega))
  have HPk := Lib.hid (fun (z : Int) (hz : I64 z) (m : Nat) (h1 : 1 ≤ m) (h2 : m ≤ 1000000) (W : World) => gpick_any z m W hz.1 hz.2 (by omega) (by omega))
  have HKy := Lib.hid (fun W => key_any kz W hkz.1 hkz.2)
  have hkl := keyB_length kz
  generalize keyB kz = KK at *
  have hb0 : Below w.heap.size w (w.alloc (.cells #[.int .i64 ro, .slice rra rl.length rrc] 25)) := (Below.refl _ _).alloc (Nat.le_refl _) _
  have hL0 := ((((LiveP.start hT).add (P := FiveN (.slice xa N xc) N f) (keep_five hX)).add (keep_strs hP)).add (keep_recs hRl)).alloc (.cells #[.int .i64 ro, .slice rra rl.length rrc] 25) |>.add (keep_book (logBox_new w ro (.slice rra rl.length rrc)))
  have HL0 := Lib.hid hL0
  have HN := Lib.hid hn
  have HA := Lib.hid ha
  clear hb0 hL0 hT hRl hP hX hx3 hx4 hh hkz hmt1 hmt2 ho hn ha
  go_enter Tryz.func3, Tryz.ntmps3
  go_wp2_with fail
  refine (gsane_any _ HL0.out.rounds).mono ?_
  rintro e w1 ⟨rfl, hb⟩
  have HL1 := Lib.hid (HL0.out.step hb)
  clear hb HL0
  go_wp2_with fail
  refine (few_any _ pl 6 _ (show StrsN (.slice pva pl.length pvc) pl _ from HL1.out.get (by simp)) (by omega)).mono ?_
  rintro e w2 ⟨vf, rfl, hO, hb⟩
  have hfe := fewL_el pl 6
  have hfl : (fewL pl 6).length ≤ 6 := by rw [fewL_len]; omega
  obtain ⟨fa, fc, hvf, hfc1, hfc2⟩ := hO.shape2
  subst hvf
  generalize fewL pl 6 = F at *
  generalize hfn : F.length = FN at *
  have HFN := Lib.hid hfn
  have HFe := Lib.hid hfe
  have HL2 := Lib.hid ((HL1.out.step hb).add (P := OwnsN 0 (.slice fa FN fc) F) (keep_owns (hO.mono (Nat.zero_le _))))
  clear hb hO HL1 hfn hfe
  go_wp2_with fail
  rw [HTX.out]
  clear emt mt1 mt0
  refine (HMa.out _ (HL2.out.get (by simp))).mono ?_
  rintro e w3 ⟨rv, rfl, hO, hb⟩
  have hs0 := small_made o N f
  have hs1 := small_bent hs0 how n at_
  have hs2 := small_cut ⟨ro, rl⟩
  generalize madeBook o N f = bk at *
  obtain ⟨O, l⟩ := bk
  simp only at hO ⊢
  obtain ⟨ra, rc, hrv, hrc1, hrc2⟩ := hO.shape
  subst hrv
  have hL := (((HL2.out.step hb).add (keep_recs hO.recs)).alloc (.cells #[.int .i64 O, .slice ra l.length rc] 25)).add (keep_book (logBox_new w3 O (.slice ra l.length rc)))
  have HL3 := Lib.hid hL
  clear hb hL hO HL2 HTX
  have HQ : Hid (∀ W, (w3.alloc (.cells #[.int .i64 O, .slice ra l.length rc] 25)).grownBy W none → W.cell? ⟨w3.heap.size, 0, none⟩ = some (.int .i64 O) ∧ W.cell? ⟨w3.heap.size, 1, none⟩ = some (.slice ra l.length rc) ∧ W.cell? ⟨w.heap.size, 0, none⟩ = some (.int .i64 ro) ∧ W.cell? ⟨w.heap.size, 1, none⟩ = some (.slice rra rl.length rrc)) := fun W hW => by
    have hL := HL3.out.step (grown_below hW)
    have h1 := show BookN w3.heap.size O (.slice ra l.length rc) W from hL.get (by simp)
    have h2 := show BookN w.heap.size ro (.slice rra rl.length rrc) W from hL.get (by simp)
    exact ⟨h1.c0, h1.c1, h2.c0, h2.c1⟩
  have hb1n : (bentB ⟨O, l⟩ how n at_).recs.length ≤ 60 := hs1.1
  have HS0 := Lib.hid hs0
  have HS1 := Lib.hid hs1
  have HS2 := Lib.hid hs2
  obtain ⟨V, hV⟩ : ∃ V, V = w3.alloc (.cells #[.int .i64 O, .slice ra l.length rc] 25) := ⟨_, rfl⟩
  rw [← hV] at HL3 HQ
  have HVE := Lib.hid hV
  clear hV hs1 hs2
  go_wp2
  rw [← HVE.out]
  refine wp_region_calm ⟨[5, 7, 8], GmF V.heap.size O (.slice ra l.length rc) (bentB ⟨O, l⟩ how n at_) (cutB ⟨ro, rl⟩), fun _ => [], 99, none, 1000⟩ (by kernel_rfl) (by kernel_rfl) (by kernel_rfl) (fun g h => by cases h) (fun k hk v W W' c h hg hc => gmF_kept h hg fun g hh => ?_) ?_
  · obtain ⟨_, _, i, j, u, hd, _⟩ := hc g hh
    simp at hd
  iterate 5 (refine calm_quiet (v := ?_) (by rfl) (by rfl) (fun W hW hD => ?_) ?_; rotate_left; (· (obtain ⟨z0, z1, z2, z3⟩ := HQ.out W hW; clear hD hW; go_simp; try with_reducible rfl)); simp only [Act.put, List.setIfInBounds_toArray, List.set_cons_zero, List.set_cons_succ, Nat.reduceAdd, Nat.zero_add])
  refine calm_makes (by rfl) (by rfl) (fun W hW hD Kc hK => ?_) (fun v75 => ?_)
  · have hLW := HL3.out.step (grown_below hW)
    refine wp_of_call (f := 8) ?_ ((HBt.out O _ l W (show RecsN (.slice ra l.length rc) l W from hLW.get (by simp)) (by have := HS0.out.1; show l.length ≤ 100000; exact Nat.le_trans this (by omega))).mono ?_)
    · clear hLW hD hW hK
      go_simp
    · rintro e w5 ⟨rb, rfl, hO, hb5⟩
      exact ⟨_, rfl, hK _ _ (made_plain ⟨rb, rfl, hO.mono hW.size⟩ hb5 rfl)⟩
  simp only [Act.put, List.setIfInBounds_toArray, List.set_cons_zero, List.set_cons_succ, Nat.reduceAdd, Nat.zero_add]
  iterate 1 (refine calm_quiet (v := ?_) (by rfl) (by rfl) (fun W hW hD => ?_) ?_; rotate_left; (· (obtain ⟨z0, z1, z2, z3⟩ := HQ.out W hW; clear hD hW; go_simp; try with_reducible rfl)); simp only [Act.put, List.setIfInBounds_toArray, List.set_cons_zero, List.set_cons_succ, Nat.reduceAdd, Nat.zero_add])
  refine calm_makes (by rfl) (by rfl) (fun W hW hD Kc hK => ?_) (fun v77 => ?_)
  · have hLW := HL3.out.step (grown_below hW)
    refine wp_of_call (f := 9) ?_ ((HCt.out W (show RecsN (.slice rra rl.length rrc) rl W from hLW.get (by simp))).mono ?_)
    · clear hLW hD hW hK
      go_simp
    · rintro e w5 ⟨rb, rfl, hO, hb5⟩
      exact ⟨_, rfl, hK _ _ (made_plain ⟨rb, rfl, hO.mono hW.size⟩ hb5 rfl)⟩
  simp only [Act.put, List.setIfInBounds_toArray, List.set_cons_zero, List.set_cons_succ, Nat.reduceAdd, Nat.zero_add]
  refine calm_makes (by rfl) (by rfl) (fun W hW hD Kc hK => ?_) (fun v78 => ?_)
  · obtain ⟨r1, hv1, hO1⟩ : ∃ rv, v75 = bookV (bentB ⟨O, l⟩ how n at_).office rv ∧ OwnG V.heap.size W rv (bentB ⟨O, l⟩ how n at_).recs := hD [] 5 (by kernel_rfl) (by kernel_rfl) (by kernel_rfl)
    obtain ⟨r2, hv2, hO2⟩ : ∃ rv, v77 = bookV (cutB ⟨ro, rl⟩).office rv ∧ OwnG V.heap.size W rv (cutB ⟨ro, rl⟩).recs := hD [] 7 (by kernel_rfl) (by kernel_rfl) (by kernel_rfl)
    subst hv1
    subst hv2
    obtain ⟨a1, c1, hr1, _, _⟩ := hO1.shape
    obtain ⟨a2, c2, hr2, _, _⟩ := hO2.shape
    subst hr1
    subst hr2
    refine wp_of_run (v := .slice (some ⟨W.heap.size, 0, none⟩) 3 3) (w' := W.alloc (.cells #[.int .i64 O, .slice ra l.length rc, .int .i64 (bentB ⟨O, l⟩ how n at_).office, .slice a1 (bentB ⟨O, l⟩ how n at_).recs.length c1, .int .i64 (cutB ⟨ro, rl⟩).office, .slice a2 (cutB ⟨ro, rl⟩).recs.length c2] 25)) ?_ (hK _ _ (made_below ⟨W.heap.size, _, _, rfl, hW.size, heap_alloc_new W _, hO1.below ((Below.refl _ _).alloc (Nat.le_refl _) _) (Nat.le_refl _), hO2.below ((Below.refl _ _).alloc (Nat.le_refl _) _) (Nat.le_refl _)⟩ ((Below.refl _ _).alloc (Nat.le_refl _) _) (fun g hg => ?_)))
    · clear hD hW hK hO1 hO2
      generalize (bentB ⟨O, l⟩ how n at_).office = z1 at *
      generalize (cutB ⟨ro, rl⟩).office = z2 at *
      generalize (bentB ⟨O, l⟩ how n at_).recs.length = z3 at *
      generalize (cutB ⟨ro, rl⟩).recs.length = z4 at *
      go_simp
    · have hg' : some W.heap.size = some g := hg
      cases hg'
      exact ⟨Nat.le_refl _, by simp⟩
  simp only [Act.put, List.setIfInBounds_toArray, List.set_cons_zero, List.set_cons_succ, Nat.reduceAdd, Nat.zero_add]
  refine calm_quiet (v := .int .i64 3) (by rfl) (by rfl) (fun W hW hD => ?_) ?_
  · obtain ⟨g, r1, r2, rfl, _⟩ : ∃ g r1 r2, v78 = .slice (some ⟨g, 0, none⟩) 3 3 ∧ V.heap.size ≤ g ∧ ThreeB g O (.slice ra l.length rc) (bentB ⟨O, l⟩ how n at_).office r1 (cutB ⟨ro, rl⟩).office r2 W ∧ OwnG V.heap.size W r1 (bentB ⟨O, l⟩ how n at_).recs ∧ OwnG V.heap.size W r2 (cutB ⟨ro, rl⟩).recs := hD [] 8 (by kernel_rfl) (by kernel_rfl) (by kernel_rfl)
    clear hD hW
    go_simp
  simp only [Act.put, List.setIfInBounds_toArray, List.set_cons_zero, List.set_cons_succ, Nat.reduceAdd, Nat.zero_add]
  iterate 1 (refine calm_quiet (v := ?_) (by rfl) (by rfl) (fun W hW hD => ?_) ?_; rotate_left; (· (clear hD hW; go_simp; try with_reducible rfl)); simp only [Act.put, List.setIfInBounds_toArray, List.set_cons_zero, List.set_cons_succ, Nat.reduceAdd, Nat.zero_add])
  refine calm_nil fun W hW hF => ?_
  obtain ⟨g, r1, r2, hv78, _, hT3, hO1, hO2⟩ : ∃ g r1 r2, v78 = .slice (some ⟨g, 0, none⟩) 3 3 ∧ V.heap.size ≤ g ∧ ThreeB g O (.slice ra l.length rc) (bentB ⟨O, l⟩ how n at_).office r1 (cutB ⟨ro, rl⟩).office r2 W ∧ OwnG V.heap.size W r1 (bentB ⟨O, l⟩ how n at_).recs ∧ OwnG V.heap.size W r2 (cutB ⟨ro, rl⟩).recs := hF 8 (by kernel_rfl) (by kernel_rfl)
  subst hv78
  have HLy := Lib.hid (((((HL3.out.step (grown_below hW)).add (P := ThreeB g O (.slice ra l.length rc) (bentB ⟨O, l⟩ how n at_).office r1 (cutB ⟨ro, rl⟩).office r2) (keep_threeB hT3)).add (keep_recs hO1.recs)).add (keep_recs hO2.recs)).sub (Qs := [RecsN r2 (cutB ⟨ro, rl⟩).recs, RecsN r1 (bentB ⟨O, l⟩ how n at_).recs, ThreeB g O (.slice ra l.length rc) (bentB ⟨O, l⟩ how n at_).office r1 (cutB ⟨ro, rl⟩).office r2, RecsN (.slice ra l.length rc) l, OwnsN 0 (.slice fa FN fc) F]) (fun Q hQ => by simp at hQ; rcases hQ with rfl | rfl | rfl | rfl | rfl <;> simp))
  clear hF hW hT3 hO1 hO2 HL3 HQ HVE hb1n HBt HCt HMa
  generalize bentB ⟨O, l⟩ how n at_ = b1 at *
  generalize cutB ⟨ro, rl⟩ = b2 at *
  go_wp2
  go_loopw [69] (fun i wr => ∃ j : Nat, j ≤ 3 ∧ i = .int .i64 j ∧ Hid (LiveP w [RecsN r2 b2.recs, RecsN r1 b1.recs, ThreeB g O (.slice ra l.length rc) b1.office r1 b2.office r2, RecsN (.slice ra l.length rc) l, OwnsN 0 (.slice fa FN fc) F] wr)) (fun i _ => 3 - (intOf i).toNat)
  case atStart => exact ⟨0, by omega, rfl, HLy⟩
  case round =>
    clear HLy
    obtain ⟨j, hj, rfl, HW⟩ := hrel
    by_cases h1 : j < 3
    · have jj : (j : Int) < 3 := by omega
      have j0 : 0 ≤ (j : Int) := by omega
      obtain ⟨t0, t1⟩ := (show ThreeB g O (.slice ra l.length rc) b1.office r1 b2.office r2 wr from HW.out.get (by simp)).cell j h1
      have hrs := recs3 (show RecsN (.slice ra l.length rc) l wr from HW.out.get (by simp)) (show RecsN r1 b1.recs wr from HW.out.get (by simp)) (show RecsN r2 b2.recs wr from HW.out.get (by simp)) j
      have hsm : SmallB ⟨one3 O b1.office b2.office j, one3 l b1.recs b2.recs j⟩ := by
        unfold one3
        split
        · exact HS0.out
        · split
          · exact HS1.out
          · exact HS2.out
      generalize one3 O b1.office b2.office j = ob at *
      generalize one3 l b1.recs b2.recs j = lb at *
      obtain ⟨va, vc, hvb, hv1, hv2⟩ := (show RecsAt wr.heap.size wr _ _ from hrs).shape
      rw [hvb] at hrs t1
      unfold maxLen at hv2
      clear hvb
      obtain ⟨bn, hbn⟩ : ∃ x, x = lb.length := ⟨_, rfl⟩
      rw [← hbn] at hrs t1 hv1
      have hbn60 : bn ≤ 60 := by rw [hbn]; exact hsm.1
      have HBN := Lib.hid hbn
      have HSm := Lib.hid hsm.2
      have hL := ((HW.out.add (P := RecsN (.slice va bn vc) lb) (keep_recs hrs)).alloc (.cells #[.int .i64 ob, .slice va bn vc] 25)).add (keep_book (logBox_new wr ob (.slice va bn vc)))
      obtain ⟨G, hG⟩ : ∃ x, x = wr.heap.size := ⟨_, rfl⟩
      rw [← hG] at hL
      have p0 := (show BookN G ob (.slice va bn vc) _ from hL.get (by simp)).c0
      have p1 := (show BookN G ob (.slice va bn vc) _ from hL.get (by simp)).c1
      rw [hG] at p0 p1
      have HL1 := Lib.hid (hL.sub (Qs := [BookN G ob (.slice va bn vc), RecsN (.slice va bn vc) lb, RecsN r2 b2.recs, RecsN r1 b1.recs, ThreeB g O (.slice ra l.length rc) b1.office r1 b2.office r2, RecsN (.slice ra l.length rc) l, OwnsN 0 (.slice fa FN fc) F]) (fun Q hQ => by simp at hQ; rcases hQ with rfl | rfl | rfl | rfl | rfl | rfl | rfl <;> simp))
      obtain ⟨R, hR⟩ : ∃ x, x = (headE ⟨ob, lb⟩).1 := ⟨_, rfl⟩
      obtain ⟨ER, hER⟩ : ∃ x, x = (headE ⟨ob, lb⟩).2 := ⟨_, rfl⟩
      have hRl : R.length ≤ 32 := by rw [hR]; exact headE_le _
      have HR := Lib.hid hR
      have HER := Lib.hid hER
      clear hL hrs hsm hbn HW hR hER
      as_aux_lemma =>
        go_wp2_with fail
        rw [← hG]
        refine (head_any ob _ lb _ (show RecsN (.slice va bn vc) lb _ from HL1.out.get (by simp)) (by rw [← HBN.out]; omega) HL1.out.rounds).mono ?_
        rintro e w4 ⟨rfl, hb⟩
        rw [← HR.out, ← HER.out]
        have HL2 := Lib.hid (HL1.out.step hb)
        clear hb HL1 p0 p1 t0 t1 hG
        have p0 := (show BookN G ob (.slice va bn vc) w4 from HL2.out.get (by simp)).c0
        have p1 := (show BookN G ob (.slice va bn vc) w4 from HL2.out.get (by simp)).c1
        go_wp2_with fail
        refine (refHead_any ob _ lb _ (show RecsN (.slice va bn vc) lb _ from HL2.out.get (by simp)) (by rw [← HBN.out]; omega)).mono ?_
        rintro e w5 ⟨rfl, hb⟩
        rw [← HR.out, ← HER.out]
        have HL3 := Lib.hid (HL2.out.step hb)
        clear hb HL2 p0 p1 HR HER
        go_wp2_with fail
        refine (HKy.out _).mono ?_
        rintro e w6 ⟨rfl, hb⟩
        have HL4 := Lib.hid (((HL3.out.step hb).alloc (.cells #[.string (bs KK), .string (bs TX)] 9)).add (P := TwoN w6.heap.size (bs KK) (bs TX)) (keep_two (two_new w6 (bs KK) (bs TX))))
        clear hb HL3
        go_wp2
        obtain ⟨g2, hg2⟩ : ∃ x, x = w6.heap.size := ⟨_, rfl⟩
        rw [← hg2] at HL4 ⊢
        clear hg2
        go_loopw [96] (fun i wr => ∃ j2 : Nat, j2 ≤ 2 ∧ i = .int .i64 j2 ∧ Hid (LiveP w [TwoN g2 (bs KK) (bs TX), BookN G ob (.slice va bn vc), RecsN (.slice va bn vc) lb, RecsN r2 b2.recs, RecsN r1 b1.recs, ThreeB g O (.slice ra l.length rc) b1.office r1 b2.office r2, RecsN (.slice ra l.length rc) l, OwnsN 0 (.slice fa FN fc) F] wr)) (fun i _ => 2 - (intOf i).toNat)
        case atStart => exact ⟨0, by omega, rfl, HL4⟩
        case round =>
          clear HL4
          obtain ⟨j2, hj2, rfl, HW⟩ := hrel
          by_cases h2 : j2 < 2
          · have ji2 : (j2 : Int) < 2 := by omega
            have j20 : 0 ≤ (j2 : Int) := by omega
            have c0 := (show TwoN g2 (bs KK) (bs TX) wr from HW.out.get (by simp)).cell j2 h2
            rw [one2_map] at c0
            have hkl2 : (one2 KK TX j2).length ≤ 40 := by unfold one2; split <;> omega
            generalize one2 KK TX j2 = kk at *
            have p0 := (show BookN G ob (.slice va bn vc) wr from HW.out.get (by simp)).c0
            have p1 := (show BookN G ob (.slice va bn vc) wr from HW.out.get (by simp)).c1
            obtain ⟨S, hS⟩ : ∃ x, x = (signE kk ⟨ob, lb⟩).1 := ⟨_, rfl⟩
            obtain ⟨ES, hES⟩ : ∃ x, x = (signE kk ⟨ob, lb⟩).2 := ⟨_, rfl⟩
            have HS := Lib.hid hS
            have HES := Lib.hid hES
            clear hS hES
            as_aux_lemma =>
              go_wp2_with fail
              refine (sign_any kk ob _ lb _ (show RecsN (.slice va bn vc) lb _ from HW.out.get (by simp)) (by rw [← HBN.out]; omega) (by omega) HW.out.rounds).mono ?_
              rintro e w7 ⟨rfl, hb⟩
              rw [← HS.out, ← HES.out]
              have HW1 := Lib.hid (HW.out.step hb)
              clear hb HW p0 p1 c0
              have p0 := (show BookN G ob (.slice va bn vc) w7 from HW1.out.get (by simp)).c0
              have p1 := (show BookN G ob (.slice va bn vc) w7 from HW1.out.get (by simp)).c1
              go_wp2_with fail
              refine (refSign_any kk ob _ lb _ (show RecsN (.slice va bn vc) lb _ from HW1.out.get (by simp)) (by rw [← HBN.out]; omega) (by omega)).mono ?_
              rintro e w8 ⟨rfl, hb⟩
              rw [← HS.out, ← HES.out]
              have HW2 := Lib.hid (HW1.out.step hb)
              clear hb HW1 p0 p1 HS HES
              obtain ⟨x1, hx1⟩ : ∃ x, genB kk ob bn R S = x := ⟨_, rfl⟩
              obtain ⟨x2, hx2⟩ : ∃ x, genB kk n at_ TX S = x := ⟨_, rfl⟩
              have HX1 := Lib.hid hx1
              have HX2 := Lib.hid hx2
              have HQ : Hid (∀ W, w8.grownBy W none → W.cell? ⟨G, 0, none⟩ = some (.int .i64 ob) ∧ W.cell? ⟨G, 1, none⟩ = some (.slice va bn vc)) := fun W hW => by
                have h1 := show BookN G ob (.slice va bn vc) W from (HW2.out.step (grown_below hW)).get (by simp)
                exact ⟨h1.c0, h1.c1⟩
              clear hx1 hx2
              go_wp2
              refine wp_region_calm ⟨[17, 26, 35, 41], fun k v _ => if k = 17 then v = .bool x1 else if k = 26 then v = .bool x1 else v = .bool x2, fun _ => [], 99, none, 1000⟩ (by kernel_rfl) (by kernel_rfl) (by kernel_rfl) (fun g h => by cases h) (fun k hk v W W' c h hg hc => h) ?_
              iterate 17 (refine calm_quiet (v := ?_) (by rfl) (by rfl) (fun W hW hD => ?_) ?_; rotate_left; (· (obtain ⟨z0, z1⟩ := HQ.out W hW; clear hD hW; go_simp; try with_reducible rfl)); simp only [Act.put, List.setIfInBounds_toArray, List.set_cons_zero, List.set_cons_succ, Nat.reduceAdd, Nat.zero_add])
              refine calm_makes (by rfl) (by rfl) (fun W hW hD Kc hK => ?_) (fun v129 => ?_)
              · have hLW := HW2.out.step (grown_below hW)
                refine wp_of_call (f := 15) ?_ ((genuine_any kk ob bn R S W hLW.rounds).mono ?_)
                · obtain ⟨z0, z1⟩ := HQ.out W hW
                  clear hD hW hK hLW
                  go_simp
                · rintro e w5 ⟨rfl, hb5⟩
                  exact ⟨_, rfl, hK _ _ (made_plain (by show _ = _; rw [HX1.out]; rfl) hb5 rfl)⟩
              simp only [Act.put, List.setIfInBounds_toArray, List.set_cons_zero, List.set_cons_succ, Nat.reduceAdd, Nat.zero_add]
              iterate 8 (refine calm_quiet (v := ?_) (by rfl) (by rfl) (fun W hW hD => ?_) ?_; rotate_left; (· (obtain ⟨z0, z1⟩ := HQ.out W hW; clear hD hW; go_simp; try with_reducible rfl)); simp only [Act.put, List.setIfInBounds_toArray, List.set_cons_zero, List.set_cons_succ, Nat.reduceAdd, Nat.zero_add])
              refine calm_makes (by rfl) (by rfl) (fun W hW hD Kc hK => ?_) (fun v138 => ?_)
              · have hLW := HW2.out.step (grown_below hW)
                refine wp_of_call (f := 16) ?_ ((refGenuine_any kk ob bn R S W).mono ?_)
                · obtain ⟨z0, z1⟩ := HQ.out W hW
                  clear hD hW hK hLW
                  go_simp
                · rintro e w5 ⟨rfl, hb5⟩
                  exact ⟨_, rfl, hK _ _ (made_plain (by show _ = _; rw [HX1.out]; rfl) hb5 rfl)⟩
              simp only [Act.put, List.setIfInBounds_toArray, List.set_cons_zero, List.set_cons_succ, Nat.reduceAdd, Nat.zero_add]
              refine calm_quiet (v := .bool false) (by rfl) (by rfl) (fun W hW hD => ?_) ?_
              · obtain rfl : v129 = .bool x1 := hD [] 17 (by kernel_rfl) (by kernel_rfl) (by kernel_rfl)
                obtain rfl : v138 = .bool x1 := hD [] 26 (by kernel_rfl) (by kernel_rfl) (by kernel_rfl)
                clear hD hW
                go_simp
                try simp
              simp only [Act.put, List.setIfInBounds_toArray, List.set_cons_zero, List.set_cons_succ, Nat.reduceAdd, Nat.zero_add]
              iterate 7 (refine calm_quiet (v := ?_) (by rfl) (by rfl) (fun W hW hD => ?_) ?_; rotate_left; (· (obtain ⟨z0, z1⟩ := HQ.out W hW; clear hD hW; go_simp; try with_reducible rfl)); simp only [Act.put, List.setIfInBounds_toArray, List.set_cons_zero, List.set_cons_succ, Nat.reduceAdd, Nat.zero_add])
              refine calm_makes (by rfl) (by rfl) (fun W hW hD Kc hK => ?_) (fun v147 => ?_)
              · have hLW := HW2.out.step (grown_below hW)
                refine wp_of_call (f := 15) ?_ ((genuine_any kk n at_ TX S W hLW.rounds).mono ?_)
                · obtain ⟨z0, z1⟩ := HQ.out W hW
                  clear hD hW hK hLW
                  go_simp
                · rintro e w5 ⟨rfl, hb5⟩
                  exact ⟨_, rfl, hK _ _ (made_plain (by show _ = _; rw [HX2.out]; rfl) hb5 rfl)⟩
              simp only [Act.put, List.setIfInBounds_toArray, List.set_cons_zero, List.set_cons_succ, Nat.reduceAdd, Nat.zero_add]
              iterate 5 (refine calm_quiet (v := ?_) (by rfl) (by rfl) (fun W hW hD => ?_) ?_; rotate_left; (· (obtain ⟨z0, z1⟩ := HQ.out W hW; clear hD hW; go_simp; try with_reducible rfl)); simp only [Act.put, List.setIfInBounds_toArray, List.set_cons_zero, List.set_cons_succ, Nat.reduceAdd, Nat.zero_add])
              refine calm_makes (by rfl) (by rfl) (fun W hW hD Kc hK => ?_) (fun v153 => ?_)
              · have hLW := HW2.out.step (grown_below hW)
                refine wp_of_call (f := 16) ?_ ((refGenuine_any kk n at_ TX S W).mono ?_)
                · obtain ⟨z0, z1⟩ := HQ.out W hW
                  clear hD hW hK hLW
                  go_simp
                · rintro e w5 ⟨rfl, hb5⟩
                  exact ⟨_, rfl, hK _ _ (made_plain (by show _ = _; rw [HX2.out]; rfl) hb5 rfl)⟩
              simp only [Act.put, List.setIfInBounds_toArray, List.set_cons_zero, List.set_cons_succ, Nat.reduceAdd, Nat.zero_add]
              refine calm_quiet (v := .bool false) (by rfl) (by rfl) (fun W hW hD => ?_) ?_
              · obtain rfl : v147 = .bool x2 := hD [] 35 (by kernel_rfl) (by kernel_rfl) (by kernel_rfl)
                obtain rfl : v153 = .bool x2 := hD [] 41 (by kernel_rfl) (by kernel_rfl) (by kernel_rfl)
                clear hD hW
                go_simp
                try simp
              simp only [Act.put, List.setIfInBounds_toArray, List.set_cons_zero, List.set_cons_succ, Nat.reduceAdd, Nat.zero_add]
              iterate 1 (refine calm_quiet (v := ?_) (by rfl) (by rfl) (fun W hW hD => ?_) ?_; rotate_left; (· (obtain ⟨z0, z1⟩ := HQ.out W hW; clear hD hW; go_simp; try with_reducible rfl)); simp only [Act.put, List.setIfInBounds_toArray, List.set_cons_zero, List.set_cons_succ, Nat.reduceAdd, Nat.zero_add])
              refine calm_nil fun W hW hF => ?_
              have HW3 := Lib.hid (HW2.out.step (grown_below hW))
              clear hF hW HQ HW2 HX1 HX2
              go_wp2
              go_roundw
              case rel => exact ⟨j2 + 1, by omega, by go_num, HW3⟩
              case measure => simp [intOf]; omega
          · have ji22 : ¬ ((j2 : Int) < 2) := by omega
            have HL5 := Lib.hid (HW.out.sub (Qs := [BookN G ob (.slice va bn vc), RecsN (.slice va bn vc) lb, RecsN r2 b2.recs, RecsN r1 b1.recs, ThreeB g O (.slice ra l.length rc) b1.office r1 b2.office r2, RecsN (.slice ra l.length rc) l, OwnsN 0 (.slice fa FN fc) F]) (fun Q hQ => List.mem_cons_of_mem _ hQ))
            have p0 := (show BookN G ob (.slice va bn vc) wr from HW.out.get (by simp)).c0
            have p1 := (show BookN G ob (.slice va bn vc) wr from HW.out.get (by simp)).c1
            obtain ⟨B1, hB1⟩ : ∃ x, x = bn + 1 := ⟨_, rfl⟩
            have HB1 := Lib.hid hB1
            have hB1a : 1 ≤ B1 := by omega
            have hB1b : B1 ≤ 1000 := by omega
            have wb : IntKind.i64.wrap ((bn : Int) + 1) = (B1 : Int) := by rw [IntWalk.i64_in _ (by omega)]; omega
            have HPB := Lib.hid (HPn.out B1 (by omega) (by omega))
            have hk1 := HPz.out n B1 (by omega)
            generalize pickZ n B1 = K1 at *
            have HK1 : Hid (I64 K1) := by show I64 K1; unfold I64; omega
            clear h2 hj2 HW hB1
            as_aux_lemma =>
              go_wp2_with fail
              refine (HPB.out _).mono ?_
              rintro e w' ⟨rfl, rfl⟩
              have HL6 := Lib.hid ((HL5.out.alloc (.cells #[.int .i64 n, .int .i64 K1] 3)).add (P := TwoI wr.heap.size n K1) (keep_twoI (twoI_new wr n K1)))
              clear HPB HL5
              go_wp2
              obtain ⟨g3, hg3⟩ : ∃ x, x = wr.heap.size := ⟨_, rfl⟩
              rw [← hg3] at HL6 ⊢
              clear hg3 p0 p1 ji22 wb
              go_loopw [166] (fun i wr => ∃ j3 : Nat, j3 ≤ 2 ∧ i = .int .i64 j3 ∧ Hid (LiveP w [TwoI g3 n K1, BookN G ob (.slice va bn vc), RecsN (.slice va bn vc) lb, RecsN r2 b2.recs, RecsN r1 b1.recs, ThreeB g O (.slice ra l.length rc) b1.office r1 b2.office r2, RecsN (.slice ra l.length rc) l, OwnsN 0 (.slice fa FN fc) F] wr)) (fun i _ => 2 - (intOf i).toNat)
              case atStart => exact ⟨0, by omega, rfl, HL6⟩
              case round =>
                clear HL6
                obtain ⟨j3, hj3, rfl, HW⟩ := hrel
                by_cases h3 : j3 < 2
                · have ji3 : (j3 : Int) < 2 := by omega
                  have j30 : 0 ≤ (j3 : Int) := by omega
                  have c0 := (show TwoI g3 n K1 wr from HW.out.get (by simp)).cell j3 h3
                  have hkk : I64 (one2 n K1 j3) := by unfold one2; split; exact HN.out; exact HK1.out
                  generalize one2 n K1 j3 = kk at *
                  have HKK := Lib.hid hkk
                  unfold I64 at hkk
                  have p0 := (show BookN G ob (.slice va bn vc) wr from HW.out.get (by simp)).c0
                  have p1 := (show BookN G ob (.slice va bn vc) wr from HW.out.get (by simp)).c1
                  obtain ⟨PL, hPL⟩ : ∃ x, x = (proveE ⟨ob, lb⟩ kk).1 := ⟨_, rfl⟩
                  obtain ⟨EP, hEP⟩ : ∃ x, x = (proveE ⟨ob, lb⟩ kk).2 := ⟨_, rfl⟩
                  obtain ⟨GL, hGL⟩ : ∃ x, x = (grownE ⟨ob, lb⟩ kk).1 := ⟨_, rfl⟩
                  obtain ⟨EG, hEG⟩ : ∃ x, x = (grownE ⟨ob, lb⟩ kk).2 := ⟨_, rfl⟩
                  have hps := proveE_sm ⟨ob, lb⟩ kk
                  have hgs := grownE_sm ⟨ob, lb⟩ kk
                  rw [← hPL] at hps
                  rw [← hGL] at hgs
                  have HPL := Lib.hid hPL
                  have HEP := Lib.hid hEP
                  have HGL := Lib.hid hGL
                  have HEG := Lib.hid hEG
                  have HPs := Lib.hid hps
                  have HGs := Lib.hid hgs
                  clear hPL hEP hGL hEG hps hgs
                  as_aux_lemma =>
                    go_wp2_with fail
                    refine (prove_any ob _ lb kk _ (show RecsN (.slice va bn vc) lb _ from HW.out.get (by simp)) (by rw [← HBN.out]; omega) HW.out.rounds).mono ?_
                    rintro e w7 ⟨v1, rfl, hO, hb⟩
                    rw [← HPL.out] at hO
                    rw [← HEP.out]
                    have HW1 := Lib.hid ((HW.out.step hb).add (P := OwnsN 0 v1 PL) (keep_owns (hO.mono (Nat.zero_le _))))
                    clear hb hO HW p0 p1 c0
                    have p0 := (show BookN G ob (.slice va bn vc) w7 from HW1.out.get (by simp)).c0
                    have p1 := (show BookN G ob (.slice va bn vc) w7 from HW1.out.get (by simp)).c1
                    go_wp2_with fail
                    refine (refProve_any ob _ lb kk _ (show RecsN (.slice va bn vc) lb _ from HW1.out.get (by simp)) (by rw [← HBN.out]; omega) HKK.out).mono ?_
                    rintro e w8 ⟨v2, rfl, hO, hb⟩
                    rw [← HPL.out] at hO
                    rw [← HEP.out]
                    have HW2 := Lib.hid ((HW1.out.step hb).add (P := OwnsN 0 v2 PL) (keep_owns (hO.mono (Nat.zero_le _))))
                    obtain ⟨qa, qc, hv2, _, _⟩ := hO.shape2
                    subst hv2
                    clear hb hO HW1 p0 p1
                    have p0 := (show BookN G ob (.slice va bn vc) w8 from HW2.out.get (by simp)).c0
                    have p1 := (show BookN G ob (.slice va bn vc) w8 from HW2.out.get (by simp)).c1
                    go_wp2_with fail
                    refine (grown_any ob _ lb kk _ (show RecsN (.slice va bn vc) lb _ from HW2.out.get (by simp)) (by rw [← HBN.out]; omega) HW2.out.rounds).mono ?_
                    rintro e w9 ⟨v3, rfl, hO, hb⟩
                    rw [← HGL.out] at hO
                    rw [← HEG.out]
                    have HW3 := Lib.hid ((HW2.out.step hb).add (P := OwnsN 0 v3 GL) (keep_owns (hO.mono (Nat.zero_le _))))
                    clear hb hO HW2 p0 p1
                    have p0 := (show BookN G ob (.slice va bn vc) w9 from HW3.out.get (by simp)).c0
                    have p1 := (show BookN G ob (.slice va bn vc) w9 from HW3.out.get (by simp)).c1
                    go_wp2_with fail
                    refine (refGrown_any ob _ lb kk _ (show RecsN (.slice va bn vc) lb _ from HW3.out.get (by simp)) (by rw [← HBN.out]; omega)).mono ?_
                    rintro e w10 ⟨v4, rfl, hO, hb⟩
                    rw [← HGL.out] at hO
                    rw [← HEG.out]
                    have HW4 := Lib.hid ((HW3.out.step hb).add (P := OwnsN 0 v4 GL) (keep_owns (hO.mono (Nat.zero_le _))))
                    obtain ⟨da, dc, hv4, _, _⟩ := hO.shape2
                    subst hv4
                    clear hb hO HW3 p0 p1 HPL HEP HGL HEG
                    go_wp2_with fail
                    refine (same_any v1 _ PL PL _ (show OwnsN 0 v1 PL _ from HW4.out.get (by simp)).strs (show OwnsN 0 (.slice qa PL.length qc) PL _ from HW4.out.get (by simp)).strs).mono ?_
                    rintro e w11 ⟨rfl, hb⟩
                    rw [beq_self_eq_true]
                    have HW5 := Lib.hid (HW4.out.step hb)
                    clear hb HW4
                    go_wp2_with fail
                    refine (same_any v3 _ GL GL _ (show OwnsN 0 v3 GL _ from HW5.out.get (by simp)).strs (show OwnsN 0 (.slice da GL.length dc) GL _ from HW5.out.get (by simp)).strs).mono ?_
                    rintro e w12 ⟨rfl, hb⟩
                    rw [beq_self_eq_true]
                    have HW6 := Lib.hid ((HW5.out.step hb).sub (Qs := [OwnsN 0 (.slice da GL.length dc) GL, OwnsN 0 (.slice qa PL.length qc) PL, TwoI g3 n K1, BookN G ob (.slice va bn vc), RecsN (.slice va bn vc) lb, RecsN r2 b2.recs, RecsN r1 b1.recs, ThreeB g O (.slice ra l.length rc) b1.office r1 b2.office r2, RecsN (.slice ra l.length rc) l, OwnsN 0 (.slice fa FN fc) F]) (fun Q hQ => by simp at hQ; rcases hQ with rfl | rfl | rfl | rfl | rfl | rfl | rfl | rfl | rfl | rfl <;> simp))
                    clear hb HW5
                    have wb : IntKind.i64.wrap ((bn : Int) + 1) = (B1 : Int) := by have := HB1.out; rw [IntWalk.i64_in _ (by omega)]; omega
                    have HPB := Lib.hid (HPk.out kk HKK.out B1 (by omega) (by omega))
                    have hpz := HPz.out kk B1 (by omega)
                    obtain ⟨kp, hkp⟩ := Int.eq_ofNat_of_zero_le hpz.1
                    rw [hkp] at HPB hpz
                    have hkp1 : kp ≤ bn := by have := HB1.out; omega
                    have kp1 : (kp : Int) ≤ (bn : Int) := by omega
                    have kp0 : 0 ≤ (kp : Int) := by omega
                    have kp2 : (kp : Int) ≤ (vc : Int) := by omega
                    clear hkp hpz
                    have HSl := Lib.hid (fun W : World => run_headR va bn vc kp (by omega) W)
                    obtain ⟨RO, hRO⟩ : ∃ x, x = (headE ⟨ob, lb.take kp⟩).1 := ⟨_, rfl⟩
                    obtain ⟨EO, hEO⟩ : ∃ x, x = (headE ⟨ob, lb.take kp⟩).2 := ⟨_, rfl⟩
                    have hROl : RO.length ≤ 32 := by rw [hRO]; exact headE_le _
                    have HRO := Lib.hid hRO
                    have HEO := Lib.hid hEO
                    clear hRO hEO
                    have HQ : Hid (∀ W, w12.grownBy W none → W.cell? ⟨G, 0, none⟩ = some (.int .i64 ob) ∧ W.cell? ⟨G, 1, none⟩ = some (.slice va bn vc)) := fun W hW => by
                      have h1 := show BookN G ob (.slice va bn vc) W from (HW6.out.step (grown_below hW)).get (by simp)
                      exact ⟨h1.c0, h1.c1⟩
                    go_wp2
                    refine wp_region_calm ⟨[9, 12], fun k v _ => if k = 9 then v = .int .i64 kp else v = .tuple #[.string (bs RO), .int .i64 EO], fun _ => [], 99, none, 1000⟩ (by kernel_rfl) (by kernel_rfl) (by kernel_rfl) (fun g h => by cases h) (fun k hk v W W' c h hg hc => h) ?_
                    iterate 9 (refine calm_quiet (v := ?_) (by rfl) (by rfl) (fun W hW hD => ?_) ?_; rotate_left; (· (obtain ⟨z0, z1⟩ := HQ.out W hW; clear hD hW; go_simp; try with_reducible rfl)); simp only [Act.put, List.setIfInBounds_toArray, List.set_cons_zero, List.set_cons_succ, Nat.reduceAdd, Nat.zero_add])
                    refine calm_makes (by rfl) (by rfl) (fun W hW hD Kc hK => ?_) (fun v224 => ?_)
                    · refine wp_of_call (f := 17) ?_ ((HPB.out W).mono ?_)
                      · clear hD hW hK
                        go_simp
                      · rintro e w5 ⟨rfl, rfl⟩
                        exact ⟨_, rfl, hK _ _ (made_plain rfl (Below.refl _ _) rfl)⟩
                    simp only [Act.put, List.setIfInBounds_toArray, List.set_cons_zero, List.set_cons_succ, Nat.reduceAdd, Nat.zero_add]
                    refine calm_quiet (v := .slice va kp vc) (by rfl) (by rfl) (fun W hW hD => ?_) ?_
                    · obtain rfl : v224 = .int .i64 kp := hD [] 9 (by kernel_rfl) (by kernel_rfl) (by kernel_rfl)
                      have hs := HSl.out W
                      clear hD hW
                      go_simp
                    simp only [Act.put, List.setIfInBounds_toArray, List.set_cons_zero, List.set_cons_succ, Nat.reduceAdd, Nat.zero_add]
                    iterate 1 (refine calm_quiet (v := ?_) (by rfl) (by rfl) (fun W hW hD => ?_) ?_; rotate_left; (· (clear hD hW; go_simp; try with_reducible rfl)); simp only [Act.put, List.setIfInBounds_toArray, List.set_cons_zero, List.set_cons_succ, Nat.reduceAdd, Nat.zero_add])
                    refine calm_makes (by rfl) (by rfl) (fun W hW hD Kc hK => ?_) (fun v227 => ?_)
                    · have hLW := HW6.out.step (grown_below hW)
                      have hrt := (show RecsAt W.heap.size W (.slice va bn vc) lb from (show RecsN (.slice va bn vc) lb W from hLW.get (by simp))).take kp vc (by rw [← HBN.out]; omega) (by omega) (by unfold maxLen; omega)
                      refine wp_of_call (f := 11) ?_ ((refHead_any ob (.slice va kp vc) (lb.take kp) W hrt (by rw [List.length_take]; omega)).mono ?_)
                      · clear hD hW hK hLW hrt
                        go_simp
                      · rintro e w5 ⟨rfl, hb5⟩
                        exact ⟨_, rfl, hK _ _ (made_plain (by show _ = _; rw [← HRO.out, ← HEO.out]; rfl) hb5 rfl)⟩
                    simp only [Act.put, List.setIfInBounds_toArray, List.set_cons_zero, List.set_cons_succ, Nat.reduceAdd, Nat.zero_add]
                    refine calm_quiet (v := .tuple #[.string (bs RO), .int .i64 EO]) (by rfl) (by rfl) (fun W hW hD => ?_) ?_
                    · obtain rfl : v227 = .tuple #[.string (bs RO), .int .i64 EO] := hD [] 12 (by kernel_rfl) (by kernel_rfl) (by kernel_rfl)
                      clear hD hW
                      go_simp
                    simp only [Act.put, List.setIfInBounds_toArray, List.set_cons_zero, List.set_cons_succ, Nat.reduceAdd, Nat.zero_add]
                    iterate 4 (refine calm_quiet (v := ?_) (by rfl) (by rfl) (fun W hW hD => ?_) ?_; rotate_left; (· (clear hD hW; go_simp; try with_reducible rfl)); simp only [Act.put, List.setIfInBounds_toArray, List.set_cons_zero, List.set_cons_succ, Nat.reduceAdd, Nat.zero_add])
                    refine calm_nil fun W hW hF => ?_
                    have HW7 := Lib.hid (HW6.out.step (grown_below hW))
                    clear hF hW HQ HW6 HSl HRO HEO HPB kp1 kp0 kp2 wb
                    have HW8 := Lib.hid ((HW7.out.alloc (.cells #[.slice qa PL.length qc, .slice da GL.length dc, .slice fa FN fc] 26)).add (P := ThreeV W.heap.size (.slice qa PL.length qc) (.slice da GL.length dc) (.slice fa FN fc)) (keep_three (three_new W _ _ _)))
                    clear HW7
                    go_wp2
                    obtain ⟨g4, hg4⟩ : ∃ x, x = W.heap.size := ⟨_, rfl⟩
                    rw [← hg4] at HW8 ⊢
                    clear hg4
                    go_loopw [235] (fun i wr => ∃ j4 : Nat, j4 ≤ 3 ∧ i = .int .i64 j4 ∧ Hid (LiveP w [ThreeV g4 (.slice qa PL.length qc) (.slice da GL.length dc) (.slice fa FN fc), OwnsN 0 (.slice da GL.length dc) GL, OwnsN 0 (.slice qa PL.length qc) PL, TwoI g3 n K1, BookN G ob (.slice va bn vc), RecsN (.slice va bn vc) lb, RecsN r2 b2.recs, RecsN r1 b1.recs, ThreeB g O (.slice ra l.length rc) b1.office r1 b2.office r2, RecsN (.slice ra l.length rc) l, OwnsN 0 (.slice fa FN fc) F] wr)) (fun i _ => 3 - (intOf i).toNat)
                    case atStart => exact ⟨0, by omega, rfl, HW8⟩
                    case round =>
                      clear HW8
                      obtain ⟨j4, hj4, rfl, HW⟩ := hrel
                      by_cases h4 : j4 < 3
                      · have ji4 : (j4 : Int) < 3 := by omega
                        have j40 : 0 ≤ (j4 : Int) := by omega
                        have ct := (show ThreeV g4 (.slice qa PL.length qc) (.slice da GL.length dc) (.slice fa FN fc) wr from HW.out.get (by simp)).cell j4 h4
                        have hst := strs3 (show StrsN (.slice qa PL.length qc) PL wr from (show OwnsN 0 (.slice qa PL.length qc) PL wr from HW.out.get (by simp)).strs) (show StrsN (.slice da GL.length dc) GL wr from (show OwnsN 0 (.slice da GL.length dc) GL wr from HW.out.get (by simp)).strs) (show StrsN (.slice fa FN fc) F wr from (show OwnsN 0 (.slice fa FN fc) F wr from HW.out.get (by simp)).strs) j4
                        have hql : (one3 PL GL F j4).length ≤ 1000 := by
                          have h1 := HPs.out.1
                          have h2 := HGs.out.1
                          have h3 := HFN.out
                          unfold one3
                          split
                          · omega
                          · split <;> omega
                        obtain ⟨za, zc, hqv, hqc1, hqc2⟩ := (show StrsAt wr.heap.size wr _ _ from hst).shape
                        rw [hqv] at ct hst
                        unfold maxLen at hqc2
                        generalize one3 PL GL F j4 = q at *
                        obtain ⟨qn, hqn⟩ : ∃ x, x = q.length := ⟨_, rfl⟩
                        rw [← hqn] at ct hst hqc1 hql
                        have HQN := Lib.hid hqn
                        have HWq := Lib.hid (HW.out.add (P := StrsN (.slice za qn zc) q) (keep_strs hst))
                        obtain ⟨x1, hx1⟩ : ∃ x, verExtB RO kk R bn q = x := ⟨_, rfl⟩
                        obtain ⟨x2, hx2⟩ : ∃ x, verExtB TX at_ R n q = x := ⟨_, rfl⟩
                        have HX1 := Lib.hid hx1
                        have HX2 := Lib.hid hx2
                        have HQ : Hid (∀ W, wr.grownBy W none → W.cell? ⟨G, 0, none⟩ = some (.int .i64 ob) ∧ W.cell? ⟨G, 1, none⟩ = some (.slice va bn vc)) := fun W hW => by
                          have h1 := show BookN G ob (.slice va bn vc) W from (HWq.out.step (grown_below hW)).get (by simp)
                          exact ⟨h1.c0, h1.c1⟩
                        clear hx1 hx2 hqn hqv hst HW
                        as_aux_lemma =>
                          go_wp2
                          clear ct
                          refine wp_region_calm ⟨[7, 15, 23, 29], fun k v _ => if k = 7 then v = .bool x1 else if k = 15 then v = .bool x1 else v = .bool x2, fun _ => [], 99, none, 1000⟩ (by kernel_rfl) (by kernel_rfl) (by kernel_rfl) (fun g h => by cases h) (fun k hk v W W' c h hg hc => h) ?_
                          iterate 7 (refine calm_quiet (v := ?_) (by rfl) (by rfl) (fun W hW hD => ?_) ?_; rotate_left; (· (obtain ⟨z0, z1⟩ := HQ.out W hW; clear hD hW; go_simp; try with_reducible rfl)); simp only [Act.put, List.setIfInBounds_toArray, List.set_cons_zero, List.set_cons_succ, Nat.reduceAdd, Nat.zero_add])
                          refine calm_makes (by rfl) (by rfl) (fun W hW hD Kc hK => ?_) (fun v246 => ?_)
                          · have hLW := HWq.out.step (grown_below hW)
                            refine wp_of_call (f := 23) ?_ ((checkGrown_any RO kk R bn _ q W HKK.out (by omega) (show StrsN (.slice za qn zc) q W from hLW.get (by simp)) (by rw [← HQN.out]; omega) hLW.rounds).mono ?_)
                            · obtain ⟨z0, z1⟩ := HQ.out W hW
                              clear hD hW hK hLW
                              go_simp
                            · rintro e w5 ⟨rfl, hb5⟩
                              exact ⟨_, rfl, hK _ _ (made_plain (by show _ = _; rw [HX1.out]; rfl) hb5 rfl)⟩
                          simp only [Act.put, List.setIfInBounds_toArray, List.set_cons_zero, List.set_cons_succ, Nat.reduceAdd, Nat.zero_add]
                          iterate 7 (refine calm_quiet (v := ?_) (by rfl) (by rfl) (fun W hW hD => ?_) ?_; rotate_left; (· (obtain ⟨z0, z1⟩ := HQ.out W hW; clear hD hW; go_simp; try with_reducible rfl)); simp only [Act.put, List.setIfInBounds_toArray, List.set_cons_zero, List.set_cons_succ, Nat.reduceAdd, Nat.zero_add])
                          refine calm_makes (by rfl) (by rfl) (fun W hW hD Kc hK => ?_) (fun v254 => ?_)
                          · have hLW := HWq.out.step (grown_below hW)
                            refine wp_of_call (f := 24) ?_ ((refCheckGrown_any RO kk R bn _ q W HKK.out (by unfold I64; omega) (show StrsN (.slice za qn zc) q W from hLW.get (by simp)) (by rw [← HQN.out]; omega)).mono ?_)
                            · obtain ⟨z0, z1⟩ := HQ.out W hW
                              clear hD hW hK hLW
                              go_simp
                            · rintro e w5 ⟨rfl, hb5⟩
                              exact ⟨_, rfl, hK _ _ (made_plain (by show _ = _; rw [HX1.out]; rfl) hb5 rfl)⟩
                          simp only [Act.put, List.setIfInBounds_toArray, List.set_cons_zero, List.set_cons_succ, Nat.reduceAdd, Nat.zero_add]
                          refine calm_quiet (v := .bool false) (by rfl) (by rfl) (fun W hW hD => ?_) ?_
                          · obtain rfl : v246 = .bool x1 := hD [] 7 (by kernel_rfl) (by kernel_rfl) (by kernel_rfl)
                            obtain rfl : v254 = .bool x1 := hD [] 15 (by kernel_rfl) (by kernel_rfl) (by kernel_rfl)
                            clear hD hW
                            go_simp
                            try simp
                          simp only [Act.put, List.setIfInBounds_toArray, List.set_cons_zero, List.set_cons_succ, Nat.reduceAdd, Nat.zero_add]
                          iterate 6 (refine calm_quiet (v := ?_) (by rfl) (by rfl) (fun W hW hD => ?_) ?_; rotate_left; (· (obtain ⟨z0, z1⟩ := HQ.out W hW; clear hD hW; go_simp; try with_reducible rfl)); simp only [Act.put, List.setIfInBounds_toArray, List.set_cons_zero, List.set_cons_succ, Nat.reduceAdd, Nat.zero_add])
                          refine calm_makes (by rfl) (by rfl) (fun W hW hD Kc hK => ?_) (fun v262 => ?_)
                          · have hLW := HWq.out.step (grown_below hW)
                            refine wp_of_call (f := 23) ?_ ((checkGrown_any TX at_ R n _ q W HA.out HN.out (show StrsN (.slice za qn zc) q W from hLW.get (by simp)) (by rw [← HQN.out]; omega) hLW.rounds).mono ?_)
                            · obtain ⟨z0, z1⟩ := HQ.out W hW
                              clear hD hW hK hLW
                              go_simp
                            · rintro e w5 ⟨rfl, hb5⟩
                              exact ⟨_, rfl, hK _ _ (made_plain (by show _ = _; rw [HX2.out]; rfl) hb5 rfl)⟩
                          simp only [Act.put, List.setIfInBounds_toArray, List.set_cons_zero, List.set_cons_succ, Nat.reduceAdd, Nat.zero_add]
                          iterate 5 (refine calm_quiet (v := ?_) (by rfl) (by rfl) (fun W hW hD => ?_) ?_; rotate_left; (· (obtain ⟨z0, z1⟩ := HQ.out W hW; clear hD hW; go_simp; try with_reducible rfl)); simp only [Act.put, List.setIfInBounds_toArray, List.set_cons_zero, List.set_cons_succ, Nat.reduceAdd, Nat.zero_add])
                          refine calm_makes (by rfl) (by rfl) (fun W hW hD Kc hK => ?_) (fun v268 => ?_)
                          · have hLW := HWq.out.step (grown_below hW)
                            refine wp_of_call (f := 24) ?_ ((refCheckGrown_any TX at_ R n _ q W HA.out HN.out (show StrsN (.slice za qn zc) q W from hLW.get (by simp)) (by rw [← HQN.out]; omega)).mono ?_)
                            · obtain ⟨z0, z1⟩ := HQ.out W hW
                              clear hD hW hK hLW
                              go_simp
                            · rintro e w5 ⟨rfl, hb5⟩
                              exact ⟨_, rfl, hK _ _ (made_plain (by show _ = _; rw [HX2.out]; rfl) hb5 rfl)⟩
                          simp only [Act.put, List.setIfInBounds_toArray, List.set_cons_zero, List.set_cons_succ, Nat.reduceAdd, Nat.zero_add]
                          refine calm_quiet (v := .bool false) (by rfl) (by rfl) (fun W hW hD => ?_) ?_
                          · obtain rfl : v262 = .bool x2 := hD [] 23 (by kernel_rfl) (by kernel_rfl) (by kernel_rfl)
                            obtain rfl : v268 = .bool x2 := hD [] 29 (by kernel_rfl) (by kernel_rfl) (by kernel_rfl)
                            clear hD hW
                            go_simp
                            try simp
                          simp only [Act.put, List.setIfInBounds_toArray, List.set_cons_zero, List.set_cons_succ, Nat.reduceAdd, Nat.zero_add]
                          iterate 1 (refine calm_quiet (v := ?_) (by rfl) (by rfl) (fun W hW hD => ?_) ?_; rotate_left; (· (obtain ⟨z0, z1⟩ := HQ.out W hW; clear hD hW; go_simp; try with_reducible rfl)); simp only [Act.put, List.setIfInBounds_toArray, List.set_cons_zero, List.set_cons_succ, Nat.reduceAdd, Nat.zero_add])
                          refine calm_nil fun W hW hF => ?_
                          have HW1 := Lib.hid (HWq.out.step (grown_below hW))
                          clear hF hW HQ HWq HX1 HX2
                          go_wp2
                          go_loopw [47] (fun i wr => ∃ j5 : Nat, j5 ≤ bn ∧ i = .int .i64 j5 ∧ Hid (LiveP w [StrsN (.slice za qn zc) q, ThreeV g4 (.slice qa PL.length qc) (.slice da GL.length dc) (.slice fa FN fc), OwnsN 0 (.slice da GL.length dc) GL, OwnsN 0 (.slice qa PL.length qc) PL, TwoI g3 n K1, BookN G ob (.slice va bn vc), RecsN (.slice va bn vc) lb, RecsN r2 b2.recs, RecsN r1 b1.recs, ThreeB g O (.slice ra l.length rc) b1.office r1 b2.office r2, RecsN (.slice ra l.length rc) l, OwnsN 0 (.slice fa FN fc) F] wr)) (fun i _ => bn - (intOf i).toNat)
                          case atStart => exact ⟨0, by omega, rfl, HW1⟩
                          case round =>
                            clear HW1
                            obtain ⟨j5, hj5, rfl, HW⟩ := hrel
                            by_cases h5 : j5 < bn
                            · have ji5 : (j5 : Int) < (bn : Int) := by omega
                              have j50 : 0 ≤ (j5 : Int) := by omega
                              obtain ⟨b, off, hae, _, _⟩ := (show RecsAt wr.heap.size wr (.slice va bn vc) lb from (show RecsN (.slice va bn vc) lb wr from HW.out.get (by simp))).at j5 (by rw [← HBN.out]; exact h5)
                              obtain ⟨x, hx⟩ : ∃ x, x = lb.getD j5 default := ⟨_, rfl⟩
                              have hxt : x.text.length ≤ 1000 := by rw [hx]; exact HSm.out _ (by rw [List.getD_eq_getElem?_getD, List.getElem?_eq_getElem (by rw [← HBN.out]; exact h5)]; exact List.getElem_mem _)
                              obtain ⟨x1, hx1⟩ : ∃ y, checkB R bn kk x q = y := ⟨_, rfl⟩
                              obtain ⟨x2, hx2⟩ : ∃ y, checkB TX n at_ x q = y := ⟨_, rfl⟩
                              have HX1 := Lib.hid hx1
                              have HX2 := Lib.hid hx2
                              have HQ : Hid (∀ W, wr.grownBy W none → W.cell? ⟨G, 1, none⟩ = some (.slice (some ⟨b, off, none⟩) bn vc) ∧ W.cell? ⟨b, off + j5 * 5, none⟩ = some (.int .i64 x.sec) ∧ W.cell? ⟨b, off + j5 * 5 + 1, none⟩ = some (.int .i64 x.kind) ∧ W.cell? ⟨b, off + j5 * 5 + 2, none⟩ = some (.int .i64 x.a) ∧ W.cell? ⟨b, off + j5 * 5 + 3, none⟩ = some (.int .i64 x.b) ∧ W.cell? ⟨b, off + j5 * 5 + 4, none⟩ = some (.string (bs x.text))) := fun W hW => by
                                have hL := HW.out.step (grown_below hW)
                                have h1 := (show BookN G ob (.slice va bn vc) W from hL.get (by simp)).c1
                                have hr := show RecsN (.slice va bn vc) lb W from hL.get (by simp)
                                rw [hae] at h1 hr
                                have h2 := hr.cells j5 (by rw [← HBN.out]; exact h5)
                                rw [← hx] at h2
                                exact ⟨h1, h2⟩
                              have q1 := (HQ.out wr (World.grownBy.refl _ _)).1
                              clear hx1 hx2 hx hae
                              as_aux_lemma =>
                                go_wp2
                                clear q1
                                refine wp_region_calm ⟨[11, 23, 35, 45], fun k v _ => if k = 11 then v = .bool x1 else if k = 23 then v = .bool x1 else v = .bool x2, fun _ => [], 99, none, 1000⟩ (by kernel_rfl) (by kernel_rfl) (by kernel_rfl) (fun g h => by cases h) (fun k hk v W W' c h hg hc => h) ?_
                                iterate 11 (refine calm_quiet (v := ?_) (by rfl) (by rfl) (fun W hW hD => ?_) ?_; rotate_left; (· (obtain ⟨z0, z1, z2, z3, z4, z5⟩ := HQ.out W hW; clear hD hW; go_simp; try with_reducible rfl)); simp only [Act.put, List.setIfInBounds_toArray, List.set_cons_zero, List.set_cons_succ, Nat.reduceAdd, Nat.zero_add])
                                refine calm_makes (by rfl) (by rfl) (fun W hW hD Kc hK => ?_) (fun v289 => ?_)
                                · have hLW := HW.out.step (grown_below hW)
                                  refine wp_of_call (f := 25) ?_ ((gcheck_any R bn kk x _ q W (by omega) HKK.out (show StrsN (.slice za qn zc) q W from hLW.get (by simp)) (by rw [← HQN.out]; omega) hLW.rounds).mono ?_)
                                  · obtain ⟨z0, z1, z2, z3, z4, z5⟩ := HQ.out W hW
                                    clear hD hW hK hLW
                                    go_simp
                                  · rintro e w5 ⟨rfl, hb5⟩
                                    exact ⟨_, rfl, hK _ _ (made_plain (by show _ = _; rw [HX1.out]; rfl) hb5 rfl)⟩
                                simp only [Act.put, List.setIfInBounds_toArray, List.set_cons_zero, List.set_cons_succ, Nat.reduceAdd, Nat.zero_add]
                                iterate 11 (refine calm_quiet (v := ?_) (by rfl) (by rfl) (fun W hW hD => ?_) ?_; rotate_left; (· (obtain ⟨z0, z1, z2, z3, z4, z5⟩ := HQ.out W hW; clear hD hW; go_simp; try with_reducible rfl)); simp only [Act.put, List.setIfInBounds_toArray, List.set_cons_zero, List.set_cons_succ, Nat.reduceAdd, Nat.zero_add])
                                refine calm_makes (by rfl) (by rfl) (fun W hW hD Kc hK => ?_) (fun v301 => ?_)
                                · have hLW := HW.out.step (grown_below hW)
                                  refine wp_of_call (f := 26) ?_ ((refCheck_any R bn kk x _ q W (by unfold I64; omega) HKK.out (by omega) (show StrsN (.slice za qn zc) q W from hLW.get (by simp)) (by rw [← HQN.out]; omega)).mono ?_)
                                  · obtain ⟨z0, z1, z2, z3, z4, z5⟩ := HQ.out W hW
                                    clear hD hW hK hLW
                                    go_simp
                                  · rintro e w5 ⟨rfl, hb5⟩
                                    exact ⟨_, rfl, hK _ _ (made_plain (by show _ = _; rw [HX1.out]; rfl) hb5 rfl)⟩
                                simp only [Act.put, List.setIfInBounds_toArray, List.set_cons_zero, List.set_cons_succ, Nat.reduceAdd, Nat.zero_add]
                                refine calm_quiet (v := .bool false) (by rfl) (by rfl) (fun W hW hD => ?_) ?_
                                · obtain rfl : v289 = .bool x1 := hD [] 11 (by kernel_rfl) (by kernel_rfl) (by kernel_rfl)
                                  obtain rfl : v301 = .bool x1 := hD [] 23 (by kernel_rfl) (by kernel_rfl) (by kernel_rfl)
                                  clear hD hW
                                  go_simp
                                  try simp
                                simp only [Act.put, List.setIfInBounds_toArray, List.set_cons_zero, List.set_cons_succ, Nat.reduceAdd, Nat.zero_add]
                                iterate 10 (refine calm_quiet (v := ?_) (by rfl) (by rfl) (fun W hW hD => ?_) ?_; rotate_left; (· (obtain ⟨z0, z1, z2, z3, z4, z5⟩ := HQ.out W hW; clear hD hW; go_simp; try with_reducible rfl)); simp only [Act.put, List.setIfInBounds_toArray, List.set_cons_zero, List.set_cons_succ, Nat.reduceAdd, Nat.zero_add])
                                refine calm_makes (by rfl) (by rfl) (fun W hW hD Kc hK => ?_) (fun v313 => ?_)
                                · have hLW := HW.out.step (grown_below hW)
                                  refine wp_of_call (f := 25) ?_ ((gcheck_any TX n at_ x _ q W HN.out HA.out (show StrsN (.slice za qn zc) q W from hLW.get (by simp)) (by rw [← HQN.out]; omega) hLW.rounds).mono ?_)
                                  · obtain ⟨z0, z1, z2, z3, z4, z5⟩ := HQ.out W hW
                                    clear hD hW hK hLW
                                    go_simp
                                  · rintro e w5 ⟨rfl, hb5⟩
                                    exact ⟨_, rfl, hK _ _ (made_plain (by show _ = _; rw [HX2.out]; rfl) hb5 rfl)⟩
                                simp only [Act.put, List.setIfInBounds_toArray, List.set_cons_zero, List.set_cons_succ, Nat.reduceAdd, Nat.zero_add]
                                iterate 9 (refine calm_quiet (v := ?_) (by rfl) (by rfl) (fun W hW hD => ?_) ?_; rotate_left; (· (obtain ⟨z0, z1, z2, z3, z4, z5⟩ := HQ.out W hW; clear hD hW; go_simp; try with_reducible rfl)); simp only [Act.put, List.setIfInBounds_toArray, List.set_cons_zero, List.set_cons_succ, Nat.reduceAdd, Nat.zero_add])
                                refine calm_makes (by rfl) (by rfl) (fun W hW hD Kc hK => ?_) (fun v323 => ?_)
                                · have hLW := HW.out.step (grown_below hW)
                                  refine wp_of_call (f := 26) ?_ ((refCheck_any TX n at_ x _ q W HN.out HA.out (by omega) (show StrsN (.slice za qn zc) q W from hLW.get (by simp)) (by rw [← HQN.out]; omega)).mono ?_)
                                  · obtain ⟨z0, z1, z2, z3, z4, z5⟩ := HQ.out W hW
                                    clear hD hW hK hLW
                                    go_simp
                                  · rintro e w5 ⟨rfl, hb5⟩
                                    exact ⟨_, rfl, hK _ _ (made_plain (by show _ = _; rw [HX2.out]; rfl) hb5 rfl)⟩
                                simp only [Act.put, List.setIfInBounds_toArray, List.set_cons_zero, List.set_cons_succ, Nat.reduceAdd, Nat.zero_add]
                                refine calm_quiet (v := .bool false) (by rfl) (by rfl) (fun W hW hD => ?_) ?_
                                · obtain rfl : v313 = .bool x2 := hD [] 35 (by kernel_rfl) (by kernel_rfl) (by kernel_rfl)
                                  obtain rfl : v323 = .bool x2 := hD [] 45 (by kernel_rfl) (by kernel_rfl) (by kernel_rfl)
                                  clear hD hW
                                  go_simp
                                  try simp
                                simp only [Act.put, List.setIfInBounds_toArray, List.set_cons_zero, List.set_cons_succ, Nat.reduceAdd, Nat.zero_add]
                                iterate 1 (refine calm_quiet (v := ?_) (by rfl) (by rfl) (fun W hW hD => ?_) ?_; rotate_left; (· (obtain ⟨z0, z1, z2, z3, z4, z5⟩ := HQ.out W hW; clear hD hW; go_simp; try with_reducible rfl)); simp only [Act.put, List.setIfInBounds_toArray, List.set_cons_zero, List.set_cons_succ, Nat.reduceAdd, Nat.zero_add])
                                refine calm_nil fun W hW hF => ?_
                                have HW3 := Lib.hid (HW.out.step (grown_below hW))
                                obtain ⟨q1, _⟩ := HQ.out W hW
                                clear hF hW HQ HW HX1 HX2
                                go_wp2
                                go_roundw
                                case rel => exact ⟨j5 + 1, by omega, by go_num, HW3⟩
                                case measure => simp [intOf]; omega
                            · have ji52 : ¬ ((j5 : Int) < (bn : Int)) := by omega
                              have HW2 := Lib.hid (HW.out.sub (Qs := [ThreeV g4 (.slice qa PL.length qc) (.slice da GL.length dc) (.slice fa FN fc), OwnsN 0 (.slice da GL.length dc) GL, OwnsN 0 (.slice qa PL.length qc) PL, TwoI g3 n K1, BookN G ob (.slice va bn vc), RecsN (.slice va bn vc) lb, RecsN r2 b2.recs, RecsN r1 b1.recs, ThreeB g O (.slice ra l.length rc) b1.office r1 b2.office r2, RecsN (.slice ra l.length rc) l, OwnsN 0 (.slice fa FN fc) F]) (fun Q hQ => List.mem_cons_of_mem _ hQ))
                              have p0 := (show BookN G ob (.slice va bn vc) wr from HW.out.get (by simp)).c0
                              have p1 := (show BookN G ob (.slice va bn vc) wr from HW.out.get (by simp)).c1
                              clear h5 hj5 HW
                              go_wp2
                              go_roundw
                              case rel => exact ⟨j4 + 1, by omega, by go_num, HW2⟩
                              case measure => simp [intOf]; omega
                      · have ji42 : ¬ ((j4 : Int) < 3) := by omega
                        have HW9 := Lib.hid (HW.out.sub (Qs := [TwoI g3 n K1, BookN G ob (.slice va bn vc), RecsN (.slice va bn vc) lb, RecsN r2 b2.recs, RecsN r1 b1.recs, ThreeB g O (.slice ra l.length rc) b1.office r1 b2.office r2, RecsN (.slice ra l.length rc) l, OwnsN 0 (.slice fa FN fc) F]) (fun Q hQ => List.mem_cons_of_mem _ (List.mem_cons_of_mem _ (List.mem_cons_of_mem _ hQ))))
                        clear h4 hj4 HW
                        go_wp2
                        go_roundw
                        case rel => exact ⟨j3 + 1, by omega, by go_num, HW9⟩
                        case measure => simp [intOf]; omega
                · have ji32 : ¬ ((j3 : Int) < 2) := by omega
                  have HL7 := Lib.hid (HW.out.sub (Qs := [RecsN r2 b2.recs, RecsN r1 b1.recs, ThreeB g O (.slice ra l.length rc) b1.office r1 b2.office r2, RecsN (.slice ra l.length rc) l, OwnsN 0 (.slice fa FN fc) F]) (fun Q hQ => by simp at hQ; rcases hQ with rfl | rfl | rfl | rfl | rfl <;> simp))
                  clear h3 hj3 HW
                  go_wp2
                  go_roundw
                  case rel => exact ⟨j + 1, by omega, by go_num, HL7⟩
                  case measure => simp [intOf]; omega
    · have ji : ¬ ((j : Int) < 3) := by omega
      have HBl := Lib.hid HW.out.below
      clear h1 HW
      go_wp2
      go_ret
      exact ⟨rfl, HBl.out⟩
end Go.Proofs.YthfenbdlolbikaaGreatDoor
