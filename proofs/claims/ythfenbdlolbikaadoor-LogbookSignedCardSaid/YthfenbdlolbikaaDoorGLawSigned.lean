/- LogbookSigned: the walk. -/
import Derived.Test.YthfenbdlolbikaaDoorGContent
set_option linter.unusedVariables false
set_option linter.unusedSimpArgs false
namespace Go.Proofs.YthfenbdlolbikaaDoor
open Go.RowKit Go.Shelf

theorem signed_use {K C : Bytes} {O s m n : Int} {R r T : Bytes} (hK : K.length = 32) (hO : EncZ O) (hm : EncZ m) (hT : T = tagB K O m R) (h : genB C s n r T = true) :
    EncZ s ∧ EncZ n ∧ C.length = 32 ∧ r.length = 32 ∧ (¬ (C = K ∧ s = O ∧ n = m ∧ r = R) → meetB (tagsL K O m R) (tagsL C s n r) = true) := by
  unfold genB at h
  simp only [Bool.and_eq_true, inZ_iff, decide_eq_true_eq, beq_iff_eq] at h
  obtain ⟨⟨⟨⟨h1, h2⟩, h3⟩, h4⟩, h5⟩ := h
  have e1 : EncZ s := by unfold EncZ; omega
  have e2 : EncZ n := by unfold EncZ; omega
  exact ⟨e1, e2, h3, h4, fun hne => signed_plain hK h3 hO e1 hm e2 (hT.symm.trans h5) hne⟩
theorem signed_own {K : Bytes} {O m : Int} {R : Bytes} (hK : K.length = 32) (hR : R.length = 32) (hO : 0 ≤ O ∧ O ≤ 99) (hm : 0 ≤ m ∧ m ≤ 60) : genB K O m R (tagB K O m R) = true := by
  unfold genB
  simp only [Bool.and_eq_true, inZ_iff, decide_eq_true_eq, beq_iff_eq]
  exact ⟨⟨⟨⟨hO, hm⟩, hK⟩, hR⟩, trivial⟩
/-- What the steps of the region leave. -/
def SgnF (B : Nat) (m P : Int) : Nat → Value → World → Prop := fun k v W =>
  if k = 4 then v = .int .i64 P else ∃ g, v = .slice (some ⟨g, 0, none⟩) 2 2 ∧ B ≤ g ∧ TwoI g m P W
theorem sgnF_kept {B k : Nat} {m P : Int} {v : Value} {W W' : World} {cc : Option Nat} (h : SgnF B m P k v W) (hg : W.grownBy W' cc) (hc : ∀ g, cc = some g → False) : SgnF B m P k v W' := by
  unfold SgnF at h ⊢
  split at h
  · rename_i hk; rw [if_pos hk]; exact h
  · rename_i hk; rw [if_neg hk]
    obtain ⟨g, rfl, hB, hb⟩ := h
    exact ⟨g, rfl, hB, (hg.block g (Array.getElem?_eq_some_iff.1 (show W.heap[g]? = _ from hb)).1 fun e => hc g e.symm).trans hb⟩
set_option maxRecDepth 100000 in
set_option maxHeartbeats 8000000 in
theorem lawSigned (o : Int) (xv yv : Value) (N N2 : Nat) (f f2 : Nat → Nat → Int) (ky oth pl nn : Int) (w : World) (ho : I64 o) (hky : I64 ky) (hoth : I64 oth) (hpl : I64 pl) (hnn : I64 nn) (hX : FiveAt w.heap.size w xv N f) (hY : FiveAt w.heap.size w yv N2 f2) (hT : Rounds w) :
    Calls Tryd.prog 7 #[.int .i64 o, xv, yv, .int .i64 ky, .int .i64 oth, .int .i64 pl, .int .i64 nn] w fun e w' => e = .returned (.bool true) ∧ Below w.heap.size w w' := by
  have hL0 := ((LiveP.start hT).add (P := FiveN xv N f) (keep_five hX)).add (P := FiveN yv N2 f2) (keep_five hY)
  have HL0 := Lib.hid hL0
  obtain ⟨⟨xa, xc, rfl, _, _, _⟩, _⟩ := hX
  obtain ⟨⟨ya, yc, rfl, _, _, _⟩, _⟩ := hY
  have HPn := Lib.hid (fun W => gpick_any nn 61 W hnn.1 hnn.2 (by omega) (by omega))
  have hpn := pickZ_bd nn 61 (by omega)
  generalize pickZ nn 61 = P at *
  have hv := made_ok o N f
  have hml := madeB_len o N f
  have hof : 0 ≤ (madeBook o N f).office ∧ (madeBook o N f).office ≤ 99 := by have := pickZ_bd o 100 (by omega); show 0 ≤ pickZ o 100 ∧ pickZ o 100 ≤ 99; omega
  have hv2 := made_ok pl N2 f2
  have hml2 := madeB_len pl N2 f2
  have HKy := Lib.hid (fun W => key_any ky W hky.1 hky.2)
  have HOt := Lib.hid (fun W => key_any oth W hoth.1 hoth.2)
  have hK := keyB_length ky
  have hK2 := keyB_length oth
  generalize keyB ky = K at *
  generalize keyB oth = K2 at *
  have HMa := Lib.hid (fun (W : World) (h : FiveN (.slice xa N xc) N f W) => made_any o _ N f W ho h)
  have HMb := Lib.hid (fun (W : World) (h : FiveN (.slice ya N2 yc) N2 f2 W) => made_any pl _ N2 f2 W hpl h)
  generalize madeBook o N f = bk at *
  generalize madeBook pl N2 f2 = bk2 at *
  obtain ⟨O, l⟩ := bk
  obtain ⟨O2, l2⟩ := bk2
  simp only at hml hml2 hof HMa HMb
  have hEO : EncZ O := by unfold EncZ; omega
  have hEm : EncZ (l.length : Int) := by unfold EncZ; omega
  obtain ⟨R, hR⟩ : ∃ R, R = rootL (codesL ⟨O, l⟩) := ⟨_, rfl⟩
  obtain ⟨Nx, hNx⟩ : ∃ R, R = rootL (codesL ⟨O2, l2⟩) := ⟨_, rfl⟩
  have hR32 : R.length = 32 := by rw [hR]; exact rootL_length _
  have hN32 : Nx.length = 32 := by rw [hNx]; exact rootL_length _
  obtain ⟨T, hTg⟩ : ∃ T, T = tagB K O l.length R := ⟨_, rfl⟩
  have HHd : Hid (headE ⟨O, l⟩ = (R, 0)) := by show _ = _; rw [headE, hv, hR]; rfl
  have HHd2 : Hid (headE ⟨O2, l2⟩ = (Nx, 0)) := by show _ = _; rw [headE, hv2, hNx]; rfl
  have HSg : Hid (signE K ⟨O, l⟩ = (T, 0)) := by show _ = _; rw [signE, hv, decide_eq_true hK, hTg, hR]; rfl
  have HGn : Hid (genB K O l.length R T = true) := by show _ = _; rw [hTg]; exact signed_own hK hR32 hof (by omega)
  have HUse := Lib.hid (fun (C : Bytes) (s n : Int) (r : Bytes) => @signed_use K C O s l.length n R r T hK hEO hEm hTg)
  clear hT hL0 hR hNx hTg hv hv2
  go_enter Tryd.func7, Tryd.ntmps7
  go_wp2_with fail
  refine (gsane_any _ HL0.out.rounds).mono ?_
  rintro e w1 ⟨rfl, hb⟩
  have HL1 := Lib.hid (HL0.out.step hb)
  clear hb HL0
  go_wp2_with fail
  refine (HMa.out _ (HL1.out.get (by simp))).mono ?_
  rintro e w2 ⟨rv, rfl, hO, hb⟩
  obtain ⟨ra, rc, hrv, hrc1, hrc2⟩ := hO.shape
  subst hrv
  unfold maxLen at hrc2
  have hL := (((HL1.out.step hb).add (keep_recs hO.recs)).alloc (.cells #[.int .i64 O, .slice ra l.length rc] 25)).add (keep_book (logBox_new w2 O (.slice ra l.length rc)))
  obtain ⟨B, hB⟩ : ∃ B, B = w2.heap.size := ⟨_, rfl⟩
  rw [← hB] at hL
  have HL2 := Lib.hid hL
  clear hb hL hO HL1
  go_wp2_with fail
  refine (HMb.out _ (HL2.out.get (by simp))).mono ?_
  rintro e w3 ⟨rv2, rfl, hO, hb⟩
  obtain ⟨ra2, rc2, hrv, hrd1, hrd2⟩ := hO.shape
  subst hrv
  unfold maxLen at hrd2
  have hL := (((HL2.out.step hb).add (keep_recs hO.recs)).alloc (.cells #[.int .i64 O2, .slice ra2 l2.length rc2] 25)).add (keep_book (logBox_new w3 O2 (.slice ra2 l2.length rc2)))
  obtain ⟨B2, hB2⟩ : ∃ B, B = w3.heap.size := ⟨_, rfl⟩
  rw [← hB2] at hL
  have HL3 := Lib.hid hL
  clear hb hL hO HL2
  go_wp2_with fail
  refine (HKy.out _).mono ?_
  rintro e w4 ⟨rfl, hb⟩
  have HL4 := Lib.hid (HL3.out.step hb)
  clear hb HL3
  go_wp2_with fail
  refine (HOt.out _).mono ?_
  rintro e w5 ⟨rfl, hb⟩
  have hL := HL4.out.step hb
  have b1 := show BookN B O (.slice ra l.length rc) w5 from hL.get (by simp)
  rw [hB] at b1
  have q0 := b1.c0
  have q1 := b1.c1
  have HL5 := Lib.hid hL
  clear hb HL4 hL b1
  go_wp2_with fail
  refine (sign_any K O _ l _ (show RecsN (.slice ra l.length rc) l _ from HL5.out.get (by simp)) (by omega) (by omega) HL5.out.rounds).mono ?_
  rintro e w6 ⟨rfl, hb⟩
  rw [HSg.out]
  simp only
  have hL := HL5.out.step hb
  clear q0 q1
  have b1 := show BookN B O (.slice ra l.length rc) w6 from hL.get (by simp)
  rw [hB] at b1
  have q0 := b1.c0
  have q1 := b1.c1
  have HL6 := Lib.hid hL
  clear hb HL5 hL b1
  go_wp2_with fail
  refine (head_any O _ l _ (show RecsN (.slice ra l.length rc) l _ from HL6.out.get (by simp)) (by omega) HL6.out.rounds).mono ?_
  rintro e w7 ⟨rfl, hb⟩
  rw [HHd.out]
  simp only
  have hL := HL6.out.step hb
  clear q0 q1
  have b2 := show BookN B2 O2 (.slice ra2 l2.length rc2) w7 from hL.get (by simp)
  rw [hB2] at b2
  have q0 := b2.c0
  have q1 := b2.c1
  have HL7 := Lib.hid hL
  clear hb HL6 hL b2
  go_wp2_with fail
  refine (head_any O2 _ l2 _ (show RecsN (.slice ra2 l2.length rc2) l2 _ from HL7.out.get (by simp)) (by omega) HL7.out.rounds).mono ?_
  rintro e w8 ⟨rfl, hb⟩
  rw [HHd2.out]
  simp only
  have hL := HL7.out.step hb
  clear q0 q1
  have b1 := show BookN B O (.slice ra l.length rc) w8 from hL.get (by simp)
  rw [hB] at b1
  have q0 := b1.c0
  have q1 := b1.c1
  have HL8 := Lib.hid hL
  clear hb HL7 hL b1
  go_wp2_with fail
  refine (genuine_any K O l.length R T _ HL8.out.rounds).mono ?_
  rintro e w9 ⟨rfl, hb⟩
  rw [HGn.out]
  have hL := HL8.out.step hb
  clear q0 q1
  have b1 := show BookN B O (.slice ra l.length rc) w9 from hL.get (by simp)
  rw [hB] at b1
  have q0 := b1.c0
  have q1 := b1.c1
  have HL9 := Lib.hid hL
  clear hb HL8 hL b1
  go_wp2_with fail
  refine (content_any O l.length R _ hEO hEm (by omega)).mono ?_
  rintro e w10 ⟨rfl, hb⟩
  have hL := ((HL9.out.step hb).sub (Qs := [BookN B O (.slice ra l.length rc), BookN B2 O2 (.slice ra2 l2.length rc2)]) (fun Q hQ => by simp at hQ; rcases hQ with rfl | rfl <;> simp)).alloc (.cells #[.string (bs K), .string (bs K2)] 9)
  have hL := hL.add (P := TwoN w10.heap.size (bs K) (bs K2)) (keep_two (two_new w10 _ _))
  have HCa : Hid (∀ W : World, w.heap.size ≤ W.heap.size → OwnS w.heap.size (W.alloc (.cells #[.string ((⟨#[0]⟩ : ByteArray) ++ bs (contentB O l.length R)), .string ((⟨#[1]⟩ : ByteArray) ++ bs K ++ bs (leafB (contentB O l.length R)))] 9)) (.slice (some ⟨W.heap.size, 0, none⟩) 2 2) (tagsL K O l.length R)) := fun W hW => by
    rw [cat_bs1, cat_bs1, cat_bs]
    exact ownS_lit2 W w.heap.size _ _ hW
  have HLf := Lib.hid (fun W => refLeaf_any (bs (contentB O l.length R)) W (by rw [bs_size]; unfold contentB; have := enc_length (zz O); have := enc_length (zz l.length); simp; omega))
  rw [bs_list] at HLf
  have hcs : (bs (contentB O l.length R)).size ≤ 100 := by rw [bs_size]; unfold contentB; have := enc_length (zz O); have := enc_length (zz l.length); simp; omega
  have hks : (bs K).size = 32 := by rw [bs_size]; exact hK
  have hlfs : (bs (leafB (contentB O l.length R))).size = 32 := by rw [bs_size]; exact leafB_length _
  have htl : ∀ x ∈ tagsL K O l.length R, x.length ≤ 1000000 := fun x hx => by
    unfold tagsL at hx
    rw [bs_size] at hcs
    simp only [List.mem_cons, List.not_mem_nil, or_false] at hx
    rcases hx with rfl | rfl
    · simp; omega
    · simp [leafB_length]; omega
  have HTl := Lib.hid htl
  have n1 : ¬ (9223372036854775807 < 1 + (bs (contentB O l.length R)).size) := by omega
  have n2 : ¬ (9223372036854775807 < 1 + (bs K).size) := by omega
  have n3 : ¬ (9223372036854775807 < 1 + (bs K).size + (bs (leafB (contentB O l.length R))).size) := by omega
  generalize bs (contentB O l.length R) = CC at *
  generalize bs (leafB (contentB O l.length R)) = LF at *
  have HLA := Lib.hid hL
  clear hb HL9 hL q0 q1 htl hcs hlfs
  obtain ⟨g1, hg1⟩ : ∃ g, g = w10.heap.size := ⟨_, rfl⟩
  have HKKs : Hid (∀ x y : Bytes, ((bs x).toList == (bs y).toList) = (x == y)) := fun x y => bs_beq x y
  generalize hmm : l.length = m at *
  clear hmm
  go_wp2
  rw [← hg1] at HLA ⊢
  clear hg1
  go_loopw [98] (fun i wr => ∃ j : Nat, j ≤ 2 ∧ i = .int .i64 j ∧ Hid (LiveP w [TwoN g1 (bs K) (bs K2), BookN B O (.slice ra m rc), BookN B2 O2 (.slice ra2 l2.length rc2)] wr)) (fun i _ => 2 - (intOf i).toNat)
  case atStart => exact ⟨0, by omega, rfl, HLA⟩
  case round =>
    clear HLA
    obtain ⟨j, hj, rfl, HW⟩ := hrel
    by_cases h1 : j < 2
    · have jj : (j : Int) < 2 := by omega
      have j0 : 0 ≤ (j : Int) := by omega
      have c0 := (show TwoN g1 (bs K) (bs K2) wr from HW.out.get (by simp)).cell j h1
      rw [one2_map bs] at c0
      have hC : (one2 K K2 j).length = 32 := by unfold one2; split <;> assumption
      generalize one2 K K2 j = C at *
      have b1 := show BookN B O (.slice ra m rc) wr from HW.out.get (by simp)
      have b2 := show BookN B2 O2 (.slice ra2 l2.length rc2) wr from HW.out.get (by simp)
      rw [hB] at b1
      rw [hB2] at b2
      have q0 := b1.c0
      have q1 := b2.c0
      have hLx := (HW.out.alloc (.cells #[.int .i64 O, .int .i64 O2] 3)).add (P := TwoI wr.heap.size O O2) (keep_twoI (twoI_new wr _ _))
      have HWx := Lib.hid hLx
      clear b1 b2 hLx HW
      go_wp2
      obtain ⟨g2, hg2⟩ : ∃ g, g = wr.heap.size := ⟨_, rfl⟩
      rw [← hg2] at HWx ⊢
      clear hg2 c0 q0 q1
      go_loopw [108] (fun i wr => ∃ j2 : Nat, j2 ≤ 2 ∧ i = .int .i64 j2 ∧ Hid (LiveP w [TwoI g2 O O2, TwoN g1 (bs K) (bs K2), BookN B O (.slice ra m rc), BookN B2 O2 (.slice ra2 l2.length rc2)] wr)) (fun i _ => 2 - (intOf i).toNat)
      case atStart => exact ⟨0, by omega, rfl, HWx⟩
      case round =>
        clear HWx
        obtain ⟨j2, hj2, rfl, HW⟩ := hrel
        by_cases h2 : j2 < 2
        · have jj2 : (j2 : Int) < 2 := by omega
          have j20 : 0 ≤ (j2 : Int) := by omega
          have c0 := (show TwoI g2 O O2 wr from HW.out.get (by simp)).cell j2 h2
          generalize one2 O O2 j2 = S at *
          have HQ : Hid (∀ W, wr.grownBy W none → W.cell? ⟨w2.heap.size, 1, none⟩ = some (.slice ra m rc)) := fun W hW => by
            have := show BookN B O (.slice ra m rc) W from (HW.out.step (grown_below hW)).get (by simp)
            rw [hB] at this
            exact this.c1
          go_wp2
          clear c0
          refine wp_region_calm ⟨[4, 5], SgnF wr.heap.size m P, fun _ => [], 99, none, 1000⟩ (by kernel_rfl) (by kernel_rfl) (by kernel_rfl) (fun g h => by cases h) (fun k hk v W W' c h hg hc => sgnF_kept h hg fun g hh => ?_) ?_
          · obtain ⟨_, _, i, j, u, hd, _⟩ := hc g hh
            simp at hd
          iterate 4 (refine calm_quiet (v := ?_) (by rfl) (by rfl) (fun W hW hD => ?_) ?_; rotate_left; (· (have z0 := HQ.out W hW; clear hD hW; go_simp; try with_reducible rfl)); simp only [Act.put, List.setIfInBounds_toArray, List.set_cons_zero, List.set_cons_succ, Nat.reduceAdd, Nat.zero_add])
          refine calm_makes (by rfl) (by rfl) (fun W hW hD Kc hK => ?_) (fun v116 => ?_)
          · refine wp_of_call (f := 19) ?_ ((HPn.out W).mono ?_)
            · clear hD hW hK
              go_simp
            · rintro e w5 ⟨rfl, rfl⟩
              exact ⟨_, rfl, hK _ _ (made_plain rfl (Below.refl _ _) rfl)⟩
          simp only [Act.put, List.setIfInBounds_toArray, List.set_cons_zero, List.set_cons_succ, Nat.reduceAdd, Nat.zero_add]
          refine calm_makes (by rfl) (by rfl) (fun W hW hD Kc hK => ?_) (fun v117 => ?_)
          · obtain rfl : v116 = .int .i64 P := hD [] 4 (by kernel_rfl) (by kernel_rfl) (by kernel_rfl)
            refine wp_of_run (v := .slice (some ⟨W.heap.size, 0, none⟩) 2 2) (w' := W.alloc (.cells #[.int .i64 m, .int .i64 P] 3)) ?_ (hK _ _ (made_below ⟨W.heap.size, rfl, hW.size, heap_alloc_new W _⟩ ((Below.refl _ _).alloc (Nat.le_refl _) _) (fun g hg => ?_)))
            · clear hD hW hK
              go_simp
            · have hg' : some W.heap.size = some g := hg
              cases hg'
              exact ⟨Nat.le_refl _, by simp⟩
          simp only [Act.put, List.setIfInBounds_toArray, List.set_cons_zero, List.set_cons_succ, Nat.reduceAdd, Nat.zero_add]
          refine calm_quiet (v := .int .i64 2) (by rfl) (by rfl) (fun W hW hD => ?_) ?_
          · obtain ⟨q, rfl, _, hq⟩ : ∃ q, v117 = .slice (some ⟨q, 0, none⟩) 2 2 ∧ wr.heap.size ≤ q ∧ TwoI q m P W := hD [] 5 (by kernel_rfl) (by kernel_rfl) (by kernel_rfl)
            clear hD hW
            go_simp
          simp only [Act.put, List.setIfInBounds_toArray, List.set_cons_zero, List.set_cons_succ, Nat.reduceAdd, Nat.zero_add]
          iterate 1 (refine calm_quiet (v := ?_) (by rfl) (by rfl) (fun W hW hD => ?_) ?_; rotate_left; (· (clear hD hW; go_simp; try with_reducible rfl)); simp only [Act.put, List.setIfInBounds_toArray, List.set_cons_zero, List.set_cons_succ, Nat.reduceAdd, Nat.zero_add])
          refine calm_nil fun W hW hF => ?_
          obtain ⟨g3, hv117, _, hq⟩ : ∃ q, v117 = .slice (some ⟨q, 0, none⟩) 2 2 ∧ wr.heap.size ≤ q ∧ TwoI q m P W := hF 5 (by kernel_rfl) (by kernel_rfl)
          subst hv117
          have HWx := Lib.hid ((HW.out.step (grown_below hW)).add (P := TwoI g3 m P) (keep_twoI hq))
          clear hF hW hq HW HQ
          go_wp2
          go_loopw [119] (fun i wr => ∃ j3 : Nat, j3 ≤ 2 ∧ i = .int .i64 j3 ∧ Hid (LiveP w [TwoI g3 m P, TwoI g2 O O2, TwoN g1 (bs K) (bs K2), BookN B O (.slice ra m rc), BookN B2 O2 (.slice ra2 l2.length rc2)] wr)) (fun i _ => 2 - (intOf i).toNat)
          case atStart => exact ⟨0, by omega, rfl, HWx⟩
          case round =>
            clear HWx
            obtain ⟨j3, hj3, rfl, HW⟩ := hrel
            by_cases h3 : j3 < 2
            · have jj3 : (j3 : Int) < 2 := by omega
              have j30 : 0 ≤ (j3 : Int) := by omega
              have c0 := (show TwoI g3 m P wr from HW.out.get (by simp)).cell j3 h3
              generalize one2 (m : Int) P j3 = M at *
              have HWx := Lib.hid ((HW.out.alloc (.cells #[.string (bs R), .string (bs Nx)] 9)).add (P := TwoN wr.heap.size (bs R) (bs Nx)) (keep_two (two_new wr _ _)))
              clear HW
              go_wp2
              obtain ⟨g4, hg4⟩ : ∃ g, g = wr.heap.size := ⟨_, rfl⟩
              rw [← hg4] at HWx ⊢
              clear hg4 c0
              go_loopw [127] (fun i wr => ∃ j4 : Nat, j4 ≤ 2 ∧ i = .int .i64 j4 ∧ Hid (LiveP w [TwoN g4 (bs R) (bs Nx), TwoI g3 m P, TwoI g2 O O2, TwoN g1 (bs K) (bs K2), BookN B O (.slice ra m rc), BookN B2 O2 (.slice ra2 l2.length rc2)] wr)) (fun i _ => 2 - (intOf i).toNat)
              case atStart => exact ⟨0, by omega, rfl, HWx⟩
              case round =>
                clear HWx
                obtain ⟨j4, hj4, rfl, HW⟩ := hrel
                by_cases h4 : j4 < 2
                · have jj4 : (j4 : Int) < 2 := by omega
                  have j40 : 0 ≤ (j4 : Int) := by omega
                  have c0 := (show TwoN g4 (bs R) (bs Nx) wr from HW.out.get (by simp)).cell j4 h4
                  rw [one2_map bs] at c0
                  have hr32 : (one2 R Nx j4).length = 32 := by unfold one2; split <;> assumption
                  generalize one2 R Nx j4 = U at *
                  have b1 := show BookN B O (.slice ra m rc) wr from HW.out.get (by simp)
                  rw [hB] at b1
                  have q0 := b1.c0
                  have q1 := b1.c1
                  have HUs := Lib.hid (HUse.out C S M U)
                  have kc := HKKs.out C K
                  have kr := HKKs.out U R
                  clear b1
                  by_cases e1 : C = K
                  · have d1 : (C == K) = true := by simp [e1]
                    by_cases e2 : S = O
                    · have d2 : (S == O) = true := by simp [e2]
                      by_cases e3 : M = (m : Int)
                      · have d3 : (M == (m : Int)) = true := by simp [e3]
                        by_cases e4 : U = R
                        · have d4 : (U == R) = true := by simp [e4]
                          rw [d1] at kc
                          rw [d4] at kr
                          clear e1 e2 e3 e4 HUs
                          go_wp2
                          go_roundw
                          case rel => exact ⟨j4 + 1, by omega, by go_num, HW⟩
                          case measure => simp [intOf]; omega
                        · have d4 : (U == R) = false := by simp [e4]
                          have HNe : Hid (¬ (C = K ∧ S = O ∧ M = (m : Int) ∧ U = R)) := fun h => e4 h.2.2.2
                          rw [d1] at kc
                          rw [d4] at kr
                          clear e1 e2 e3 e4
                          go_wp2_with fail
                          refine (genuine_any C S M U T _ HW.out.rounds).mono ?_
                          rintro e w11 ⟨rfl, hb⟩
                          have HW11 := Lib.hid (HW.out.step hb)
                          clear hb HW c0 q0 q1 kc kr
                          cases hg : genB C S M U T
                          · clear hg HUs HNe
                            go_wp2
                            go_roundw
                            case rel => exact ⟨j4 + 1, by omega, by go_num, HW11⟩
                            case measure => simp [intOf]; omega
                          · obtain ⟨u1, u2, u3, u4, u5⟩ := HUs.out hg
                            have HMt := Lib.hid (u5 HNe.out)
                            clear hg HUs HNe u5
                            go_wp2_with fail
                            refine (content_any S M U _ u1 u2 (by omega)).mono ?_
                            rintro e w12 ⟨rfl, hb⟩
                            have HW12 := Lib.hid (HW11.out.step hb)
                            have HCb : Hid (∀ W : World, w.heap.size ≤ W.heap.size → OwnS w.heap.size (W.alloc (.cells #[.string ((⟨#[0]⟩ : ByteArray) ++ bs (contentB S M U)), .string ((⟨#[1]⟩ : ByteArray) ++ bs C ++ bs (leafB (contentB S M U)))] 9)) (.slice (some ⟨W.heap.size, 0, none⟩) 2 2) (tagsL C S M U)) := fun W hW => by
                              rw [cat_bs1, cat_bs1, cat_bs]
                              exact ownS_lit2 W w.heap.size _ _ hW
                            have hcs : (bs (contentB S M U)).size ≤ 100 := by rw [bs_size]; unfold contentB; have := enc_length (zz S); have := enc_length (zz M); simp; omega
                            have HLg := Lib.hid (fun W => refLeaf_any (bs (contentB S M U)) W (by omega))
                            rw [bs_list] at HLg
                            have hks2 : (bs C).size = 32 := by rw [bs_size]; exact u3
                            have hlfs : (bs (leafB (contentB S M U))).size = 32 := by rw [bs_size]; exact leafB_length _
                            have htl : ∀ x ∈ tagsL C S M U, x.length ≤ 1000000 := fun x hx => by
                              unfold tagsL at hx
                              rw [bs_size] at hcs
                              simp only [List.mem_cons, List.not_mem_nil, or_false] at hx
                              rcases hx with rfl | rfl
                              · simp; omega
                              · simp [leafB_length]; omega
                            have HTl2 := Lib.hid htl
                            have o1 : ¬ (9223372036854775807 < 1 + (bs (contentB S M U)).size) := by omega
                            have o2 : ¬ (9223372036854775807 < 1 + (bs C).size) := by omega
                            have o3 : ¬ (9223372036854775807 < 1 + (bs C).size + (bs (leafB (contentB S M U))).size) := by omega
                            generalize bs (contentB S M U) = CD at *
                            generalize bs (leafB (contentB S M U)) = LG at *
                            clear hb HW11 htl hcs hlfs
                            go_wp2_with fail
                            refine (HLf.out _).mono ?_
                            rintro e w13 ⟨rfl, hb⟩
                            have HW13 := Lib.hid (HW12.out.step hb)
                            clear hb HW12
                            have hL := (HW13.out.alloc (.cells #[.string ((⟨#[0]⟩ : ByteArray) ++ CC), .string ((⟨#[1]⟩ : ByteArray) ++ bs K ++ LF)] 9)).add (P := OwnsN w.heap.size (.slice (some ⟨w13.heap.size, 0, none⟩) 2 2) (tagsL K O m R)) (keep_owns (HCa.out w13 HW13.out.below.size))
                            have HW14 := Lib.hid hL
                            clear hL HW13
                            go_wp2_with fail
                            refine (HLg.out _).mono ?_
                            rintro e w15 ⟨rfl, hb⟩
                            have HW15 := Lib.hid (HW14.out.step hb)
                            clear hb HW14
                            have hL := (HW15.out.alloc (.cells #[.string ((⟨#[0]⟩ : ByteArray) ++ CD), .string ((⟨#[1]⟩ : ByteArray) ++ bs C ++ LG)] 9)).add (P := OwnsN w.heap.size (.slice (some ⟨w15.heap.size, 0, none⟩) 2 2) (tagsL C S M U)) (keep_owns (HCb.out w15 HW15.out.below.size))
                            have HW16 := Lib.hid hL
                            clear hL HW15
                            go_wp2_with fail
                            refine (collided_any _ _ (tagsL K O m R) (tagsL C S M U) _ (show OwnsN w.heap.size (.slice (some ⟨w13.heap.size, 0, none⟩) 2 2) (tagsL K O m R) _ from HW16.out.get (by simp)).strs (show OwnsN w.heap.size (.slice (some ⟨w15.heap.size, 0, none⟩) 2 2) (tagsL C S M U) _ from HW16.out.get (by simp)).strs HTl.out HTl2.out (by show 2 ≤ _; omega)).mono ?_
                            rintro e w17 ⟨rfl, hb⟩
                            rw [HMt.out]
                            have HW17 := Lib.hid ((HW16.out.step hb).sub (Qs := [TwoN g4 (bs R) (bs Nx), TwoI g3 m P, TwoI g2 O O2, TwoN g1 (bs K) (bs K2), BookN B O (.slice ra m rc), BookN B2 O2 (.slice ra2 l2.length rc2)]) (fun Q hQ => List.mem_cons_of_mem _ (List.mem_cons_of_mem _ hQ)))
                            clear hb HW16
                            go_wp2
                            go_roundw
                            case rel => exact ⟨j4 + 1, by omega, by go_num, HW17⟩
                            case measure => simp [intOf]; omega
                      · have d3 : (M == (m : Int)) = false := by simp [e3]
                        have HNe : Hid (¬ (C = K ∧ S = O ∧ M = (m : Int) ∧ U = R)) := fun h => e3 h.2.2.1
                        rw [d1] at kc
                        clear e1 e2 e3
                        go_wp2_with fail
                        refine (genuine_any C S M U T _ HW.out.rounds).mono ?_
                        rintro e w11 ⟨rfl, hb⟩
                        have HW11 := Lib.hid (HW.out.step hb)
                        clear hb HW c0 q0 q1 kc kr
                        cases hg : genB C S M U T
                        · clear hg HUs HNe
                          go_wp2
                          go_roundw
                          case rel => exact ⟨j4 + 1, by omega, by go_num, HW11⟩
                          case measure => simp [intOf]; omega
                        · obtain ⟨u1, u2, u3, u4, u5⟩ := HUs.out hg
                          have HMt := Lib.hid (u5 HNe.out)
                          clear hg HUs HNe u5
                          go_wp2_with fail
                          refine (content_any S M U _ u1 u2 (by omega)).mono ?_
                          rintro e w12 ⟨rfl, hb⟩
                          have HW12 := Lib.hid (HW11.out.step hb)
                          have HCb : Hid (∀ W : World, w.heap.size ≤ W.heap.size → OwnS w.heap.size (W.alloc (.cells #[.string ((⟨#[0]⟩ : ByteArray) ++ bs (contentB S M U)), .string ((⟨#[1]⟩ : ByteArray) ++ bs C ++ bs (leafB (contentB S M U)))] 9)) (.slice (some ⟨W.heap.size, 0, none⟩) 2 2) (tagsL C S M U)) := fun W hW => by
                            rw [cat_bs1, cat_bs1, cat_bs]
                            exact ownS_lit2 W w.heap.size _ _ hW
                          have hcs : (bs (contentB S M U)).size ≤ 100 := by rw [bs_size]; unfold contentB; have := enc_length (zz S); have := enc_length (zz M); simp; omega
                          have HLg := Lib.hid (fun W => refLeaf_any (bs (contentB S M U)) W (by omega))
                          rw [bs_list] at HLg
                          have hks2 : (bs C).size = 32 := by rw [bs_size]; exact u3
                          have hlfs : (bs (leafB (contentB S M U))).size = 32 := by rw [bs_size]; exact leafB_length _
                          have htl : ∀ x ∈ tagsL C S M U, x.length ≤ 1000000 := fun x hx => by
                            unfold tagsL at hx
                            rw [bs_size] at hcs
                            simp only [List.mem_cons, List.not_mem_nil, or_false] at hx
                            rcases hx with rfl | rfl
                            · simp; omega
                            · simp [leafB_length]; omega
                          have HTl2 := Lib.hid htl
                          have o1 : ¬ (9223372036854775807 < 1 + (bs (contentB S M U)).size) := by omega
                          have o2 : ¬ (9223372036854775807 < 1 + (bs C).size) := by omega
                          have o3 : ¬ (9223372036854775807 < 1 + (bs C).size + (bs (leafB (contentB S M U))).size) := by omega
                          generalize bs (contentB S M U) = CD at *
                          generalize bs (leafB (contentB S M U)) = LG at *
                          clear hb HW11 htl hcs hlfs
                          go_wp2_with fail
                          refine (HLf.out _).mono ?_
                          rintro e w13 ⟨rfl, hb⟩
                          have HW13 := Lib.hid (HW12.out.step hb)
                          clear hb HW12
                          have hL := (HW13.out.alloc (.cells #[.string ((⟨#[0]⟩ : ByteArray) ++ CC), .string ((⟨#[1]⟩ : ByteArray) ++ bs K ++ LF)] 9)).add (P := OwnsN w.heap.size (.slice (some ⟨w13.heap.size, 0, none⟩) 2 2) (tagsL K O m R)) (keep_owns (HCa.out w13 HW13.out.below.size))
                          have HW14 := Lib.hid hL
                          clear hL HW13
                          go_wp2_with fail
                          refine (HLg.out _).mono ?_
                          rintro e w15 ⟨rfl, hb⟩
                          have HW15 := Lib.hid (HW14.out.step hb)
                          clear hb HW14
                          have hL := (HW15.out.alloc (.cells #[.string ((⟨#[0]⟩ : ByteArray) ++ CD), .string ((⟨#[1]⟩ : ByteArray) ++ bs C ++ LG)] 9)).add (P := OwnsN w.heap.size (.slice (some ⟨w15.heap.size, 0, none⟩) 2 2) (tagsL C S M U)) (keep_owns (HCb.out w15 HW15.out.below.size))
                          have HW16 := Lib.hid hL
                          clear hL HW15
                          go_wp2_with fail
                          refine (collided_any _ _ (tagsL K O m R) (tagsL C S M U) _ (show OwnsN w.heap.size (.slice (some ⟨w13.heap.size, 0, none⟩) 2 2) (tagsL K O m R) _ from HW16.out.get (by simp)).strs (show OwnsN w.heap.size (.slice (some ⟨w15.heap.size, 0, none⟩) 2 2) (tagsL C S M U) _ from HW16.out.get (by simp)).strs HTl.out HTl2.out (by show 2 ≤ _; omega)).mono ?_
                          rintro e w17 ⟨rfl, hb⟩
                          rw [HMt.out]
                          have HW17 := Lib.hid ((HW16.out.step hb).sub (Qs := [TwoN g4 (bs R) (bs Nx), TwoI g3 m P, TwoI g2 O O2, TwoN g1 (bs K) (bs K2), BookN B O (.slice ra m rc), BookN B2 O2 (.slice ra2 l2.length rc2)]) (fun Q hQ => List.mem_cons_of_mem _ (List.mem_cons_of_mem _ hQ)))
                          clear hb HW16
                          go_wp2
                          go_roundw
                          case rel => exact ⟨j4 + 1, by omega, by go_num, HW17⟩
                          case measure => simp [intOf]; omega
                    · have d2 : (S == O) = false := by simp [e2]
                      have HNe : Hid (¬ (C = K ∧ S = O ∧ M = (m : Int) ∧ U = R)) := fun h => e2 h.2.1
                      rw [d1] at kc
                      clear e1 e2
                      go_wp2_with fail
                      refine (genuine_any C S M U T _ HW.out.rounds).mono ?_
                      rintro e w11 ⟨rfl, hb⟩
                      have HW11 := Lib.hid (HW.out.step hb)
                      clear hb HW c0 q0 q1 kc kr
                      cases hg : genB C S M U T
                      · clear hg HUs HNe
                        go_wp2
                        go_roundw
                        case rel => exact ⟨j4 + 1, by omega, by go_num, HW11⟩
                        case measure => simp [intOf]; omega
                      · obtain ⟨u1, u2, u3, u4, u5⟩ := HUs.out hg
                        have HMt := Lib.hid (u5 HNe.out)
                        clear hg HUs HNe u5
                        go_wp2_with fail
                        refine (content_any S M U _ u1 u2 (by omega)).mono ?_
                        rintro e w12 ⟨rfl, hb⟩
                        have HW12 := Lib.hid (HW11.out.step hb)
                        have HCb : Hid (∀ W : World, w.heap.size ≤ W.heap.size → OwnS w.heap.size (W.alloc (.cells #[.string ((⟨#[0]⟩ : ByteArray) ++ bs (contentB S M U)), .string ((⟨#[1]⟩ : ByteArray) ++ bs C ++ bs (leafB (contentB S M U)))] 9)) (.slice (some ⟨W.heap.size, 0, none⟩) 2 2) (tagsL C S M U)) := fun W hW => by
                          rw [cat_bs1, cat_bs1, cat_bs]
                          exact ownS_lit2 W w.heap.size _ _ hW
                        have hcs : (bs (contentB S M U)).size ≤ 100 := by rw [bs_size]; unfold contentB; have := enc_length (zz S); have := enc_length (zz M); simp; omega
                        have HLg := Lib.hid (fun W => refLeaf_any (bs (contentB S M U)) W (by omega))
                        rw [bs_list] at HLg
                        have hks2 : (bs C).size = 32 := by rw [bs_size]; exact u3
                        have hlfs : (bs (leafB (contentB S M U))).size = 32 := by rw [bs_size]; exact leafB_length _
                        have htl : ∀ x ∈ tagsL C S M U, x.length ≤ 1000000 := fun x hx => by
                          unfold tagsL at hx
                          rw [bs_size] at hcs
                          simp only [List.mem_cons, List.not_mem_nil, or_false] at hx
                          rcases hx with rfl | rfl
                          · simp; omega
                          · simp [leafB_length]; omega
                        have HTl2 := Lib.hid htl
                        have o1 : ¬ (9223372036854775807 < 1 + (bs (contentB S M U)).size) := by omega
                        have o2 : ¬ (9223372036854775807 < 1 + (bs C).size) := by omega
                        have o3 : ¬ (9223372036854775807 < 1 + (bs C).size + (bs (leafB (contentB S M U))).size) := by omega
                        generalize bs (contentB S M U) = CD at *
                        generalize bs (leafB (contentB S M U)) = LG at *
                        clear hb HW11 htl hcs hlfs
                        go_wp2_with fail
                        refine (HLf.out _).mono ?_
                        rintro e w13 ⟨rfl, hb⟩
                        have HW13 := Lib.hid (HW12.out.step hb)
                        clear hb HW12
                        have hL := (HW13.out.alloc (.cells #[.string ((⟨#[0]⟩ : ByteArray) ++ CC), .string ((⟨#[1]⟩ : ByteArray) ++ bs K ++ LF)] 9)).add (P := OwnsN w.heap.size (.slice (some ⟨w13.heap.size, 0, none⟩) 2 2) (tagsL K O m R)) (keep_owns (HCa.out w13 HW13.out.below.size))
                        have HW14 := Lib.hid hL
                        clear hL HW13
                        go_wp2_with fail
                        refine (HLg.out _).mono ?_
                        rintro e w15 ⟨rfl, hb⟩
                        have HW15 := Lib.hid (HW14.out.step hb)
                        clear hb HW14
                        have hL := (HW15.out.alloc (.cells #[.string ((⟨#[0]⟩ : ByteArray) ++ CD), .string ((⟨#[1]⟩ : ByteArray) ++ bs C ++ LG)] 9)).add (P := OwnsN w.heap.size (.slice (some ⟨w15.heap.size, 0, none⟩) 2 2) (tagsL C S M U)) (keep_owns (HCb.out w15 HW15.out.below.size))
                        have HW16 := Lib.hid hL
                        clear hL HW15
                        go_wp2_with fail
                        refine (collided_any _ _ (tagsL K O m R) (tagsL C S M U) _ (show OwnsN w.heap.size (.slice (some ⟨w13.heap.size, 0, none⟩) 2 2) (tagsL K O m R) _ from HW16.out.get (by simp)).strs (show OwnsN w.heap.size (.slice (some ⟨w15.heap.size, 0, none⟩) 2 2) (tagsL C S M U) _ from HW16.out.get (by simp)).strs HTl.out HTl2.out (by show 2 ≤ _; omega)).mono ?_
                        rintro e w17 ⟨rfl, hb⟩
                        rw [HMt.out]
                        have HW17 := Lib.hid ((HW16.out.step hb).sub (Qs := [TwoN g4 (bs R) (bs Nx), TwoI g3 m P, TwoI g2 O O2, TwoN g1 (bs K) (bs K2), BookN B O (.slice ra m rc), BookN B2 O2 (.slice ra2 l2.length rc2)]) (fun Q hQ => List.mem_cons_of_mem _ (List.mem_cons_of_mem _ hQ)))
                        clear hb HW16
                        go_wp2
                        go_roundw
                        case rel => exact ⟨j4 + 1, by omega, by go_num, HW17⟩
                        case measure => simp [intOf]; omega
                  · have d1 : (C == K) = false := by simp [e1]
                    have HNe : Hid (¬ (C = K ∧ S = O ∧ M = (m : Int) ∧ U = R)) := fun h => e1 h.1
                    rw [d1] at kc
                    clear e1
                    go_wp2_with fail
                    refine (genuine_any C S M U T _ HW.out.rounds).mono ?_
                    rintro e w11 ⟨rfl, hb⟩
                    have HW11 := Lib.hid (HW.out.step hb)
                    clear hb HW c0 q0 q1 kc kr
                    cases hg : genB C S M U T
                    · clear hg HUs HNe
                      go_wp2
                      go_roundw
                      case rel => exact ⟨j4 + 1, by omega, by go_num, HW11⟩
                      case measure => simp [intOf]; omega
                    · obtain ⟨u1, u2, u3, u4, u5⟩ := HUs.out hg
                      have HMt := Lib.hid (u5 HNe.out)
                      clear hg HUs HNe u5
                      go_wp2_with fail
                      refine (content_any S M U _ u1 u2 (by omega)).mono ?_
                      rintro e w12 ⟨rfl, hb⟩
                      have HW12 := Lib.hid (HW11.out.step hb)
                      have HCb : Hid (∀ W : World, w.heap.size ≤ W.heap.size → OwnS w.heap.size (W.alloc (.cells #[.string ((⟨#[0]⟩ : ByteArray) ++ bs (contentB S M U)), .string ((⟨#[1]⟩ : ByteArray) ++ bs C ++ bs (leafB (contentB S M U)))] 9)) (.slice (some ⟨W.heap.size, 0, none⟩) 2 2) (tagsL C S M U)) := fun W hW => by
                        rw [cat_bs1, cat_bs1, cat_bs]
                        exact ownS_lit2 W w.heap.size _ _ hW
                      have hcs : (bs (contentB S M U)).size ≤ 100 := by rw [bs_size]; unfold contentB; have := enc_length (zz S); have := enc_length (zz M); simp; omega
                      have HLg := Lib.hid (fun W => refLeaf_any (bs (contentB S M U)) W (by omega))
                      rw [bs_list] at HLg
                      have hks2 : (bs C).size = 32 := by rw [bs_size]; exact u3
                      have hlfs : (bs (leafB (contentB S M U))).size = 32 := by rw [bs_size]; exact leafB_length _
                      have htl : ∀ x ∈ tagsL C S M U, x.length ≤ 1000000 := fun x hx => by
                        unfold tagsL at hx
                        rw [bs_size] at hcs
                        simp only [List.mem_cons, List.not_mem_nil, or_false] at hx
                        rcases hx with rfl | rfl
                        · simp; omega
                        · simp [leafB_length]; omega
                      have HTl2 := Lib.hid htl
                      have o1 : ¬ (9223372036854775807 < 1 + (bs (contentB S M U)).size) := by omega
                      have o2 : ¬ (9223372036854775807 < 1 + (bs C).size) := by omega
                      have o3 : ¬ (9223372036854775807 < 1 + (bs C).size + (bs (leafB (contentB S M U))).size) := by omega
                      generalize bs (contentB S M U) = CD at *
                      generalize bs (leafB (contentB S M U)) = LG at *
                      clear hb HW11 htl hcs hlfs
                      go_wp2_with fail
                      refine (HLf.out _).mono ?_
                      rintro e w13 ⟨rfl, hb⟩
                      have HW13 := Lib.hid (HW12.out.step hb)
                      clear hb HW12
                      have hL := (HW13.out.alloc (.cells #[.string ((⟨#[0]⟩ : ByteArray) ++ CC), .string ((⟨#[1]⟩ : ByteArray) ++ bs K ++ LF)] 9)).add (P := OwnsN w.heap.size (.slice (some ⟨w13.heap.size, 0, none⟩) 2 2) (tagsL K O m R)) (keep_owns (HCa.out w13 HW13.out.below.size))
                      have HW14 := Lib.hid hL
                      clear hL HW13
                      go_wp2_with fail
                      refine (HLg.out _).mono ?_
                      rintro e w15 ⟨rfl, hb⟩
                      have HW15 := Lib.hid (HW14.out.step hb)
                      clear hb HW14
                      have hL := (HW15.out.alloc (.cells #[.string ((⟨#[0]⟩ : ByteArray) ++ CD), .string ((⟨#[1]⟩ : ByteArray) ++ bs C ++ LG)] 9)).add (P := OwnsN w.heap.size (.slice (some ⟨w15.heap.size, 0, none⟩) 2 2) (tagsL C S M U)) (keep_owns (HCb.out w15 HW15.out.below.size))
                      have HW16 := Lib.hid hL
                      clear hL HW15
                      go_wp2_with fail
                      refine (collided_any _ _ (tagsL K O m R) (tagsL C S M U) _ (show OwnsN w.heap.size (.slice (some ⟨w13.heap.size, 0, none⟩) 2 2) (tagsL K O m R) _ from HW16.out.get (by simp)).strs (show OwnsN w.heap.size (.slice (some ⟨w15.heap.size, 0, none⟩) 2 2) (tagsL C S M U) _ from HW16.out.get (by simp)).strs HTl.out HTl2.out (by show 2 ≤ _; omega)).mono ?_
                      rintro e w17 ⟨rfl, hb⟩
                      rw [HMt.out]
                      have HW17 := Lib.hid ((HW16.out.step hb).sub (Qs := [TwoN g4 (bs R) (bs Nx), TwoI g3 m P, TwoI g2 O O2, TwoN g1 (bs K) (bs K2), BookN B O (.slice ra m rc), BookN B2 O2 (.slice ra2 l2.length rc2)]) (fun Q hQ => List.mem_cons_of_mem _ (List.mem_cons_of_mem _ hQ)))
                      clear hb HW16
                      go_wp2
                      go_roundw
                      case rel => exact ⟨j4 + 1, by omega, by go_num, HW17⟩
                      case measure => simp [intOf]; omega
                · obtain rfl : j4 = 2 := by omega
                  have HWy := Lib.hid (HW.out.sub (Qs := [TwoI g3 m P, TwoI g2 O O2, TwoN g1 (bs K) (bs K2), BookN B O (.slice ra m rc), BookN B2 O2 (.slice ra2 l2.length rc2)]) (fun Q hQ => List.mem_cons_of_mem _ hQ))
                  go_wp2
                  go_roundw
                  case rel => exact ⟨j3 + 1, by omega, by go_num, HWy⟩
                  case measure => simp [intOf]; omega
            · obtain rfl : j3 = 2 := by omega
              have HWy := Lib.hid (HW.out.sub (Qs := [TwoI g2 O O2, TwoN g1 (bs K) (bs K2), BookN B O (.slice ra m rc), BookN B2 O2 (.slice ra2 l2.length rc2)]) (fun Q hQ => List.mem_cons_of_mem _ hQ))
              go_wp2
              go_roundw
              case rel => exact ⟨j2 + 1, by omega, by go_num, HWy⟩
              case measure => simp [intOf]; omega
        · obtain rfl : j2 = 2 := by omega
          have HWy := Lib.hid (HW.out.sub (Qs := [TwoN g1 (bs K) (bs K2), BookN B O (.slice ra m rc), BookN B2 O2 (.slice ra2 l2.length rc2)]) (fun Q hQ => List.mem_cons_of_mem _ hQ))
          go_wp2
          go_roundw
          case rel => exact ⟨j + 1, by omega, by go_num, HWy⟩
          case measure => simp [intOf]; omega
    · obtain rfl : j = 2 := by omega
      have HBl := Lib.hid HW.out.below
      go_wp2
      go_ret
      exact ⟨rfl, HBl.out⟩
end Go.Proofs.YthfenbdlolbikaaDoor
