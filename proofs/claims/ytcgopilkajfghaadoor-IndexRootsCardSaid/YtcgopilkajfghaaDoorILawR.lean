/- IndexRoots. -/
import Derived.Test.YtcgopilkajfghaaDoorIRtsP
set_option linter.unusedVariables false
set_option linter.unusedSimpArgs false
namespace Go.Proofs.YtcgopilkajfghaaDoor
open Go.RowKit Go.Shelf

theorem keepT_rowsR {α : Type} {K : SK α} (ok : K.Ok) {F : Nat → Prop} {B : Nat} {W : World} {v : Value} {l : List α} (h : OwnK K B W v l) (hF : ∀ k, F k → k < B) : ∀ W', Turn F W W' → RowsN K v l W' := fun W' ht =>
  (h.turn ht fun g hg hf => by have h1 := (World.ownsRow.lt h g hg).1; have h2 := hF g hf; omega).rows ok
set_option maxRecDepth 100000 in
set_option maxHeartbeats 16000000 in
theorem lawR (v : Value) (N : Nat) (f : Nat → Nat → Int) (v2 : Value) (N2 : Nat) (f2 : Nat → Nat → Int) (wz bz : Int) (w : World) (hX : SixAt w.heap.size w v N f) (hY : SixAt w.heap.size w v2 N2 f2) (hwz : inI wz) (hbz : inI bz) (hT : Rounds w) :
    Calls Tryd.prog 8 #[v, v2, .int .i64 wz, .int .i64 bz] w fun e w' => e = .returned (.bool true) ∧ Below w.heap.size w w' := by
  have hL := LiveP.start hT
  have HX := Lib.hid hX
  have HY := Lib.hid hY
  have hpb := pickZ_bd bz 50 (by omega)
  have HPb := Lib.hid (fun W => ipick_any bz 50 W hbz.1 hbz.2 (by omega) (by omega))
  generalize pickZ bz 50 = pb at *
  have HPB := Lib.hid hpb
  have HWz := Lib.hid hwz
  have HT0 := Lib.hid hT
  have HL0 := Lib.hid hL
  clear hL hX hY hwz hbz hT hpb
  go_enter Tryd.func8, Tryd.ntmps8
  go_wp2_with fail
  refine (isane_any _ HL0.out.rounds).mono ?_
  rintro e w1 ⟨rfl, hb⟩
  have HZ1 := Lib.hid hb.size
  have HL1 := Lib.hid (HL0.out.step hb)
  clear hb HL0
  go_wp2_with fail
  refine (run_any _ N f _ ((HX.out.below HL1.out.below (Nat.le_refl _)).mono HL1.out.below.size)).mono ?_
  rintro e w2 ⟨S, X, rfl, hi, hb, hS⟩
  have HS := Lib.hid hS
  have HSl := Lib.hid hi.lt
  have HZ2 := Lib.hid hb.size
  have HL2 := Lib.hid ((HL1.out.step hb).add (keep_idx hi))
  clear hb hi hS HL1
  go_wp2_with fail
  refine (run_any _ N2 f2 _ ((HY.out.below HL2.out.below (Nat.le_refl _)).mono HL2.out.below.size)).mono ?_
  rintro e w3 ⟨R, Y, rfl, hi, hb, hR⟩
  have HR := Lib.hid hR
  have HRl := Lib.hid hi.lt
  have HZ3 := Lib.hid hb.size
  have HL3 := Lib.hid ((HL2.out.step hb).add (keep_idx hi))
  clear hb hi hR HL2
  have HLn : Hid ((runL f (min N 40)).length ≤ 40) := Nat.le_trans (runL_length f _) (Nat.min_le_right _ _)
  have HOk : Hid (IOk (runL f (min N 40))) := runL_ok f _
  have HLm : Hid ((runL f2 (min N2 40)).length ≤ 40) := Nat.le_trans (runL_length f2 _) (Nat.min_le_right _ _)
  have HOm : Hid (IOk (runL f2 (min N2 40))) := runL_ok f2 _
  generalize runL f (min N 40) = l at *
  generalize runL f2 (min N2 40) = m at *
  go_wp2_with fail
  refine (new_any _).mono ?_
  rintro e w4 ⟨Q0, Z, rfl, hj, hb, hQ⟩
  have HJ4 := Lib.hid hj
  have HZ4 := Lib.hid hb.size
  have HQ4 := Lib.hid hQ
  have HL4 := Lib.hid (HL3.out.step hb)
  clear hj hb hQ HL3
  go_wp2_with fail
  refine (cards_any _ (show (IdxN S X l) _ from HL4.out.get (by simp))).mono ?_
  rintro e w5 ⟨lv, rfl, ho, hb⟩
  obtain ⟨oa, oc, hov, hlc, hcm⟩ := ho.shape
  subst hov
  unfold maxLen at hcm
  obtain ⟨n, hn⟩ : ∃ n, n = l.length := ⟨_, rfl⟩
  have HN : Hid (l.length = n) := hn.symm
  rw [← hn] at hlc ho ⊢
  have hln : n ≤ 40 := by rw [hn]; exact HLn.out
  have HLT5 : Hid (LiveT Q0 w [IdxN R Y m, IdxN S X l, RowsN cardK (.slice oa n oc) l] w5) := by
    have h := HL4.out.step hb
    have a1 := HZ1.out; have a2 := HZ2.out; have a3 := HZ3.out; have a4 := HZ4.out; have a5 := hb.size
    refine ⟨h.below, HT0.out, fun k hk => ?_, fun P hP => ?_⟩
    · have h1 := HQ4.out k hk; have h2 := HJ4.out.lt k hk; omega
    · simp only [List.mem_cons, List.not_mem_nil, or_false] at hP
      rcases hP with rfl | rfl | rfl
      · exact keepT_idx (show (IdxN R Y m) _ from h.get (by simp)) (fun k hk hq => by have h1 := HRl.out k hk; have h2 := HQ4.out k hq; omega)
      · exact keepT_idx (show (IdxN S X l) _ from h.get (by simp)) (fun k hk hq => by have h1 := HSl.out k hk; have h2 := HQ4.out k hq; omega)
      · exact keepT_rowsR cardOk ho (fun k hk => HJ4.out.lt k hk)
  have HJ5 := Lib.hid (HJ4.out.below hb)
  clear ho hb hn HL4 HJ4
  go_wp2
  go_loopw [15] (fun i wr => ∃ (k : Nat) (Q : Nat → Prop) (M : List ICard), k ≤ n ∧ i = .int .i64 k ∧ Hid (LiveT Q w [IdxN R Y m, IdxN S X l, RowsN cardK (.slice oa n oc) l] wr) ∧ Hid (IdxN Q Z M wr) ∧ Hid (PutOk l M k)) (fun i _ => n - (intOf i).toNat)
  case atStart => exact ⟨0, Q0, [], Nat.zero_le _, rfl, HLT5, HJ5, putOk_zero l⟩
  case round =>
    obtain ⟨k, Q, M, hk, rfl, HLT, HJ, HM⟩ := hrel
    have k0 : 0 ≤ (k : Int) := by omega
    by_cases h1 : k < n
    · have k1 : (k : Int) < (n : Int) := by omega
      have hkl : k < l.length := by rw [HN.out]; exact h1
      obtain ⟨c, hc⟩ : ∃ c, c = l.getD k default := ⟨_, rfl⟩
      have hget : l[k]? = some c := by rw [hc, List.getD_eq_getElem?_getD, List.getElem?_eq_getElem hkl]; rfl
      have hcm_ := List.mem_of_getElem? hget
      have HNx : Hid (∀ c' : ICard, c'.id = c.id → validC c' = true → putL M c' = (insC M c', 0) ∧ PutOk l (insC M c') (k + 1)) := fun c' h2 h3 => putOk_next HOk.out HLn.out HM.out hkl (by rw [h2, hc]) h3
      have HVc : Hid (validC c = true) := HOk.out.valid c hcm_
      have HIc : Hid (inI c.id) := iok_in HOk.out hcm_
      have hub := (validC_ok HVc.out).2.1
      have hpw := pickZ_bd wz n (by omega)
      have HPw := Lib.hid (fun W => ipick_any wz n W HWz.out.1 HWz.out.2 (by omega) (by omega))
      obtain ⟨pw, hpwe⟩ : ∃ pw : Nat, pickZ wz n = (pw : Int) := ⟨(pickZ wz n).toNat, by omega⟩
      rw [hpwe] at HPw
      obtain ⟨gb, off, hae, hgb, p0, p1, p2, p3, p4⟩ := cards_at (show RowsAt cardK _ _ _ _ from (show (RowsN cardK (.slice oa n oc) l) _ from HLT.out.get (by simp))) k c hget
      subst hae
      obtain ⟨w6, hw6⟩ : ∃ w6, w6 = wr.alloc (.cells #[.int .i64 c.id, .int .i64 c.unit, .int .i64 c.kind, .int .i64 c.beg, .int .i64 c.fin] 31) := ⟨_, rfl⟩
      have hb6 : Below wr.heap.size wr w6 := by rw [hw6]; exact (Below.refl _ _).alloc (Nat.le_refl _) _
      have hc6 : BoxN wr.heap.size 31 (cardR c) w6 := by rw [hw6]; exact box_new wr _ _
      have HLT6 := Lib.hid (HLT.out.step hb6); have HJ6 := Lib.hid (HJ.out.below hb6)
      have HB6 := Lib.hid hb6; have HC6 := Lib.hid hc6; have HW6 := Lib.hid hw6
      have HQn : Hid (¬ Q wr.heap.size) := fun hk => Nat.lt_irrefl _ (HLT.out.2.2.1 _ hk).2
      clear hget hcm_ hc hkl hpw hpwe hgb hb6 hc6 hw6
      by_cases hkp : k = pw
      · subst hkp
        go_wp2_with fail
        rw [← HW6.out]
        refine (HPw.out _).mono ?_
        rintro e w' ⟨rfl, rfl⟩
        clear p0 p1 p2 p3 p4 HW6
        obtain ⟨hb1, hb2⟩ := HPB.out
        have w1_ : IntKind.i64.wrap (c.unit + 1) = c.unit + 1 := IntWalk.i64_in _ (by omega)
        have w2_ : IntKind.i64.wrap (c.unit + 1 + pb) = c.unit + 1 + pb := IntWalk.i64_in _ (by omega)
        obtain ⟨u, hu⟩ : ∃ u, u = (c.unit + 1 + pb) % 100 := ⟨_, rfl⟩
        have hu1 : 0 ≤ u ∧ u < 100 := by omega
        have w3_ : (c.unit + 1 + pb).tmod 100 = u := by rw [hu]; exact Int.tmod_eq_emod_of_nonneg (by omega)
        have w4_ : IntKind.i64.wrap ((c.unit + 1 + pb).tmod 100) = u := by rw [w3_]; exact IntWalk.i64_in _ (by omega)
        have w5_ : (c.unit + 1 + pb) % 100 = u := hu.symm
        have w6_ : IntKind.i64.wrap u = u := IntWalk.i64_in _ (by omega)
        have HVd : Hid (validC (unitC c u) = true) := unitC_ok HVc.out hu1.1 hu1.2
        clear hu hu1 hb1 hb2
        have HQ : Hid (∀ W, w6.grownBy W none → W.cell? ⟨wr.heap.size, 1, none⟩ = some (.int .i64 c.unit)) := fun W hW => BoxN.cell (BoxN.grown HC6.out hW (by simp)) 1 _ rfl
        go_wp2
        refine wp_region_calm (tagPl [4] [(4, .val (.int .i64 pb))] 8) (by kernel_rfl) (by kernel_rfl) (by kernel_rfl) tag_c0 tag_hst ?_
        iterate 3 (refine calm_quiet (v := ?_) (by rfl) (by rfl) (fun W hW hD => ?_) ?_; rotate_left; (· (have y0 := HQ.out W hW; clear hD hW; go_simp; try with_reducible rfl)); simp only [Act.put, List.setIfInBounds_toArray, List.set_cons_zero, List.set_cons_succ, Nat.reduceAdd, Nat.zero_add])
        iterate 1 (refine calm_quiet (v := ?_) (by rfl) (by rfl) (fun W hW hD => ?_) ?_; rotate_left; (· (clear hD hW; go_simp; try with_reducible rfl)); simp only [Act.put, List.setIfInBounds_toArray, List.set_cons_zero, List.set_cons_succ, Nat.reduceAdd, Nat.zero_add])
        refine calm_fixed (.int .i64 pb) ⟨(default : World), rfl⟩ (fun v W h => h) rfl (by rfl) (by rfl) (fun W hW hD Kc hK => ?_) ?_
        · refine wp_of_call (f := 16) ?_ ((HPb.out W).mono ?_)
          · clear hD hW hK
            go_simp
          · rintro e w5 ⟨rfl, rfl⟩
            exact ⟨_, rfl, hK _ _ (made_plain rfl (Below.refl _ _) rfl)⟩
        simp only [Act.put, List.setIfInBounds_toArray, List.set_cons_zero, List.set_cons_succ, Nat.reduceAdd, Nat.zero_add]
        iterate 3 (refine calm_quiet (v := ?_) (by rfl) (by rfl) (fun W hW hD => ?_) ?_; rotate_left; (· (clear hD hW; go_simp; try with_reducible rfl)); simp only [Act.put, List.setIfInBounds_toArray, List.set_cons_zero, List.set_cons_succ, Nat.reduceAdd, Nat.zero_add])
        refine calm_tail (by rfl) fun W hW hF => ?_
        have hc : BoxN wr.heap.size 31 (cardR c) W := BoxN.grown HC6.out hW (by simp)
        have z0 := BoxN.cell hc 1 _ rfl
        have zf := BoxN.frozen hc
        obtain ⟨w7, hw7⟩ : ∃ w7, w7 = W.setCell ⟨wr.heap.size, 1, none⟩ (.int .i64 u) := ⟨_, rfl⟩
        have hb7 : Below wr.heap.size wr w7 := by rw [hw7]; exact (HB6.out.trans ((grown_below hW).mono HB6.out.size)).setCell (p := ⟨wr.heap.size, 1, none⟩) (Nat.le_refl _) _
        have hc7 : CardN wr.heap.size (unitC c u) w7 := by rw [hw7]; exact hc.set 1 _
        have HLT7 := Lib.hid (HLT.out.step hb7); have HJ7 := Lib.hid (HJ.out.below hb7)
        obtain ⟨c0, c1, c2, c3, c4⟩ := CardN.cells hc7
        have HW7 := Lib.hid hw7
        rw [hw7] at c0 c1 c2 c3 c4
        clear hF hW hc hb7 hc7 hw7 HQ HLT6 HJ6 w1_ w2_ w3_ w4_ w5_ w6_
        go_wp2_with fail
        clear c0 c1 c2 c3 c4 z0 zf
        rw [← HW7.out]
        clear HW7
        refine (put_any (unitC c u) _ HJ7.out HIc.out).mono ?_
        rintro e w8 ⟨rfl, Q', hi, ht, hs⟩
        obtain ⟨hp, hq⟩ := HNx.out (unitC c u) rfl HVd.out
        rw [hp] at hi ⊢
        simp only at hi ⊢
        have HLTz := Lib.hid (HLT7.out.turn ht (fun k hk => hk) (fun k hk => ⟨hs k hk, hi.lt k hk⟩))
        have HJz := Lib.hid hi
        have HMz : Hid (PutOk l (insC M (unitC c u)) (k + 1)) := hq
        clear hi ht hs hp hq
        go_wp2
        go_roundw
        case rel => exact ⟨k + 1, Q', _, by omega, by go_num, HLTz.out.sub (by simp), HJz, HMz⟩
        case measure => simp [intOf]; omega
      · have e1_ : ((k : Int) == (pw : Int)) = false := beq_eq_false_iff_ne.2 (by omega)
        have e2_ : ¬ ((k : Int) = (pw : Int)) := by omega
        obtain ⟨c0, c1, c2, c3, c4⟩ := CardN.cells (show CardN _ c _ from HC6.out)
        go_wp2_with fail
        rw [← HW6.out]
        refine (HPw.out _).mono ?_
        rintro e w' ⟨rfl, rfl⟩
        clear p0 p1 p2 p3 p4 HW6
        go_wp2_with fail
        clear c0 c1 c2 c3 c4
        refine (put_any c _ HJ6.out HIc.out).mono ?_
        rintro e w8 ⟨rfl, Q', hi, ht, hs⟩
        obtain ⟨hp, hq⟩ := HNx.out c rfl HVc.out
        rw [hp] at hi ⊢
        simp only at hi ⊢
        have HLTz := Lib.hid (HLT6.out.turn ht (fun k hk => hk) (fun k hk => ⟨hs k hk, hi.lt k hk⟩))
        have HJz := Lib.hid hi
        have HMz : Hid (PutOk l (insC M c) (k + 1)) := hq
        clear hi ht hs hp hq
        go_wp2
        go_roundw
        case rel => exact ⟨k + 1, Q', _, by omega, by go_num, HLTz.out.sub (by simp), HJz, HMz⟩
        case measure => simp [intOf]; omega
    · obtain rfl : k = n := by omega
      have HOM : Hid (IOk M) := HM.out.1
      have HLM : Hid (M.length ≤ 40) := by show _ ≤ _; rw [HM.out.2.1]; exact hln
      have hL := HLT.out.live.add (keep_idx HJ.out)
      obtain ⟨w8, hw8⟩ : ∃ w8, w8 = wr.alloc (.cells #[.pointer (some ⟨Y, 0, none⟩), .pointer (some ⟨Z, 0, none⟩)] 25) := ⟨_, rfl⟩
      have hb8 : Below wr.heap.size wr w8 := by rw [hw8]; exact (Below.refl _ _).alloc (Nat.le_refl _) _
      have hx8 : BoxN wr.heap.size 25 #[.pointer (some ⟨Y, 0, none⟩), .pointer (some ⟨Z, 0, none⟩)] w8 := by rw [hw8]; exact box_new wr _ _
      have HL8 := Lib.hid ((hL.step hb8).add (keep_box hx8))
      have HW8 := Lib.hid hw8
      clear hL hb8 hx8 hw8 HLT HJ HM HLT5 HJ5
      go_wp2
      rw [← HW8.out]
      clear HW8
      generalize wr.heap.size = B8 at *
      go_loopw [67] (fun i wq => ∃ j : Nat, j ≤ 2 ∧ i = .int .i64 j ∧ Hid (Below w8.heap.size w8 wq)) (fun i _ => 2 - (intOf i).toNat)
      case atStart => exact ⟨0, by omega, rfl, Lib.hid (Below.refl _ _)⟩
      case round =>
        obtain ⟨j, hj, rfl, HB⟩ := hrel
        have HL9 := Lib.hid (HL8.out.step HB.out)
        have j0 : 0 ≤ (j : Int) := by omega
        by_cases h2 : j < 2
        · have j1 : (j : Int) < 2 := by omega
          obtain ⟨T, G, q, hp, hG, hq, hql⟩ : ∃ (T : Nat → Prop) (G : Nat) (q : List ICard), wr.cell? ⟨B8, j, none⟩ = some (.pointer (some ⟨G, 0, none⟩)) ∧ (∀ W, LiveP w [BoxN B8 25 #[.pointer (some ⟨Y, 0, none⟩), .pointer (some ⟨Z, 0, none⟩)], IdxN Q Z M, IdxN R Y m, IdxN S X l, RowsN cardK (.slice oa k oc) l] W → IdxN T G q W) ∧ IOk q ∧ q.length ≤ 40 := by
            have hb : BoxN B8 25 #[.pointer (some ⟨Y, 0, none⟩), .pointer (some ⟨Z, 0, none⟩)] wr := (show (BoxN B8 25 #[.pointer (some ⟨Y, 0, none⟩), .pointer (some ⟨Z, 0, none⟩)]) _ from HL9.out.get (by simp))
            rcases (show j = 0 ∨ j = 1 by omega) with rfl | rfl
            · exact ⟨R, Y, m, BoxN.cell hb 0 _ rfl, fun W h => (show (IdxN R Y m) _ from h.get (by simp)), HOm.out, HLm.out⟩
            · exact ⟨Q, Z, M, BoxN.cell hb 1 _ rfl, fun W h => (show (IdxN Q Z M) _ from h.get (by simp)), HOM.out, HLM.out⟩
          have HG := Lib.hid hG; have HOq := Lib.hid hq; have HLq := Lib.hid hql
          clear hG hq hql
          go_wp2_with fail
          clear hp
          refine (cards_any _ (HG.out _ HL9.out)).mono ?_
          rintro e w10 ⟨qv, rfl, ho, hb⟩
          obtain ⟨qa, qc, hov, hlc2, hcm2⟩ := ho.shape
          subst hov
          unfold maxLen at hcm2
          have HRq := Lib.hid (ho.rows cardOk)
          obtain ⟨qn, hqn⟩ : ∃ n, n = q.length := ⟨_, rfl⟩
          rw [← hqn] at hlc2 HRq ⊢
          clear hqn
          have HLa := Lib.hid (HL9.out.step hb)
          have HBa : Hid (Below w8.heap.size w8 w10) := HB.out.trans (hb.mono HB.out.size)
          clear ho hb HL9 HB
          go_wp2_with fail
          refine (iroot_any _ (show (IdxN S X l) _ from HLa.out.get (by simp)) HLa.out.rounds).mono ?_
          rintro e w11 ⟨rfl, hb⟩
          have HLb := Lib.hid (HLa.out.step hb); have HBb : Hid (Below w8.heap.size w8 w11) := HBa.out.trans (hb.mono HBa.out.size); have HRb := Lib.hid (HRq.out.later hb (Nat.le_refl _))
          clear hb HLa HBa HRq
          go_wp2_with fail
          refine (iroot_any _ (HG.out _ HLb.out) HLb.out.rounds).mono ?_
          rintro e w12 ⟨rfl, hb⟩
          have HLc := Lib.hid (HLb.out.step hb); have HBc : Hid (Below w8.heap.size w8 w12) := HBb.out.trans (hb.mono HBb.out.size); have HRc := Lib.hid (HRb.out.later hb (Nat.le_refl _))
          clear hb HLb HBb HRb
          have heq : ((bs (rootL (codesC l))).toList == (bs (rootL (codesC q))).toList) = (rootL (codesC l) == rootL (codesC q)) := by rw [bs_toList, bs_toList]
          have HRt := Lib.hid (roots_idx HOk.out HOq.out)
          generalize (rootL (codesC l) == rootL (codesC q)) = b1 at *
          generalize bs (rootL (codesC l)) = s1 at *
          generalize bs (rootL (codesC q)) = s2 at *
          go_wp2_with fail
          refine (sameC_any _ _ l q _ (show RowsAt cardK _ _ _ _ from (show (RowsN cardK (.slice oa k oc) l) _ from HLc.out.get (by simp))) HRc.out).mono ?_
          rintro e w13 ⟨rfl, hb⟩
          have HLd := Lib.hid (HLc.out.step hb); have HBd : Hid (Below w8.heap.size w8 w13) := HBc.out.trans (hb.mono HBc.out.size); have HRd := Lib.hid (HRc.out.later hb (Nat.le_refl _))
          clear hb HLc HBc HRc heq
          obtain ⟨b2, hb2⟩ : ∃ b, b = (l == q) := ⟨_, rfl⟩
          rw [← hb2] at HRt ⊢
          have HB2 := Lib.hid hb2
          clear hb2
          cases hbb : (b1 == b2)
          · obtain ⟨hx, hm⟩ := HRt.out hbb
            have HMt := Lib.hid hm
            subst hx
            have hb1 : b1 = true := by cases b1 <;> simp_all
            subst hb1
            clear hbb hm
            go_wp2_with fail
            refine (sameC_any _ _ l q _ (show RowsAt cardK _ _ _ _ from (show (RowsN cardK (.slice oa k oc) l) _ from HLd.out.get (by simp))) HRd.out).mono ?_
            rintro e w14 ⟨rfl, hb⟩
            rw [← HB2.out]
            have HLe := Lib.hid (HLd.out.step hb); have HBe : Hid (Below w8.heap.size w8 w14) := HBd.out.trans (hb.mono HBd.out.size); have HRe := Lib.hid (HRd.out.later hb (Nat.le_refl _))
            clear hb HLd HBd HRd
            go_wp2_with fail
            refine (rcodes_any _ l _ (show RowsAt cardK _ _ _ _ from (show (RowsN cardK (.slice oa k oc) l) _ from HLe.out.get (by simp))) (by have := HLn.out; omega)).mono ?_
            rintro e w15 ⟨cv, rfl, ho, hb⟩
            have HLf := Lib.hid ((HLe.out.step hb).add (keep_rows (ho.rows strOk))); have HBf : Hid (Below w8.heap.size w8 w15) := HBe.out.trans (hb.mono HBe.out.size); have HRf := Lib.hid (HRe.out.later hb (Nat.le_refl _))
            clear ho hb HLe HBe HRe
            have HCl : Hid ((codesC l).length ≤ 40) := by show _ ≤ _; unfold codesC; rw [List.length_map]; exact HLn.out
            have HCq : Hid ((codesC q).length ≤ 40) := by show _ ≤ _; unfold codesC; rw [List.length_map]; exact HLq.out
            have HSl2 : Hid (∀ x ∈ codesC l, x.length ≤ 50) := fun x hx => by obtain ⟨y, _, rfl⟩ := List.mem_map.1 hx; exact codeC_len y
            have HSq : Hid (∀ x ∈ codesC q, x.length ≤ 50) := fun x hx => by obtain ⟨y, _, rfl⟩ := List.mem_map.1 hx; exact codeC_len y
            go_wp2_with fail
            refine (hashed_any _ (codesC l) _ _ (Nat.le_refl _) ⟨Nat.le_trans HCl.out (by omega), fun x hx => Nat.le_trans (HSl2.out x hx) (by omega)⟩ (RowsAt.strsK (show RowsAt strK _ _ _ _ from (show (RowsN strK cv (codesC l)) _ from HLf.out.get (by simp))))).mono ?_
            rintro e w16 ⟨hv, rfl, ho, hb⟩
            have HLg := Lib.hid ((HLf.out.step hb).add (keep_strs ho.strs)); have HBg : Hid (Below w8.heap.size w8 w16) := HBf.out.trans (hb.mono HBf.out.size); have HRg := Lib.hid (HRf.out.later hb (Nat.le_refl _))
            clear hb HLf HBf HRf
            clear ho
            go_wp2_with fail
            refine (rcodes_any _ q _ HRg.out (by have := HLq.out; omega)).mono ?_
            rintro e w17 ⟨cq, rfl, ho, hb⟩
            have HLh := Lib.hid ((HLg.out.step hb).add (keep_rows (ho.rows strOk))); have HBh : Hid (Below w8.heap.size w8 w17) := HBg.out.trans (hb.mono HBg.out.size); have HRh := Lib.hid (HRg.out.later hb (Nat.le_refl _))
            clear hb HLg HBg HRg
            clear ho
            go_wp2_with fail
            refine (hashed_any _ (codesC q) _ _ (Nat.le_refl _) ⟨Nat.le_trans HCq.out (by omega), fun x hx => Nat.le_trans (HSq.out x hx) (by omega)⟩ (RowsAt.strsK (show RowsAt strK _ _ _ _ from (show (RowsN strK cq (codesC q)) _ from HLh.out.get (by simp))))).mono ?_
            rintro e w18 ⟨hv2, rfl, ho, hb⟩
            have HLi := Lib.hid ((HLh.out.step hb).add (keep_strs ho.strs)); have HBi : Hid (Below w8.heap.size w8 w18) := HBh.out.trans (hb.mono HBh.out.size); have HRi := Lib.hid (HRh.out.later hb (Nat.le_refl _))
            clear hb HLh HBh HRh
            clear ho
            go_wp2_with fail
            refine (collided_any hv hv2 (hashedL (codesC l)) (hashedL (codesC q)) _ (show (StrsN hv (hashedL (codesC l))) _ from HLi.out.get (by simp)) (show (StrsN hv2 (hashedL (codesC q))) _ from HLi.out.get (by simp)) (fun x hx => by have := hashedL_el _ (codesC l) (Nat.le_refl _) (fun y hy => Nat.le_trans (HSl2.out y hy) (by omega)) x hx; omega) (fun x hx => by have := hashedL_el _ (codesC q) (Nat.le_refl _) (fun y hy => Nat.le_trans (HSq.out y hy) (by omega)) x hx; omega) (by have := hashedL_bd (codesC q); have := HCq.out; omega)).mono ?_
            rintro e w19 ⟨rfl, hb⟩
            rw [HMt.out]
            have HBz : Hid (Below w8.heap.size w8 w19) := HBi.out.trans (hb.mono HBi.out.size)
            clear hb HLi HBi HRi
            go_wp2
            go_roundw
            case rel => exact ⟨j + 1, by omega, by go_num, HBz⟩
            case measure => simp [intOf]; omega
          · have HBz : Hid (Below w8.heap.size w8 w13) := HBd
            go_wp2
            go_roundw
            case rel => exact ⟨j + 1, by omega, by go_num, HBz⟩
            case measure => simp [intOf]; omega
        · obtain rfl : j = 2 := by omega
          have jj : ¬ (((2 : Nat) : Int) < 2) := by omega
          go_wp2
          go_ret
          exact ⟨rfl, HL9.out.below⟩
end Go.Proofs.YtcgopilkajfghaaDoor
