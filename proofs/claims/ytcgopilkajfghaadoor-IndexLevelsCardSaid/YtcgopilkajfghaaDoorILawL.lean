/- IndexLevels. -/
import Derived.Test.YtcgopilkajfghaaDoorILevP
import Derived.Deep.CutRange
set_option linter.unusedVariables false
set_option linter.unusedSimpArgs false
namespace Go.Proofs.YtcgopilkajfghaaDoor
open Go.RowKit Go.Shelf

set_option maxRecDepth 100000 in
set_option maxHeartbeats 32000000 in
theorem lawL (v : Value) (N : Nat) (f : Nat → Nat → Int) (yz : Int) (w : World) (hX : SixAt w.heap.size w v N f) (hyz : inI yz) (hT : Rounds w) :
    Calls Tryd.prog 6 #[v, .int .i64 yz] w fun e w' => e = .returned (.bool true) ∧ Below w.heap.size w w' := by
  have hL := LiveP.start hT
  have HX := Lib.hid hX
  have hyb := pickZ_bd yz 2100 (by omega)
  have HPy := Lib.hid (fun W => ipick_any yz 2100 W hyz.1 hyz.2 (by omega) (by omega))
  generalize pickZ yz 2100 = y at *
  have HYb := Lib.hid hyb
  have HL0 := Lib.hid hL
  clear hL hX hyz hT hyb
  go_enter Tryd.func6, Tryd.ntmps6
  go_wp2_with fail
  refine (isane_any _ HL0.out.rounds).mono ?_
  rintro e w1 ⟨rfl, hb⟩
  have HZ1 := Lib.hid hb.size
  have HL1 := Lib.hid (HL0.out.step hb)
  clear hb HL0
  go_wp2_with fail
  refine (run_any _ N f _ ((HX.out.below HL1.out.below (Nat.le_refl _)).mono HL1.out.below.size)).mono ?_
  rintro e w2 ⟨S, X, rfl, hi, hb, hS⟩
  have HS := Lib.hid hS
  have HSl := Lib.hid hi.lt
  have HZ2 := Lib.hid hb.size
  have HL2 := Lib.hid ((HL1.out.step hb).add (keep_idx hi))
  clear hb hi hS HL1
  have HLn : Hid ((runL f (min N 40)).length ≤ 40) := Nat.le_trans (runL_length f _) (Nat.min_le_right _ _)
  have HOk : Hid (IOk (runL f (min N 40))) := runL_ok f _
  generalize runL f (min N 40) = l at *
  have HF0 := lev_facts HOk.out HLn.out
  have HPr := Lib.hid (fun W (h : IdxN S X l W) => profile_any W h)
  have HBu := Lib.hid (fun W (h : IdxN S X l W) => busiest_any W h)
  generalize levsR (fun y : Nat => (cntY l (y : Int) : Int)) 2100 = P at *
  generalize busE P = b at *
  have HF := Lib.hid HF0
  clear HF0
  go_wp2_with fail
  refine (cards_any _ (show (IdxN S X l) _ from HL2.out.get (by simp))).mono ?_
  rintro e w3 ⟨lv, rfl, ho, hb⟩
  obtain ⟨oa, oc, hov, hloc, hmoc⟩ := ho.shape
  subst hov
  unfold maxLen at hmoc
  obtain ⟨n, hn⟩ : ∃ n, n = l.length := ⟨_, rfl⟩
  have HNn : Hid (l.length = n) := hn.symm
  rw [← hn] at hloc ho ⊢
  have HL3 := Lib.hid ((HL2.out.step hb).add (keep_rows (ho.rows cardOk)))
  clear ho hb hn HL2
  go_wp2_with fail
  refine (HPr.out _ (show (IdxN S X l) _ from HL3.out.get (by simp))).mono ?_
  rintro e w4 ⟨pv, rfl, ho, hb⟩
  obtain ⟨pa, pc, hov, hlpc, hmpc⟩ := ho.shape
  subst hov
  unfold maxLen at hmpc
  obtain ⟨np, hn⟩ : ∃ n, n = P.length := ⟨_, rfl⟩
  have HNnp : Hid (P.length = np) := hn.symm
  rw [← hn] at hlpc ho ⊢
  have HL4 := Lib.hid ((HL3.out.step hb).add (keep_rows (ho.rows levKOk)))
  clear ho hb hn HL3
  go_wp2_with fail
  refine (HBu.out _ (show (IdxN S X l) _ from HL4.out.get (by simp))).mono ?_
  rintro e w5 ⟨rfl, hb⟩
  obtain ⟨bb, hbb⟩ : ∃ x : Int, x = (b.beg : Nat) := ⟨_, rfl⟩
  obtain ⟨bf, hbf⟩ : ∃ x : Int, x = (b.fin : Nat) := ⟨_, rfl⟩
  obtain ⟨bc, hbc⟩ : ∃ x : Int, x = b.cnt := ⟨_, rfl⟩
  rw [show levV b = .agg #[.int .i64 bb, .int .i64 bf, .int .i64 bc] by rw [hbb, hbf, hbc]]
  have HBB := Lib.hid (⟨hbb, hbf, hbc⟩ : _ ∧ _ ∧ _)
  clear hbb hbf hbc
  obtain ⟨w6, hw6⟩ : ∃ w6, w6 = w5.alloc (.cells #[.int .i64 bb, .int .i64 bf, .int .i64 bc] 60) := ⟨_, rfl⟩
  have hb6 : Below w5.heap.size w5 w6 := by rw [hw6]; exact (Below.refl _ _).alloc (Nat.le_refl _) _
  have hx6 : BoxN w5.heap.size 60 #[.int .i64 bb, .int .i64 bf, .int .i64 bc] w6 := by rw [hw6]; exact box_new w5 _ _
  have HL6 := Lib.hid (((HL4.out.step hb).step hb6).add (keep_box hx6))
  have HW6 := Lib.hid hw6
  clear hb hb6 hx6 hw6 HL4 HPr HBu
  go_wp2_with fail
  rw [← HW6.out]
  clear HW6
  refine (HPy.out _).mono ?_
  rintro e w' ⟨rfl, rfl⟩
  have hnp : np ≤ 2100 := by rw [← HNnp.out]; exact HF.out.len
  go_wp2
  go_loopw [11, 12, 13, 14] (fun at_ sm fs i wr => ∃ k : Nat, k ≤ np ∧ i = .int .i64 k ∧ at_ = .int .i64 (atZ P k) ∧ sm = .int .i64 (smZ P k) ∧ fs = .bool (fiB P b k) ∧ Hid (Below w6.heap.size w6 wr)) (fun _ _ _ i _ => np - (intOf i).toNat)
  case atStart => exact ⟨0, Nat.zero_le _, rfl, rfl, rfl, rfl, Lib.hid (Below.refl _ _)⟩
  case round =>
    obtain ⟨k, hk, rfl, rfl, rfl, rfl, HB⟩ := hrel
    have k0 : 0 ≤ (k : Int) := by omega
    have HLr := Lib.hid (HL6.out.step HB.out)
    by_cases h1 : k < np
    · have k1 : (k : Int) < (np : Int) := by omega
      have hkP : k < P.length := by rw [HNnp.out]; exact h1
      obtain ⟨q, hq⟩ : ∃ q, q = P.getD k default := ⟨_, rfl⟩
      have hget : P[k]? = some q := by rw [hq, List.getD_eq_getElem?_getD, List.getElem?_eq_getElem hkP]; rfl
      have f1 := HF.out.beg k hkP; have f2 := HF.out.pos k hkP; have f3 := HF.out.le k hkP; have f4 := HF.out.cnt k hkP y; have f5 := HF.out.first k hkP; have f6 := HF.out.small k hkP; have f7 := HF.out.part k (by omega)
      rw [← hq] at f1 f2 f3 f4 f5 f6
      obtain ⟨qb, hqb⟩ : ∃ x : Int, x = (q.beg : Nat) := ⟨_, rfl⟩
      obtain ⟨qf, hqf⟩ : ∃ x : Int, x = (q.fin : Nat) := ⟨_, rfl⟩
      obtain ⟨qc, hqc⟩ : ∃ x : Int, x = q.cnt := ⟨_, rfl⟩
      obtain ⟨pb, off, hae, hpb, e0, e1, e2⟩ := levs_at (show RowsAt levK _ _ _ _ from (show (RowsN levK (.slice pa np pc) P) _ from HLr.out.get (by simp))) k q hget
      subst hae
      rw [← hqb] at e0 f1 f4; rw [← hqf] at e1 f4; rw [← hqc] at e2 f3 f4 f5 f6
      have Hat : Hid (atZ P (k + 1) = qf) := by show (((P.getD k default).fin : Nat) : Int) = qf; rw [← hq, hqf]
      have Hsm : Hid (smZ P (k + 1) = smZ P k + qc * (qf - qb)) := by show smZ P k + _ = _; rw [← hq, hqf, hqb, hqc]
      have Hfi : Hid (fiB P b (k + 1) = (fiB P b k && !decide (qc = bc))) := by show (fiB P b k && _) = _; rw [← hq, hqc, HBB.out.2.2]
      rw [← f1] at f7 ⊢
      rw [← HBB.out.2.2] at f3 f5
      have hlt : qb < qf := by omega
      have hf21 : qf ≤ 2100 := by omega
      have hb0 : 0 ≤ qb := by omega
      have hsb : 0 ≤ smZ P k ∧ smZ P k ≤ 84000 := by omega
      have hmul : 0 ≤ qc * (qf - qb) ∧ qc * (qf - qb) ≤ 84000 := ⟨Int.mul_nonneg f6.1 (by omega), by have h1 := Int.mul_le_mul_of_nonneg_right (c := qf - qb) f6.2 (by omega); omega⟩
      have HFi5 : Hid (fiB P b k = true → qc = bc → qb = bb ∧ qf = bf) := fun h1 h2 => by have h3 := f5 h1 h2; rw [hqb, hqf, h3]; exact ⟨HBB.out.1.symm, HBB.out.2.1.symm⟩
      have HCn : Hid (qb ≤ y → y < qf → countE l y = qc) := fun h1 h2 => f4 h1 h2
      have HQQ0 := Lib.hid (⟨hqb, hqf, hqc⟩ : _ ∧ _ ∧ _)
      clear f1 f2 f4 f5 f6 f7 hqb hqf hqc
      generalize smZ P k = sm at *
      generalize fiB P b k = fb at *
      obtain ⟨df, hdf⟩ : ∃ x, x = qf - qb := ⟨_, rfl⟩
      obtain ⟨mu, hmu⟩ : ∃ x, x = qc * df := ⟨_, rfl⟩
      obtain ⟨s2, hs2⟩ : ∃ x, x = sm + mu := ⟨_, rfl⟩
      rw [← hdf] at Hsm hmul; rw [← hmu] at Hsm hmul; rw [← hs2] at Hsm
      have wd : IntKind.i64.wrap (qf - qb) = df := by rw [hdf]; exact IntWalk.i64_in _ (by omega)
      have wm : IntKind.i64.wrap (qc * df) = mu := by rw [← hmu]; exact IntWalk.i64_in _ (by omega)
      have ws : IntKind.i64.wrap (sm + mu) = s2 := by rw [hs2]; exact IntWalk.i64_in _ (by omega)
      have HWs := Lib.hid (⟨wd, wm, ws⟩ : _ ∧ _ ∧ _)
      clear wd wm ws hdf hmu hs2 hsb hmul
      have l1 : decide (qf ≤ qb) = false := decide_eq_false (by omega)
      have l2 : decide (bc < qc) = false := decide_eq_false (by omega)
      obtain ⟨wA, hwA⟩ : ∃ wA, wA = wr.alloc (.cells #[.int .i64 qb, .int .i64 qf] 29) := ⟨_, rfl⟩
      have hbA : Below wr.heap.size wr wA := by rw [hwA]; exact (Below.refl _ _).alloc (Nat.le_refl _) _
      have hxA : BoxN wr.heap.size 29 #[.int .i64 qb, .int .i64 qf] wA := by rw [hwA]; exact box_new wr _ _
      have HLA := Lib.hid ((HLr.out.step hbA).add (keep_box hxA))
      have HBA : Hid (Below w6.heap.size w6 wA) := HB.out.trans (hbA.mono HB.out.size)
      have HWA := Lib.hid hwA
      clear hbA hxA hwA hpb hb0 hf21
      have HGet := Lib.hid hget
      have HQe := Lib.hid hq
      have HQQ : Hid (qb = (q.beg : Nat) ∧ qf = (q.fin : Nat) ∧ qc = q.cnt) := HQQ0
      clear hget
      clear hq
      go_wp2
      rw [← HWA.out]
      clear HWA e0 e1 e2
      go_cut [104] from 32 to 136 (fun s wx => s = .bool false ∧ Hid (Below wA.heap.size wA wx))
      case first =>
        by_cases hgt : 0 < k
        · have g1 : decide ((0 : Int) < (k : Int)) = true := decide_eq_true (by omega)
          obtain ⟨j, hj⟩ : ∃ j, k = j + 1 := ⟨k - 1, by omega⟩
          have hne := HF.out.ne j (by rw [← hj]; exact hkP)
          rw [← hj] at hne
          obtain ⟨pcnt, hpc⟩ : ∃ x, x = (P.getD j default).cnt := ⟨_, rfl⟩
          have HGj : Hid (P[j]? = some (P.getD j default)) := by show _ = _; rw [List.getD_eq_getElem?_getD, List.getElem?_eq_getElem (by omega)]; rfl
          have c2_ : (qc == pcnt) = false := by rw [beq_eq_false_iff_ne, HQQ.out.2.2, hpc, HQe.out]; exact hne
          have HPc := Lib.hid hpc
          have wj : IntKind.i64.wrap ((k : Int) - 1) = (j : Int) := by rw [hj]; exact (IntWalk.i64_in _ (by omega)).trans (by omega)
          have j0 : 0 ≤ (j : Int) := by omega
          have j1 : (j : Int) < (np : Int) := by omega
          clear hpc hne hj
          clear hkP
          have HQ : Hid (∀ W', wA.grownBy W' none → (W'.cell? ⟨wr.heap.size, 0, none⟩ = some (.int .i64 qb) ∧ W'.cell? ⟨wr.heap.size, 1, none⟩ = some (.int .i64 qf)) ∧ (W'.cell? ⟨w5.heap.size, 0, none⟩ = some (.int .i64 bb) ∧ W'.cell? ⟨w5.heap.size, 1, none⟩ = some (.int .i64 bf) ∧ W'.cell? ⟨w5.heap.size, 2, none⟩ = some (.int .i64 bc)) ∧ (W'.cell? ⟨pb, off + k * 3, none⟩ = some (.int .i64 qb) ∧ W'.cell? ⟨pb, off + k * 3 + 1, none⟩ = some (.int .i64 qf) ∧ W'.cell? ⟨pb, off + k * 3 + 2, none⟩ = some (.int .i64 qc)) ∧ IdxN S X l W' ∧ W'.cell? ⟨pb, off + j * 3 + 2, none⟩ = some (.int .i64 pcnt)) := fun W' hW' => by
            have hL := HLA.out.step (grown_below hW')
            have hs : BoxN wr.heap.size 29 #[.int .i64 qb, .int .i64 qf] W' := (show (BoxN wr.heap.size 29 #[.int .i64 qb, .int .i64 qf]) _ from hL.get (by simp))
            have hb : BoxN w5.heap.size 60 #[.int .i64 bb, .int .i64 bf, .int .i64 bc] W' := (show (BoxN w5.heap.size 60 #[.int .i64 bb, .int .i64 bf, .int .i64 bc]) _ from hL.get (by simp))
            have hr : RowsAt levK _ _ _ _ := (show (RowsN levK (.slice (some ⟨pb, off, none⟩) np pc) P) _ from hL.get (by simp))
            obtain ⟨b', o', e', _, r0, r1, r2⟩ := levs_at hr k q HGet.out
            cases e'
            rw [← HQQ.out.1] at r0; rw [← HQQ.out.2.1] at r1; rw [← HQQ.out.2.2] at r2
            obtain ⟨b', o', e', _, _, _, p2⟩ := levs_at hr j (P.getD j default) HGj.out
            cases e'
            rw [← HPc.out] at p2
            exact ⟨⟨BoxN.cell hs 0 _ rfl, BoxN.cell hs 1 _ rfl⟩, ⟨BoxN.cell hb 0 _ rfl, BoxN.cell hb 1 _ rfl, BoxN.cell hb 2 _ rfl⟩, ⟨r0, r1, r2⟩, (show (IdxN S X l) _ from hL.get (by simp)), p2⟩
          by_cases hy1 : qb ≤ y
          · have y1_ : decide (qb ≤ y) = true := decide_eq_true hy1
            by_cases hy2 : y < qf
            · have y2_ : decide (y < qf) = true := decide_eq_true hy2
              have HCy := Lib.hid (HCn.out hy1 hy2)
              refine wp_region_calm (tagPl [53] [(53, .val (.int .i64 qc))] 1000) (by kernel_rfl) (by kernel_rfl) (by kernel_rfl) tag_c0 tag_hst ?_
              iterate 10 (refine calm_quiet (v := ?_) (by rfl) (by rfl) (fun W_ hW hD => ?_) ?_; rotate_left; (· (obtain ⟨⟨s0, s1⟩, ⟨b0, b1, b2⟩, ⟨e0, e1, e2⟩, hX, p2⟩ := HQ.out W_ hW; clear hD hW hX; go_simp; try with_reducible rfl)); simp only [Act.put, List.setIfInBounds_toArray, List.set_cons_zero, List.set_cons_succ, Nat.reduceAdd, Nat.zero_add])
              iterate 2 (refine calm_quiet (v := ?_) (by rfl) (by rfl) (fun W_ hW hD => ?_) ?_; rotate_left; (· (clear hD hW; go_simp; try with_reducible rfl)); simp only [Act.put, List.setIfInBounds_toArray, List.set_cons_zero, List.set_cons_succ, Nat.reduceAdd, Nat.zero_add])
              iterate 3 (refine calm_quiet (v := ?_) (by rfl) (by rfl) (fun W_ hW hD => ?_) ?_; rotate_left; (· (clear hD hW; go_simp; try with_reducible rfl)); simp only [Act.put, List.setIfInBounds_toArray, List.set_cons_zero, List.set_cons_succ, Nat.reduceAdd, Nat.zero_add])
              iterate 12 (refine calm_quiet (v := ?_) (by rfl) (by rfl) (fun W_ hW hD => ?_) ?_; rotate_left; (· (obtain ⟨⟨s0, s1⟩, ⟨b0, b1, b2⟩, ⟨e0, e1, e2⟩, hX, p2⟩ := HQ.out W_ hW; clear hD hW hX; go_simp; try with_reducible rfl)); simp only [Act.put, List.setIfInBounds_toArray, List.set_cons_zero, List.set_cons_succ, Nat.reduceAdd, Nat.zero_add])
              iterate 3 (refine calm_quiet (v := ?_) (by rfl) (by rfl) (fun W_ hW hD => ?_) ?_; rotate_left; (· (clear hD hW; go_simp; try with_reducible rfl)); simp only [Act.put, List.setIfInBounds_toArray, List.set_cons_zero, List.set_cons_succ, Nat.reduceAdd, Nat.zero_add])
              iterate 8 (refine calm_quiet (v := ?_) (by rfl) (by rfl) (fun W_ hW hD => ?_) ?_; rotate_left; (· (obtain ⟨⟨s0, s1⟩, ⟨b0, b1, b2⟩, ⟨e0, e1, e2⟩, hX, p2⟩ := HQ.out W_ hW; clear hD hW hX; go_simp; try with_reducible rfl)); simp only [Act.put, List.setIfInBounds_toArray, List.set_cons_zero, List.set_cons_succ, Nat.reduceAdd, Nat.zero_add])
              iterate 2 (refine calm_quiet (v := ?_) (by rfl) (by rfl) (fun W_ hW hD => ?_) ?_; rotate_left; (· (clear hD hW; go_simp; try with_reducible rfl)); simp only [Act.put, List.setIfInBounds_toArray, List.set_cons_zero, List.set_cons_succ, Nat.reduceAdd, Nat.zero_add])
              iterate 5 (refine calm_quiet (v := ?_) (by rfl) (by rfl) (fun W_ hW hD => ?_) ?_; rotate_left; (· (obtain ⟨⟨s0, s1⟩, ⟨b0, b1, b2⟩, ⟨e0, e1, e2⟩, hX, p2⟩ := HQ.out W_ hW; clear hD hW hX; go_simp; try with_reducible rfl)); simp only [Act.put, List.setIfInBounds_toArray, List.set_cons_zero, List.set_cons_succ, Nat.reduceAdd, Nat.zero_add])
              iterate 4 (refine calm_quiet (v := ?_) (by rfl) (by rfl) (fun W_ hW hD => ?_) ?_; rotate_left; (· (obtain ⟨⟨s0, s1⟩, ⟨b0, b1, b2⟩, ⟨e0, e1, e2⟩, hX, p2⟩ := HQ.out W_ hW; clear hD hW hX; go_simp; try with_reducible rfl)); simp only [Act.put, List.setIfInBounds_toArray, List.set_cons_zero, List.set_cons_succ, Nat.reduceAdd, Nat.zero_add])
              iterate 2 (refine calm_quiet (v := ?_) (by rfl) (by rfl) (fun W_ hW hD => ?_) ?_; rotate_left; (· (clear hD hW; go_simp; try with_reducible rfl)); simp only [Act.put, List.setIfInBounds_toArray, List.set_cons_zero, List.set_cons_succ, Nat.reduceAdd, Nat.zero_add])
              iterate 2 (refine calm_quiet (v := ?_) (by rfl) (by rfl) (fun W_ hW hD => ?_) ?_; rotate_left; (· (clear hD hW; go_simp; try with_reducible rfl)); simp only [Act.put, List.setIfInBounds_toArray, List.set_cons_zero, List.set_cons_succ, Nat.reduceAdd, Nat.zero_add])
              refine calm_fixed (.int .i64 qc) ⟨(default : World), rfl⟩ (fun v W h => h) rfl (by rfl) (by rfl) (fun W_ hW hD Kc hK => ?_) ?_
              · obtain ⟨_, _, _, hX, _⟩ := HQ.out W_ hW
                refine wp_of_call (f := 21) ?_ ((count_any y W_ hX).mono ?_)
                · clear hD hW hK hX
                  go_simp
                · rintro e w5 ⟨rfl, rfl⟩
                  rw [HCy.out]
                  exact ⟨_, rfl, hK _ _ (made_plain rfl (Below.refl _ _) rfl)⟩
              simp only [Act.put, List.setIfInBounds_toArray, List.set_cons_zero, List.set_cons_succ, Nat.reduceAdd, Nat.zero_add]
              iterate 6 (refine calm_quiet (v := ?_) (by rfl) (by rfl) (fun W_ hW hD => ?_) ?_; rotate_left; (· (obtain ⟨⟨s0, s1⟩, ⟨b0, b1, b2⟩, ⟨e0, e1, e2⟩, hX, p2⟩ := HQ.out W_ hW; clear hD hW hX; go_simp; try with_reducible rfl)); simp only [Act.put, List.setIfInBounds_toArray, List.set_cons_zero, List.set_cons_succ, Nat.reduceAdd, Nat.zero_add])
              iterate 2 (refine calm_quiet (v := ?_) (by rfl) (by rfl) (fun W_ hW hD => ?_) ?_; rotate_left; (· (clear hD hW; go_simp; try with_reducible rfl)); simp only [Act.put, List.setIfInBounds_toArray, List.set_cons_zero, List.set_cons_succ, Nat.reduceAdd, Nat.zero_add])
              refine calm_nil fun W1 hW hF => ?_
              have HB1 : Hid (Below wA.heap.size wA W1) := grown_below hW
              clear hF hW HQ
              go_wp2_with fail
              go_meet
              exact ⟨rfl, HB1⟩
            · have y2_ : decide (y < qf) = false := decide_eq_false hy2
              refine wp_region_calm (tagPl [] [] 1000) (by kernel_rfl) (by kernel_rfl) (by kernel_rfl) tag_c0 tag_hst ?_
              iterate 10 (refine calm_quiet (v := ?_) (by rfl) (by rfl) (fun W_ hW hD => ?_) ?_; rotate_left; (· (obtain ⟨⟨s0, s1⟩, ⟨b0, b1, b2⟩, ⟨e0, e1, e2⟩, hX, p2⟩ := HQ.out W_ hW; clear hD hW hX; go_simp; try with_reducible rfl)); simp only [Act.put, List.setIfInBounds_toArray, List.set_cons_zero, List.set_cons_succ, Nat.reduceAdd, Nat.zero_add])
              iterate 2 (refine calm_quiet (v := ?_) (by rfl) (by rfl) (fun W_ hW hD => ?_) ?_; rotate_left; (· (clear hD hW; go_simp; try with_reducible rfl)); simp only [Act.put, List.setIfInBounds_toArray, List.set_cons_zero, List.set_cons_succ, Nat.reduceAdd, Nat.zero_add])
              iterate 3 (refine calm_quiet (v := ?_) (by rfl) (by rfl) (fun W_ hW hD => ?_) ?_; rotate_left; (· (clear hD hW; go_simp; try with_reducible rfl)); simp only [Act.put, List.setIfInBounds_toArray, List.set_cons_zero, List.set_cons_succ, Nat.reduceAdd, Nat.zero_add])
              iterate 12 (refine calm_quiet (v := ?_) (by rfl) (by rfl) (fun W_ hW hD => ?_) ?_; rotate_left; (· (obtain ⟨⟨s0, s1⟩, ⟨b0, b1, b2⟩, ⟨e0, e1, e2⟩, hX, p2⟩ := HQ.out W_ hW; clear hD hW hX; go_simp; try with_reducible rfl)); simp only [Act.put, List.setIfInBounds_toArray, List.set_cons_zero, List.set_cons_succ, Nat.reduceAdd, Nat.zero_add])
              iterate 3 (refine calm_quiet (v := ?_) (by rfl) (by rfl) (fun W_ hW hD => ?_) ?_; rotate_left; (· (clear hD hW; go_simp; try with_reducible rfl)); simp only [Act.put, List.setIfInBounds_toArray, List.set_cons_zero, List.set_cons_succ, Nat.reduceAdd, Nat.zero_add])
              iterate 8 (refine calm_quiet (v := ?_) (by rfl) (by rfl) (fun W_ hW hD => ?_) ?_; rotate_left; (· (obtain ⟨⟨s0, s1⟩, ⟨b0, b1, b2⟩, ⟨e0, e1, e2⟩, hX, p2⟩ := HQ.out W_ hW; clear hD hW hX; go_simp; try with_reducible rfl)); simp only [Act.put, List.setIfInBounds_toArray, List.set_cons_zero, List.set_cons_succ, Nat.reduceAdd, Nat.zero_add])
              iterate 2 (refine calm_quiet (v := ?_) (by rfl) (by rfl) (fun W_ hW hD => ?_) ?_; rotate_left; (· (clear hD hW; go_simp; try with_reducible rfl)); simp only [Act.put, List.setIfInBounds_toArray, List.set_cons_zero, List.set_cons_succ, Nat.reduceAdd, Nat.zero_add])
              iterate 5 (refine calm_quiet (v := ?_) (by rfl) (by rfl) (fun W_ hW hD => ?_) ?_; rotate_left; (· (obtain ⟨⟨s0, s1⟩, ⟨b0, b1, b2⟩, ⟨e0, e1, e2⟩, hX, p2⟩ := HQ.out W_ hW; clear hD hW hX; go_simp; try with_reducible rfl)); simp only [Act.put, List.setIfInBounds_toArray, List.set_cons_zero, List.set_cons_succ, Nat.reduceAdd, Nat.zero_add])
              iterate 4 (refine calm_quiet (v := ?_) (by rfl) (by rfl) (fun W_ hW hD => ?_) ?_; rotate_left; (· (obtain ⟨⟨s0, s1⟩, ⟨b0, b1, b2⟩, ⟨e0, e1, e2⟩, hX, p2⟩ := HQ.out W_ hW; clear hD hW hX; go_simp; try with_reducible rfl)); simp only [Act.put, List.setIfInBounds_toArray, List.set_cons_zero, List.set_cons_succ, Nat.reduceAdd, Nat.zero_add])
              iterate 2 (refine calm_quiet (v := ?_) (by rfl) (by rfl) (fun W_ hW hD => ?_) ?_; rotate_left; (· (clear hD hW; go_simp; try with_reducible rfl)); simp only [Act.put, List.setIfInBounds_toArray, List.set_cons_zero, List.set_cons_succ, Nat.reduceAdd, Nat.zero_add])
              iterate 9 (refine calm_skip (by rfl) (by rfl) ?_; simp only [Act.put, List.setIfInBounds_toArray, List.set_cons_zero, List.set_cons_succ, Nat.reduceAdd, Nat.zero_add])
              iterate 2 (refine calm_quiet (v := ?_) (by rfl) (by rfl) (fun W_ hW hD => ?_) ?_; rotate_left; (· (clear hD hW; go_simp; try with_reducible rfl)); simp only [Act.put, List.setIfInBounds_toArray, List.set_cons_zero, List.set_cons_succ, Nat.reduceAdd, Nat.zero_add])
              refine calm_nil fun W1 hW hF => ?_
              have HB1 : Hid (Below wA.heap.size wA W1) := grown_below hW
              clear hF hW HQ
              go_wp2_with fail
              go_meet
              exact ⟨rfl, HB1⟩
          · have y1_ : decide (qb ≤ y) = false := decide_eq_false hy1
            refine wp_region_calm (tagPl [] [] 1000) (by kernel_rfl) (by kernel_rfl) (by kernel_rfl) tag_c0 tag_hst ?_
            iterate 10 (refine calm_quiet (v := ?_) (by rfl) (by rfl) (fun W_ hW hD => ?_) ?_; rotate_left; (· (obtain ⟨⟨s0, s1⟩, ⟨b0, b1, b2⟩, ⟨e0, e1, e2⟩, hX, p2⟩ := HQ.out W_ hW; clear hD hW hX; go_simp; try with_reducible rfl)); simp only [Act.put, List.setIfInBounds_toArray, List.set_cons_zero, List.set_cons_succ, Nat.reduceAdd, Nat.zero_add])
            iterate 2 (refine calm_quiet (v := ?_) (by rfl) (by rfl) (fun W_ hW hD => ?_) ?_; rotate_left; (· (clear hD hW; go_simp; try with_reducible rfl)); simp only [Act.put, List.setIfInBounds_toArray, List.set_cons_zero, List.set_cons_succ, Nat.reduceAdd, Nat.zero_add])
            iterate 3 (refine calm_quiet (v := ?_) (by rfl) (by rfl) (fun W_ hW hD => ?_) ?_; rotate_left; (· (clear hD hW; go_simp; try with_reducible rfl)); simp only [Act.put, List.setIfInBounds_toArray, List.set_cons_zero, List.set_cons_succ, Nat.reduceAdd, Nat.zero_add])
            iterate 12 (refine calm_quiet (v := ?_) (by rfl) (by rfl) (fun W_ hW hD => ?_) ?_; rotate_left; (· (obtain ⟨⟨s0, s1⟩, ⟨b0, b1, b2⟩, ⟨e0, e1, e2⟩, hX, p2⟩ := HQ.out W_ hW; clear hD hW hX; go_simp; try with_reducible rfl)); simp only [Act.put, List.setIfInBounds_toArray, List.set_cons_zero, List.set_cons_succ, Nat.reduceAdd, Nat.zero_add])
            iterate 3 (refine calm_quiet (v := ?_) (by rfl) (by rfl) (fun W_ hW hD => ?_) ?_; rotate_left; (· (clear hD hW; go_simp; try with_reducible rfl)); simp only [Act.put, List.setIfInBounds_toArray, List.set_cons_zero, List.set_cons_succ, Nat.reduceAdd, Nat.zero_add])
            iterate 8 (refine calm_quiet (v := ?_) (by rfl) (by rfl) (fun W_ hW hD => ?_) ?_; rotate_left; (· (obtain ⟨⟨s0, s1⟩, ⟨b0, b1, b2⟩, ⟨e0, e1, e2⟩, hX, p2⟩ := HQ.out W_ hW; clear hD hW hX; go_simp; try with_reducible rfl)); simp only [Act.put, List.setIfInBounds_toArray, List.set_cons_zero, List.set_cons_succ, Nat.reduceAdd, Nat.zero_add])
            iterate 2 (refine calm_quiet (v := ?_) (by rfl) (by rfl) (fun W_ hW hD => ?_) ?_; rotate_left; (· (clear hD hW; go_simp; try with_reducible rfl)); simp only [Act.put, List.setIfInBounds_toArray, List.set_cons_zero, List.set_cons_succ, Nat.reduceAdd, Nat.zero_add])
            iterate 5 (refine calm_quiet (v := ?_) (by rfl) (by rfl) (fun W_ hW hD => ?_) ?_; rotate_left; (· (obtain ⟨⟨s0, s1⟩, ⟨b0, b1, b2⟩, ⟨e0, e1, e2⟩, hX, p2⟩ := HQ.out W_ hW; clear hD hW hX; go_simp; try with_reducible rfl)); simp only [Act.put, List.setIfInBounds_toArray, List.set_cons_zero, List.set_cons_succ, Nat.reduceAdd, Nat.zero_add])
            iterate 4 (refine calm_skip (by rfl) (by rfl) ?_; simp only [Act.put, List.setIfInBounds_toArray, List.set_cons_zero, List.set_cons_succ, Nat.reduceAdd, Nat.zero_add])
            iterate 2 (refine calm_quiet (v := ?_) (by rfl) (by rfl) (fun W_ hW hD => ?_) ?_; rotate_left; (· (clear hD hW; go_simp; try with_reducible rfl)); simp only [Act.put, List.setIfInBounds_toArray, List.set_cons_zero, List.set_cons_succ, Nat.reduceAdd, Nat.zero_add])
            iterate 9 (refine calm_skip (by rfl) (by rfl) ?_; simp only [Act.put, List.setIfInBounds_toArray, List.set_cons_zero, List.set_cons_succ, Nat.reduceAdd, Nat.zero_add])
            iterate 2 (refine calm_quiet (v := ?_) (by rfl) (by rfl) (fun W_ hW hD => ?_) ?_; rotate_left; (· (clear hD hW; go_simp; try with_reducible rfl)); simp only [Act.put, List.setIfInBounds_toArray, List.set_cons_zero, List.set_cons_succ, Nat.reduceAdd, Nat.zero_add])
            refine calm_nil fun W1 hW hF => ?_
            have HB1 : Hid (Below wA.heap.size wA W1) := grown_below hW
            clear hF hW HQ
            go_wp2_with fail
            go_meet
            exact ⟨rfl, HB1⟩
        · have g1 : decide ((0 : Int) < (k : Int)) = false := decide_eq_false (by omega)
          clear hkP
          have HQ : Hid (∀ W', wA.grownBy W' none → (W'.cell? ⟨wr.heap.size, 0, none⟩ = some (.int .i64 qb) ∧ W'.cell? ⟨wr.heap.size, 1, none⟩ = some (.int .i64 qf)) ∧ (W'.cell? ⟨w5.heap.size, 0, none⟩ = some (.int .i64 bb) ∧ W'.cell? ⟨w5.heap.size, 1, none⟩ = some (.int .i64 bf) ∧ W'.cell? ⟨w5.heap.size, 2, none⟩ = some (.int .i64 bc)) ∧ (W'.cell? ⟨pb, off + k * 3, none⟩ = some (.int .i64 qb) ∧ W'.cell? ⟨pb, off + k * 3 + 1, none⟩ = some (.int .i64 qf) ∧ W'.cell? ⟨pb, off + k * 3 + 2, none⟩ = some (.int .i64 qc)) ∧ IdxN S X l W') := fun W' hW' => by
            have hL := HLA.out.step (grown_below hW')
            have hs : BoxN wr.heap.size 29 #[.int .i64 qb, .int .i64 qf] W' := (show (BoxN wr.heap.size 29 #[.int .i64 qb, .int .i64 qf]) _ from hL.get (by simp))
            have hb : BoxN w5.heap.size 60 #[.int .i64 bb, .int .i64 bf, .int .i64 bc] W' := (show (BoxN w5.heap.size 60 #[.int .i64 bb, .int .i64 bf, .int .i64 bc]) _ from hL.get (by simp))
            have hr : RowsAt levK _ _ _ _ := (show (RowsN levK (.slice (some ⟨pb, off, none⟩) np pc) P) _ from hL.get (by simp))
            obtain ⟨b', o', e', _, r0, r1, r2⟩ := levs_at hr k q HGet.out
            cases e'
            rw [← HQQ.out.1] at r0; rw [← HQQ.out.2.1] at r1; rw [← HQQ.out.2.2] at r2
            exact ⟨⟨BoxN.cell hs 0 _ rfl, BoxN.cell hs 1 _ rfl⟩, ⟨BoxN.cell hb 0 _ rfl, BoxN.cell hb 1 _ rfl, BoxN.cell hb 2 _ rfl⟩, ⟨r0, r1, r2⟩, (show (IdxN S X l) _ from hL.get (by simp))⟩
          by_cases hy1 : qb ≤ y
          · have y1_ : decide (qb ≤ y) = true := decide_eq_true hy1
            by_cases hy2 : y < qf
            · have y2_ : decide (y < qf) = true := decide_eq_true hy2
              have HCy := Lib.hid (HCn.out hy1 hy2)
              refine wp_region_calm (tagPl [53] [(53, .val (.int .i64 qc))] 1000) (by kernel_rfl) (by kernel_rfl) (by kernel_rfl) tag_c0 tag_hst ?_
              iterate 10 (refine calm_quiet (v := ?_) (by rfl) (by rfl) (fun W_ hW hD => ?_) ?_; rotate_left; (· (obtain ⟨⟨s0, s1⟩, ⟨b0, b1, b2⟩, ⟨e0, e1, e2⟩, hX⟩ := HQ.out W_ hW; clear hD hW hX; go_simp; try with_reducible rfl)); simp only [Act.put, List.setIfInBounds_toArray, List.set_cons_zero, List.set_cons_succ, Nat.reduceAdd, Nat.zero_add])
              iterate 2 (refine calm_quiet (v := ?_) (by rfl) (by rfl) (fun W_ hW hD => ?_) ?_; rotate_left; (· (clear hD hW; go_simp; try with_reducible rfl)); simp only [Act.put, List.setIfInBounds_toArray, List.set_cons_zero, List.set_cons_succ, Nat.reduceAdd, Nat.zero_add])
              iterate 3 (refine calm_quiet (v := ?_) (by rfl) (by rfl) (fun W_ hW hD => ?_) ?_; rotate_left; (· (clear hD hW; go_simp; try with_reducible rfl)); simp only [Act.put, List.setIfInBounds_toArray, List.set_cons_zero, List.set_cons_succ, Nat.reduceAdd, Nat.zero_add])
              iterate 12 (refine calm_skip (by rfl) (by rfl) ?_; simp only [Act.put, List.setIfInBounds_toArray, List.set_cons_zero, List.set_cons_succ, Nat.reduceAdd, Nat.zero_add])
              iterate 3 (refine calm_quiet (v := ?_) (by rfl) (by rfl) (fun W_ hW hD => ?_) ?_; rotate_left; (· (clear hD hW; go_simp; try with_reducible rfl)); simp only [Act.put, List.setIfInBounds_toArray, List.set_cons_zero, List.set_cons_succ, Nat.reduceAdd, Nat.zero_add])
              iterate 8 (refine calm_quiet (v := ?_) (by rfl) (by rfl) (fun W_ hW hD => ?_) ?_; rotate_left; (· (obtain ⟨⟨s0, s1⟩, ⟨b0, b1, b2⟩, ⟨e0, e1, e2⟩, hX⟩ := HQ.out W_ hW; clear hD hW hX; go_simp; try with_reducible rfl)); simp only [Act.put, List.setIfInBounds_toArray, List.set_cons_zero, List.set_cons_succ, Nat.reduceAdd, Nat.zero_add])
              iterate 2 (refine calm_quiet (v := ?_) (by rfl) (by rfl) (fun W_ hW hD => ?_) ?_; rotate_left; (· (clear hD hW; go_simp; try with_reducible rfl)); simp only [Act.put, List.setIfInBounds_toArray, List.set_cons_zero, List.set_cons_succ, Nat.reduceAdd, Nat.zero_add])
              iterate 5 (refine calm_quiet (v := ?_) (by rfl) (by rfl) (fun W_ hW hD => ?_) ?_; rotate_left; (· (obtain ⟨⟨s0, s1⟩, ⟨b0, b1, b2⟩, ⟨e0, e1, e2⟩, hX⟩ := HQ.out W_ hW; clear hD hW hX; go_simp; try with_reducible rfl)); simp only [Act.put, List.setIfInBounds_toArray, List.set_cons_zero, List.set_cons_succ, Nat.reduceAdd, Nat.zero_add])
              iterate 4 (refine calm_quiet (v := ?_) (by rfl) (by rfl) (fun W_ hW hD => ?_) ?_; rotate_left; (· (obtain ⟨⟨s0, s1⟩, ⟨b0, b1, b2⟩, ⟨e0, e1, e2⟩, hX⟩ := HQ.out W_ hW; clear hD hW hX; go_simp; try with_reducible rfl)); simp only [Act.put, List.setIfInBounds_toArray, List.set_cons_zero, List.set_cons_succ, Nat.reduceAdd, Nat.zero_add])
              iterate 2 (refine calm_quiet (v := ?_) (by rfl) (by rfl) (fun W_ hW hD => ?_) ?_; rotate_left; (· (clear hD hW; go_simp; try with_reducible rfl)); simp only [Act.put, List.setIfInBounds_toArray, List.set_cons_zero, List.set_cons_succ, Nat.reduceAdd, Nat.zero_add])
              iterate 2 (refine calm_quiet (v := ?_) (by rfl) (by rfl) (fun W_ hW hD => ?_) ?_; rotate_left; (· (clear hD hW; go_simp; try with_reducible rfl)); simp only [Act.put, List.setIfInBounds_toArray, List.set_cons_zero, List.set_cons_succ, Nat.reduceAdd, Nat.zero_add])
              refine calm_fixed (.int .i64 qc) ⟨(default : World), rfl⟩ (fun v W h => h) rfl (by rfl) (by rfl) (fun W_ hW hD Kc hK => ?_) ?_
              · obtain ⟨_, _, _, hX⟩ := HQ.out W_ hW
                refine wp_of_call (f := 21) ?_ ((count_any y W_ hX).mono ?_)
                · clear hD hW hK hX
                  go_simp
                · rintro e w5 ⟨rfl, rfl⟩
                  rw [HCy.out]
                  exact ⟨_, rfl, hK _ _ (made_plain rfl (Below.refl _ _) rfl)⟩
              simp only [Act.put, List.setIfInBounds_toArray, List.set_cons_zero, List.set_cons_succ, Nat.reduceAdd, Nat.zero_add]
              iterate 6 (refine calm_quiet (v := ?_) (by rfl) (by rfl) (fun W_ hW hD => ?_) ?_; rotate_left; (· (obtain ⟨⟨s0, s1⟩, ⟨b0, b1, b2⟩, ⟨e0, e1, e2⟩, hX⟩ := HQ.out W_ hW; clear hD hW hX; go_simp; try with_reducible rfl)); simp only [Act.put, List.setIfInBounds_toArray, List.set_cons_zero, List.set_cons_succ, Nat.reduceAdd, Nat.zero_add])
              iterate 2 (refine calm_quiet (v := ?_) (by rfl) (by rfl) (fun W_ hW hD => ?_) ?_; rotate_left; (· (clear hD hW; go_simp; try with_reducible rfl)); simp only [Act.put, List.setIfInBounds_toArray, List.set_cons_zero, List.set_cons_succ, Nat.reduceAdd, Nat.zero_add])
              refine calm_nil fun W1 hW hF => ?_
              have HB1 : Hid (Below wA.heap.size wA W1) := grown_below hW
              clear hF hW HQ
              go_wp2_with fail
              go_meet
              exact ⟨rfl, HB1⟩
            · have y2_ : decide (y < qf) = false := decide_eq_false hy2
              refine wp_region_calm (tagPl [] [] 1000) (by kernel_rfl) (by kernel_rfl) (by kernel_rfl) tag_c0 tag_hst ?_
              iterate 10 (refine calm_quiet (v := ?_) (by rfl) (by rfl) (fun W_ hW hD => ?_) ?_; rotate_left; (· (obtain ⟨⟨s0, s1⟩, ⟨b0, b1, b2⟩, ⟨e0, e1, e2⟩, hX⟩ := HQ.out W_ hW; clear hD hW hX; go_simp; try with_reducible rfl)); simp only [Act.put, List.setIfInBounds_toArray, List.set_cons_zero, List.set_cons_succ, Nat.reduceAdd, Nat.zero_add])
              iterate 2 (refine calm_quiet (v := ?_) (by rfl) (by rfl) (fun W_ hW hD => ?_) ?_; rotate_left; (· (clear hD hW; go_simp; try with_reducible rfl)); simp only [Act.put, List.setIfInBounds_toArray, List.set_cons_zero, List.set_cons_succ, Nat.reduceAdd, Nat.zero_add])
              iterate 3 (refine calm_quiet (v := ?_) (by rfl) (by rfl) (fun W_ hW hD => ?_) ?_; rotate_left; (· (clear hD hW; go_simp; try with_reducible rfl)); simp only [Act.put, List.setIfInBounds_toArray, List.set_cons_zero, List.set_cons_succ, Nat.reduceAdd, Nat.zero_add])
              iterate 12 (refine calm_skip (by rfl) (by rfl) ?_; simp only [Act.put, List.setIfInBounds_toArray, List.set_cons_zero, List.set_cons_succ, Nat.reduceAdd, Nat.zero_add])
              iterate 3 (refine calm_quiet (v := ?_) (by rfl) (by rfl) (fun W_ hW hD => ?_) ?_; rotate_left; (· (clear hD hW; go_simp; try with_reducible rfl)); simp only [Act.put, List.setIfInBounds_toArray, List.set_cons_zero, List.set_cons_succ, Nat.reduceAdd, Nat.zero_add])
              iterate 8 (refine calm_quiet (v := ?_) (by rfl) (by rfl) (fun W_ hW hD => ?_) ?_; rotate_left; (· (obtain ⟨⟨s0, s1⟩, ⟨b0, b1, b2⟩, ⟨e0, e1, e2⟩, hX⟩ := HQ.out W_ hW; clear hD hW hX; go_simp; try with_reducible rfl)); simp only [Act.put, List.setIfInBounds_toArray, List.set_cons_zero, List.set_cons_succ, Nat.reduceAdd, Nat.zero_add])
              iterate 2 (refine calm_quiet (v := ?_) (by rfl) (by rfl) (fun W_ hW hD => ?_) ?_; rotate_left; (· (clear hD hW; go_simp; try with_reducible rfl)); simp only [Act.put, List.setIfInBounds_toArray, List.set_cons_zero, List.set_cons_succ, Nat.reduceAdd, Nat.zero_add])
              iterate 5 (refine calm_quiet (v := ?_) (by rfl) (by rfl) (fun W_ hW hD => ?_) ?_; rotate_left; (· (obtain ⟨⟨s0, s1⟩, ⟨b0, b1, b2⟩, ⟨e0, e1, e2⟩, hX⟩ := HQ.out W_ hW; clear hD hW hX; go_simp; try with_reducible rfl)); simp only [Act.put, List.setIfInBounds_toArray, List.set_cons_zero, List.set_cons_succ, Nat.reduceAdd, Nat.zero_add])
              iterate 4 (refine calm_quiet (v := ?_) (by rfl) (by rfl) (fun W_ hW hD => ?_) ?_; rotate_left; (· (obtain ⟨⟨s0, s1⟩, ⟨b0, b1, b2⟩, ⟨e0, e1, e2⟩, hX⟩ := HQ.out W_ hW; clear hD hW hX; go_simp; try with_reducible rfl)); simp only [Act.put, List.setIfInBounds_toArray, List.set_cons_zero, List.set_cons_succ, Nat.reduceAdd, Nat.zero_add])
              iterate 2 (refine calm_quiet (v := ?_) (by rfl) (by rfl) (fun W_ hW hD => ?_) ?_; rotate_left; (· (clear hD hW; go_simp; try with_reducible rfl)); simp only [Act.put, List.setIfInBounds_toArray, List.set_cons_zero, List.set_cons_succ, Nat.reduceAdd, Nat.zero_add])
              iterate 9 (refine calm_skip (by rfl) (by rfl) ?_; simp only [Act.put, List.setIfInBounds_toArray, List.set_cons_zero, List.set_cons_succ, Nat.reduceAdd, Nat.zero_add])
              iterate 2 (refine calm_quiet (v := ?_) (by rfl) (by rfl) (fun W_ hW hD => ?_) ?_; rotate_left; (· (clear hD hW; go_simp; try with_reducible rfl)); simp only [Act.put, List.setIfInBounds_toArray, List.set_cons_zero, List.set_cons_succ, Nat.reduceAdd, Nat.zero_add])
              refine calm_nil fun W1 hW hF => ?_
              have HB1 : Hid (Below wA.heap.size wA W1) := grown_below hW
              clear hF hW HQ
              go_wp2_with fail
              go_meet
              exact ⟨rfl, HB1⟩
          · have y1_ : decide (qb ≤ y) = false := decide_eq_false hy1
            refine wp_region_calm (tagPl [] [] 1000) (by kernel_rfl) (by kernel_rfl) (by kernel_rfl) tag_c0 tag_hst ?_
            iterate 10 (refine calm_quiet (v := ?_) (by rfl) (by rfl) (fun W_ hW hD => ?_) ?_; rotate_left; (· (obtain ⟨⟨s0, s1⟩, ⟨b0, b1, b2⟩, ⟨e0, e1, e2⟩, hX⟩ := HQ.out W_ hW; clear hD hW hX; go_simp; try with_reducible rfl)); simp only [Act.put, List.setIfInBounds_toArray, List.set_cons_zero, List.set_cons_succ, Nat.reduceAdd, Nat.zero_add])
            iterate 2 (refine calm_quiet (v := ?_) (by rfl) (by rfl) (fun W_ hW hD => ?_) ?_; rotate_left; (· (clear hD hW; go_simp; try with_reducible rfl)); simp only [Act.put, List.setIfInBounds_toArray, List.set_cons_zero, List.set_cons_succ, Nat.reduceAdd, Nat.zero_add])
            iterate 3 (refine calm_quiet (v := ?_) (by rfl) (by rfl) (fun W_ hW hD => ?_) ?_; rotate_left; (· (clear hD hW; go_simp; try with_reducible rfl)); simp only [Act.put, List.setIfInBounds_toArray, List.set_cons_zero, List.set_cons_succ, Nat.reduceAdd, Nat.zero_add])
            iterate 12 (refine calm_skip (by rfl) (by rfl) ?_; simp only [Act.put, List.setIfInBounds_toArray, List.set_cons_zero, List.set_cons_succ, Nat.reduceAdd, Nat.zero_add])
            iterate 3 (refine calm_quiet (v := ?_) (by rfl) (by rfl) (fun W_ hW hD => ?_) ?_; rotate_left; (· (clear hD hW; go_simp; try with_reducible rfl)); simp only [Act.put, List.setIfInBounds_toArray, List.set_cons_zero, List.set_cons_succ, Nat.reduceAdd, Nat.zero_add])
            iterate 8 (refine calm_quiet (v := ?_) (by rfl) (by rfl) (fun W_ hW hD => ?_) ?_; rotate_left; (· (obtain ⟨⟨s0, s1⟩, ⟨b0, b1, b2⟩, ⟨e0, e1, e2⟩, hX⟩ := HQ.out W_ hW; clear hD hW hX; go_simp; try with_reducible rfl)); simp only [Act.put, List.setIfInBounds_toArray, List.set_cons_zero, List.set_cons_succ, Nat.reduceAdd, Nat.zero_add])
            iterate 2 (refine calm_quiet (v := ?_) (by rfl) (by rfl) (fun W_ hW hD => ?_) ?_; rotate_left; (· (clear hD hW; go_simp; try with_reducible rfl)); simp only [Act.put, List.setIfInBounds_toArray, List.set_cons_zero, List.set_cons_succ, Nat.reduceAdd, Nat.zero_add])
            iterate 5 (refine calm_quiet (v := ?_) (by rfl) (by rfl) (fun W_ hW hD => ?_) ?_; rotate_left; (· (obtain ⟨⟨s0, s1⟩, ⟨b0, b1, b2⟩, ⟨e0, e1, e2⟩, hX⟩ := HQ.out W_ hW; clear hD hW hX; go_simp; try with_reducible rfl)); simp only [Act.put, List.setIfInBounds_toArray, List.set_cons_zero, List.set_cons_succ, Nat.reduceAdd, Nat.zero_add])
            iterate 4 (refine calm_skip (by rfl) (by rfl) ?_; simp only [Act.put, List.setIfInBounds_toArray, List.set_cons_zero, List.set_cons_succ, Nat.reduceAdd, Nat.zero_add])
            iterate 2 (refine calm_quiet (v := ?_) (by rfl) (by rfl) (fun W_ hW hD => ?_) ?_; rotate_left; (· (clear hD hW; go_simp; try with_reducible rfl)); simp only [Act.put, List.setIfInBounds_toArray, List.set_cons_zero, List.set_cons_succ, Nat.reduceAdd, Nat.zero_add])
            iterate 9 (refine calm_skip (by rfl) (by rfl) ?_; simp only [Act.put, List.setIfInBounds_toArray, List.set_cons_zero, List.set_cons_succ, Nat.reduceAdd, Nat.zero_add])
            iterate 2 (refine calm_quiet (v := ?_) (by rfl) (by rfl) (fun W_ hW hD => ?_) ?_; rotate_left; (· (clear hD hW; go_simp; try with_reducible rfl)); simp only [Act.put, List.setIfInBounds_toArray, List.set_cons_zero, List.set_cons_succ, Nat.reduceAdd, Nat.zero_add])
            refine calm_nil fun W1 hW hF => ?_
            have HB1 : Hid (Below wA.heap.size wA W1) := grown_below hW
            clear hF hW HQ
            go_wp2_with fail
            go_meet
            exact ⟨rfl, HB1⟩
      case rest =>
        obtain ⟨rfl, HBc⟩ := hcut
        have HL1 := Lib.hid (HLA.out.step HBc.out); have HB1 : Hid (Below w6.heap.size w6 wc) := HBA.out.trans (HBc.out.mono HBA.out.size)
        clear HBc HLA HBA hkP
        go_wp2
        cases fb with
        | false =>
          have HQ : Hid (∀ W', wc.grownBy W' none → (W'.cell? ⟨wr.heap.size, 0, none⟩ = some (.int .i64 qb) ∧ W'.cell? ⟨wr.heap.size, 1, none⟩ = some (.int .i64 qf)) ∧ (W'.cell? ⟨w5.heap.size, 0, none⟩ = some (.int .i64 bb) ∧ W'.cell? ⟨w5.heap.size, 1, none⟩ = some (.int .i64 bf) ∧ W'.cell? ⟨w5.heap.size, 2, none⟩ = some (.int .i64 bc)) ∧ (W'.cell? ⟨pb, off + k * 3, none⟩ = some (.int .i64 qb) ∧ W'.cell? ⟨pb, off + k * 3 + 1, none⟩ = some (.int .i64 qf) ∧ W'.cell? ⟨pb, off + k * 3 + 2, none⟩ = some (.int .i64 qc)) ∧ IdxN S X l W') := fun W' hW' => by
            have hL := HL1.out.step (grown_below hW')
            have hs : BoxN wr.heap.size 29 #[.int .i64 qb, .int .i64 qf] W' := (show (BoxN wr.heap.size 29 #[.int .i64 qb, .int .i64 qf]) _ from hL.get (by simp))
            have hb : BoxN w5.heap.size 60 #[.int .i64 bb, .int .i64 bf, .int .i64 bc] W' := (show (BoxN w5.heap.size 60 #[.int .i64 bb, .int .i64 bf, .int .i64 bc]) _ from hL.get (by simp))
            have hr : RowsAt levK _ _ _ _ := (show (RowsN levK (.slice (some ⟨pb, off, none⟩) np pc) P) _ from hL.get (by simp))
            obtain ⟨b', o', e', _, r0, r1, r2⟩ := levs_at hr k q HGet.out
            cases e'
            rw [← HQQ.out.1] at r0; rw [← HQQ.out.2.1] at r1; rw [← HQQ.out.2.2] at r2
            exact ⟨⟨BoxN.cell hs 0 _ rfl, BoxN.cell hs 1 _ rfl⟩, ⟨BoxN.cell hb 0 _ rfl, BoxN.cell hb 1 _ rfl, BoxN.cell hb 2 _ rfl⟩, ⟨r0, r1, r2⟩, (show (IdxN S X l) _ from hL.get (by simp))⟩
          refine wp_region_calm (tagPl [] [] 1000) (by kernel_rfl) (by kernel_rfl) (by kernel_rfl) tag_c0 tag_hst ?_
          iterate 2 (refine calm_quiet (v := ?_) (by rfl) (by rfl) (fun W_ hW hD => ?_) ?_; rotate_left; (· (clear hD hW; go_simp; try with_reducible rfl)); simp only [Act.put, List.setIfInBounds_toArray, List.set_cons_zero, List.set_cons_succ, Nat.reduceAdd, Nat.zero_add])
          iterate 8 (refine calm_skip (by rfl) (by rfl) ?_; simp only [Act.put, List.setIfInBounds_toArray, List.set_cons_zero, List.set_cons_succ, Nat.reduceAdd, Nat.zero_add])
          iterate 1 (refine calm_quiet (v := ?_) (by rfl) (by rfl) (fun W_ hW hD => ?_) ?_; rotate_left; (· (clear hD hW; go_simp; try with_reducible rfl)); simp only [Act.put, List.setIfInBounds_toArray, List.set_cons_zero, List.set_cons_succ, Nat.reduceAdd, Nat.zero_add])
          refine calm_nil fun W2 hW hF => ?_
          have HL2 := Lib.hid (HL1.out.step (grown_below hW)); have HB2 : Hid (Below w6.heap.size w6 W2) := HB1.out.trans ((grown_below hW).mono HB1.out.size)
          clear hF hW HQ HL1 HB1
          have s1 := BoxN.cell (show (BoxN wr.heap.size 29 #[.int .i64 qb, .int .i64 qf]) _ from HL2.out.get (by simp)) 1 _ rfl
          go_wp2
          clear s1
          obtain ⟨wd, wm, ws⟩ := HWs.out
          have HQ : Hid (∀ W', W2.grownBy W' none → (W'.cell? ⟨wr.heap.size, 0, none⟩ = some (.int .i64 qb) ∧ W'.cell? ⟨wr.heap.size, 1, none⟩ = some (.int .i64 qf)) ∧ (W'.cell? ⟨w5.heap.size, 0, none⟩ = some (.int .i64 bb) ∧ W'.cell? ⟨w5.heap.size, 1, none⟩ = some (.int .i64 bf) ∧ W'.cell? ⟨w5.heap.size, 2, none⟩ = some (.int .i64 bc)) ∧ (W'.cell? ⟨pb, off + k * 3, none⟩ = some (.int .i64 qb) ∧ W'.cell? ⟨pb, off + k * 3 + 1, none⟩ = some (.int .i64 qf) ∧ W'.cell? ⟨pb, off + k * 3 + 2, none⟩ = some (.int .i64 qc)) ∧ IdxN S X l W') := fun W' hW' => by
            have hL := HL2.out.step (grown_below hW')
            have hs : BoxN wr.heap.size 29 #[.int .i64 qb, .int .i64 qf] W' := (show (BoxN wr.heap.size 29 #[.int .i64 qb, .int .i64 qf]) _ from hL.get (by simp))
            have hb : BoxN w5.heap.size 60 #[.int .i64 bb, .int .i64 bf, .int .i64 bc] W' := (show (BoxN w5.heap.size 60 #[.int .i64 bb, .int .i64 bf, .int .i64 bc]) _ from hL.get (by simp))
            have hr : RowsAt levK _ _ _ _ := (show (RowsN levK (.slice (some ⟨pb, off, none⟩) np pc) P) _ from hL.get (by simp))
            obtain ⟨b', o', e', _, r0, r1, r2⟩ := levs_at hr k q HGet.out
            cases e'
            rw [← HQQ.out.1] at r0; rw [← HQQ.out.2.1] at r1; rw [← HQQ.out.2.2] at r2
            exact ⟨⟨BoxN.cell hs 0 _ rfl, BoxN.cell hs 1 _ rfl⟩, ⟨BoxN.cell hb 0 _ rfl, BoxN.cell hb 1 _ rfl, BoxN.cell hb 2 _ rfl⟩, ⟨r0, r1, r2⟩, (show (IdxN S X l) _ from hL.get (by simp))⟩
          refine wp_region_calm (tagPl [] [] 1000) (by kernel_rfl) (by kernel_rfl) (by kernel_rfl) tag_c0 tag_hst ?_
          iterate 14 (refine calm_quiet (v := ?_) (by rfl) (by rfl) (fun W_ hW hD => ?_) ?_; rotate_left; (· (obtain ⟨⟨s0, s1⟩, ⟨b0, b1, b2⟩, ⟨e0, e1, e2⟩, hX⟩ := HQ.out W_ hW; clear hD hW hX; go_simp; try with_reducible rfl)); simp only [Act.put, List.setIfInBounds_toArray, List.set_cons_zero, List.set_cons_succ, Nat.reduceAdd, Nat.zero_add])
          refine calm_nil fun W3 hW hF => ?_
          have HL3 := Lib.hid (HL2.out.step (grown_below hW)); have HB3 : Hid (Below w6.heap.size w6 W3) := HB2.out.trans ((grown_below hW).mono HB2.out.size)
          clear hF hW HQ HL2 HB2
          go_wp2
          go_roundw
          case rel => exact ⟨k + 1, by omega, by go_num, by rw [Hat.out], by rw [Hsm.out], by rw [Hfi.out]; rfl, HB3⟩
          case measure => simp [intOf]; omega
        | true =>
          by_cases hcc : qc = bc
          · have HEq := Lib.hid hcc
            obtain ⟨hx1, hx2⟩ := HFi5.out rfl hcc
            have c1_ : (qc == bc) = true := beq_iff_eq.2 hcc
            have hqn : ∀ W, (binOp .neq 60 (.agg #[.int .i64 qb, .int .i64 qf, .int .i64 qc]) (.agg #[.int .i64 bb, .int .i64 bf, .int .i64 bc])).run Tryd.prog W = .ok (.bool false) W := fun W => by rw [hx1, hx2, hcc]; go_simp
            clear hx1 hx2 hcc
            have HQ : Hid (∀ W', wc.grownBy W' none → (W'.cell? ⟨wr.heap.size, 0, none⟩ = some (.int .i64 qb) ∧ W'.cell? ⟨wr.heap.size, 1, none⟩ = some (.int .i64 qf)) ∧ (W'.cell? ⟨w5.heap.size, 0, none⟩ = some (.int .i64 bb) ∧ W'.cell? ⟨w5.heap.size, 1, none⟩ = some (.int .i64 bf) ∧ W'.cell? ⟨w5.heap.size, 2, none⟩ = some (.int .i64 bc)) ∧ (W'.cell? ⟨pb, off + k * 3, none⟩ = some (.int .i64 qb) ∧ W'.cell? ⟨pb, off + k * 3 + 1, none⟩ = some (.int .i64 qf) ∧ W'.cell? ⟨pb, off + k * 3 + 2, none⟩ = some (.int .i64 qc)) ∧ IdxN S X l W') := fun W' hW' => by
              have hL := HL1.out.step (grown_below hW')
              have hs : BoxN wr.heap.size 29 #[.int .i64 qb, .int .i64 qf] W' := (show (BoxN wr.heap.size 29 #[.int .i64 qb, .int .i64 qf]) _ from hL.get (by simp))
              have hb : BoxN w5.heap.size 60 #[.int .i64 bb, .int .i64 bf, .int .i64 bc] W' := (show (BoxN w5.heap.size 60 #[.int .i64 bb, .int .i64 bf, .int .i64 bc]) _ from hL.get (by simp))
              have hr : RowsAt levK _ _ _ _ := (show (RowsN levK (.slice (some ⟨pb, off, none⟩) np pc) P) _ from hL.get (by simp))
              obtain ⟨b', o', e', _, r0, r1, r2⟩ := levs_at hr k q HGet.out
              cases e'
              rw [← HQQ.out.1] at r0; rw [← HQQ.out.2.1] at r1; rw [← HQQ.out.2.2] at r2
              exact ⟨⟨BoxN.cell hs 0 _ rfl, BoxN.cell hs 1 _ rfl⟩, ⟨BoxN.cell hb 0 _ rfl, BoxN.cell hb 1 _ rfl, BoxN.cell hb 2 _ rfl⟩, ⟨r0, r1, r2⟩, (show (IdxN S X l) _ from hL.get (by simp))⟩
            refine wp_region_calm (tagPl [] [] 1000) (by kernel_rfl) (by kernel_rfl) (by kernel_rfl) tag_c0 tag_hst ?_
            iterate 2 (refine calm_quiet (v := ?_) (by rfl) (by rfl) (fun W_ hW hD => ?_) ?_; rotate_left; (· (clear hD hW; go_simp; try with_reducible rfl)); simp only [Act.put, List.setIfInBounds_toArray, List.set_cons_zero, List.set_cons_succ, Nat.reduceAdd, Nat.zero_add])
            iterate 8 (refine calm_quiet (v := ?_) (by rfl) (by rfl) (fun W_ hW hD => ?_) ?_; rotate_left; (· (obtain ⟨⟨s0, s1⟩, ⟨b0, b1, b2⟩, ⟨e0, e1, e2⟩, hX⟩ := HQ.out W_ hW; clear hD hW hX; go_simp; try with_reducible rfl)); simp only [Act.put, List.setIfInBounds_toArray, List.set_cons_zero, List.set_cons_succ, Nat.reduceAdd, Nat.zero_add])
            iterate 1 (refine calm_quiet (v := ?_) (by rfl) (by rfl) (fun W_ hW hD => ?_) ?_; rotate_left; (· (clear hD hW; go_simp; try with_reducible rfl)); simp only [Act.put, List.setIfInBounds_toArray, List.set_cons_zero, List.set_cons_succ, Nat.reduceAdd, Nat.zero_add])
            refine calm_nil fun W2 hW hF => ?_
            have HL2 := Lib.hid (HL1.out.step (grown_below hW)); have HB2 : Hid (Below w6.heap.size w6 W2) := HB1.out.trans ((grown_below hW).mono HB1.out.size)
            clear hF hW HQ HL1 HB1
            go_wp2
            have HQ : Hid (∀ W', W2.grownBy W' none → (W'.cell? ⟨wr.heap.size, 0, none⟩ = some (.int .i64 qb) ∧ W'.cell? ⟨wr.heap.size, 1, none⟩ = some (.int .i64 qf)) ∧ (W'.cell? ⟨w5.heap.size, 0, none⟩ = some (.int .i64 bb) ∧ W'.cell? ⟨w5.heap.size, 1, none⟩ = some (.int .i64 bf) ∧ W'.cell? ⟨w5.heap.size, 2, none⟩ = some (.int .i64 bc)) ∧ (W'.cell? ⟨pb, off + k * 3, none⟩ = some (.int .i64 qb) ∧ W'.cell? ⟨pb, off + k * 3 + 1, none⟩ = some (.int .i64 qf) ∧ W'.cell? ⟨pb, off + k * 3 + 2, none⟩ = some (.int .i64 qc)) ∧ IdxN S X l W') := fun W' hW' => by
              have hL := HL2.out.step (grown_below hW')
              have hs : BoxN wr.heap.size 29 #[.int .i64 qb, .int .i64 qf] W' := (show (BoxN wr.heap.size 29 #[.int .i64 qb, .int .i64 qf]) _ from hL.get (by simp))
              have hb : BoxN w5.heap.size 60 #[.int .i64 bb, .int .i64 bf, .int .i64 bc] W' := (show (BoxN w5.heap.size 60 #[.int .i64 bb, .int .i64 bf, .int .i64 bc]) _ from hL.get (by simp))
              have hr : RowsAt levK _ _ _ _ := (show (RowsN levK (.slice (some ⟨pb, off, none⟩) np pc) P) _ from hL.get (by simp))
              obtain ⟨b', o', e', _, r0, r1, r2⟩ := levs_at hr k q HGet.out
              cases e'
              rw [← HQQ.out.1] at r0; rw [← HQQ.out.2.1] at r1; rw [← HQQ.out.2.2] at r2
              exact ⟨⟨BoxN.cell hs 0 _ rfl, BoxN.cell hs 1 _ rfl⟩, ⟨BoxN.cell hb 0 _ rfl, BoxN.cell hb 1 _ rfl, BoxN.cell hb 2 _ rfl⟩, ⟨r0, r1, r2⟩, (show (IdxN S X l) _ from hL.get (by simp))⟩
            refine wp_region_calm (tagPl [] [] 1000) (by kernel_rfl) (by kernel_rfl) (by kernel_rfl) tag_c0 tag_hst ?_
            iterate 6 (refine calm_quiet (v := ?_) (by rfl) (by rfl) (fun W_ hW hD => ?_) ?_; rotate_left; (· (obtain ⟨⟨s0, s1⟩, ⟨b0, b1, b2⟩, ⟨e0, e1, e2⟩, hX⟩ := HQ.out W_ hW; clear hD hW hX; go_simp; try with_reducible rfl)); simp only [Act.put, List.setIfInBounds_toArray, List.set_cons_zero, List.set_cons_succ, Nat.reduceAdd, Nat.zero_add])
            refine calm_nil fun W3 hW hF => ?_
            have HL3 := Lib.hid (HL2.out.step (grown_below hW)); have HB3 : Hid (Below w6.heap.size w6 W3) := HB2.out.trans ((grown_below hW).mono HB2.out.size)
            clear hF hW HQ HL2 HB2
            have s1 := BoxN.cell (show (BoxN wr.heap.size 29 #[.int .i64 qb, .int .i64 qf]) _ from HL3.out.get (by simp)) 1 _ rfl
            go_wp2
            clear s1
            obtain ⟨wd, wm, ws⟩ := HWs.out
            have HQ : Hid (∀ W', W3.grownBy W' none → (W'.cell? ⟨wr.heap.size, 0, none⟩ = some (.int .i64 qb) ∧ W'.cell? ⟨wr.heap.size, 1, none⟩ = some (.int .i64 qf)) ∧ (W'.cell? ⟨w5.heap.size, 0, none⟩ = some (.int .i64 bb) ∧ W'.cell? ⟨w5.heap.size, 1, none⟩ = some (.int .i64 bf) ∧ W'.cell? ⟨w5.heap.size, 2, none⟩ = some (.int .i64 bc)) ∧ (W'.cell? ⟨pb, off + k * 3, none⟩ = some (.int .i64 qb) ∧ W'.cell? ⟨pb, off + k * 3 + 1, none⟩ = some (.int .i64 qf) ∧ W'.cell? ⟨pb, off + k * 3 + 2, none⟩ = some (.int .i64 qc)) ∧ IdxN S X l W') := fun W' hW' => by
              have hL := HL3.out.step (grown_below hW')
              have hs : BoxN wr.heap.size 29 #[.int .i64 qb, .int .i64 qf] W' := (show (BoxN wr.heap.size 29 #[.int .i64 qb, .int .i64 qf]) _ from hL.get (by simp))
              have hb : BoxN w5.heap.size 60 #[.int .i64 bb, .int .i64 bf, .int .i64 bc] W' := (show (BoxN w5.heap.size 60 #[.int .i64 bb, .int .i64 bf, .int .i64 bc]) _ from hL.get (by simp))
              have hr : RowsAt levK _ _ _ _ := (show (RowsN levK (.slice (some ⟨pb, off, none⟩) np pc) P) _ from hL.get (by simp))
              obtain ⟨b', o', e', _, r0, r1, r2⟩ := levs_at hr k q HGet.out
              cases e'
              rw [← HQQ.out.1] at r0; rw [← HQQ.out.2.1] at r1; rw [← HQQ.out.2.2] at r2
              exact ⟨⟨BoxN.cell hs 0 _ rfl, BoxN.cell hs 1 _ rfl⟩, ⟨BoxN.cell hb 0 _ rfl, BoxN.cell hb 1 _ rfl, BoxN.cell hb 2 _ rfl⟩, ⟨r0, r1, r2⟩, (show (IdxN S X l) _ from hL.get (by simp))⟩
            refine wp_region_calm (tagPl [] [] 1000) (by kernel_rfl) (by kernel_rfl) (by kernel_rfl) tag_c0 tag_hst ?_
            iterate 14 (refine calm_quiet (v := ?_) (by rfl) (by rfl) (fun W_ hW hD => ?_) ?_; rotate_left; (· (obtain ⟨⟨s0, s1⟩, ⟨b0, b1, b2⟩, ⟨e0, e1, e2⟩, hX⟩ := HQ.out W_ hW; clear hD hW hX; go_simp; try with_reducible rfl)); simp only [Act.put, List.setIfInBounds_toArray, List.set_cons_zero, List.set_cons_succ, Nat.reduceAdd, Nat.zero_add])
            refine calm_nil fun W4 hW hF => ?_
            have HL4 := Lib.hid (HL3.out.step (grown_below hW)); have HB4 : Hid (Below w6.heap.size w6 W4) := HB3.out.trans ((grown_below hW).mono HB3.out.size)
            clear hF hW HQ HL3 HB3
            go_wp2
            go_roundw
            case rel => exact ⟨k + 1, by omega, by go_num, by rw [Hat.out], by rw [Hsm.out], by rw [Hfi.out, decide_eq_true HEq.out]; rfl, HB4⟩
            case measure => simp [intOf]; omega
          · have HNe := Lib.hid hcc
            have c1_ : (qc == bc) = false := beq_eq_false_iff_ne.2 hcc
            clear hcc
            have HQ : Hid (∀ W', wc.grownBy W' none → (W'.cell? ⟨wr.heap.size, 0, none⟩ = some (.int .i64 qb) ∧ W'.cell? ⟨wr.heap.size, 1, none⟩ = some (.int .i64 qf)) ∧ (W'.cell? ⟨w5.heap.size, 0, none⟩ = some (.int .i64 bb) ∧ W'.cell? ⟨w5.heap.size, 1, none⟩ = some (.int .i64 bf) ∧ W'.cell? ⟨w5.heap.size, 2, none⟩ = some (.int .i64 bc)) ∧ (W'.cell? ⟨pb, off + k * 3, none⟩ = some (.int .i64 qb) ∧ W'.cell? ⟨pb, off + k * 3 + 1, none⟩ = some (.int .i64 qf) ∧ W'.cell? ⟨pb, off + k * 3 + 2, none⟩ = some (.int .i64 qc)) ∧ IdxN S X l W') := fun W' hW' => by
              have hL := HL1.out.step (grown_below hW')
              have hs : BoxN wr.heap.size 29 #[.int .i64 qb, .int .i64 qf] W' := (show (BoxN wr.heap.size 29 #[.int .i64 qb, .int .i64 qf]) _ from hL.get (by simp))
              have hb : BoxN w5.heap.size 60 #[.int .i64 bb, .int .i64 bf, .int .i64 bc] W' := (show (BoxN w5.heap.size 60 #[.int .i64 bb, .int .i64 bf, .int .i64 bc]) _ from hL.get (by simp))
              have hr : RowsAt levK _ _ _ _ := (show (RowsN levK (.slice (some ⟨pb, off, none⟩) np pc) P) _ from hL.get (by simp))
              obtain ⟨b', o', e', _, r0, r1, r2⟩ := levs_at hr k q HGet.out
              cases e'
              rw [← HQQ.out.1] at r0; rw [← HQQ.out.2.1] at r1; rw [← HQQ.out.2.2] at r2
              exact ⟨⟨BoxN.cell hs 0 _ rfl, BoxN.cell hs 1 _ rfl⟩, ⟨BoxN.cell hb 0 _ rfl, BoxN.cell hb 1 _ rfl, BoxN.cell hb 2 _ rfl⟩, ⟨r0, r1, r2⟩, (show (IdxN S X l) _ from hL.get (by simp))⟩
            refine wp_region_calm (tagPl [] [] 1000) (by kernel_rfl) (by kernel_rfl) (by kernel_rfl) tag_c0 tag_hst ?_
            iterate 2 (refine calm_quiet (v := ?_) (by rfl) (by rfl) (fun W_ hW hD => ?_) ?_; rotate_left; (· (clear hD hW; go_simp; try with_reducible rfl)); simp only [Act.put, List.setIfInBounds_toArray, List.set_cons_zero, List.set_cons_succ, Nat.reduceAdd, Nat.zero_add])
            iterate 8 (refine calm_quiet (v := ?_) (by rfl) (by rfl) (fun W_ hW hD => ?_) ?_; rotate_left; (· (obtain ⟨⟨s0, s1⟩, ⟨b0, b1, b2⟩, ⟨e0, e1, e2⟩, hX⟩ := HQ.out W_ hW; clear hD hW hX; go_simp; try with_reducible rfl)); simp only [Act.put, List.setIfInBounds_toArray, List.set_cons_zero, List.set_cons_succ, Nat.reduceAdd, Nat.zero_add])
            iterate 1 (refine calm_quiet (v := ?_) (by rfl) (by rfl) (fun W_ hW hD => ?_) ?_; rotate_left; (· (clear hD hW; go_simp; try with_reducible rfl)); simp only [Act.put, List.setIfInBounds_toArray, List.set_cons_zero, List.set_cons_succ, Nat.reduceAdd, Nat.zero_add])
            refine calm_nil fun W2 hW hF => ?_
            have HL2 := Lib.hid (HL1.out.step (grown_below hW)); have HB2 : Hid (Below w6.heap.size w6 W2) := HB1.out.trans ((grown_below hW).mono HB1.out.size)
            clear hF hW HQ HL1 HB1
            have s1 := BoxN.cell (show (BoxN wr.heap.size 29 #[.int .i64 qb, .int .i64 qf]) _ from HL2.out.get (by simp)) 1 _ rfl
            go_wp2
            clear s1
            obtain ⟨wd, wm, ws⟩ := HWs.out
            have HQ : Hid (∀ W', W2.grownBy W' none → (W'.cell? ⟨wr.heap.size, 0, none⟩ = some (.int .i64 qb) ∧ W'.cell? ⟨wr.heap.size, 1, none⟩ = some (.int .i64 qf)) ∧ (W'.cell? ⟨w5.heap.size, 0, none⟩ = some (.int .i64 bb) ∧ W'.cell? ⟨w5.heap.size, 1, none⟩ = some (.int .i64 bf) ∧ W'.cell? ⟨w5.heap.size, 2, none⟩ = some (.int .i64 bc)) ∧ (W'.cell? ⟨pb, off + k * 3, none⟩ = some (.int .i64 qb) ∧ W'.cell? ⟨pb, off + k * 3 + 1, none⟩ = some (.int .i64 qf) ∧ W'.cell? ⟨pb, off + k * 3 + 2, none⟩ = some (.int .i64 qc)) ∧ IdxN S X l W') := fun W' hW' => by
              have hL := HL2.out.step (grown_below hW')
              have hs : BoxN wr.heap.size 29 #[.int .i64 qb, .int .i64 qf] W' := (show (BoxN wr.heap.size 29 #[.int .i64 qb, .int .i64 qf]) _ from hL.get (by simp))
              have hb : BoxN w5.heap.size 60 #[.int .i64 bb, .int .i64 bf, .int .i64 bc] W' := (show (BoxN w5.heap.size 60 #[.int .i64 bb, .int .i64 bf, .int .i64 bc]) _ from hL.get (by simp))
              have hr : RowsAt levK _ _ _ _ := (show (RowsN levK (.slice (some ⟨pb, off, none⟩) np pc) P) _ from hL.get (by simp))
              obtain ⟨b', o', e', _, r0, r1, r2⟩ := levs_at hr k q HGet.out
              cases e'
              rw [← HQQ.out.1] at r0; rw [← HQQ.out.2.1] at r1; rw [← HQQ.out.2.2] at r2
              exact ⟨⟨BoxN.cell hs 0 _ rfl, BoxN.cell hs 1 _ rfl⟩, ⟨BoxN.cell hb 0 _ rfl, BoxN.cell hb 1 _ rfl, BoxN.cell hb 2 _ rfl⟩, ⟨r0, r1, r2⟩, (show (IdxN S X l) _ from hL.get (by simp))⟩
            refine wp_region_calm (tagPl [] [] 1000) (by kernel_rfl) (by kernel_rfl) (by kernel_rfl) tag_c0 tag_hst ?_
            iterate 14 (refine calm_quiet (v := ?_) (by rfl) (by rfl) (fun W_ hW hD => ?_) ?_; rotate_left; (· (obtain ⟨⟨s0, s1⟩, ⟨b0, b1, b2⟩, ⟨e0, e1, e2⟩, hX⟩ := HQ.out W_ hW; clear hD hW hX; go_simp; try with_reducible rfl)); simp only [Act.put, List.setIfInBounds_toArray, List.set_cons_zero, List.set_cons_succ, Nat.reduceAdd, Nat.zero_add])
            refine calm_nil fun W3 hW hF => ?_
            have HL3 := Lib.hid (HL2.out.step (grown_below hW)); have HB3 : Hid (Below w6.heap.size w6 W3) := HB2.out.trans ((grown_below hW).mono HB2.out.size)
            clear hF hW HQ HL2 HB2
            go_wp2
            go_roundw
            case rel => exact ⟨k + 1, by omega, by go_num, by rw [Hat.out], by rw [Hsm.out], by rw [Hfi.out, decide_eq_false HNe.out]; rfl, HB3⟩
            case measure => simp [intOf]; omega
    · obtain rfl : k = np := by omega
      rw [show atZ P k = 2100 by rw [← HNnp.out]; exact HF.out.end_, show fiB P b k = false by rw [← HNnp.out]; exact HF.out.some_]
      have hsm : smZ P k = durZ l n := by rw [← HNnp.out, ← HNn.out]; exact HF.out.sum
      rw [hsm]
      clear hsm
      have HCc : Hid (∀ c ∈ l, 0 ≤ c.fin - c.beg ∧ c.fin - c.beg ≤ 2100) := fun c hc => by have := validC_ok (HOk.out.valid c hc); omega
      have HDb : Hid (∀ k, k ≤ n → 0 ≤ durZ l k ∧ durZ l k ≤ 2100 * k) := fun k hk => durZ_bd HCc.out k (by rw [HNn.out]; exact hk)
      have hln : n ≤ 40 := by rw [← HNn.out]; exact HLn.out
      go_wp2
      go_loopw [12, 16] (fun sm i wr => ∃ k : Nat, k ≤ n ∧ i = .int .i64 k ∧ sm = .int .i64 (durZ l n - durZ l k) ∧ Hid (Below w6.heap.size w6 wr)) (fun _ i _ => n - (intOf i).toNat)
      case atStart => exact ⟨0, Nat.zero_le _, rfl, by show Value.int _ _ = Value.int _ (durZ l n - 0); rw [Int.sub_zero], HB⟩
      case round =>
        obtain ⟨k, hk, rfl, rfl, HB2⟩ := hrel
        have k0 : 0 ≤ (k : Int) := by omega
        have HLq := Lib.hid (HL6.out.step HB2.out)
        by_cases h2 : k < n
        · have k1 : (k : Int) < (n : Int) := by omega
          have d1 := HDb.out n (Nat.le_refl _); have d2 := HDb.out k (by omega); have d3 := HDb.out (k + 1) (by omega)
          have hkl : k < l.length := by rw [HNn.out]; exact h2
          obtain ⟨c, hc⟩ : ∃ c, c = l.getD k default := ⟨_, rfl⟩
          have hget : l[k]? = some c := by rw [hc, List.getD_eq_getElem?_getD, List.getElem?_eq_getElem hkl]; rfl
          have d4 := HCc.out c (List.mem_of_getElem? hget)
          have hcv := validC_ok (HOk.out.valid c (List.mem_of_getElem? hget))
          have Hd : Hid (durZ l (k + 1) = durZ l k + (c.fin - c.beg)) := by show durZ l k + _ = _; rw [← hc]
          rw [Hd.out] at d3
          obtain ⟨gb, go, hge, hgb, r0, r1, r2, r3, r4⟩ := cards_at (show RowsAt cardK _ _ _ _ from (show (RowsN cardK (.slice oa n oc) l) _ from HLq.out.get (by simp))) k c hget
          subst hge
          have HGet := Lib.hid hget
          obtain ⟨cb, hcb⟩ : ∃ x, x = c.beg := ⟨_, rfl⟩
          obtain ⟨cf, hcf⟩ : ∃ x, x = c.fin := ⟨_, rfl⟩
          rw [← hcb, ← hcf] at d3 d4 hcv
          have HCC := Lib.hid (⟨hcb, hcf⟩ : _ ∧ _)
          have Hd2 : Hid (durZ l (k + 1) = durZ l k + (cf - cb)) := by show _ = _; rw [Hd.out, hcb, hcf]
          generalize durZ l n = tot at *
          generalize durZ l k = dk at *
          have wa : IntKind.i64.wrap (cf - cb) = cf - cb := IntWalk.i64_in _ (by omega)
          have wb : IntKind.i64.wrap (tot - dk - (cf - cb)) = tot - (dk + (cf - cb)) := (IntWalk.i64_in _ (by omega)).trans (by omega)
          clear d1 d2 d3 d4 hcv hc hcb hcf hget hkl hgb r0 r1 r2 r3 r4 Hd
          have HQ : Hid (∀ W', wr.grownBy W' none → W'.cell? ⟨gb, go + k * 5 + 3, none⟩ = some (.int .i64 cb) ∧ W'.cell? ⟨gb, go + k * 5 + 3 + 1, none⟩ = some (.int .i64 cf) ∧ W'.cell? ⟨gb, go + k * 5 + 4, none⟩ = some (.int .i64 cf)) := fun W' hW' => by
            have hL := HLq.out.step (grown_below hW')
            obtain ⟨b', o', e', _, _, _, _, r3, r4⟩ := cards_at (show RowsAt cardK _ _ _ _ from (show (RowsN cardK (.slice (some ⟨gb, go, none⟩) n oc) l) _ from hL.get (by simp))) k c HGet.out
            cases e'
            rw [← HCC.out.1] at r3; rw [← HCC.out.2] at r4
            exact ⟨r3, r4, r4⟩
          go_wp2
          refine wp_region_calm (tagPl [] [] 1000) (by kernel_rfl) (by kernel_rfl) (by kernel_rfl) tag_c0 tag_hst ?_
          iterate 16 (refine calm_quiet (v := ?_) (by rfl) (by rfl) (fun W_ hW hD => ?_) ?_; rotate_left; (· (obtain ⟨r3, r4, r4_⟩ := HQ.out W_ hW; clear hD hW; go_simp; try with_reducible rfl)); simp only [Act.put, List.setIfInBounds_toArray, List.set_cons_zero, List.set_cons_succ, Nat.reduceAdd, Nat.zero_add])
          refine calm_nil fun W1 hW hF => ?_
          have HB3 : Hid (Below w6.heap.size w6 W1) := HB2.out.trans ((grown_below hW).mono HB2.out.size)
          clear hF hW HQ
          go_wp2
          go_roundw
          case rel => exact ⟨k + 1, by omega, by go_num, by rw [Hd2.out], HB3⟩
          case measure => simp [intOf]; omega
        · obtain rfl : k = n := by omega
          rw [Int.sub_self]
          have HC1 : Hid (countE l (-1) = 0) := rfl
          have HC2 : Hid (countE l 2100 = 0) := rfl
          go_wp2_with fail
          refine (count_any (-1) _ (show (IdxN S X l) _ from HLq.out.get (by simp))).mono ?_
          rintro e w' ⟨rfl, rfl⟩
          rw [HC1.out]
          go_wp2_with fail
          refine (count_any 2100 _ (show (IdxN S X l) _ from HLq.out.get (by simp))).mono ?_
          rintro e w' ⟨rfl, rfl⟩
          rw [HC2.out]
          go_wp2
          go_ret
          exact ⟨rfl, HLq.out.below⟩
end Go.Proofs.YtcgopilkajfghaaDoor
