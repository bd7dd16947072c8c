/- The reference's Core. -/
import Derived.Test.YtmihkbiihfhpoaaDoorJRefSupp
import Derived.Test.YtmihkbiihfhpoaaDoorJRefMany
import Derived.Test.YtmihkbiihfhpoaaDoorJCore
import Derived.Test.YtmihkbiihfhpoaaDoorJGood
namespace Go.Proofs.YtmihkbiihfhpoaaDoor
open Go.RowKit Go.Shelf

theorem coreTest_sub (S : Nat) (c : Int) (x : Nat) : coreTest S c (x : Int) = (subB x S && (decide (c < 0) || decide (cnt (x : Int) < cnt c))) := by
  unfold coreTest
  congr 1
  rw [Bool.eq_iff_iff, subB_iff, ← sdiff_zero, Int.toNat_natCast, beq_iff_eq]
theorem cnt_list (x : Nat) : cnt (x : Int) = (listB x).length := by simp [cnt, listB]
/-- What the calls of the test leave. -/
def CoreF (b1 : Bool) (n1 n2 : Nat) (k : Nat) (v : Value) : Prop := if k = 5 then v = .bool b1 else if k = 14 then v = .int .i64 (n1 : Nat) else v = .int .i64 (n2 : Nat)
set_option maxRecDepth 100000 in
set_option maxHeartbeats 4000000 in
theorem refCore_any (t : JTh) (rv : Value) (z k : Int) (w : World) (hR : RulesAt w.heap.size w rv t.rules) :
    Calls Tryd.prog 21 #[thV t.seen t.drawn rv, .int .i64 z, .int .i64 k] w fun e w' => e = .returned (.tuple #[.int .i64 (max (coreV t z k) 0), .bool (decide (0 ≤ coreV t z k))]) ∧ Below w.heap.size w w' := by
  obtain ⟨s, d, rs⟩ := t
  dsimp only at hR ⊢
  obtain ⟨ra, rc, rfl, hrc, hrm⟩ := hR.shape
  unfold maxLen at hrm
  have hb0 : Below w.heap.size w (w.alloc (.cells #[.int .i64 s, .int .i64 d, .slice ra rs.length rc] 25)) := (Below.refl _ _).alloc (Nat.le_refl _) _
  have HR := Lib.hid (box_rules (t := ⟨s, d, rs⟩) hR)
  have HTb := Lib.hid (ThBox.new w s d (.slice ra rs.length rc))
  have HB0 := Lib.hid hb0
  have HC : Hid (coreV ⟨s, d, rs⟩ z k = if coreOk ⟨s, d, rs⟩ z k then coreI z.toNat (suppL ⟨s, d, rs⟩ k) else -1) := rfl
  have HE : Hid (coreOk ⟨s, d, rs⟩ z k = ((validB ⟨s, d, rs⟩ && inB k 0 (s + d - 1)) && setB ⟨s, d, rs⟩ z)) := rfl
  have HSe : Hid (setB ⟨s, d, rs⟩ z = (validB ⟨s, d, rs⟩ && inB z 0 (2 ^ s.toNat - 1))) := rfl
  clear hR hb0
  have lT : w.heap.size < (w.alloc (.cells #[.int .i64 s, .int .i64 d, .slice ra rs.length rc] 25)).heap.size := by simp
  have HNo : Hid (coreOk ⟨s, d, rs⟩ z k = false → (Ending.returned (.tuple #[.int .i64 0, .bool false]) = Ending.returned (.tuple #[.int .i64 (max (coreV ⟨s, d, rs⟩ z k) 0), .bool (decide (0 ≤ coreV ⟨s, d, rs⟩ z k))]))) := fun h => by rw [HC.out, h]; rfl
  cases hv : validB ⟨s, d, rs⟩
  · have HS := Lib.hid (HNo.out (by rw [HE.out, hv]; rfl))
    clear HC HE HSe HNo
    generalize rs.length = m at *
    go_enter Tryd.func21, Tryd.ntmps21
    go_wp2_with (go_at_call 15; refine (refValid_any ⟨s, d, rs⟩ _ _ HR.out).mono ?_; rintro e w2 ⟨rfl, hb2⟩; rw [hv])
    go_ret2
    exact ⟨HS.out, HB0.out.trans (hb2.mono HB0.out.size)⟩
  · obtain ⟨hs, hd', hG, _⟩ := valid_good hv
    dsimp only at hs hd' hG
    obtain ⟨n, rfl⟩ := Int.eq_ofNat_of_zero_le hs.1
    obtain ⟨dd, rfl⟩ := Int.eq_ofNat_of_zero_le hd'.1
    have hn12 : n ≤ 12 := by omega
    have hd20 : dd ≤ 20 := by omega
    have HQ : Hid (∀ W, Calls Tryd.prog 50 #[thV n dd (.slice ra rs.length rc), .int .i64 z] W fun e w' => e = .returned (.bool (setB ⟨(n : Nat), (dd : Nat), rs⟩ z)) ∧ Below W.heap.size W w') := fun W => by
      have h := setR_any n dd z (.slice ra rs.length rc) W hn12 ⟨_, _, _, rfl⟩
      rwa [setB_of hv] at h
    have HTh : Hid (∀ W, Calls Tryd.prog 46 #[thV n dd (.slice ra rs.length rc), .int .i64 k] W fun e w' => e = .returned (.bool (inB k 0 (n + dd - 1))) ∧ Below W.heap.size W w') := fun W => thingR_any n dd k _ W hs hd' ⟨_, _, _, rfl⟩
    have HSu : Hid (∀ W, RulesAt W.heap.size W (.slice ra rs.length rc) rs → Calls Tryd.prog 29 #[thV n dd (.slice ra rs.length rc), .int .i64 k] W fun e w' => ∃ v, e = .returned (.tuple #[v, .int .i64 (errOf (suppB ⟨(n : Nat), (dd : Nat), rs⟩ k))]) ∧ OwnI W.heap.size w' v (suppL ⟨(n : Nat), (dd : Nat), rs⟩ k) ∧ Below W.heap.size W w') := fun W hW => refSupports_any ⟨(n : Nat), (dd : Nat), rs⟩ _ k W hW
    have HG := Lib.hid hG
    have HV := Lib.hid hv
    clear hG hs hd' HSe
    rw [hv, Bool.true_and] at HE
    clear hv
    cases hset : setB ⟨(n : Nat), (dd : Nat), rs⟩ z
    · rw [hset] at HQ
      have HS := Lib.hid (HNo.out (by rw [HE.out, hset, Bool.and_false]))
      clear hset HC HE HNo
      generalize rs.length = m at *
      go_enter Tryd.func21, Tryd.ntmps21
      go_wp2_with (first | (go_at_call 15; refine (refValid_any ⟨(n : Nat), (dd : Nat), rs⟩ _ _ HR.out).mono ?_; rintro e w2 ⟨rfl, hb2⟩; rw [HV.out]; have hT2 := HTb.out.below hb2 lT; have c0 := hT2.c0; have c1 := hT2.c1; have c2 := hT2.c2) | (go_at_call 50; refine (HQ.out _).mono ?_; rintro e w3 ⟨rfl, hb3⟩; have hb23 := hb2.trans (hb3.mono hb2.size); have hT3 := HTb.out.below hb23 lT; have e0 := hT3.c0; have e1 := hT3.c1; have e2 := hT3.c2))
      go_ret2
      exact ⟨HS.out, HB0.out.trans (hb23.mono HB0.out.size)⟩
    · rw [hset] at HQ
      cases hk : inB k 0 ((n : Int) + dd - 1)
      · rw [hk] at HTh
        have HS := Lib.hid (HNo.out (by rw [HE.out, hk]; rfl))
        clear hset hk HC HE HNo
        generalize rs.length = m at *
        go_enter Tryd.func21, Tryd.ntmps21
        go_wp2_with (first | (go_at_call 15; refine (refValid_any ⟨(n : Nat), (dd : Nat), rs⟩ _ _ HR.out).mono ?_; rintro e w2 ⟨rfl, hb2⟩; rw [HV.out]; have hT2 := HTb.out.below hb2 lT; have c0 := hT2.c0; have c1 := hT2.c1; have c2 := hT2.c2) | (go_at_call 50; refine (HQ.out _).mono ?_; rintro e w3 ⟨rfl, hb3⟩; have hb23 := hb2.trans (hb3.mono hb2.size); have hT3 := HTb.out.below hb23 lT; have e0 := hT3.c0; have e1 := hT3.c1; have e2 := hT3.c2) | (go_at_call 46; refine (HTh.out _).mono ?_; rintro e w4 ⟨rfl, hb4⟩; have hb24 := hb23.trans (hb4.mono hb23.size); have hT4 := HTb.out.below hb24 lT; have g0 := hT4.c0; have g1 := hT4.c1; have g2 := hT4.c2))
        go_ret2
        exact ⟨HS.out, HB0.out.trans (hb24.mono HB0.out.size)⟩
      · rw [hk] at HTh
        have HOk : Hid (coreOk ⟨(n : Nat), (dd : Nat), rs⟩ z k = true) := by show _ = _; rw [HE.out, hk, hset]; rfl
        obtain ⟨_, hz0, hz1, hz2⟩ := set_facts hset
        obtain ⟨S, rfl⟩ := Int.eq_ofNat_of_zero_le hz0
        have HC2 : Hid (coreV ⟨(n : Nat), (dd : Nat), rs⟩ (S : Nat) k = coreI S (suppL ⟨(n : Nat), (dd : Nat), rs⟩ k)) := by show _ = _; rw [HC.out, HOk.out, if_pos rfl, Int.toNat_natCast]
        have hS : S < 4294967296 := by omega
        clear hset hk HC hz0 hz1 HE HNo HOk
        have hbd := suppL_bd ⟨(n : Nat), (dd : Nat), rs⟩ k
        have HBd := Lib.hid hbd.2
        have hlen := hbd.1
        clear hbd
        generalize hl : suppL ⟨(n : Nat), (dd : Nat), rs⟩ k = l at *
        clear hl
        generalize coreV ⟨(n : Nat), (dd : Nat), rs⟩ (S : Nat) k = CV at *
        have HRL := Lib.hid (fun (W : World) hb => HR.out.later (w' := W) hb (Nat.le_refl _))
        generalize rs.length = m at *
        generalize hln : l.length = ln at *
        have Hln := Lib.hid hln
        clear hln
        go_enter Tryd.func21, Tryd.ntmps21
        go_wp2_with (first | (go_at_call 15; refine (refValid_any ⟨(n : Nat), (dd : Nat), rs⟩ _ _ HR.out).mono ?_; rintro e w2 ⟨rfl, hb2⟩; rw [HV.out]; have hT2 := HTb.out.below hb2 lT; have c0 := hT2.c0; have c1 := hT2.c1; have c2 := hT2.c2) | (go_at_call 50; refine (HQ.out _).mono ?_; rintro e w3 ⟨rfl, hb3⟩; have hb23 := hb2.trans (hb3.mono hb2.size); have hT3 := HTb.out.below hb23 lT; have e0 := hT3.c0; have e1 := hT3.c1; have e2 := hT3.c2) | (go_at_call 46; refine (HTh.out _).mono ?_; rintro e w4 ⟨rfl, hb4⟩; have hb24 := hb23.trans (hb4.mono hb23.size); have hT4 := HTb.out.below hb24 lT; have g0 := hT4.c0; have g1 := hT4.c1; have g2 := hT4.c2) | (go_at_call 29; refine (HSu.out _ (HRL.out _ hb24)).mono ?_; rintro e w5 ⟨vl, rfl, hO, hb5⟩; have hb25 := hb24.trans (hb5.mono hb24.size); obtain ⟨av, cv, hvv, hcv1, hcv2⟩ := hO.ints.shape; subst hvv))
        rw [Hln.out] at hcv1 ⊢
        have HB5 : Hid (Below w.heap.size w w5) := HB0.out.trans (hb25.mono HB0.out.size)
        have HI := Lib.hid (fun (W : World) (hb : Below w5.heap.size w5 W) => hO.ints.below hb (Nat.le_refl _))
        clear hb2 hb3 hb23 hb4 hb24 hb5 hb25 hT2 hT3 hT4 c0 c1 c2 e0 e1 e2 g0 g1 g2 HR HTb HRL lT hO
        go_loopw [10, 11] (fun bv iv wr => ∃ (j : Nat) (b c : Int), j ≤ ln ∧ iv = .int .i64 j ∧ bv = .int .i64 b ∧ Hid (c = (l.take j).foldl (coreStep S) (-1)) ∧ Hid ((b = -1 ∧ c = -1) ∨ ∃ q : Nat, b = q ∧ q < j ∧ c = l.getD q 0) ∧ Below w5.heap.size w5 wr) (fun _ iv _ => ln - (intOf iv).toNat)
        case atStart => exact ⟨0, -1, -1, Nat.zero_le _, rfl, rfl, rfl, .inl ⟨rfl, rfl⟩, Below.refl _ _⟩
        case round =>
          obtain ⟨j, b, c, hj, rfl, rfl, HC, HQb, hB⟩ := hrel
          have HIr := Lib.hid (HI.out _ hB)
          have hszr := hB.size
          by_cases hlt : j < ln
          · have jj : (j : Int) < (ln : Int) := by omega
            obtain ⟨lb, lo, hae, hlb, hcl⟩ := HIr.out.at j (by rw [Hln.out]; exact hlt)
            have hxb := HBd.out (l.getD j 0) (getD_mem _ _ _ (by rw [Hln.out]; exact hlt))
            have HSt := Lib.hid (foldl_step (coreStep S) 0 (-1) l j (by rw [Hln.out]; exact hlt))
            rw [← HC.out] at HSt
            obtain ⟨Lj, HLj⟩ : ∃ Lj, Hid (Lj = l.getD j 0) := ⟨_, rfl⟩
            rw [← HLj.out] at hcl hxb HSt
            obtain ⟨x, hx⟩ := Int.eq_ofNat_of_zero_le hxb.1
            subst hx
            have hx4 : x < 4096 := by omega
            have HCs : Hid (coreStep S c (x : Int) = if coreTest S c (x : Int) then (x : Int) else c) := rfl
            have HCt := Lib.hid (coreTest_sub S c x)
            have HB' : Hid (∀ W, Below wr.heap.size wr W → Below w5.heap.size w5 W) := fun W hb => hB.trans (hb.mono hszr)
            clear HC hxb
            cases hw : subB x S
            · rw [hw, Bool.false_and] at HCt
              rw [HCt.out, if_neg (by simp)] at HCs
              have HWi := Lib.hid hw
              clear hw HCt
              subst hae
              rcases HQb.out with ⟨hb, hc⟩ | ⟨q, hb, hq, hc⟩
              · have Hb := Lib.hid hb
                have Hc := Lib.hid hc
                clear hb hc
                go_wp2
                refine wp_region_calm ⟨[5], fun k v _ => CoreF false 0 0 k v, fun _ => [], 99, none, 1000⟩ (by kernel_rfl) (by kernel_rfl) (by kernel_rfl) (fun g h => by cases h) (fun k hk v W W' c h hg hc => h) ?_
                iterate 5 (refine calm_quiet (v := ?_) (by rfl) (by rfl) (fun W hW hD => ?_) ?_; rotate_left; (· (have q4 := grown_cell0 hW hcl; clear hD hW; go_simp; try with_reducible rfl)); simp only [Act.put, List.setIfInBounds_toArray, List.set_cons_zero, List.set_cons_succ, Nat.reduceAdd, Nat.zero_add])
                refine calm_makes (by rfl) (by rfl) (fun W hW hD K' hK' => ?_) (fun v44 => ?_)
                · refine wp_of_call ?_ ((within_any x S W (by omega) (by omega)).mono ?_)
                  · clear hD hW hK'
                    go_simp
                    try rfl
                  · rintro e w' ⟨he, hw⟩
                    subst hw
                    exact ⟨_, he, hK' _ _ (made_plain (show CoreF false 0 0 5 (.bool (subB x S)) from by rw [HWi.out]; rfl) (Below.refl _ _) rfl)⟩
                simp only [Act.put, List.setIfInBounds_toArray, List.set_cons_zero, List.set_cons_succ, Nat.reduceAdd, Nat.zero_add]
                refine calm_quiet (v := .bool false) (by rfl) (by rfl) (fun W hW hD => ?_) ?_
                · obtain rfl : v44 = .bool false := hD [] 5 (by kernel_rfl) (by kernel_rfl) (by kernel_rfl)
                  clear hD hW
                  go_simp
                simp only [Act.put, List.setIfInBounds_toArray, List.set_cons_zero, List.set_cons_succ, Nat.reduceAdd, Nat.zero_add]
                iterate 16 (refine calm_skip (by rfl) (by rfl) ?_; simp only [Act.put, List.setIfInBounds_toArray, List.set_cons_zero, List.set_cons_succ, Nat.reduceAdd, Nat.zero_add])
                iterate 1 (refine calm_quiet (v := ?_) (by rfl) (by rfl) (fun W hW hD => ?_) ?_; rotate_left; (· (clear hD hW; go_simp; try with_reducible rfl)); simp only [Act.put, List.setIfInBounds_toArray, List.set_cons_zero, List.set_cons_succ, Nat.reduceAdd, Nat.zero_add])
                refine calm_nil fun W hW hF => ?_
                have HB6 := Lib.hid (grown_below hW)
                clear hF hW
                go_wp2
                go_roundw
                case rel => exact ⟨j + 1, b, c, by omega, by go_num, rfl, by show _ = _; rw [HSt.out, HCs.out], .inl ⟨Hb.out, Hc.out⟩, HB'.out _ HB6.out⟩
                case measure => simp [intOf]; omega
              · have Hb := Lib.hid hb
                have Hc := Lib.hid hc
                clear hb hc
                go_wp2
                refine wp_region_calm ⟨[5], fun k v _ => CoreF false 0 0 k v, fun _ => [], 99, none, 1000⟩ (by kernel_rfl) (by kernel_rfl) (by kernel_rfl) (fun g h => by cases h) (fun k hk v W W' c h hg hc => h) ?_
                iterate 5 (refine calm_quiet (v := ?_) (by rfl) (by rfl) (fun W hW hD => ?_) ?_; rotate_left; (· (have q4 := grown_cell0 hW hcl; clear hD hW; go_simp; try with_reducible rfl)); simp only [Act.put, List.setIfInBounds_toArray, List.set_cons_zero, List.set_cons_succ, Nat.reduceAdd, Nat.zero_add])
                refine calm_makes (by rfl) (by rfl) (fun W hW hD K' hK' => ?_) (fun v44 => ?_)
                · refine wp_of_call ?_ ((within_any x S W (by omega) (by omega)).mono ?_)
                  · clear hD hW hK'
                    go_simp
                    try rfl
                  · rintro e w' ⟨he, hw⟩
                    subst hw
                    exact ⟨_, he, hK' _ _ (made_plain (show CoreF false 0 0 5 (.bool (subB x S)) from by rw [HWi.out]; rfl) (Below.refl _ _) rfl)⟩
                simp only [Act.put, List.setIfInBounds_toArray, List.set_cons_zero, List.set_cons_succ, Nat.reduceAdd, Nat.zero_add]
                refine calm_quiet (v := .bool false) (by rfl) (by rfl) (fun W hW hD => ?_) ?_
                · obtain rfl : v44 = .bool false := hD [] 5 (by kernel_rfl) (by kernel_rfl) (by kernel_rfl)
                  clear hD hW
                  go_simp
                simp only [Act.put, List.setIfInBounds_toArray, List.set_cons_zero, List.set_cons_succ, Nat.reduceAdd, Nat.zero_add]
                iterate 16 (refine calm_skip (by rfl) (by rfl) ?_; simp only [Act.put, List.setIfInBounds_toArray, List.set_cons_zero, List.set_cons_succ, Nat.reduceAdd, Nat.zero_add])
                iterate 1 (refine calm_quiet (v := ?_) (by rfl) (by rfl) (fun W hW hD => ?_) ?_; rotate_left; (· (clear hD hW; go_simp; try with_reducible rfl)); simp only [Act.put, List.setIfInBounds_toArray, List.set_cons_zero, List.set_cons_succ, Nat.reduceAdd, Nat.zero_add])
                refine calm_nil fun W hW hF => ?_
                have HB6 := Lib.hid (grown_below hW)
                clear hF hW
                go_wp2
                go_roundw
                case rel => exact ⟨j + 1, b, c, by omega, by go_num, rfl, by show _ = _; rw [HSt.out, HCs.out], .inr ⟨q, Hb.out, by omega, Hc.out⟩, HB'.out _ HB6.out⟩
                case measure => simp [intOf]; omega
            · rw [hw, Bool.true_and] at HCt
              have HWi := Lib.hid hw
              clear hw
              rcases HQb.out with ⟨hb, hc⟩ | ⟨q, hb, hq, hc⟩
              · subst hb hc
                rw [show (decide ((-1 : Int) < 0)) = true from rfl, Bool.true_or] at HCt
                rw [HCt.out, if_pos rfl] at HCs
                subst hae
                go_wp2
                refine wp_region_calm ⟨[5], fun k v _ => CoreF true 0 0 k v, fun _ => [], 99, none, 1000⟩ (by kernel_rfl) (by kernel_rfl) (by kernel_rfl) (fun g h => by cases h) (fun k hk v W W' c h hg hc => h) ?_
                iterate 5 (refine calm_quiet (v := ?_) (by rfl) (by rfl) (fun W hW hD => ?_) ?_; rotate_left; (· (have q4 := grown_cell0 hW hcl; clear hD hW; go_simp; try with_reducible rfl)); simp only [Act.put, List.setIfInBounds_toArray, List.set_cons_zero, List.set_cons_succ, Nat.reduceAdd, Nat.zero_add])
                refine calm_makes (by rfl) (by rfl) (fun W hW hD K' hK' => ?_) (fun v44 => ?_)
                · refine wp_of_call ?_ ((within_any x S W (by omega) (by omega)).mono ?_)
                  · clear hD hW hK'
                    go_simp
                    try rfl
                  · rintro e w' ⟨he, hw⟩
                    subst hw
                    exact ⟨_, he, hK' _ _ (made_plain (show CoreF true 0 0 5 (.bool (subB x S)) from by rw [HWi.out]; rfl) (Below.refl _ _) rfl)⟩
                simp only [Act.put, List.setIfInBounds_toArray, List.set_cons_zero, List.set_cons_succ, Nat.reduceAdd, Nat.zero_add]
                refine calm_quiet (v := .bool true) (by rfl) (by rfl) (fun W hW hD => ?_) ?_
                · obtain rfl : v44 = .bool true := hD [] 5 (by kernel_rfl) (by kernel_rfl) (by kernel_rfl)
                  clear hD hW
                  go_simp
                simp only [Act.put, List.setIfInBounds_toArray, List.set_cons_zero, List.set_cons_succ, Nat.reduceAdd, Nat.zero_add]
                iterate 3 (refine calm_quiet (v := ?_) (by rfl) (by rfl) (fun W hW hD => ?_) ?_; rotate_left; (· (clear hD hW; go_simp; try with_reducible rfl)); simp only [Act.put, List.setIfInBounds_toArray, List.set_cons_zero, List.set_cons_succ, Nat.reduceAdd, Nat.zero_add])
                iterate 12 (refine calm_skip (by rfl) (by rfl) ?_; simp only [Act.put, List.setIfInBounds_toArray, List.set_cons_zero, List.set_cons_succ, Nat.reduceAdd, Nat.zero_add])
                iterate 2 (refine calm_quiet (v := ?_) (by rfl) (by rfl) (fun W hW hD => ?_) ?_; rotate_left; (· (clear hD hW; go_simp; try with_reducible rfl)); simp only [Act.put, List.setIfInBounds_toArray, List.set_cons_zero, List.set_cons_succ, Nat.reduceAdd, Nat.zero_add])
                refine calm_nil fun W hW hF => ?_
                have HB6 := Lib.hid (grown_below hW)
                clear hF hW
                go_wp2
                go_roundw
                case rel => exact ⟨j + 1, j, x, by omega, by go_num, rfl, by show _ = _; rw [HSt.out, HCs.out], .inr ⟨j, rfl, by omega, HLj.out⟩, HB'.out _ HB6.out⟩
                case measure => simp [intOf]; omega
              · subst hb
                have hyb := HBd.out (l.getD q 0) (getD_mem _ _ _ (by rw [Hln.out]; omega))
                obtain ⟨lb', lo', hae', hlb', hcq⟩ := HIr.out.at q (by rw [Hln.out]; omega)
                have hbb := hae.symm.trans hae'
                injection hbb with hbb
                injection hbb with hbb1 hbb2
                subst hbb1 hbb2
                subst hae
                have Hc := Lib.hid hc
                rw [← Hc.out] at hcq hyb
                obtain ⟨y, hy⟩ := Int.eq_ofNat_of_zero_le hyb.1
                subst hy
                have hy4 : y < 4096 := by omega
                have dq : ¬ ((y : Int) < 0) := by omega
                rw [decide_eq_false dq, Bool.false_or, cnt_list, cnt_list] at HCt
                have qq : (q : Int) < (ln : Int) := by omega
                have q0 : decide ((q : Int) < 0) = false := by simp
                have qm : (if (q : Int) < 0 then (0 : Int) else (q : Int)) = (q : Int) := if_neg (by omega)
                have HM1 := Lib.hid (fun W => refMany_any x W (by omega))
                have HM2 := Lib.hid (fun W => refMany_any y W (by omega))
                clear hc hyb hae' dq
                generalize (listB x).length = n1 at *
                generalize (listB y).length = n2 at *
                by_cases hnn : n1 < n2
                · have d12 : decide ((n1 : Int) < (n2 : Int)) = true := by simp; omega
                  rw [HCt.out, if_pos (by simpa using hnn)] at HCs
                  go_wp2
                  refine wp_region_calm ⟨[5, 14, 20], fun k v _ => CoreF true n1 n2 k v, fun _ => [], 99, none, 1000⟩ (by kernel_rfl) (by kernel_rfl) (by kernel_rfl) (fun g h => by cases h) (fun k hk v W W' c h hg hc => h) ?_
                  iterate 5 (refine calm_quiet (v := ?_) (by rfl) (by rfl) (fun W hW hD => ?_) ?_; rotate_left; (· (have q4 := grown_cell0 hW hcl; clear hD hW; go_simp; try with_reducible rfl)); simp only [Act.put, List.setIfInBounds_toArray, List.set_cons_zero, List.set_cons_succ, Nat.reduceAdd, Nat.zero_add])
                  refine calm_makes (by rfl) (by rfl) (fun W hW hD K' hK' => ?_) (fun v44 => ?_)
                  · refine wp_of_call ?_ ((within_any x S W (by omega) (by omega)).mono ?_)
                    · clear hD hW hK'
                      go_simp
                      try rfl
                    · rintro e w' ⟨he, hw⟩
                      subst hw
                      exact ⟨_, he, hK' _ _ (made_plain (show CoreF true n1 n2 5 (.bool (subB x S)) from by rw [HWi.out]; rfl) (Below.refl _ _) rfl)⟩
                  simp only [Act.put, List.setIfInBounds_toArray, List.set_cons_zero, List.set_cons_succ, Nat.reduceAdd, Nat.zero_add]
                  refine calm_quiet (v := .bool true) (by rfl) (by rfl) (fun W hW hD => ?_) ?_
                  · obtain rfl : v44 = .bool true := hD [] 5 (by kernel_rfl) (by kernel_rfl) (by kernel_rfl)
                    clear hD hW
                    go_simp
                  simp only [Act.put, List.setIfInBounds_toArray, List.set_cons_zero, List.set_cons_succ, Nat.reduceAdd, Nat.zero_add]
                  iterate 7 (refine calm_quiet (v := ?_) (by rfl) (by rfl) (fun W hW hD => ?_) ?_; rotate_left; (· (have q4 := grown_cell0 hW hcl; clear hD hW; go_simp; try with_reducible rfl)); simp only [Act.put, List.setIfInBounds_toArray, List.set_cons_zero, List.set_cons_succ, Nat.reduceAdd, Nat.zero_add])
                  refine calm_makes (by rfl) (by rfl) (fun W hW hD K' hK' => ?_) (fun v53 => ?_)
                  · refine wp_of_call ?_ ((HM1.out W).mono ?_)
                    · clear hD hW hK'
                      go_simp
                      try rfl
                    · rintro e w' ⟨he, hb⟩
                      exact ⟨_, he, hK' _ _ (made_plain (show CoreF true n1 n2 14 (.int .i64 (n1 : Nat)) from rfl) hb rfl)⟩
                  simp only [Act.put, List.setIfInBounds_toArray, List.set_cons_zero, List.set_cons_succ, Nat.reduceAdd, Nat.zero_add]
                  iterate 5 (refine calm_quiet (v := ?_) (by rfl) (by rfl) (fun W hW hD => ?_) ?_; rotate_left; (· (have q4 := grown_cell0 hW hcl; have q5 := grown_cell0 hW hcq; clear hD hW; go_simp; try with_reducible rfl)); simp only [Act.put, List.setIfInBounds_toArray, List.set_cons_zero, List.set_cons_succ, Nat.reduceAdd, Nat.zero_add])
                  refine calm_makes (by rfl) (by rfl) (fun W hW hD K' hK' => ?_) (fun v59 => ?_)
                  · refine wp_of_call ?_ ((HM2.out W).mono ?_)
                    · clear hD hW hK'
                      go_simp
                      try rfl
                    · rintro e w' ⟨he, hb⟩
                      exact ⟨_, he, hK' _ _ (made_plain (show CoreF true n1 n2 20 (.int .i64 (n2 : Nat)) from rfl) hb rfl)⟩
                  simp only [Act.put, List.setIfInBounds_toArray, List.set_cons_zero, List.set_cons_succ, Nat.reduceAdd, Nat.zero_add]
                  refine calm_quiet (v := .bool true) (by rfl) (by rfl) (fun W hW hD => ?_) ?_
                  · obtain rfl : v53 = .int .i64 (n1 : Nat) := hD [] 14 (by kernel_rfl) (by kernel_rfl) (by kernel_rfl)
                    obtain rfl : v59 = .int .i64 (n2 : Nat) := hD [] 20 (by kernel_rfl) (by kernel_rfl) (by kernel_rfl)
                    clear hD hW
                    go_simp
                  simp only [Act.put, List.setIfInBounds_toArray, List.set_cons_zero, List.set_cons_succ, Nat.reduceAdd, Nat.zero_add]
                  iterate 2 (refine calm_quiet (v := ?_) (by rfl) (by rfl) (fun W hW hD => ?_) ?_; rotate_left; (· (clear hD hW; go_simp; try with_reducible rfl)); simp only [Act.put, List.setIfInBounds_toArray, List.set_cons_zero, List.set_cons_succ, Nat.reduceAdd, Nat.zero_add])
                  refine calm_nil fun W hW hF => ?_
                  have HB6 := Lib.hid (grown_below hW)
                  clear hF hW
                  go_wp2
                  go_roundw
                  case rel => exact ⟨j + 1, j, x, by omega, by go_num, rfl, by show _ = _; rw [HSt.out, HCs.out], .inr ⟨j, rfl, by omega, HLj.out⟩, HB'.out _ HB6.out⟩
                  case measure => simp [intOf]; omega
                · have d12 : decide ((n1 : Int) < (n2 : Int)) = false := by simp; omega
                  rw [HCt.out, if_neg (by simpa using hnn)] at HCs
                  go_wp2
                  refine wp_region_calm ⟨[5, 14, 20], fun k v _ => CoreF true n1 n2 k v, fun _ => [], 99, none, 1000⟩ (by kernel_rfl) (by kernel_rfl) (by kernel_rfl) (fun g h => by cases h) (fun k hk v W W' c h hg hc => h) ?_
                  iterate 5 (refine calm_quiet (v := ?_) (by rfl) (by rfl) (fun W hW hD => ?_) ?_; rotate_left; (· (have q4 := grown_cell0 hW hcl; clear hD hW; go_simp; try with_reducible rfl)); simp only [Act.put, List.setIfInBounds_toArray, List.set_cons_zero, List.set_cons_succ, Nat.reduceAdd, Nat.zero_add])
                  refine calm_makes (by rfl) (by rfl) (fun W hW hD K' hK' => ?_) (fun v44 => ?_)
                  · refine wp_of_call ?_ ((within_any x S W (by omega) (by omega)).mono ?_)
                    · clear hD hW hK'
                      go_simp
                      try rfl
                    · rintro e w' ⟨he, hw⟩
                      subst hw
                      exact ⟨_, he, hK' _ _ (made_plain (show CoreF true n1 n2 5 (.bool (subB x S)) from by rw [HWi.out]; rfl) (Below.refl _ _) rfl)⟩
                  simp only [Act.put, List.setIfInBounds_toArray, List.set_cons_zero, List.set_cons_succ, Nat.reduceAdd, Nat.zero_add]
                  refine calm_quiet (v := .bool true) (by rfl) (by rfl) (fun W hW hD => ?_) ?_
                  · obtain rfl : v44 = .bool true := hD [] 5 (by kernel_rfl) (by kernel_rfl) (by kernel_rfl)
                    clear hD hW
                    go_simp
                  simp only [Act.put, List.setIfInBounds_toArray, List.set_cons_zero, List.set_cons_succ, Nat.reduceAdd, Nat.zero_add]
                  iterate 7 (refine calm_quiet (v := ?_) (by rfl) (by rfl) (fun W hW hD => ?_) ?_; rotate_left; (· (have q4 := grown_cell0 hW hcl; clear hD hW; go_simp; try with_reducible rfl)); simp only [Act.put, List.setIfInBounds_toArray, List.set_cons_zero, List.set_cons_succ, Nat.reduceAdd, Nat.zero_add])
                  refine calm_makes (by rfl) (by rfl) (fun W hW hD K' hK' => ?_) (fun v53 => ?_)
                  · refine wp_of_call ?_ ((HM1.out W).mono ?_)
                    · clear hD hW hK'
                      go_simp
                      try rfl
                    · rintro e w' ⟨he, hb⟩
                      exact ⟨_, he, hK' _ _ (made_plain (show CoreF true n1 n2 14 (.int .i64 (n1 : Nat)) from rfl) hb rfl)⟩
                  simp only [Act.put, List.setIfInBounds_toArray, List.set_cons_zero, List.set_cons_succ, Nat.reduceAdd, Nat.zero_add]
                  iterate 5 (refine calm_quiet (v := ?_) (by rfl) (by rfl) (fun W hW hD => ?_) ?_; rotate_left; (· (have q4 := grown_cell0 hW hcl; have q5 := grown_cell0 hW hcq; clear hD hW; go_simp; try with_reducible rfl)); simp only [Act.put, List.setIfInBounds_toArray, List.set_cons_zero, List.set_cons_succ, Nat.reduceAdd, Nat.zero_add])
                  refine calm_makes (by rfl) (by rfl) (fun W hW hD K' hK' => ?_) (fun v59 => ?_)
                  · refine wp_of_call ?_ ((HM2.out W).mono ?_)
                    · clear hD hW hK'
                      go_simp
                      try rfl
                    · rintro e w' ⟨he, hb⟩
                      exact ⟨_, he, hK' _ _ (made_plain (show CoreF true n1 n2 20 (.int .i64 (n2 : Nat)) from rfl) hb rfl)⟩
                  simp only [Act.put, List.setIfInBounds_toArray, List.set_cons_zero, List.set_cons_succ, Nat.reduceAdd, Nat.zero_add]
                  refine calm_quiet (v := .bool false) (by rfl) (by rfl) (fun W hW hD => ?_) ?_
                  · obtain rfl : v53 = .int .i64 (n1 : Nat) := hD [] 14 (by kernel_rfl) (by kernel_rfl) (by kernel_rfl)
                    obtain rfl : v59 = .int .i64 (n2 : Nat) := hD [] 20 (by kernel_rfl) (by kernel_rfl) (by kernel_rfl)
                    clear hD hW
                    go_simp
                  simp only [Act.put, List.setIfInBounds_toArray, List.set_cons_zero, List.set_cons_succ, Nat.reduceAdd, Nat.zero_add]
                  iterate 2 (refine calm_quiet (v := ?_) (by rfl) (by rfl) (fun W hW hD => ?_) ?_; rotate_left; (· (clear hD hW; go_simp; try with_reducible rfl)); simp only [Act.put, List.setIfInBounds_toArray, List.set_cons_zero, List.set_cons_succ, Nat.reduceAdd, Nat.zero_add])
                  refine calm_nil fun W hW hF => ?_
                  have HB6 := Lib.hid (grown_below hW)
                  clear hF hW
                  go_wp2
                  go_roundw
                  case rel => exact ⟨j + 1, q, y, by omega, by go_num, rfl, by show _ = _; rw [HSt.out, HCs.out], .inr ⟨q, rfl, by omega, Hc.out⟩, HB'.out _ HB6.out⟩
                  case measure => simp [intOf]; omega
          · obtain rfl : j = ln := by omega
            have HFin : Hid (CV = c) := by show _ = _; rw [HC2.out, HC.out, List.take_of_length_le (by rw [Hln.out]; exact Nat.le_refl _)]; rfl
            have HEnd : Hid (Below w.heap.size w wr) := HB5.out.trans (hB.mono HB5.out.size)
            rcases HQb.out with ⟨hb, hc⟩ | ⟨q, hb, hq, hc⟩
            · subst hb hc
              clear HC
              go_wp2
              go_ret2
              exact ⟨by rw [HFin.out]; rfl, HEnd.out⟩
            · subst hb
              obtain ⟨lb, lo, hae, hlb, hcl⟩ := HIr.out.at q (by rw [Hln.out]; exact hq)
              subst hae
              have hxb := HBd.out (l.getD q 0) (getD_mem _ _ _ (by rw [Hln.out]; exact hq))
              rw [← hc] at hcl hxb
              clear hc HC
              have qq : (q : Int) < (j : Int) := by omega
              have q0 : decide ((q : Int) < 0) = false := by simp
              go_wp2
              go_ret2
              exact ⟨by rw [HFin.out, show max c 0 = c from by omega, show decide (0 ≤ c) = true from by simp; omega]; rfl, HEnd.out⟩
end Go.Proofs.YtmihkbiihfhpoaaDoor
