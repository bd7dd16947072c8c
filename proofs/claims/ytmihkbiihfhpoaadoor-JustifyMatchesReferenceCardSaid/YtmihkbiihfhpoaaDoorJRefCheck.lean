/- The reference's Check. -/
import Derived.Test.YtmihkbiihfhpoaaDoorJRefSupp
namespace Go.Proofs.YtmihkbiihfhpoaaDoor
open Go.RowKit Go.Shelf

theorem der_none {s : Int} {rs : List JRule} {S : Nat} {k : Int} {l : List Int} (hl : l ≠ []) (h : stepsL rs S l = none) : derivesB s rs S k l = false := by
  cases hd : derivesB s rs S k l
  · rfl
  · obtain ⟨_, ⟨T, hT⟩, _⟩ := (derives_iff hl).1 hd
    rw [h] at hT
    cases hT
theorem getLast_getD {l : List Int} (hl : l ≠ []) : l.getLast? = some (l.getD (l.length - 1) 0) := by
  have h0 : l.length ≠ 0 := fun h => hl (List.eq_nil_of_length_eq_zero h)
  rw [List.getLast?_eq_getElem?, List.getD_eq_getElem?_getD, List.getElem?_eq_getElem (by omega)]
  rfl
theorem der_some {s : Int} {rs : List JRule} {S T : Nat} {k : Int} {l : List Int} (hl : l ≠ []) (h40 : l.length ≤ 40) (h : stepsL rs S l = some T) : derivesB s rs S k l = (givesAt rs (l.getD (l.length - 1) 0) == k) := by
  rw [Bool.eq_iff_iff, derives_iff hl, beq_iff_eq]
  constructor
  · rintro ⟨_, _, i, hi, hg⟩
    rw [getLast_getD hl] at hi
    obtain rfl := Option.some.inj hi
    exact hg
  · intro hg
    exact ⟨h40, ⟨T, h⟩, _, getLast_getD hl, hg⟩
theorem steps_at {rs : List JRule} {S : Nat} {i : Int} {t : List Int} : stepsL rs S (i :: t) = if inB i 0 ((rs.length : Int) - 1) && meetsB (rs.getD i.toNat default).needs S then stepsL rs (addB S (rs.getD i.toNat default).gives) t else none := rfl
/-- What the calls of a step's test leave. -/
def ChkF (b1 b2 : Bool) (k : Nat) (v : Value) : Prop := if k = 8 then v = .bool b1 else v = .bool b2
set_option maxRecDepth 100000 in
set_option maxHeartbeats 4000000 in
theorem refCheck_any (t : JTh) (rv lv : Value) (z k : Int) (l : List Int) (w : World) (hR : RulesAt w.heap.size w rv t.rules) (hL : IntsAt w.heap.size w lv l) :
    Calls Tryd.prog 27 #[thV t.seen t.drawn rv, .int .i64 z, .int .i64 k, lv] w fun e w' => e = .returned (.bool (checkB t z k l)) ∧ Below w.heap.size w w' := by
  obtain ⟨s, d, rs⟩ := t
  dsimp only at hR ⊢
  obtain ⟨ra, rc, rfl, hrc, hrm⟩ := hR.shape
  obtain ⟨la, lc, rfl, hlc, hlm⟩ := hL.shape
  unfold maxLen at hrm hlm
  have hb0 : Below w.heap.size w (w.alloc (.cells #[.int .i64 s, .int .i64 d, .slice ra rs.length rc] 25)) := (Below.refl _ _).alloc (Nat.le_refl _) _
  have HR := Lib.hid (box_rules (t := ⟨s, d, rs⟩) hR)
  have HTb := Lib.hid (ThBox.new w s d (.slice ra rs.length rc))
  have HB0 := Lib.hid hb0
  have HLs := Lib.hid (hL.later hb0 (Nat.le_refl _))
  have HC : Hid (checkB ⟨s, d, rs⟩ z k l = (setB ⟨s, d, rs⟩ z && inB k 0 (s + d - 1) && derivesB s rs z.toNat k l)) := rfl
  clear hR hL hb0
  have lT : w.heap.size < (w.alloc (.cells #[.int .i64 s, .int .i64 d, .slice ra rs.length rc] 25)).heap.size := by simp
  cases hv : validB ⟨s, d, rs⟩
  · have HS : Hid (checkB ⟨s, d, rs⟩ z k l = false) := by show _ = _; rw [HC.out]; unfold setB; rw [hv]; rfl
    generalize rs.length = m at *
    generalize l.length = ln at *
    go_enter Tryd.func27, Tryd.ntmps27
    go_wp2_with (go_at_call 15; refine (refValid_any ⟨s, d, rs⟩ _ _ HR.out).mono ?_; rintro e w2 ⟨rfl, hb2⟩; rw [hv])
    go_ret
    exact ⟨by rw [HS.out]; rfl, HB0.out.trans (hb2.mono HB0.out.size)⟩
  · obtain ⟨hs, hd', hG, _⟩ := valid_good hv
    dsimp only at hs hd' hG
    obtain ⟨n, rfl⟩ := Int.eq_ofNat_of_zero_le hs.1
    obtain ⟨dd, rfl⟩ := Int.eq_ofNat_of_zero_le hd'.1
    have hn12 : n ≤ 12 := by omega
    have hd20 : dd ≤ 20 := by omega
    have HQ : Hid (∀ W, Calls Tryd.prog 50 #[thV n dd (.slice ra rs.length rc), .int .i64 z] W fun e w' => e = .returned (.bool (setB ⟨(n : Nat), (dd : Nat), rs⟩ z)) ∧ Below W.heap.size W w') := fun W => by
      have h := setR_any n dd z (.slice ra rs.length rc) W hn12 ⟨_, _, _, rfl⟩
      rwa [setB_of hv] at h
    have HTh : Hid (∀ W, Calls Tryd.prog 46 #[thV n dd (.slice ra rs.length rc), .int .i64 k] W fun e w' => e = .returned (.bool (inB k 0 (n + dd - 1))) ∧ Below W.heap.size W w') := fun W => thingR_any n dd k _ W hs hd' ⟨_, _, _, rfl⟩
    have HG := Lib.hid hG
    have HV := Lib.hid hv
    clear hG hv hs hd'
    cases hset : setB ⟨(n : Nat), (dd : Nat), rs⟩ z
    · rw [hset] at HQ
      have HS : Hid (checkB ⟨(n : Nat), (dd : Nat), rs⟩ z k l = false) := by show _ = _; rw [HC.out, hset]; rfl
      clear hset
      generalize rs.length = m at *
      generalize l.length = ln at *
      go_enter Tryd.func27, Tryd.ntmps27
      go_wp2_with (first | (go_at_call 15; refine (refValid_any ⟨(n : Nat), (dd : Nat), rs⟩ _ _ HR.out).mono ?_; rintro e w2 ⟨rfl, hb2⟩; rw [HV.out]; have hT2 := HTb.out.below hb2 lT; have c0 := hT2.c0; have c1 := hT2.c1; have c2 := hT2.c2) | (go_at_call 50; refine (HQ.out _).mono ?_; rintro e w3 ⟨rfl, hb3⟩; have hb23 := hb2.trans (hb3.mono hb2.size); have hT3 := HTb.out.below hb23 lT; have e0 := hT3.c0; have e1 := hT3.c1; have e2 := hT3.c2))
      go_ret
      exact ⟨by rw [HS.out]; rfl, HB0.out.trans (hb23.mono HB0.out.size)⟩
    · rw [hset] at HQ
      cases hk : inB k 0 ((n : Int) + dd - 1)
      · rw [hk] at HTh
        have HS : Hid (checkB ⟨(n : Nat), (dd : Nat), rs⟩ z k l = false) := by show _ = _; rw [HC.out, hset, hk]; rfl
        clear hset hk
        generalize rs.length = m at *
        generalize l.length = ln at *
        go_enter Tryd.func27, Tryd.ntmps27
        go_wp2_with (first | (go_at_call 15; refine (refValid_any ⟨(n : Nat), (dd : Nat), rs⟩ _ _ HR.out).mono ?_; rintro e w2 ⟨rfl, hb2⟩; rw [HV.out]; have hT2 := HTb.out.below hb2 lT; have c0 := hT2.c0; have c1 := hT2.c1; have c2 := hT2.c2) | (go_at_call 50; refine (HQ.out _).mono ?_; rintro e w3 ⟨rfl, hb3⟩; have hb23 := hb2.trans (hb3.mono hb2.size); have hT3 := HTb.out.below hb23 lT; have e0 := hT3.c0; have e1 := hT3.c1; have e2 := hT3.c2) | (go_at_call 46; refine (HTh.out _).mono ?_; rintro e w4 ⟨rfl, hb4⟩; have hb24 := hb23.trans (hb4.mono hb23.size); have hT4 := HTb.out.below hb24 lT; have g0 := hT4.c0; have g1 := hT4.c1; have g2 := hT4.c2))
        go_ret
        exact ⟨by rw [HS.out]; rfl, HB0.out.trans (hb24.mono HB0.out.size)⟩
      · rw [hk] at HTh
        have HC2 : Hid (checkB ⟨(n : Nat), (dd : Nat), rs⟩ z k l = derivesB n rs z.toNat k l) := by show _ = _; rw [HC.out, hset, hk]; rfl
        obtain ⟨_, hz0, hz1, hz2⟩ := set_facts hset
        obtain ⟨S, rfl⟩ := Int.eq_ofNat_of_zero_le hz0
        have hk2 := hk
        simp only [inB, Bool.and_eq_true, decide_eq_true_eq] at hk2
        obtain ⟨K, rfl⟩ := Int.eq_ofNat_of_zero_le hk2.1
        have hK : K < 32 := by omega
        have hS : S < 4294967296 := by omega
        rw [Int.toNat_natCast] at HC2
        clear hset hk hk2 HC hz0 hz1 hz2
        by_cases h40 : 40 < l.length
        · have HS : Hid (checkB ⟨(n : Nat), (dd : Nat), rs⟩ (S : Nat) (K : Nat) l = false) := by show _ = _; rw [HC2.out]; unfold derivesB; rw [if_pos h40]
          clear HC2
          have h40' : (40 : Int) < (l.length : Int) := by omega
          generalize rs.length = m at *
          generalize l.length = ln at *
          go_enter Tryd.func27, Tryd.ntmps27
          go_wp2_with (first | (go_at_call 15; refine (refValid_any ⟨(n : Nat), (dd : Nat), rs⟩ _ _ HR.out).mono ?_; rintro e w2 ⟨rfl, hb2⟩; rw [HV.out]; have hT2 := HTb.out.below hb2 lT; have c0 := hT2.c0; have c1 := hT2.c1; have c2 := hT2.c2) | (go_at_call 50; refine (HQ.out _).mono ?_; rintro e w3 ⟨rfl, hb3⟩; have hb23 := hb2.trans (hb3.mono hb2.size); have hT3 := HTb.out.below hb23 lT; have e0 := hT3.c0; have e1 := hT3.c1; have e2 := hT3.c2) | (go_at_call 46; refine (HTh.out _).mono ?_; rintro e w4 ⟨rfl, hb4⟩; have hb24 := hb23.trans (hb4.mono hb23.size); have hT4 := HTb.out.below hb24 lT; have g0 := hT4.c0; have g1 := hT4.c1; have g2 := hT4.c2))
          go_ret
          exact ⟨by rw [HS.out]; rfl, HB0.out.trans (hb24.mono HB0.out.size)⟩
        · have h40' : (l.length : Int) ≤ 40 := by omega
          by_cases hl0 : l.length = 0
          · have HS : Hid (checkB ⟨(n : Nat), (dd : Nat), rs⟩ (S : Nat) (K : Nat) l = (decide ((K : Int) < (n : Int)) && S.testBit K)) := by
              show _ = _
              rw [HC2.out]
              obtain rfl : l = [] := List.eq_nil_of_length_eq_zero hl0
              rw [derives_nil]
              simp [bitB]
            rw [HS.out]
            clear HS HC2 HLs h40 h40'
            rw [hl0]
            generalize rs.length = m at *
            by_cases hkn : (K : Int) < (n : Int)
            · rw [decide_eq_true hkn, Bool.true_and]
              generalize hbt : S.testBit K = b at *
              have HBt := Lib.hid hbt
              clear hbt
              go_enter Tryd.func27, Tryd.ntmps27
              go_wp2_with (first | (go_at_call 15; refine (refValid_any ⟨(n : Nat), (dd : Nat), rs⟩ _ _ HR.out).mono ?_; rintro e w2 ⟨rfl, hb2⟩; rw [HV.out]; have hT2 := HTb.out.below hb2 lT; have c0 := hT2.c0; have c1 := hT2.c1; have c2 := hT2.c2) | (go_at_call 50; refine (HQ.out _).mono ?_; rintro e w3 ⟨rfl, hb3⟩; have hb23 := hb2.trans (hb3.mono hb2.size); have hT3 := HTb.out.below hb23 lT; have e0 := hT3.c0; have e1 := hT3.c1; have e2 := hT3.c2) | (go_at_call 46; refine (HTh.out _).mono ?_; rintro e w4 ⟨rfl, hb4⟩; have hb24 := hb23.trans (hb4.mono hb23.size); have hT4 := HTb.out.below hb24 lT; have g0 := hT4.c0; have g1 := hT4.c1; have g2 := hT4.c2) | (go_at_call 54; refine (hasR_any _ _ _ (by omega) (by omega)).mono ?_; rintro e w5 ⟨rfl, rfl⟩; rw [HBt.out]))
              go_ret
              exact ⟨rfl, HB0.out.trans (hb24.mono HB0.out.size)⟩
            · rw [decide_eq_false hkn, Bool.false_and]
              go_enter Tryd.func27, Tryd.ntmps27
              go_wp2_with (first | (go_at_call 15; refine (refValid_any ⟨(n : Nat), (dd : Nat), rs⟩ _ _ HR.out).mono ?_; rintro e w2 ⟨rfl, hb2⟩; rw [HV.out]; have hT2 := HTb.out.below hb2 lT; have c0 := hT2.c0; have c1 := hT2.c1; have c2 := hT2.c2) | (go_at_call 50; refine (HQ.out _).mono ?_; rintro e w3 ⟨rfl, hb3⟩; have hb23 := hb2.trans (hb3.mono hb2.size); have hT3 := HTb.out.below hb23 lT; have e0 := hT3.c0; have e1 := hT3.c1; have e2 := hT3.c2) | (go_at_call 46; refine (HTh.out _).mono ?_; rintro e w4 ⟨rfl, hb4⟩; have hb24 := hb23.trans (hb4.mono hb23.size); have hT4 := HTb.out.below hb24 lT; have g0 := hT4.c0; have g1 := hT4.c1; have g2 := hT4.c2))
              go_ret
              exact ⟨rfl, HB0.out.trans (hb24.mono HB0.out.size)⟩
          · have hne : ((l.length : Int) == 0) = false := by rw [beq_eq_false_iff_ne]; omega
            have hlne : l ≠ [] := fun h => hl0 (by rw [h]; rfl)
            have HNone : Hid (stepsL rs S l = none → checkB ⟨(n : Nat), (dd : Nat), rs⟩ (S : Nat) (K : Nat) l = false) := fun h => by rw [HC2.out, der_none hlne h]
            have HSome : Hid (∀ T, stepsL rs S l = some T → checkB ⟨(n : Nat), (dd : Nat), rs⟩ (S : Nat) (K : Nat) l = ((rs.getD (l.getD (l.length - 1) 0).toNat default).gives == (K : Int))) := fun T h => by rw [HC2.out, der_some hlne (by omega) h]; rfl
            have HRL := Lib.hid (fun (W : World) hb => HR.out.later (w' := W) hb (Nat.le_refl _))
            have HLL := Lib.hid (fun (W : World) hb => HLs.out.later (w' := W) hb (Nat.le_refl _))
            have HIn0 : Hid (∀ q, q < 0 → inB (l.getD q 0) 0 ((rs.length : Int) - 1) = true) := fun q hq => by omega
            have HG40 := HG.out.1
            clear HC2 hlne h40
            generalize hm : rs.length = m at *
            have Hm := Lib.hid hm
            clear hm
            generalize hln : l.length = ln at *
            have Hln := Lib.hid hln
            clear hln
            go_enter Tryd.func27, Tryd.ntmps27
            go_wp2_with (first | (go_at_call 15; refine (refValid_any ⟨(n : Nat), (dd : Nat), rs⟩ _ _ HR.out).mono ?_; rintro e w2 ⟨rfl, hb2⟩; rw [HV.out]; have hT2 := HTb.out.below hb2 lT; have c0 := hT2.c0; have c1 := hT2.c1; have c2 := hT2.c2) | (go_at_call 50; refine (HQ.out _).mono ?_; rintro e w3 ⟨rfl, hb3⟩; have hb23 := hb2.trans (hb3.mono hb2.size); have hT3 := HTb.out.below hb23 lT; have e0 := hT3.c0; have e1 := hT3.c1; have e2 := hT3.c2) | (go_at_call 46; refine (HTh.out _).mono ?_; rintro e w4 ⟨rfl, hb4⟩; have hb24 := hb23.trans (hb4.mono hb23.size); have hT4 := HTb.out.below hb24 lT; have g0 := hT4.c0; have g1 := hT4.c1; have g2 := hT4.c2))
            have HB4 : Hid (Below w.heap.size w w4) := HB0.out.trans (hb24.mono HB0.out.size)
            have HR4 : Hid (∀ W : World, Below w4.heap.size w4 W → RulesAt W.heap.size W (.slice ra m rc) rs) := fun W hb => (HRL.out _ hb24).later hb (Nat.le_refl _)
            have HL4 : Hid (∀ W : World, Below w4.heap.size w4 W → IntsAt W.heap.size W (.slice la ln lc) l) := fun W hb => (HLL.out _ hb24).later hb (Nat.le_refl _)
            have HT4 : Hid (∀ W : World, Below w4.heap.size w4 W → ThBox W w.heap.size n dd (.slice ra m rc)) := fun W hb => hT4.below hb hT4.lt
            clear hb2 hb3 hb23 hb4 hb24 hT2 hT3 hT4 c0 c1 c2 e0 e1 e2 g0 g1 g2 HR HLs HTb HRL HLL lT
            go_loopw [9, 10] (fun tv iv wr => ∃ j S' : Nat, j ≤ ln ∧ iv = .int .i64 j ∧ tv = .int .i64 S' ∧ S' < 4294967296 ∧ Hid (stepsL rs S l = stepsL rs S' (l.drop j)) ∧ Hid (∀ q, q < j → inB (l.getD q 0) 0 ((m : Int) - 1) = true) ∧ Below w4.heap.size w4 wr) (fun _ iv _ => ln - (intOf iv).toNat)
            case atStart => exact ⟨0, S, Nat.zero_le _, rfl, rfl, hS, rfl, HIn0.out, Below.refl _ _⟩
            case round =>
              obtain ⟨j, X, hj, rfl, rfl, hX, HSt, HIns, hB⟩ := hrel
              have kT := HT4.out _ hB
              have k0 := kT.c0
              have k1 := kT.c1
              have k2 := kT.c2
              have HRr := Lib.hid (HR4.out _ hB)
              have HLr := Lib.hid (HL4.out _ hB)
              have hszr := hB.size
              by_cases hlt : j < ln
              · have jj : (j : Int) < (ln : Int) := by omega
                obtain ⟨lb, lo, hae, hlb, hcl⟩ := HLr.out.at j (by rw [Hln.out]; exact hlt)
                subst hae
                have hdrop := drop_getD l 0 j (by rw [Hln.out]; exact hlt)
                rw [hdrop, steps_at, Hm.out] at HSt
                have HIns2 : Hid (inB (l.getD j 0) 0 ((m : Int) - 1) = true → ∀ q, q < j + 1 → inB (l.getD q 0) 0 ((m : Int) - 1) = true) := fun h q hq => by
                  by_cases e : q = j
                  · subst e; exact h
                  · exact HIns.out q (by omega)
                clear hdrop HIns
                generalize l.getD j 0 = zz at *
                have hm40 : m ≤ 40 := HG40
                have w0 : IntKind.i64.wrap ((m : Int) - 1) = (m : Int) - 1 := IntWalk.i64_in _ (by omega)
                cases hin : inB zz 0 ((m : Int) - 1)
                · rw [hin, Bool.false_and, if_neg (by simp)] at HSt
                  have HIn := Lib.hid hin
                  clear hin
                  go_wp2
                  refine wp_region_calm ⟨[8], fun k v _ => ChkF false false k v, fun _ => [], 99, none, 1000⟩ (by kernel_rfl) (by kernel_rfl) (by kernel_rfl) (fun g h => by cases h) (fun k hk v W W' c h hg hc => h) ?_
                  iterate 8 (refine calm_quiet (v := ?_) (by rfl) (by rfl) (fun W hW hD => ?_) ?_; rotate_left; (· (have q2 := grown_cell0 hW k2; have q4 := grown_cell0 hW hcl; clear hD hW; go_simp; try with_reducible rfl)); simp only [Act.put, List.setIfInBounds_toArray, List.set_cons_zero, List.set_cons_succ, Nat.reduceAdd, Nat.zero_add])
                  refine calm_makes (by rfl) (by rfl) (fun W hW hD K' hK' => ?_) (fun v58 => ?_)
                  · refine wp_of_call ?_ ((refIn_any zz 0 ((m : Int) - 1) W).mono ?_)
                    · clear hD hW hK'
                      go_simp
                      try rfl
                    · rintro e w' ⟨he, hw⟩
                      subst hw
                      exact ⟨_, he, hK' _ _ (made_plain (show ChkF false false 8 (.bool (inB zz 0 ((m : Int) - 1))) from by rw [HIn.out]; rfl) (Below.refl _ _) rfl)⟩
                  simp only [Act.put, List.setIfInBounds_toArray, List.set_cons_zero, List.set_cons_succ, Nat.reduceAdd, Nat.zero_add]
                  refine calm_quiet (v := .bool true) (by rfl) (by rfl) (fun W hW hD => ?_) ?_
                  · obtain rfl : v58 = .bool false := hD [] 8 (by kernel_rfl) (by kernel_rfl) (by kernel_rfl)
                    clear hD hW
                    go_simp
                  simp only [Act.put, List.setIfInBounds_toArray, List.set_cons_zero, List.set_cons_succ, Nat.reduceAdd, Nat.zero_add]
                  iterate 1 (refine calm_quiet (v := ?_) (by rfl) (by rfl) (fun W hW hD => ?_) ?_; rotate_left; (· (clear hD hW; go_simp; try with_reducible rfl)); simp only [Act.put, List.setIfInBounds_toArray, List.set_cons_zero, List.set_cons_succ, Nat.reduceAdd, Nat.zero_add])
                  iterate 11 (refine calm_skip (by rfl) (by rfl) ?_; simp only [Act.put, List.setIfInBounds_toArray, List.set_cons_zero, List.set_cons_succ, Nat.reduceAdd, Nat.zero_add])
                  iterate 1 (refine calm_quiet (v := ?_) (by rfl) (by rfl) (fun W hW hD => ?_) ?_; rotate_left; (· (clear hD hW; go_simp; try with_reducible rfl)); simp only [Act.put, List.setIfInBounds_toArray, List.set_cons_zero, List.set_cons_succ, Nat.reduceAdd, Nat.zero_add])
                  refine calm_nil fun W hW hF => ?_
                  have HB6 := Lib.hid (grown_below hW)
                  clear hF hW w0
                  go_wp2
                  go_ret
                  exact ⟨by rw [HNone.out HSt.out]; rfl, HB4.out.trans ((hB.trans (HB6.out.mono hszr)).mono HB4.out.size)⟩
                · have hin2 := hin
                  simp only [inB, Bool.and_eq_true, decide_eq_true_eq] at hin2
                  obtain ⟨x, rfl⟩ := Int.eq_ofNat_of_zero_le hin2.1
                  have hxm : x < m := by omega
                  have xx : (x : Int) < (m : Int) := by omega
                  rw [hin, Bool.true_and, Int.toNat_natCast] at HSt
                  have HIn := Lib.hid hin
                  have HInj := Lib.hid (HIns2.out hin)
                  clear hin HIns2 hin2
                  obtain ⟨rb, ro, nv, hre, hrb, d1, d2, d3⟩ := HRr.out.at x (by rw [Hm.out]; exact hxm)
                  subst hre
                  have HMem : Hid (rs.getD x default ∈ rs) := getD_mem _ _ _ (by rw [Hm.out]; exact hxm)
                  have hgood := HG.out.2 _ HMem.out
                  generalize rs.getD x default = rr at *
                  obtain ⟨g, hg⟩ := Int.eq_ofNat_of_zero_le hgood.2.1
                  have hg32 : g < 32 := by omega
                  have HNd := Lib.hid hgood.1
                  rw [hg] at d2 HSt
                  obtain ⟨na, nc, hnv, _, _⟩ := d3.shape
                  subst hnv
                  have HN := Lib.hid d3
                  have HbX : Hid (addB X (g : Int) = if X.testBit g then X else X + 2 ^ g) := by
                    show _ = _
                    cases hb : X.testBit g
                    · rw [if_neg (by simp), add_bit hb]; simp [addB]
                    · rw [if_pos rfl]
                      apply Nat.eq_of_testBit_eq
                      intro i
                      unfold addB
                      rw [Nat.testBit_or, Nat.testBit_two_pow, Int.toNat_natCast]
                      by_cases e : g = i
                      · subst e; rw [hb]; rfl
                      · simp [e]
                  have hadd := or_addB X (g : Int) hX (by omega) (by omega)
                  clear hgood hg d3
                  cases hme : meetsB rr.needs X
                  · rw [hme, if_neg (by simp)] at HSt
                    have HMe := Lib.hid hme
                    clear hme
                    go_wp2
                    refine wp_region_calm ⟨[8, 20], fun k v _ => ChkF true false k v, fun _ => [], 99, none, 1000⟩ (by kernel_rfl) (by kernel_rfl) (by kernel_rfl) (fun g h => by cases h) (fun k hk v W W' c h hg hc => h) ?_
                    iterate 8 (refine calm_quiet (v := ?_) (by rfl) (by rfl) (fun W hW hD => ?_) ?_; rotate_left; (· (have q2 := grown_cell0 hW k2; have q4 := grown_cell0 hW hcl; clear hD hW; go_simp; try with_reducible rfl)); simp only [Act.put, List.setIfInBounds_toArray, List.set_cons_zero, List.set_cons_succ, Nat.reduceAdd, Nat.zero_add])
                    refine calm_makes (by rfl) (by rfl) (fun W hW hD K' hK' => ?_) (fun v58 => ?_)
                    · refine wp_of_call ?_ ((refIn_any (x : Int) 0 ((m : Int) - 1) W).mono ?_)
                      · clear hD hW hK'
                        go_simp
                        try rfl
                      · rintro e w' ⟨he, hw⟩
                        subst hw
                        exact ⟨_, he, hK' _ _ (made_plain (show ChkF true false 8 (.bool (inB (x : Int) 0 ((m : Int) - 1))) from by rw [HIn.out]; rfl) (Below.refl _ _) rfl)⟩
                    simp only [Act.put, List.setIfInBounds_toArray, List.set_cons_zero, List.set_cons_succ, Nat.reduceAdd, Nat.zero_add]
                    refine calm_quiet (v := .bool false) (by rfl) (by rfl) (fun W hW hD => ?_) ?_
                    · obtain rfl : v58 = .bool true := hD [] 8 (by kernel_rfl) (by kernel_rfl) (by kernel_rfl)
                      clear hD hW
                      go_simp
                    simp only [Act.put, List.setIfInBounds_toArray, List.set_cons_zero, List.set_cons_succ, Nat.reduceAdd, Nat.zero_add]
                    iterate 1 (refine calm_quiet (v := ?_) (by rfl) (by rfl) (fun W hW hD => ?_) ?_; rotate_left; (· (clear hD hW; go_simp; try with_reducible rfl)); simp only [Act.put, List.setIfInBounds_toArray, List.set_cons_zero, List.set_cons_succ, Nat.reduceAdd, Nat.zero_add])
                    iterate 9 (refine calm_quiet (v := ?_) (by rfl) (by rfl) (fun W hW hD => ?_) ?_; rotate_left; (· (have q2 := grown_cell0 hW k2; have q4 := grown_cell0 hW hcl; have q5 := grown_cell0 hW d1; have q6 := grown_cell0 hW d2; clear hD hW; go_simp; try with_reducible rfl)); simp only [Act.put, List.setIfInBounds_toArray, List.set_cons_zero, List.set_cons_succ, Nat.reduceAdd, Nat.zero_add])
                    refine calm_makes (by rfl) (by rfl) (fun W hW hD K' hK' => ?_) (fun v70 => ?_)
                    · refine wp_of_call ?_ ((fires_any _ (g : Int) _ X W (HN.out.later (grown_below hW) (Nat.le_refl _)) HNd.out hX).mono ?_)
                      · clear hD hW hK'
                        unfold ruleV
                        go_simp
                        try rfl
                      · rintro e w' ⟨he, hb⟩
                        exact ⟨_, he, hK' _ _ (made_plain (show ChkF true false 20 (.bool (meetsB rr.needs X)) from by rw [HMe.out]; rfl) hb rfl)⟩
                    simp only [Act.put, List.setIfInBounds_toArray, List.set_cons_zero, List.set_cons_succ, Nat.reduceAdd, Nat.zero_add]
                    refine calm_quiet (v := .bool (!false)) (by rfl) (by rfl) (fun W hW hD => ?_) ?_
                    · obtain rfl : v70 = .bool false := hD [] 20 (by kernel_rfl) (by kernel_rfl) (by kernel_rfl)
                      clear hD hW
                      go_simp
                    simp only [Act.put, List.setIfInBounds_toArray, List.set_cons_zero, List.set_cons_succ, Nat.reduceAdd, Nat.zero_add]
                    iterate 1 (refine calm_quiet (v := ?_) (by rfl) (by rfl) (fun W hW hD => ?_) ?_; rotate_left; (· (clear hD hW; go_simp; try with_reducible rfl)); simp only [Act.put, List.setIfInBounds_toArray, List.set_cons_zero, List.set_cons_succ, Nat.reduceAdd, Nat.zero_add])
                    refine calm_nil fun W hW hF => ?_
                    have HB6 := Lib.hid (grown_below hW)
                    clear hF hW w0
                    go_wp2
                    go_ret
                    exact ⟨by rw [HNone.out HSt.out]; rfl, HB4.out.trans ((hB.trans (HB6.out.mono hszr)).mono HB4.out.size)⟩
                  · rw [hme, if_pos rfl] at HSt
                    have HMe := Lib.hid hme
                    clear hme
                    go_wp2
                    refine wp_region_calm ⟨[8, 20], fun k v _ => ChkF true true k v, fun _ => [], 99, none, 1000⟩ (by kernel_rfl) (by kernel_rfl) (by kernel_rfl) (fun g h => by cases h) (fun k hk v W W' c h hg hc => h) ?_
                    iterate 8 (refine calm_quiet (v := ?_) (by rfl) (by rfl) (fun W hW hD => ?_) ?_; rotate_left; (· (have q2 := grown_cell0 hW k2; have q4 := grown_cell0 hW hcl; clear hD hW; go_simp; try with_reducible rfl)); simp only [Act.put, List.setIfInBounds_toArray, List.set_cons_zero, List.set_cons_succ, Nat.reduceAdd, Nat.zero_add])
                    refine calm_makes (by rfl) (by rfl) (fun W hW hD K' hK' => ?_) (fun v58 => ?_)
                    · refine wp_of_call ?_ ((refIn_any (x : Int) 0 ((m : Int) - 1) W).mono ?_)
                      · clear hD hW hK'
                        go_simp
                        try rfl
                      · rintro e w' ⟨he, hw⟩
                        subst hw
                        exact ⟨_, he, hK' _ _ (made_plain (show ChkF true true 8 (.bool (inB (x : Int) 0 ((m : Int) - 1))) from by rw [HIn.out]; rfl) (Below.refl _ _) rfl)⟩
                    simp only [Act.put, List.setIfInBounds_toArray, List.set_cons_zero, List.set_cons_succ, Nat.reduceAdd, Nat.zero_add]
                    refine calm_quiet (v := .bool false) (by rfl) (by rfl) (fun W hW hD => ?_) ?_
                    · obtain rfl : v58 = .bool true := hD [] 8 (by kernel_rfl) (by kernel_rfl) (by kernel_rfl)
                      clear hD hW
                      go_simp
                    simp only [Act.put, List.setIfInBounds_toArray, List.set_cons_zero, List.set_cons_succ, Nat.reduceAdd, Nat.zero_add]
                    iterate 1 (refine calm_quiet (v := ?_) (by rfl) (by rfl) (fun W hW hD => ?_) ?_; rotate_left; (· (clear hD hW; go_simp; try with_reducible rfl)); simp only [Act.put, List.setIfInBounds_toArray, List.set_cons_zero, List.set_cons_succ, Nat.reduceAdd, Nat.zero_add])
                    iterate 9 (refine calm_quiet (v := ?_) (by rfl) (by rfl) (fun W hW hD => ?_) ?_; rotate_left; (· (have q2 := grown_cell0 hW k2; have q4 := grown_cell0 hW hcl; have q5 := grown_cell0 hW d1; have q6 := grown_cell0 hW d2; clear hD hW; go_simp; try with_reducible rfl)); simp only [Act.put, List.setIfInBounds_toArray, List.set_cons_zero, List.set_cons_succ, Nat.reduceAdd, Nat.zero_add])
                    refine calm_makes (by rfl) (by rfl) (fun W hW hD K' hK' => ?_) (fun v70 => ?_)
                    · refine wp_of_call ?_ ((fires_any _ (g : Int) _ X W (HN.out.later (grown_below hW) (Nat.le_refl _)) HNd.out hX).mono ?_)
                      · clear hD hW hK'
                        unfold ruleV
                        go_simp
                        try rfl
                      · rintro e w' ⟨he, hb⟩
                        exact ⟨_, he, hK' _ _ (made_plain (show ChkF true true 20 (.bool (meetsB rr.needs X)) from by rw [HMe.out]; rfl) hb rfl)⟩
                    simp only [Act.put, List.setIfInBounds_toArray, List.set_cons_zero, List.set_cons_succ, Nat.reduceAdd, Nat.zero_add]
                    refine calm_quiet (v := .bool (!true)) (by rfl) (by rfl) (fun W hW hD => ?_) ?_
                    · obtain rfl : v70 = .bool true := hD [] 20 (by kernel_rfl) (by kernel_rfl) (by kernel_rfl)
                      clear hD hW
                      go_simp
                    simp only [Act.put, List.setIfInBounds_toArray, List.set_cons_zero, List.set_cons_succ, Nat.reduceAdd, Nat.zero_add]
                    iterate 1 (refine calm_quiet (v := ?_) (by rfl) (by rfl) (fun W hW hD => ?_) ?_; rotate_left; (· (clear hD hW; go_simp; try with_reducible rfl)); simp only [Act.put, List.setIfInBounds_toArray, List.set_cons_zero, List.set_cons_succ, Nat.reduceAdd, Nat.zero_add])
                    refine calm_nil fun W hW hF => ?_
                    have HB6 := Lib.hid (grown_below hW)
                    have hB6 : Below w4.heap.size w4 W := hB.trans ((grown_below hW).mono hszr)
                    have y2 := grown_cell0 hW k2
                    have yl := grown_cell0 hW hcl
                    have yd := grown_cell0 hW d2
                    have HB7 := Lib.hid hB6
                    clear hF hW w0 hB6 k0 k1 k2 hcl d1 d2
                    go_wp2
                    cases hbt : X.testBit g
                    · rw [hbt, if_neg (by simp)] at HbX
                      rw [HbX.out] at HSt hadd
                      have HBt := Lib.hid hbt
                      have HShK := Lib.hid (shl_oneK g hg32)
                      clear hbt
                      generalize (2 : Nat) ^ g = PG at *
                      have HWa : Hid (IntKind.i64.wrap ((X : Int) + (PG : Int)) = ((X + PG : Nat) : Int)) := by show _ = _; rw [IntWalk.i64_in _ (by omega)]; omega
                      refine wp_region_calm ⟨[10], fun k v _ => ChkF true false k v, fun _ => [], 99, none, 1000⟩ (by kernel_rfl) (by kernel_rfl) (by kernel_rfl) (fun g h => by cases h) (fun k hk v W W' c h hg hc => h) ?_
                      iterate 10 (refine calm_quiet (v := ?_) (by rfl) (by rfl) (fun W hW hD => ?_) ?_; rotate_left; (· (have q2 := grown_cell0 hW y2; have q4 := grown_cell0 hW yl; have q5 := grown_cell0 hW yd; clear hD hW; go_simp; try with_reducible rfl)); simp only [Act.put, List.setIfInBounds_toArray, List.set_cons_zero, List.set_cons_succ, Nat.reduceAdd, Nat.zero_add])
                      refine calm_makes (by rfl) (by rfl) (fun W hW hD K' hK' => ?_) (fun v83 => ?_)
                      · refine wp_of_call ?_ ((hasR_any X g W (by omega) (by omega)).mono ?_)
                        · clear hD hW hK'
                          go_simp
                          try rfl
                        · rintro e w' ⟨he, hw⟩
                          subst hw
                          exact ⟨_, he, hK' _ _ (made_plain (show ChkF true false 10 (.bool (X.testBit g)) from by rw [HBt.out]; rfl) (Below.refl _ _) rfl)⟩
                      simp only [Act.put, List.setIfInBounds_toArray, List.set_cons_zero, List.set_cons_succ, Nat.reduceAdd, Nat.zero_add]
                      refine calm_quiet (v := .bool true) (by rfl) (by rfl) (fun W hW hD => ?_) ?_
                      · obtain rfl : v83 = .bool false := hD [] 10 (by kernel_rfl) (by kernel_rfl) (by kernel_rfl)
                        clear hD hW
                        go_simp
                      simp only [Act.put, List.setIfInBounds_toArray, List.set_cons_zero, List.set_cons_succ, Nat.reduceAdd, Nat.zero_add]
                      refine calm_nil fun W8 hW hF => ?_
                      have z2 := grown_cell0 hW y2
                      have zl := grown_cell0 hW yl
                      have zd := grown_cell0 hW yd
                      have HB8 := Lib.hid (HB7.out.trans ((grown_below hW).mono HB7.out.size))
                      clear hF hW y2 yl yd
                      go_wp2
                      have hsh := HShK.out
                      have w1 := HWa.out
                      refine wp_region_calm ⟨[], fun _ _ _ => True, fun _ => [], 99, none, 1000⟩ (by kernel_rfl) (by kernel_rfl) (by kernel_rfl) (fun g h => by cases h) (fun k hk v W W' c h hg hc => h) ?_
                      iterate 13 (refine calm_quiet (v := ?_) (by rfl) (by rfl) (fun W hW hD => ?_) ?_; rotate_left; (· (have q2 := grown_cell0 hW z2; have q4 := grown_cell0 hW zl; have q5 := grown_cell0 hW zd; clear hD hW; go_simp; try with_reducible rfl)); simp only [Act.put, List.setIfInBounds_toArray, List.set_cons_zero, List.set_cons_succ, Nat.reduceAdd, Nat.zero_add])
                      refine calm_nil fun W9 hW hF => ?_
                      have HB9 := Lib.hid (HB8.out.trans ((grown_below hW).mono HB8.out.size))
                      clear hF hW z2 zl zd hsh w1
                      go_wp2
                      go_roundw
                      case rel => exact ⟨j + 1, X + PG, by omega, by go_num, rfl, hadd, HSt.out, HInj.out, HB9.out⟩
                      case measure => simp [intOf]; omega
                    · rw [hbt, if_pos rfl] at HbX
                      rw [HbX.out] at HSt
                      have HBt := Lib.hid hbt
                      clear hbt
                      refine wp_region_calm ⟨[10], fun k v _ => ChkF true true k v, fun _ => [], 99, none, 1000⟩ (by kernel_rfl) (by kernel_rfl) (by kernel_rfl) (fun g h => by cases h) (fun k hk v W W' c h hg hc => h) ?_
                      iterate 10 (refine calm_quiet (v := ?_) (by rfl) (by rfl) (fun W hW hD => ?_) ?_; rotate_left; (· (have q2 := grown_cell0 hW y2; have q4 := grown_cell0 hW yl; have q5 := grown_cell0 hW yd; clear hD hW; go_simp; try with_reducible rfl)); simp only [Act.put, List.setIfInBounds_toArray, List.set_cons_zero, List.set_cons_succ, Nat.reduceAdd, Nat.zero_add])
                      refine calm_makes (by rfl) (by rfl) (fun W hW hD K' hK' => ?_) (fun v83 => ?_)
                      · refine wp_of_call ?_ ((hasR_any X g W (by omega) (by omega)).mono ?_)
                        · clear hD hW hK'
                          go_simp
                          try rfl
                        · rintro e w' ⟨he, hw⟩
                          subst hw
                          exact ⟨_, he, hK' _ _ (made_plain (show ChkF true true 10 (.bool (X.testBit g)) from by rw [HBt.out]; rfl) (Below.refl _ _) rfl)⟩
                      simp only [Act.put, List.setIfInBounds_toArray, List.set_cons_zero, List.set_cons_succ, Nat.reduceAdd, Nat.zero_add]
                      refine calm_quiet (v := .bool false) (by rfl) (by rfl) (fun W hW hD => ?_) ?_
                      · obtain rfl : v83 = .bool true := hD [] 10 (by kernel_rfl) (by kernel_rfl) (by kernel_rfl)
                        clear hD hW
                        go_simp
                      simp only [Act.put, List.setIfInBounds_toArray, List.set_cons_zero, List.set_cons_succ, Nat.reduceAdd, Nat.zero_add]
                      refine calm_nil fun W8 hW hF => ?_
                      have HB8 := Lib.hid (HB7.out.trans ((grown_below hW).mono HB7.out.size))
                      clear hF hW y2 yl yd
                      go_wp2
                      go_roundw
                      case rel => exact ⟨j + 1, X, by omega, by go_num, rfl, hX, HSt.out, HInj.out, HB8.out⟩
                      case measure => simp [intOf]; omega
              · obtain rfl : j = ln := by omega
                have HSt2 : Hid (stepsL rs S l = some X) := by show _ = _; rw [HSt.out, List.drop_eq_nil_of_le (by rw [Hln.out]; exact Nat.le_refl _)]; rfl
                have HFin := Lib.hid (HSome.out X HSt2.out)
                clear HSt HSome HNone
                have h0 : 0 < j := by omega
                have hin := HIns.out (j - 1) (by omega)
                obtain ⟨lb, lo, hae, hlb, hcl⟩ := HLr.out.at (j - 1) (by rw [Hln.out]; omega)
                subst hae
                have w1 : IntKind.i64.wrap ((j : Int) - 1) = ((j - 1 : Nat) : Int) := by rw [IntWalk.i64_in _ (by omega)]; omega
                have jj : ((j - 1 : Nat) : Int) < (j : Int) := by omega
                generalize l.getD (j - 1) 0 = zz at *
                generalize j - 1 = jq at *
                simp only [inB, Bool.and_eq_true, decide_eq_true_eq] at hin
                obtain ⟨x, rfl⟩ := Int.eq_ofNat_of_zero_le hin.1
                have hxm : x < m := by omega
                have xx : (x : Int) < (m : Int) := by omega
                rw [Int.toNat_natCast] at HFin
                obtain ⟨rb, ro, nv, hre, hrb, d1, d2, d3⟩ := HRr.out.at x (by rw [Hm.out]; exact hxm)
                subst hre
                clear hin d3 HIns
                generalize (rs.getD x default).gives = gz at *
                go_wp2
                refine wp_region_calm ⟨[], fun _ _ _ => True, fun _ => [], 99, none, 1000⟩ (by kernel_rfl) (by kernel_rfl) (by kernel_rfl) (fun g h => by cases h) (fun k hk v W W' c h hg hc => h) ?_
                iterate 14 (refine calm_quiet (v := ?_) (by rfl) (by rfl) (fun W hW hD => ?_) ?_; rotate_left; (· (have q2 := grown_cell0 hW k2; have q4 := grown_cell0 hW hcl; have q5 := grown_cell0 hW d2; clear hD hW; go_simp; try with_reducible rfl)); simp only [Act.put, List.setIfInBounds_toArray, List.set_cons_zero, List.set_cons_succ, Nat.reduceAdd, Nat.zero_add])
                refine calm_nil fun W9 hW hF => ?_
                have HB9 := Lib.hid (hB.trans ((grown_below hW).mono hszr))
                clear hF hW
                go_wp2
                go_ret
                exact ⟨by rw [HFin.out]; rfl, HB4.out.trans (HB9.out.mono HB4.out.size)⟩
end Go.Proofs.YtmihkbiihfhpoaaDoor
