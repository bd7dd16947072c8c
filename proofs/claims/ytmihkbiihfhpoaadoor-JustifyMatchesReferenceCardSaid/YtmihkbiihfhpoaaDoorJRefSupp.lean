/- The reference's Supports. -/
import Derived.Test.YtmihkbiihfhpoaaDoorJRefRet
import Derived.Test.YtmihkbiihfhpoaaDoorJRefMinP
import Derived.Test.YtmihkbiihfhpoaaDoorJSupp

namespace Go.Proofs.YtmihkbiihfhpoaaDoor
open Go.RowKit Go.Shelf

def refTo (p : Nat → Bool) (s i : Nat) : Bool := p s && (List.range i).all fun i => !s.testBit i || !p (sdiff s (2 ^ i))
theorem refTo_zero (p : Nat → Bool) (s : Nat) : refTo p s 0 = p s := by unfold refTo; simp
theorem refTo_succ (p : Nat → Bool) (s i : Nat) : refTo p s (i + 1) = (refTo p s i && (!s.testBit i || !p (sdiff s (2 ^ i)))) := by
  unfold refTo
  rw [List.range_succ, List.all_append, Bool.and_assoc]
  simp
theorem refTo_end {p : Nat → Bool} {s i : Nat} : ∀ (d : Nat), refTo p s i = false → refTo p s (i + d) = false
  | 0, h => h
  | d + 1, h => by rw [← Nat.add_assoc, refTo_succ, refTo_end d h]; rfl
theorem refTo_min {n s : Nat} {p : Nat → Bool} (hn : 2 ^ n ≤ 4294967296) (hs : s < 2 ^ n) : minB p s = refTo p s n := (refMin_eq hn hs).symm
theorem shl_oneK (n : Nat) (hn : n < 32) : IntKind.i64.wrap ((2 : Int) ^ n) = ((2 ^ n : Nat) : Int) := by
  rw [← shl_one n hn, IntKind.wrap_i64, wrap64]
/-- What the calls of the inner test leave. -/
def RefSF (K kh : Nat) (b : Bool) (k : Nat) (v : Value) : Prop := if k = kh then ∃ H : Nat, v = .int .i64 H ∧ H < 4294967296 ∧ Hid (H.testBit K = b) else v = .bool b
theorem bit_le {A i : Nat} (h : A.testBit i = true) : 2 ^ i ≤ A := by
  rcases Nat.lt_or_ge A (2 ^ i) with h1 | h1
  · rw [Nat.testBit_lt_two_pow h1] at h
    cases h
  · exact h1
set_option maxRecDepth 100000 in
set_option maxHeartbeats 4000000 in
theorem refSupports_any (t : JTh) (rv : Value) (k : Int) (w : World) (hR : RulesAt w.heap.size w rv t.rules) :
    Calls Tryd.prog 29 #[thV t.seen t.drawn rv, .int .i64 k] w fun e w' => ∃ v, e = .returned (.tuple #[v, .int .i64 (errOf (suppB t k))]) ∧ OwnI w.heap.size w' v (suppL t k) ∧ Below w.heap.size w w' := by
  obtain ⟨s, d, rs⟩ := t
  dsimp only at hR ⊢
  obtain ⟨ra, rc, rfl, hrc, hrm⟩ := hR.shape
  unfold maxLen at hrm
  have hb0 : Below w.heap.size w (w.alloc (.cells #[.int .i64 s, .int .i64 d, .slice ra rs.length rc] 25)) := (Below.refl _ _).alloc (Nat.le_refl _) _
  have HR := Lib.hid (box_rules (t := ⟨s, d, rs⟩) hR)
  have HTb := Lib.hid (ThBox.new w s d (.slice ra rs.length rc))
  have HB0 := Lib.hid hb0
  have HL : Hid (suppL ⟨s, d, rs⟩ k = if suppB ⟨s, d, rs⟩ k then leastI s.toNat (suppP rs k) else []) := rfl
  have HE : Hid (suppB ⟨s, d, rs⟩ k = (validB ⟨s, d, rs⟩ && inB k 0 (s + d - 1))) := rfl
  clear hR hb0
  have lT : w.heap.size < (w.alloc (.cells #[.int .i64 s, .int .i64 d, .slice ra rs.length rc] 25)).heap.size := by simp
  cases hv : validB ⟨s, d, rs⟩
  · rw [hv, Bool.false_and] at HE
    rw [HE.out] at HL ⊢
    generalize rs.length = m at *
    go_enter Tryd.func29, Tryd.ntmps29
    go_wp2_with (go_at_call 15; refine (refValid_any ⟨s, d, rs⟩ _ _ HR.out).mono ?_; rintro e w2 ⟨rfl, hb2⟩; rw [hv])
    go_ret2
    exact ⟨_, rfl, by rw [HL.out]; exact OwnI.nil _ _, HB0.out.trans (hb2.mono HB0.out.size)⟩
  · obtain ⟨hs, hd', hG, _⟩ := valid_good hv
    dsimp only at hs hd' hG
    rw [hv, Bool.true_and] at HE
    have HV := Lib.hid hv
    have HG := Lib.hid hG
    have HTh : Hid (∀ W, Calls Tryd.prog 46 #[thV s d (.slice ra rs.length rc), .int .i64 k] W fun e w' => e = .returned (.bool (inB k 0 (s + d - 1))) ∧ Below W.heap.size W w') := fun W => thingR_any s d k _ W hs hd' ⟨_, _, _, rfl⟩
    clear hv hG
    cases hk : inB k 0 (s + d - 1)
    · rw [hk] at HE HTh
      rw [HE.out] at HL ⊢
      clear hk
      generalize rs.length = m at *
      go_enter Tryd.func29, Tryd.ntmps29
      go_wp2_with (first | (go_at_call 15; refine (refValid_any ⟨s, d, rs⟩ _ _ HR.out).mono ?_; rintro e w2 ⟨rfl, hb2⟩; rw [HV.out]; have hT2 := HTb.out.below hb2 lT; have c0 := hT2.c0; have c1 := hT2.c1; have c2 := hT2.c2) | (go_at_call 46; refine (HTh.out _).mono ?_; rintro e w3 ⟨rfl, hb3⟩))
      go_ret2
      exact ⟨_, rfl, by rw [HL.out]; exact OwnI.nil _ _, HB0.out.trans ((hb2.trans (hb3.mono hb2.size)).mono HB0.out.size)⟩
    · rw [hk] at HE HTh
      rw [HE.out] at HL ⊢
      have hk2 := hk
      simp only [inB, Bool.and_eq_true, decide_eq_true_eq] at hk2
      obtain ⟨n, rfl⟩ := Int.eq_ofNat_of_zero_le hs.1
      obtain ⟨dd, rfl⟩ := Int.eq_ofNat_of_zero_le hd'.1
      obtain ⟨K, rfl⟩ := Int.eq_ofNat_of_zero_le hk2.1
      have hK : K < 32 := by omega
      have hn12 : n ≤ 12 := by omega
      have hd20 : dd ≤ 20 := by omega
      rw [Int.toNat_natCast, if_pos rfl] at HL
      clear hk hk2 hs hd' HE
      have HH : Hid (∀ S, rounds rs (dd + 1) S = hd rs S) := fun S => valid_hd HV.out S
      have HHe : Hid (∀ (X : Nat) (W : World), X < 4294967296 → RulesAt W.heap.size W (.slice ra rs.length rc) rs → Calls Tryd.prog 51 #[thV n dd (.slice ra rs.length rc), .int .i64 X] W fun e w' => ∃ H : Nat, e = .returned (.int .i64 H) ∧ H < 4294967296 ∧ Hid (H.testBit K = (hd rs X).testBit K) ∧ Below W.heap.size W w') := fun X W hX hW => (heldRef_any n dd rs _ X W hd20 hW HG.out hX).mono fun e w' ⟨h1, h2, h3⟩ => ⟨_, h1, h2, by rw [HH.out]; rfl, h3⟩
      have h4 := all_lt hn12
      have h0 : 0 < 2 ^ n := Nat.pow_pos (by omega)
      have HSm : Hid (∀ (p : Nat → Bool) (j : Nat), j < 2 ^ n → minB p j = refTo p j n) := fun p j hj => refTo_min (by omega) hj
      have HCall : Hid (∀ (X : Nat) (W : World), X < 4294967296 → RulesAt W.heap.size W (.slice ra rs.length rc) rs → Calls Tryd.prog 51 #[thV n dd (.slice ra rs.length rc), .int .i64 X] W fun e w' => ∃ H : Nat, e = .returned (.int .i64 H) ∧ H < 4294967296 ∧ Hid (H.testBit K = suppP rs K X) ∧ Below W.heap.size W w') := fun X W hX hW => (HHe.out X W hX hW).mono fun e w' ⟨H, h1, h2, h3, h4⟩ => ⟨H, h1, h2, by show _ = _; rw [h3.out]; simp [suppP, bitB], h4⟩
      have HLt : Hid (suppL ⟨(n : Nat), (dd : Nat), rs⟩ (K : Nat) = leastTo (suppP rs K) (2 ^ n)) := HL.out
      clear HL HHe HH
      generalize suppP rs K = p at *
      have hsh := shl_one n (by omega)
      generalize hN : 2 ^ n = N at *
      clear hN
      have HRL := Lib.hid (fun (W : World) hb => HR.out.later (w' := W) hb (Nat.le_refl _))
      generalize rs.length = m at *
      go_enter Tryd.func29, Tryd.ntmps29
      go_wp2_with (first | (go_at_call 15; refine (refValid_any ⟨(n : Nat), (dd : Nat), rs⟩ _ _ HR.out).mono ?_; rintro e w2 ⟨rfl, hb2⟩; rw [HV.out]; have hT2 := HTb.out.below hb2 lT; have c0 := hT2.c0; have c1 := hT2.c1; have c2 := hT2.c2) | (go_at_call 46; refine (HTh.out _).mono ?_; rintro e w3 ⟨rfl, hb3⟩; have hb23 := hb2.trans (hb3.mono hb2.size); have hT3 := HTb.out.below hb23 lT; have e0 := hT3.c0; have e1 := hT3.c1; have e2 := hT3.c2))
      have HB3 : Hid (Below w.heap.size w w3) := HB0.out.trans (hb23.mono HB0.out.size)
      have HR3L : Hid (∀ W : World, Below w3.heap.size w3 W → RulesAt W.heap.size W (.slice ra m rc) rs) := fun W hb => (HRL.out _ hb23).later hb (Nat.le_refl _)
      have HT3L : Hid (∀ W : World, Below w3.heap.size w3 W → ThBox W w.heap.size n dd (.slice ra m rc)) := fun W hb => hT3.below hb hT3.lt
      have hsz3 := HB3.out.size
      clear hb2 hb3 hb23 hT2 hT3 c0 c1 c2 e0 e1 e2 HR HTb HRL lT 
      go_loopw [6, 7] (fun ov sv wr => ∃ j : Nat, j ≤ N ∧ sv = .int .i64 j ∧ OwnI w3.heap.size wr ov (leastTo p j) ∧ Below w3.heap.size w3 wr) (fun _ sv _ => N - (intOf sv).toNat)
      case atStart => exact ⟨0, Nat.zero_le _, rfl, OwnI.nil _ _, Below.refl _ _⟩
      case round =>
        obtain ⟨j, hj, rfl, hO, hB⟩ := hrel
        have HO := Lib.hid hO
        clear hO
        have hszr := hB.size
        have kT := HT3L.out _ hB
        have k0 := kT.c0
        have k1 := kT.c1
        have k2 := kT.c2
        by_cases hlt : j < N
        · have HS := Lib.hid (leastTo_succ p j)
          have HMin := Lib.hid (HSm.out p j hlt)
          have HRr := Lib.hid (HR3L.out _ hB)
          have jj : (j : Int) < (N : Int) := by omega
          have HC1 := Lib.hid (fun W hW => HCall.out j W (by omega) hW)
          go_wp2_with (first | (go_at_call 51; refine (HC1.out _ HRr.out).mono ?_; rintro e w4 ⟨H, rfl, hH, HHb, hb4⟩) | (go_at_call 54; refine (hasR_any _ _ _ (by omega) (by omega)).mono ?_; rintro e w5 ⟨rfl, rfl⟩; rw [HHb.out]))
          have hBo : Below w3.heap.size w3 w4 := hB.trans (hb4.mono hszr)
          have HO4 := Lib.hid (HO.out.below hb4 (Nat.le_refl _))
          have HBo := Lib.hid hBo
          have hsz4 := hBo.size
          clear HO hB kT k0 k1 k2 hb4 HHb hH HRr HC1 hszr hBo  hsh
          go_loopw [8, 9] (fun lv iv wy => ∃ i : Nat, i ≤ n ∧ iv = .int .i64 i ∧ lv = .bool (refTo p j i) ∧ Below w4.heap.size w4 wy) (fun _ iv _ => n - (intOf iv).toNat)
          case atStart => exact ⟨0, Nat.zero_le _, rfl, by rw [refTo_zero], Below.refl _ _⟩
          case round =>
            obtain ⟨i, hi, rfl, rfl, hBy⟩ := hrel
            have hBw : Below w3.heap.size w3 wr := HBo.out.trans (hBy.mono hsz4)
            have kT := HT3L.out _ hBw
            have k0 := kT.c0
            have k1 := kT.c1
            have k2 := kT.c2
            have HOw := Lib.hid (HO4.out.below hBy (Nat.le_refl _))
            have hszw := hBw.size
            cases hr : refTo p j i
            · have HNo : Hid (minB p j = false) := by show _ = _; rw [HMin.out]; have := refTo_end (n - i) hr; rwa [show i + (n - i) = n from by omega] at this
              rw [HNo.out, if_neg (by simp)] at HS
              clear hr
              have HBw := Lib.hid hBw
              by_cases hin : i < n
              · have ii : (i : Int) < (n : Int) := by omega
                go_wp2
                go_roundw
                case rel => exact ⟨j + 1, by omega, by go_num, by rw [HS.out]; exact HOw.out, HBw.out⟩
                case measure => simp [intOf]; omega
              · obtain rfl : i = n := by omega
                go_wp2
                go_roundw
                case rel => exact ⟨j + 1, by omega, by go_num, by rw [HS.out]; exact HOw.out, HBw.out⟩
                case measure => simp [intOf]; omega
            · by_cases hin : i < n
              · have ii : (i : Int) < (n : Int) := by omega
                have HTo := Lib.hid (refTo_succ p j i)
                rw [hr, Bool.true_and] at HTo
                clear hr
                cases hbt : j.testBit i
                · rw [hbt] at HTo
                  have HBt := Lib.hid hbt
                  clear hbt
                  have HTt : Hid (refTo p j (i + 1) = true) := by show _ = _; rw [HTo.out]; rfl
                  go_wp2_with (go_at_call 54; refine (hasR_any _ _ _ (by omega) (by omega)).mono ?_; rintro e w5 ⟨rfl, rfl⟩; rw [HBt.out])
                  go_roundw
                  case rel => exact ⟨i + 1, by omega, by go_num, by rw [HTt.out], hBy⟩
                  case measure => simp [intOf]; omega
                · rw [hbt] at HTo
                  have hPj := bit_le hbt
                  have HSh := Lib.hid (shl_oneK i (by omega))
                  have HL1 := Lib.hid (sub_bit hbt)
                  have HC2 := Lib.hid (fun W hW => HCall.out (sdiff j (2 ^ i)) W (by have := sdiff_le j (2 ^ i); omega) hW)
                  have HBt := Lib.hid hbt
                  clear hbt
                  generalize (2 : Nat) ^ i = PG at *
                  generalize sdiff j PG = L at *
                  have HTt : Hid (refTo p j (i + 1) = !p L) := by show _ = _; rw [HTo.out]; rfl
                  have HW1 : Hid (IntKind.i64.wrap ((j : Int) - (PG : Int)) = (L : Int)) := by show _ = _; rw [IntWalk.i64_in _ (by omega)]; have := HL1.out; omega
                  generalize p L = b at *
                  go_wp2_with (go_at_call 54; refine (hasR_any _ _ _ (by omega) (by omega)).mono ?_; rintro e w5 ⟨rfl, rfl⟩; rw [HBt.out])
                  have hsh := HSh.out
                  have w1 := HW1.out
                  skip
                  refine wp_region_calm ⟨[5, 7], fun k v _ => RefSF K 5 b k v, fun _ => [], 99, none, 1000⟩ (by kernel_rfl) (by kernel_rfl) (by kernel_rfl) (fun g h => by cases h) (fun k hk v W W' c h hg hc => h) ?_
                  iterate 5 (refine calm_quiet (v := ?_) (by rfl) (by rfl) (fun W hW hD => ?_) ?_; rotate_left; (· (have q0 := grown_cell0 hW k0; have q1 := grown_cell0 hW k1; have q2 := grown_cell0 hW k2; clear hD hW; go_simp; try with_reducible rfl)); simp only [Act.put, List.setIfInBounds_toArray, List.set_cons_zero, List.set_cons_succ, Nat.reduceAdd, Nat.zero_add])
                  refine calm_makes (by rfl) (by rfl) (fun W hW hD K' hK' => ?_) (fun vh => ?_)
                  · refine wp_of_call ?_ ((HC2.out W (HR3L.out W (hBw.trans ((grown_below hW).mono hszw)))).mono ?_)
                    · clear hD hW hK'
                      go_simp
                      try rfl
                    · rintro e w' ⟨H, he, hH, hb, hbel⟩
                      exact ⟨_, he, hK' _ _ (made_plain (show RefSF K 5 b 5 (.int .i64 H) from (by unfold RefSF; rw [if_pos rfl]; exact ⟨H, rfl, hH, hb⟩)) hbel rfl)⟩
                  simp only [Act.put, List.setIfInBounds_toArray, List.set_cons_zero, List.set_cons_succ, Nat.reduceAdd, Nat.zero_add]
                  iterate 1 (refine calm_quiet (v := ?_) (by rfl) (by rfl) (fun W hW hD => ?_) ?_; rotate_left; (· (clear hD hW; go_simp; try with_reducible rfl)); simp only [Act.put, List.setIfInBounds_toArray, List.set_cons_zero, List.set_cons_succ, Nat.reduceAdd, Nat.zero_add])
                  refine calm_makes (by rfl) (by rfl) (fun W hW hD K' hK' => ?_) (fun vb => ?_)
                  · have hv : RefSF K 5 b 5 vh := hD [] 5 (by kernel_rfl) (by kernel_rfl) (by kernel_rfl)
                    unfold RefSF at hv
                    rw [if_pos rfl] at hv
                    obtain ⟨H, hv, hH, hb⟩ := hv
                    subst hv
                    refine wp_of_call ?_ ((hasR_any H K W (by omega) (by omega)).mono ?_)
                    · clear hD hW hK'
                      go_simp
                      try rfl
                    · rintro e w' ⟨he, hw⟩
                      subst hw
                      exact ⟨_, he, hK' _ _ (made_plain (show RefSF K 5 b 7 (.bool (H.testBit K)) from (by unfold RefSF; rw [if_neg (by decide), hb.out])) (Below.refl _ _) rfl)⟩
                  simp only [Act.put, List.setIfInBounds_toArray, List.set_cons_zero, List.set_cons_succ, Nat.reduceAdd, Nat.zero_add]
                  refine calm_quiet (v := .bool (!b)) (by rfl) (by rfl) (fun W hW hD => ?_) ?_
                  · have hv : RefSF K 5 b 7 vb := hD [] 7 (by kernel_rfl) (by kernel_rfl) (by kernel_rfl)
                    unfold RefSF at hv
                    rw [if_neg (by decide)] at hv
                    subst hv
                    clear hD hW
                    go_simp
                  simp only [Act.put, List.setIfInBounds_toArray, List.set_cons_zero, List.set_cons_succ, Nat.reduceAdd, Nat.zero_add]
                  iterate 1 (refine calm_quiet (v := ?_) (by rfl) (by rfl) (fun W hW hD => ?_) ?_; rotate_left; (· (clear hD hW; go_simp; try with_reducible rfl)); simp only [Act.put, List.setIfInBounds_toArray, List.set_cons_zero, List.set_cons_succ, Nat.reduceAdd, Nat.zero_add])
                  refine calm_nil fun W hW hF => ?_
                  have HB6 := Lib.hid (grown_below hW)
                  clear hF hW hsh w1 
                  go_wp2
                  go_roundw
                  case rel => exact ⟨i + 1, by omega, by go_num, by rw [HTt.out], hBy.trans (HB6.out.mono hBy.size)⟩
                  case measure => simp [intOf]; omega
              · obtain rfl : i = n := by omega
                have HYes : Hid (minB p j = true) := by show _ = _; rw [HMin.out, hr]
                rw [HYes.out, if_pos rfl] at HS
                clear hr
                have hll := leastTo_length p j
                go_wp2_with (at_builtin; refine append_int1 rfl _ _ rfl w3.heap.size u6 (leastTo p j) _ rfl rfl HOw.out (by omega) hszw w3 hBw ?_; intro v' w7 hown7 hb7)
                go_roundw
                case rel => exact ⟨j + 1, by omega, by go_num, by rw [HS.out]; exact hown7, hb7⟩
                case measure => simp [intOf]; omega
        · obtain rfl : j = N := by omega
          skip
          skip
          go_wp2
          go_ret2
          exact ⟨_, rfl, by rw [HLt.out]; exact HO.out.mono hsz3, HB3.out.trans (hB.mono hsz3)⟩
end Go.Proofs.YtmihkbiihfhpoaaDoor
