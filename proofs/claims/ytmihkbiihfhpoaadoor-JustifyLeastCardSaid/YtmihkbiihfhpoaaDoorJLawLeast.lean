/- JustifyLeast returns true. -/
import Derived.Test.YtmihkbiihfhpoaaDoorJWhyP
import Derived.Outline
namespace Go.Proofs.YtmihkbiihfhpoaaDoor
open Go.RowKit Go.Shelf

theorem meets_take (l : List Int) (H j : Nat) (h : j < l.length) : meetsB (l.take (j + 1)) H = (meetsB (l.take j) H && bitB H (l.getD j 0)) := all_take (bitB H) 0 l j h
theorem hasZ_bit {H : Nat} (h : H < 4294967296) {z : Int} (hz : 0 ≤ z) : hasZ (listB H) z = bitB H z := by
  obtain ⟨k, rfl⟩ := Int.eq_ofNat_of_zero_le hz
  rw [hasZ_list H k h]
  simp [bitB]
set_option maxRecDepth 100000 in
set_option maxHeartbeats 4000000 in
theorem lawLeast (seen : Int) (drawn : Int) (v : Value) (N : Nat) (f : Nat → Nat → Int) (set : Int) (thing : Int) (lv : Value) (lvl : List Int) (w : World) (hseenb : -9223372036854775808 ≤ seen ∧ seen ≤ 9223372036854775807) (hdrawnb : -9223372036854775808 ≤ drawn ∧ drawn ≤ 9223372036854775807) (hsetb : -9223372036854775808 ≤ set ∧ set ≤ 9223372036854775807) (hthingb : -9223372036854775808 ≤ thing ∧ thing ≤ 9223372036854775807) (hlvI : IntsAt w.heap.size w lv lvl) (hF : FourAt w.heap.size w v N f) (hT : Tabs w) :
    Calls Tryd.prog 4 #[.int .i64 seen, .int .i64 drawn, v, .int .i64 set, .int .i64 thing, lv] w fun e w' => e = .returned (.bool true) ∧ Below w.heap.size w w' := by
  obtain ⟨n, m, rs, hme, G⟩ := made_ex seen drawn N f
  have HF := Lib.hid hF
  have HT := Lib.hid hT
  have HMade := Lib.hid (fun (W : World) (h : FourAt W.heap.size W v N f) => made_good hme v W hseenb hdrawnb h)
  have HG := Lib.hid G
  obtain ⟨va, vc, hvs⟩ : ∃ a c, v = .slice a N c := by obtain ⟨⟨a, c, h, _⟩, _⟩ := hF; exact ⟨a, c, h⟩
  subst hvs
  have n1 := G.n1
  have n6 := G.n6
  have d1 := G.d1
  have d8 := G.d8
  have hpw := G.pow
  have hsh := shl_one n (by omega)
  have hp0 := G.p1
  have hp32 := G.p32
  clear hF hT hme
  obtain ⟨S, hS, hS2⟩ := G.pick set
  have HPS := Lib.hid (g_pick hsetb G.p1 G.p32 hS)
  clear hS
  obtain ⟨K, hK, hK2⟩ := pick_nat2 thing (b := m) n1
  have HPK := Lib.hid (g_pick2 (b := m) hthingb n1 (by omega) (by omega) hK)
  clear hK
  have HHolds := Lib.hid (fun (W w0 : World) (T : Nat) (rv : Value) (h : LawI w0 T n m rs rv W) => g_holds G h hS2)
  have HWhy := Lib.hid (fun (W w0 : World) (T : Nat) (rv : Value) (k : Nat) (hk : k < n + m) (h : LawI w0 T n m rs rv W) => g_why G h hS2 hk)
  have HChk := Lib.hid (fun (W w0 : World) (T : Nat) (rv v : Value) (k : Nat) (hk : k < n + m) (l : List Int) (h : LawI w0 T n m rs rv W) (hv : IntsAt W.heap.size W v l) => g_check G h hS2 hk hv)
  have HH32 := Lib.hid (G.hd32 hS2)
  have HObs : Hid (∀ i, i < n → (hd rs S).testBit i = S.testBit i) := fun i hi => hd_obs G S hi
  have HCl := Lib.hid (hd_closed rs S)
  have HDer : Hid (∀ k, k < n + m → (hd rs S).testBit k = true → derivesB n rs S k (whyL ⟨n, m, rs⟩ S k) = true) := fun k hk h => (why_ok G hS2 hk h).der
  have HSnd : Hid (∀ l, derivesB n rs S K l = true → (hd rs S).testBit K = true) := fun l h => by have := derives_sound h; simpa [bitB] using this
  have HNeeds := Lib.hid G.needs
  have HGives := Lib.hid G.gives
  have HLen := Lib.hid G.len
  have hS4 : S < 4096 := Nat.lt_of_lt_of_le hS2 (Nat.le_trans hpw (by decide))
  have HlvI := Lib.hid hlvI
  clear G hlvI
  generalize 2 ^ n = P at *
  generalize hH : hd rs S = H at *
  clear hH
  go_enter Tryd.func4, Tryd.ntmps4
  go_wp2_with fail
  refine (sane_any _ HT.out).mono ?_
  rintro e w1 ⟨rfl, hb1⟩
  go_wp2_with fail
  refine (HMade.out _ ((HF.out.below hb1 (Nat.le_refl _)).mono hb1.size)).mono ?_
  rintro e w2 ⟨rv, rfl, hR2, hb2⟩
  obtain ⟨ra, rc, hrv, _, _⟩ := hR2.shape
  have LL := LawI.new (n := n) (d := m) HT.out (hb1.trans (hb2.mono hb1.size)) hR2
  subst hrv
  have hBw12 := hb1.trans (hb2.mono hb1.size)
  have k0 := LL.1.c0
  have k1 := LL.1.c1
  have k2 := LL.1.c2
  clear hR2 hb1 hb2
  go_wp2_with fail
  refine (HPS.out _).mono ?_
  rintro e w' ⟨rfl, rfl⟩
  go_wp2_with fail
  refine (HHolds.out _ _ _ _ LL).mono ?_
  rintro e w3 ⟨v3, rfl, hi3, hb3⟩
  obtain ⟨ha, hc, hs3, hc1, hc2⟩ := hi3.shape
  subst hs3
  replace LL := LL.below hb3
  replace k0 := LL.1.c0
  replace k1 := LL.1.c1
  replace k2 := LL.1.c2
  have Ih := Lib.hid hi3
  clear hi3
  clear hb3
  go_wp2
  clear hsh k0 k1 k2
  have HLL := Lib.hid LL
  clear LL
  obtain ⟨w4, hw4⟩ : ∃ w4 : World, w4 = w3 := ⟨_, rfl⟩
  rw [← hw4] at HLL Ih ⊢
  clear hw4
  go_loopw [17] (fun i wr => ∃ j : Nat, j ≤ n ∧ i = .int .i64 j ∧ Below w4.heap.size w4 wr) (fun i _ => n - (intOf i).toNat)
  case atStart => exact ⟨0, Nat.zero_le _, rfl, Below.refl _ _⟩
  case round =>
    obtain ⟨j, hj, rfl, hB⟩ := hrel
    have L1 := HLL.out.below hB
    have k0 := L1.1.c0
    have I1 := Lib.hid (Ih.out.later hB (Nat.le_refl _))
    by_cases hlt : j < n
    · have hob := HObs.out j hlt
      have HHas := Lib.hid (hasZ_list H j HH32.out)
      rw [hob] at HHas
      have HCon := Lib.hid (fun (q : Nat) => contains_any _ (listB H) (j : Int) (wr.drewN q) (IntsAt.later I1.out (below_drewN (Below.refl _ _) q) (Nat.le_refl _)))
      rw [HHas.out] at HCon
      have hbS := bit_eq1 S j
      have hpS : (0 : Int) ≤ (S : Int) / 2 ^ j := Int.ediv_nonneg (by omega) (Int.pow_nonneg (by omega))
      generalize S.testBit j = sb at *
      have hnn : (sb != sb) = false := by cases sb <;> rfl
      clear hob
      go_wp2
      go_quiet ((go_at_call 25; exact quiet_same (HCon.out _)))
      go_wp2
      clear hpS
      go_roundw
      case rel => exact ⟨j + 1, by omega, by go_num, below_drewN hB _⟩
      case measure => simp [intOf]; omega
    · obtain rfl : j = n := by omega
      have k2 := L1.1.c2
      have HL1 := Lib.hid L1
      clear L1
      go_wp2
      obtain ⟨wo, hwo⟩ : ∃ wo : World, wo = wr := ⟨_, rfl⟩
      rw [← hwo] at HL1 I1 k0 k2 ⊢
      clear hwo hlt
      have HR := Lib.hid HL1.out.2.1
      have h40 := HLen.out
      generalize hR : rs.length = R at *
      have HRl := Lib.hid hR
      clear hR
      -- the rules
      go_loop [18] (fun i => ∃ t : Nat, t ≤ R ∧ i = .int .i64 t) (fun i => R - (intOf i).toNat)
      case atStart => exact ⟨0, Nat.zero_le _, rfl⟩
      case round =>
        obtain ⟨t, ht, rfl⟩ := hrel
        by_cases htl : t < R
        · obtain ⟨bl, off, nv, hae, hbl, c1, c2, c3⟩ := HR.out.at t (by rw [HRl.out]; exact htl)
          subst hae
          have HMem : Hid (rs.getD t default ∈ rs) := getD_mem _ _ _ (by rw [HRl.out]; exact htl)
          obtain ⟨na, nc, hnv, hnc1, hnc2⟩ := c3.shape
          subst hnv
          have HN := Lib.hid c3
          have HNd := Lib.hid (HNeeds.out _ HMem.out)
          have hgv := HGives.out _ HMem.out
          have HClr := Lib.hid (HCl.out _ HMem.out)
          have tt : (t : Int) < (R : Int) := by omega
          clear c3
          generalize rs.getD t default = r at *
          obtain ⟨g, hg⟩ : ∃ g : Nat, r.gives = g := ⟨r.gives.toNat, by omega⟩
          have HHas := Lib.hid (hasZ_bit (H := H) HH32.out (z := r.gives) (by omega))
          rw [hg] at c2 HClr HHas
          clear hg hgv
          unfold maxLen at hnc2
          generalize hM : r.needs.length = M at *
          have HM := Lib.hid hM
          clear hM
          go_wp2
          go_loop [19, 20] (fun a i => ∃ q : Nat, q ≤ M ∧ i = .int .i64 q ∧ a = .bool (meetsB (r.needs.take q) H)) (fun _ i => M - (intOf i).toNat)
          case atStart => exact ⟨0, Nat.zero_le _, rfl, rfl⟩
          case round =>
            obtain ⟨q, hq, rfl, rfl⟩ := hrel
            by_cases hql : q < M
            · obtain ⟨b2, off2, hae2, hb2, c4⟩ := HN.out.at q (by rw [HM.out]; exact hql)
              subst hae2
              have HMt := Lib.hid (meets_take r.needs H q (by rw [HM.out]; exact hql))
              have hzb := HNd.out _ (getD_mem r.needs 0 q (by rw [HM.out]; exact hql))
              have HHz := Lib.hid (hasZ_bit (H := H) HH32.out hzb.1)
              have qq : (q : Int) < (M : Int) := by omega
              generalize r.needs.getD q 0 = z at *
              generalize meetsB (r.needs.take q) H = am at *
              cases am
              all_goals
                go_wp2_with (go_at_call 25; refine (contains_any _ (listB H) _ _ I1.out).mono ?_; rintro e w' ⟨rfl, rfl⟩; rw [HHz.out])
                go_round
                case rel => exact ⟨q + 1, by omega, by go_num, by rw [HMt.out]; simp⟩
                case measure => simp [intOf]; omega
            · obtain rfl : q = M := by omega
              rw [List.take_of_length_le (by rw [HM.out]; exact Nat.le_refl _)]
              cases hme : meetsB r.needs H
              · go_wp2
                go_round
                case rel => exact ⟨t + 1, by omega, by go_num⟩
                case measure => simp [intOf]; omega
              · have HHg : Hid (hasZ (listB H) (g : Int) = true) := by show _ = _; rw [HHas.out, HClr.out hme]
                clear hme
                go_wp2_with (go_at_call 25; refine (contains_any _ (listB H) _ _ I1.out).mono ?_; rintro e w' ⟨rfl, rfl⟩; rw [HHg.out])
                go_round
                case rel => exact ⟨t + 1, by omega, by go_num⟩
                case measure => simp [intOf]; omega
        · obtain rfl : t = R := by omega
          go_wp2
          obtain ⟨wp, hwp⟩ : ∃ wp : World, wp = wo := ⟨_, rfl⟩
          rw [← hwp] at HL1 I1 ⊢
          clear hwp k0 k2
          -- the things
          go_loopw [21] (fun i wr => ∃ k : Nat, k ≤ j + m ∧ i = .int .i64 k ∧ Below wp.heap.size wp wr) (fun i _ => j + m - (intOf i).toNat)
          case atStart => exact ⟨0, Nat.zero_le _, rfl, Below.refl _ _⟩
          case round =>
            obtain ⟨k, hk, rfl, hB2⟩ := hrel
            have L2 := HL1.out.below hB2
            have k0 := L2.1.c0
            have k1 := L2.1.c1
            have k2 := L2.1.c2
            have I2 := Lib.hid (I1.out.later hB2 (Nat.le_refl _))
            by_cases hkl : k < j + m
            · have HHk := Lib.hid (hasZ_list H k HH32.out)
              have HW := Lib.hid (HWhy.out _ _ _ _ k hkl L2)
              have HD := Lib.hid (HDer.out k hkl)
              cases hbk : H.testBit k
              · rw [hbk] at HHk HW
                clear hbk
                go_wp2_with (first | (go_at_call 24; refine HW.out.mono ?_; rintro e w6 ⟨v6, rfl, hi6, hb6⟩; obtain ⟨ya, yc, hys, _, _⟩ := hi6.shape; subst hys) | (go_at_call 25; refine (contains_any _ (listB H) _ _ (I2.out.later hb6 (Nat.le_refl _))).mono ?_; rintro e w' ⟨rfl, rfl⟩; rw [HHk.out]))
                go_roundw
                case rel => exact ⟨k + 1, by omega, by go_num, hB2.trans (hb6.mono hB2.size)⟩
                case measure => simp [intOf]; omega
              · rw [hbk] at HHk HW
                have HDk := Lib.hid (HD.out hbk)
                clear hbk
                go_wp2_with (first | (go_at_call 24; refine HW.out.mono ?_; rintro e w6 ⟨v6, rfl, hi6, hb6⟩; obtain ⟨ya, yc, hys, _, _⟩ := hi6.shape; subst hys; have L6 := L2.below hb6; have k60 := L6.1.c0; have k61 := L6.1.c1; have k62 := L6.1.c2) | (go_at_call 25; refine (contains_any _ (listB H) _ _ (I2.out.later hb6 (Nat.le_refl _))).mono ?_; rintro e w' ⟨rfl, rfl⟩; rw [HHk.out]) | (go_at_call 26; refine (HChk.out _ _ _ _ _ k hkl _ L6 hi6).mono ?_; rintro e w7 ⟨rfl, hb7⟩; rw [HDk.out]))
                go_roundw
                case rel => exact ⟨k + 1, by omega, by go_num, hB2.trans ((hb6.mono hB2.size).trans (hb7.mono (Nat.le_trans hB2.size hb6.size)))⟩
                case measure => simp [intOf]; omega
            · obtain rfl : k = j + m := by omega
              go_wp2_with (go_at_call 16; refine (HPK.out _).mono ?_; rintro e w' ⟨rfl, rfl⟩)
              have hBd : Below wr.heap.size wr wr.drew := (Below.refl _ _).drew
              have HLd := Lib.hid (L2.below hBd)
              have HId := Lib.hid (I2.out.later hBd (Nat.le_refl _))
              have hBw : Below w.heap.size w wr := L2.2.2.2
              have HlI := Lib.hid ((HlvI.out.later hBw (Nat.le_refl _)).later hBd (Nat.le_refl _))
              obtain ⟨qa, qc, hqs, hq1, hq2⟩ := HlI.out.shape
              subst hqs
              have HTk := Lib.hid (HlI.out.take (min 41 lvl.length) (by omega))
              have hmin : (if (41 : Int) < (lvl.length : Int) then (41 : Int) else (lvl.length : Int)) = ((min 41 lvl.length : Nat) : Int) := by split <;> omega
              have hcl : min 41 lvl.length ≤ qc := by omega
              have hci : ((min 41 lvl.length : Nat) : Int) ≤ (qc : Int) := by omega
              have hc0 : (0 : Int) ≤ ((min 41 lvl.length : Nat) : Int) := by omega
              have HC := Lib.hid (HChk.out _ _ _ _ _ K hK2 (lvl.take (min 41 lvl.length)) HLd.out HTk.out)
              have HHK := Lib.hid (hasZ_list H K HH32.out)
              have HS := Lib.hid (HSnd.out (lvl.take (min 41 lvl.length)))
              have HBw := Lib.hid hBw
              clear L2 hBw
              unfold maxLen at hq2
              generalize lvl.take (min 41 lvl.length) = tl at *
              generalize hcut : min 41 lvl.length = cut at *
              clear hcut
              have hTl : wr.heap.size ≤ wr.heap.size := Nat.le_refl _
              cases hdv : derivesB j rs S K tl
              · rw [hdv] at HC
                clear hdv
                first | (go_region_with (first | (go_at_call 26; refine HC.out.mono ?_; rintro e wc ⟨rfl, hbc⟩; have hBc : Below wr.heap.size wr wc := hBd.trans (hbc.mono hBd.size); have Lc := HLd.out.below hbc; have k0' := Lc.1.c0; have k1' := Lc.1.c1; have k2' := Lc.1.c2))) | fail
                all_goals go_wp2
                all_goals go_ret
                all_goals exact ⟨rfl, HBw.out.trans (hBc.mono HBw.out.size)⟩
              · rw [hdv] at HC
                rw [HS.out hdv] at HHK
                clear hdv
                first | (go_region_held3 (fun W => W.cell? ⟨w2.heap.size, 0, none⟩ = some (.int .i64 j) ∧ W.cell? ⟨w2.heap.size, 1, none⟩ = some (.int .i64 m) ∧ W.cell? ⟨w2.heap.size, 2, none⟩ = some (.slice ra t rc) ∧ Below wr.heap.size wr W) (first | exact ⟨k0, k1, k2, hBd⟩ | exact ⟨k0', k1', k2', hBc⟩)
                  (first | (go_at_call 26; refine HC.out.mono ?_; rintro e wc ⟨rfl, hbc⟩; have hBc : Below wr.heap.size wr wc := hBd.trans (hbc.mono hBd.size); have Lc := HLd.out.below hbc; have k0' := Lc.1.c0; have k1' := Lc.1.c1; have k2' := Lc.1.c2) | (go_at_call 25; refine (contains_any _ (listB H) _ _ (HId.out.later hbc (Nat.le_refl _))).mono ?_; rintro e wd ⟨rfl, rfl⟩; rw [HHK.out]))) | fail
                all_goals go_wp2
                all_goals go_ret
                all_goals exact ⟨rfl, HBw.out.trans (hBc.mono HBw.out.size)⟩
end Go.Proofs.YtmihkbiihfhpoaaDoor
