/- JustifyCuts returns true. -/
import Derived.Test.YtmihkbiihfhpoaaDoorJGood
import Derived.Outline
namespace Go.Proofs.YtmihkbiihfhpoaaDoor
open Go.RowKit Go.Shelf

theorem meetsAll_iff {n : Nat} {p : Nat → Bool} {S : Nat} : meetsAll S (leastI n p) = true ↔ ∀ u ∈ leastN n p, S &&& u ≠ 0 := by
  unfold meetsAll
  rw [List.all_eq_true]
  constructor
  · intro h u hu
    have := h u (leastI_mem.2 ⟨u, rfl, hu⟩)
    simpa using this
  · intro h z hz
    obtain ⟨u, rfl, hu⟩ := leastI_mem.1 hz
    simpa using h u hu
theorem hasOne_iff {n : Nat} {p : Nat → Bool} {S : Nat} : hasOne S (leastI n p) = true ↔ ∃ u ∈ leastN n p, SubS u S := by
  unfold hasOne
  rw [List.any_eq_true]
  constructor
  · rintro ⟨z, hz, h⟩
    obtain ⟨u, rfl, hu⟩ := leastI_mem.1 hz
    exact ⟨u, hu, (subB_iff _ _).1 (by simpa using h)⟩
  · rintro ⟨u, hu, h⟩
    exact ⟨u, leastI_mem.2 ⟨u, rfl, hu⟩, by simpa using (subB_iff u S).2 h⟩
set_option maxRecDepth 100000 in
set_option maxHeartbeats 4000000 in
theorem lawCuts (seen : Int) (drawn : Int) (v : Value) (N : Nat) (f : Nat → Nat → Int) (thing : Int) (set : Int) (w : World) (hseenb : -9223372036854775808 ≤ seen ∧ seen ≤ 9223372036854775807) (hdrawnb : -9223372036854775808 ≤ drawn ∧ drawn ≤ 9223372036854775807) (hthingb : -9223372036854775808 ≤ thing ∧ thing ≤ 9223372036854775807) (hsetb : -9223372036854775808 ≤ set ∧ set ≤ 9223372036854775807) (hF : FourAt w.heap.size w v N f) (hT : Tabs w) :
    Calls Tryd.prog 7 #[.int .i64 seen, .int .i64 drawn, v, .int .i64 thing, .int .i64 set] w fun e w' => e = .returned (.bool true) ∧ Below w.heap.size w w' := by
  obtain ⟨n, m, rs, hme, G⟩ := made_ex seen drawn N f
  have HF := Lib.hid hF
  have HT := Lib.hid hT
  have HMade := Lib.hid (fun (W : World) (h : FourAt W.heap.size W v N f) => made_good hme v W hseenb hdrawnb h)
  have HG := Lib.hid G
  obtain ⟨va, vc, hvs⟩ : ∃ a c, v = .slice a N c := by obtain ⟨⟨a, c, h, _⟩, _⟩ := hF; exact ⟨a, c, h⟩
  subst hvs
  have n1 := G.n1
  have n6 := G.n6
  have d1 := G.d1
  have d8 := G.d8
  have hpw := G.pow
  have hsh := shl_one n (by omega)
  have hp0 := G.p1
  have hp32 := G.p32
  clear hF hT hme
  obtain ⟨K, hK, hK2⟩ := pick_nat2 thing (b := m) n1
  have HPK := Lib.hid (g_pick2 (b := m) hthingb n1 (by omega) (by omega) hK)
  clear hK
  obtain ⟨S, hS, hS2⟩ := G.pick set
  have HPS := Lib.hid (g_pick hsetb G.p1 G.p32 hS)
  clear hS
  have HSupp := Lib.hid (fun (W w0 : World) (T : Nat) (rv : Value) (h : LawI w0 T n m rs rv W) => g_supp G h hK2)
  have HCuts := Lib.hid (fun (W w0 : World) (T : Nat) (rv : Value) (h : LawI w0 T n m rs rv W) => g_cuts G h hK2)
  have H1 : Hid (meetsAll S (leastI n (suppP rs K)) = hasOne S (leastI n (cutP rs n K))) := by
    show _ = _
    rw [Bool.eq_iff_iff, meetsAll_iff, hasOne_iff]
    exact meets_supports rs K hp32 hS2
  have H2 : Hid (meetsAll S (leastI n (cutP rs n K)) = hasOne S (leastI n (suppP rs K))) := by
    show _ = _
    rw [Bool.eq_iff_iff, meetsAll_iff, hasOne_iff]
    exact meets_cuts rs K hp32 hS2
  have HX : Hid (∀ a b : Nat, (a : Int) ∈ leastI n (suppP rs K) → (b : Int) ∈ leastI n (cutP rs n K) → a &&& b ≠ 0) := fun a b ha hb => by
    obtain ⟨a', ea, ha⟩ := leastI_mem.1 ha
    obtain ⟨b', eb, hb⟩ := leastI_mem.1 hb
    obtain rfl : a = a' := by omega
    obtain rfl : b = b' := by omega
    exact supp_cut rs K ha hb
  have HBs := Lib.hid (leastI_bd n (suppP rs K) (by omega))
  have HBc := Lib.hid (leastI_bd n (cutP rs n K) (by omega))
  have hls := leastI_length n (suppP rs K) (by omega)
  have hlc := leastI_length n (cutP rs n K) (by omega)
  clear G
  generalize 2 ^ n = P at *
  generalize hl : leastI n (suppP rs K) = l at *
  generalize hc : leastI n (cutP rs n K) = c at *
  clear hl hc
  go_enter Tryd.func7, Tryd.ntmps7
  go_wp2_with fail
  refine (sane_any _ HT.out).mono ?_
  rintro e w1 ⟨rfl, hb1⟩
  go_wp2_with fail
  refine (HMade.out _ ((HF.out.below hb1 (Nat.le_refl _)).mono hb1.size)).mono ?_
  rintro e w2 ⟨rv, rfl, hR2, hb2⟩
  obtain ⟨ra, rc, hrv, _, _⟩ := hR2.shape
  have LL := LawI.new (n := n) (d := m) HT.out (hb1.trans (hb2.mono hb1.size)) hR2
  subst hrv
  have hBw12 := hb1.trans (hb2.mono hb1.size)
  have k0 := LL.1.c0
  have k1 := LL.1.c1
  have k2 := LL.1.c2
  clear hR2 hb1 hb2
  go_wp2_with fail
  refine (HPK.out _).mono ?_
  rintro e w' ⟨rfl, rfl⟩
  go_wp2_with fail
  refine (HPS.out _).mono ?_
  rintro e w' ⟨rfl, rfl⟩
  go_wp2_with fail
  refine (HSupp.out _ _ _ _ LL).mono ?_
  rintro e w3 ⟨v3, rfl, hi3, hb3⟩
  obtain ⟨sa, sc, hs3, sc1, sc2⟩ := hi3.shape
  subst hs3
  replace LL := LL.below hb3
  replace k0 := LL.1.c0
  replace k1 := LL.1.c1
  replace k2 := LL.1.c2
  have Is := Lib.hid hi3
  clear hi3
  clear hb3
  go_wp2_with fail
  refine (HCuts.out _ _ _ _ LL).mono ?_
  rintro e w4 ⟨v4, rfl, hi4, hb4⟩
  obtain ⟨ca, cc, hs4, cc1, cc2⟩ := hi4.shape
  subst hs4
  replace LL := LL.below hb4
  replace k0 := LL.1.c0
  replace k1 := LL.1.c1
  replace k2 := LL.1.c2
  replace Is := Lib.hid (Is.out.later hb4 (Nat.le_refl _))
  have Ic := Lib.hid hi4
  clear hi4
  clear hb4
  go_wp2
  have HB4 := Lib.hid LL.2.2.2
  clear LL k0 k1 k2
  obtain ⟨w5, hw5⟩ : ∃ w5 : World, w5 = w4 := ⟨_, rfl⟩
  rw [← hw5] at HB4 Is Ic ⊢
  clear hw5
  unfold maxLen at sc2 cc2
  generalize hL : l.length = L at *
  have HL := Lib.hid hL
  clear hL
  generalize hM : c.length = M at *
  have HM := Lib.hid hM
  clear hM
  go_loopw [18] (fun i wr => ∃ j : Nat, j ≤ L ∧ i = .int .i64 j ∧ Below w5.heap.size w5 wr) (fun i _ => L - (intOf i).toNat)
  case atStart => exact ⟨0, Nat.zero_le _, rfl, Below.refl _ _⟩
  case round =>
    obtain ⟨j, hj, rfl, hB⟩ := hrel
    by_cases hlt : j < L
    · obtain ⟨bl, off, hae, hbl, hcl⟩ := Is.out.at j (by rw [HL.out]; exact hlt)
      subst hae
      have HMx : Hid (l.getD j 0 ∈ l) := getD_mem l 0 j (by rw [HL.out]; exact hlt)
      have hzb := HBs.out _ HMx.out
      obtain ⟨x, hx⟩ := Int.eq_ofNat_of_zero_le hzb.1
      rw [hx] at hcl hzb HMx
      have Hcl := Lib.hid hcl
      have hx4 : x < 4096 := by omega
      have jj : (j : Int) < (L : Int) := by omega
      clear hcl hx
      go_wp2
      obtain ⟨wo, hwo⟩ : ∃ wo : World, wo = wr := ⟨_, rfl⟩
      rw [← hwo] at hB ⊢
      clear hwo
      go_loopw [19] (fun i wy => ∃ t : Nat, t ≤ M ∧ i = .int .i64 t ∧ Below wo.heap.size wo wy) (fun i _ => M - (intOf i).toNat)
      case atStart => exact ⟨0, Nat.zero_le _, rfl, Below.refl _ _⟩
      case round =>
        obtain ⟨t, ht, rfl, hBy⟩ := hrel
        by_cases htl : t < M
        · obtain ⟨bl2, off2, hae2, hbl2, hcl2⟩ := Ic.out.at t (by rw [HM.out]; exact htl)
          subst hae2
          have hBw : Below w5.heap.size w5 wr := hB.trans (hBy.mono hB.size)
          have HMy : Hid (c.getD t 0 ∈ c) := getD_mem c 0 t (by rw [HM.out]; exact htl)
          have hyb := HBc.out _ HMy.out
          obtain ⟨y, hy⟩ := Int.eq_ofNat_of_zero_le hyb.1
          rw [hy] at hcl2 hyb HMy
          have c1 := (hBw.cell (p := ⟨bl, off + j, none⟩) hbl).trans Hcl.out
          have c2 := (hBw.cell (p := ⟨bl2, off2 + t, none⟩) hbl2).trans hcl2
          have hy4 : y < 4096 := by omega
          have tt : (t : Int) < (M : Int) := by omega
          have hand := i64_and_nat x y (by omega) (by omega)
          have hne := HX.out x y HMx.out HMy.out
          have hq0 : (((x &&& y : Nat) : Int) == 0) = false := by simp only [beq_eq_false_iff_ne]; omega
          clear hy hcl2 hne
          generalize x &&& y = q at *
          go_wp2
          go_quiet (fail)
          go_wp2
          go_roundw
          case rel => exact ⟨t + 1, by omega, by go_num, below_drewN hBy _⟩
          case measure => simp [intOf]; omega
        · obtain rfl : t = M := by omega
          go_wp2
          go_roundw
          case rel => exact ⟨j + 1, by omega, by go_num, hB.trans (hBy.mono hB.size)⟩
          case measure => simp [intOf]; omega
    · obtain rfl : j = L := by omega
      have Is' := Lib.hid (Is.out.later hB (Nat.le_refl _))
      have Ic' := Lib.hid (Ic.out.later hB (Nat.le_refl _))
      have hS32 : S < 4294967296 := by omega
      cases hA : hasOne S c
      all_goals
        rw [hA] at H1
        have HA := Lib.hid hA
        clear hA
        cases hB2 : hasOne S l
        all_goals
          rw [hB2] at H2
          have HB2 := Lib.hid hB2
          clear hB2
          go_wp2_with fail
          refine (lawMeets_any S _ l _ Is'.out hS32 HBs.out).mono ?_
          rintro e w6 ⟨rfl, hb6⟩
          rw [H1.out]
          go_wp2_with fail
          refine (lawHas_any S _ c _ (Ic'.out.later hb6 (Nat.le_refl _)) hS32 HBc.out).mono ?_
          rintro e w7 ⟨rfl, hb7⟩
          rw [HA.out]
          go_wp2_with fail
          refine (lawMeets_any S _ c _ ((Ic'.out.later hb6 (Nat.le_refl _)).later hb7 (Nat.le_refl _)) hS32 HBc.out).mono ?_
          rintro e w8 ⟨rfl, hb8⟩
          rw [H2.out]
          go_wp2_with fail
          refine (lawHas_any S _ l _ (((Is'.out.later hb6 (Nat.le_refl _)).later hb7 (Nat.le_refl _)).later hb8 (Nat.le_refl _)) hS32 HBs.out).mono ?_
          rintro e w9 ⟨rfl, hb9⟩
          rw [HB2.out]
          go_wp2
          go_ret
          have z6 := hb6.size
          have z7 := hb7.size
          have z8 := hb8.size
          exact ⟨rfl, HB4.out.trans ((hB.trans ((hb6.mono hB.size).trans ((hb7.mono (Nat.le_trans hB.size z6)).trans ((hb8.mono (Nat.le_trans hB.size (Nat.le_trans z6 z7))).trans (hb9.mono (Nat.le_trans hB.size (Nat.le_trans z6 (Nat.le_trans z7 z8)))))))).mono HB4.out.size)⟩
end Go.Proofs.YtmihkbiihfhpoaaDoor
