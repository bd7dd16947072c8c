/- JustifySupports returns true. -/
import Derived.Test.YtmihkbiihfhpoaaDoorJGood
import Derived.Outline
namespace Go.Proofs.YtmihkbiihfhpoaaDoor
open Go.RowKit Go.Shelf

theorem anti_least {n : Nat} (hn : 2 ^ n ≤ 4294967296) {p : Nat → Bool} (hp : MonoP p) {i j : Nat} (hi : i < (leastI n p).length) (hj : j < (leastI n p).length) (hij : i ≠ j) {x y : Nat} (hx : (leastI n p).getD i 0 = x) (hy : (leastI n p).getD j 0 = y) : subB x y = false := by
  cases h : subB x y
  · rfl
  · exfalso
    have hs := (subB_iff _ _).1 h
    obtain ⟨a, ha, ha'⟩ := leastI_mem.1 (getD_mem _ 0 i hi)
    obtain ⟨b, hb, hb'⟩ := leastI_mem.1 (getD_mem _ 0 j hj)
    rw [hx] at ha
    rw [hy] at hb
    obtain rfl : x = a := by omega
    obtain rfl : y = b := by omega
    have e := least_anti hp hn ha' hb' hs
    subst e
    have hso := List.pairwise_iff_getElem.1 (leastI_sorted n p)
    rw [List.getD_eq_getElem?_getD, List.getElem?_eq_getElem hi] at hx
    rw [List.getD_eq_getElem?_getD, List.getElem?_eq_getElem hj] at hy
    simp only [Option.getD_some] at hx hy
    rcases Nat.lt_or_gt_of_ne hij with h | h
    · have := hso i j hi hj h; omega
    · have := hso j i hj hi h; omega
set_option maxRecDepth 100000 in
set_option maxHeartbeats 2000000 in
theorem lawSupports (s d : Int) (v : Value) (N : Nat) (f : Nat → Nat → Int) (set thing : Int) (w : World) (hsb : -9223372036854775808 ≤ s ∧ s ≤ 9223372036854775807) (hdb : -9223372036854775808 ≤ d ∧ d ≤ 9223372036854775807)
    (hset : -9223372036854775808 ≤ set ∧ set ≤ 9223372036854775807) (hth : -9223372036854775808 ≤ thing ∧ thing ≤ 9223372036854775807) (hF : FourAt w.heap.size w v N f) (hT : Tabs w) :
    Calls Tryd.prog 5 #[.int .i64 s, .int .i64 d, v, .int .i64 set, .int .i64 thing] w fun e w' => e = .returned (.bool true) ∧ Below w.heap.size w w' := by
  obtain ⟨n, m, rs, hme, G⟩ := made_ex s d N f
  have HF := Lib.hid hF
  have HT := Lib.hid hT
  have HMade := Lib.hid (fun (W : World) (h : FourAt W.heap.size W v N f) => made_good hme v W hsb hdb h)
  have HG := Lib.hid G
  obtain ⟨va, vc, hvs⟩ : ∃ a c, v = .slice a N c := by obtain ⟨⟨a, c, h, _⟩, _⟩ := hF; exact ⟨a, c, h⟩
  subst hvs
  clear hF
  have n1 := G.n1
  have n6 := G.n6
  have d1 := G.d1
  have d8 := G.d8
  have hpw := G.pow
  have hsh := shl_one n (by omega)
  have hp0 := G.p1
  obtain ⟨S, hS, hS2⟩ := G.pick set
  obtain ⟨K, hK, hK2⟩ := pick_nat2 thing (b := m) n1
  have HPs := Lib.hid (g_pick hset G.p1 G.p32 hS)
  have HPk := Lib.hid (g_pick2 (b := m) hth n1 (by omega) (by omega) hK)
  have HHolds := Lib.hid (fun (W w0 : World) (T : Nat) (rv : Value) (h : LawI w0 T n m rs rv W) => g_holds G h hS2)
  have HSupp := Lib.hid (fun (W w0 : World) (T : Nat) (rv : Value) (h : LawI w0 T n m rs rv W) => g_supp G h hK2)
  have HCore := Lib.hid (fun (W w0 : World) (T : Nat) (rv : Value) (h : LawI w0 T n m rs rv W) => g_core G h hS2 hK2)
  have hp32 := G.p32
  have HAnti := Lib.hid (fun i j hi hj hij x y hx hy => anti_least (i := i) (j := j) (x := x) (y := y) hp32 (supp_mono rs K) hi hj hij hx hy)
  have HBd := Lib.hid (leastI_bd n (suppP rs K) (by omega))
  have hll := leastI_length n (suppP rs K) (by omega)
  have HOne := Lib.hid (hasOne_least hp32 (supp_mono rs K) hS2)
  have HHas := Lib.hid (hasZ_list (hd rs S) K (G.hd32 hS2))
  have HSp : Hid (suppP rs K S = (hd rs S).testBit K) := by show _ = _; simp [suppP, bitB]
  have hcf := core_facts S (leastI n (suppP rs K)) (fun z hz => (HBd.out z hz).1)
  have hcb := coreFold_bd S (leastI n (suppP rs K)) (-1) HBd.out (by omega)
  have HCF := Lib.hid hcf
  have HCB : Hid (-1 ≤ coreI S (leastI n (suppP rs K)) ∧ coreI S (leastI n (suppP rs K)) < 4096) := hcb
  clear G hT hme hS hK hcf hcb
  generalize 2 ^ n = P at *
  generalize hl : leastI n (suppP rs K) = l at *
  clear hl
  have HIs : Hid (decide (0 ≤ coreI S l) = true → ∃ c : Nat, max (coreI S l) 0 = c ∧ c < 4096 ∧ hasZ l c = true ∧ subB c S = true) := fun h' => by
    have h := of_decide_eq_true h'
    obtain ⟨h1, h2⟩ := HCF.out.2 h
    have h3 := HCB.out
    refine ⟨(coreI S l).toNat, by omega, by omega, (hasZ_iff _ _).2 (by rw [Int.toNat_of_nonneg h]; exact h1), (subB_iff _ _).2 h2⟩
  have HIs2 := Lib.hid HCF.out.1
  clear HCF HCB
  generalize decide (0 ≤ coreI S l) = ok at *
  generalize max (coreI S l) 0 = mx at *
  go_enter Tryd.func5, Tryd.ntmps5
  go_wp2_with fail
  refine (sane_any _ HT.out).mono ?_
  rintro e w1 ⟨rfl, hb1⟩
  go_wp2_with fail
  refine (HMade.out _ ((HF.out.below hb1 (Nat.le_refl _)).mono hb1.size)).mono ?_
  rintro e w2 ⟨rv, rfl, hR2, hb2⟩
  obtain ⟨ra, rc, hrv, _, _⟩ := hR2.shape
  have L0 := LawI.new (n := n) (d := m) HT.out (hb1.trans (hb2.mono hb1.size)) hR2
  subst hrv
  have k0 := L0.1.c0
  have k1 := L0.1.c1
  have k2 := L0.1.c2
  go_wp2_with fail
  refine (HPs.out _).mono ?_
  rintro e w' ⟨rfl, rfl⟩
  go_wp2_with fail
  refine (HPk.out _).mono ?_
  rintro e w' ⟨rfl, rfl⟩
  go_wp2_with fail
  refine (HHolds.out _ _ _ _ L0).mono ?_
  rintro e w3 ⟨hv, rfl, hi3, hb3⟩
  obtain ⟨ha, hc, hhv, _, _⟩ := hi3.shape
  subst hhv
  have L3 := L0.below hb3
  replace k0 := L3.1.c0
  replace k1 := L3.1.c1
  replace k2 := L3.1.c2
  go_wp2_with fail
  refine (HSupp.out _ _ _ _ L3).mono ?_
  rintro e w4 ⟨lv, rfl, hi4, hb4⟩
  obtain ⟨la, lc, hlv, hlc1, hlc2⟩ := hi4.shape
  subst hlv
  have L4 := L3.below hb4
  replace k0 := L4.1.c0
  replace k1 := L4.1.c1
  replace k2 := L4.1.c2
  go_wp2_with fail
  refine (HCore.out _ _ _ _ L4).mono ?_
  rintro e w5 ⟨rfl, hb5⟩
  have L5 := L4.below hb5
  go_wp2
  have hI3 := (hi3.later hb4 (Nat.le_refl _)).later hb5 (Nat.le_refl _)
  have hI4 := hi4.later hb5 (Nat.le_refl _)
  have HI3 := Lib.hid hI3
  have HI4 := Lib.hid hI4
  have HB5 := Lib.hid L5.2.2.2
  clear hI3 hI4 hi3 hi4 L0 L3 L4 L5 hb3 hb4 hb5 hb1 hb2 hR2 k0 k1 k2
  unfold maxLen at hlc2
  generalize hL : l.length = L at *
  have HL := Lib.hid hL
  clear hL
  go_loopw [20, 21] (fun sv i wr => ∃ j : Nat, j ≤ L ∧ i = .int .i64 j ∧ sv = .bool ((l.take j).any fun z => subB z.toNat S) ∧ Below w5.heap.size w5 wr) (fun _ i _ => L - (intOf i).toNat)
  case atStart => exact ⟨0, Nat.zero_le _, rfl, by simp, Below.refl _ _⟩
  case round =>
    obtain ⟨j, hj, rfl, rfl, hB⟩ := hrel
    by_cases hlt : j < L
    · obtain ⟨bl, off, hae, hbl, hcl⟩ := HI4.out.at j (by rw [HL.out]; exact hlt)
      subst hae
      have c1 := (hB.cell (p := ⟨bl, off + j, none⟩) hbl).trans hcl
      have HS := Lib.hid (any_take (fun z : Int => subB z.toNat S) 0 l j (by rw [HL.out]; exact hlt))
      have hzb := HBd.out _ (getD_mem l 0 j (by rw [HL.out]; exact hlt))
      obtain ⟨x, hx⟩ := Int.eq_ofNat_of_zero_le hzb.1
      rw [hx, Int.toNat_natCast] at HS
      rw [hx] at c1 hzb
      have HX := Lib.hid hx
      have hx4 : x < 4096 := by omega
      have jj : (j : Int) < (L : Int) := by omega
      clear hcl hx
      generalize hsm : (l.take j).any (fun z => subB z.toNat S) = sm at *
      clear hsm
      cases sm
      all_goals
        cases hsb : subB x S
        all_goals
          have HSB := Lib.hid hsb
          rw [hsb] at HS
          clear hsb
          go_wp2_with (go_at_call 32; refine (within_any x S _ (by omega) (by omega)).mono ?_; rintro e w' ⟨rfl, rfl⟩; rw [HSB.out])
          obtain ⟨wo, hwo⟩ : ∃ wo : World, wo = wr := ⟨_, rfl⟩
          rw [← hwo] at hB c1 ⊢
          clear hwo
          go_loopw [22] (fun i wy => ∃ t : Nat, t ≤ L ∧ i = .int .i64 t ∧ Below wo.heap.size wo wy) (fun i _ => L - (intOf i).toNat)
          case atStart => exact ⟨0, Nat.zero_le _, rfl, Below.refl _ _⟩
          case round =>
            obtain ⟨t, ht, rfl, hBy⟩ := hrel
            by_cases htl : t < L
            · by_cases hjt : j = t
              · subst hjt
                have hne : ((j : Int) != (j : Int)) = false := by simp
                go_wp2
                go_quiet (fail)
                go_wp2
                go_roundw
                case rel => exact ⟨j + 1, by omega, by go_num, below_drewN hBy _⟩
                case measure => simp [intOf]; omega
              · have hne : ((j : Int) != (t : Int)) = true := by simp; omega
                obtain ⟨bl2, off2, hae2, hbl2, hcl2⟩ := HI4.out.at t (by rw [HL.out]; exact htl)
                obtain ⟨rfl, rfl⟩ : bl = bl2 ∧ off = off2 := by simpa using hae2
                have hBw : Below w5.heap.size w5 wr := hB.trans (hBy.mono hB.size)
                have c2 := (hBw.cell (p := ⟨bl, off + t, none⟩) hbl2).trans hcl2
                have c3 := (hBy.cell (p := ⟨bl, off + j, none⟩) (Nat.lt_of_lt_of_le hbl hB.size)).trans c1
                have hyb := HBd.out _ (getD_mem l 0 t (by rw [HL.out]; exact htl))
                obtain ⟨y, hy⟩ := Int.eq_ofNat_of_zero_le hyb.1
                rw [hy] at c2 hyb
                have hy4 : y < 4096 := by omega
                have HA := Lib.hid (HAnti.out j t hlt htl hjt x y HX.out hy)
                have tt : (t : Int) < (L : Int) := by omega
                have HW := Lib.hid (fun W : World => within_any x y W (by omega) (by omega))
                rw [HA.out] at HW
                clear hy hcl2 hae2
                go_wp2
                go_quiet ((go_at_call 32; exact quiet_same (HW.out _)))
                go_wp2
                go_roundw
                case rel => exact ⟨t + 1, by omega, by go_num, below_drewN hBy _⟩
                case measure => simp [intOf]; omega
            · obtain rfl : t = L := by omega
              go_wp2
              go_roundw
              case rel => exact ⟨j + 1, by omega, by go_num, by rw [HS.out]; rfl, hB.trans (hBy.mono hB.size)⟩
              case measure => simp [intOf]; omega
    · obtain rfl : j = L := by omega
      have HSm : Hid ((l.take j).any (fun z => subB z.toNat S) = (hd rs S).testBit K) := by
        show _ = _
        rw [List.take_of_length_le (by rw [HL.out]; exact Nat.le_refl _), ← HSp.out, ← HOne.out]
        rfl
      have HOk : Hid (ok = (hd rs S).testBit K) := by show _ = _; rw [HIs2.out, HOne.out, HSp.out]
      rw [HSm.out]
      have HI3' := Lib.hid (HI3.out.later hB (Nat.le_refl _))
      have HI4' := Lib.hid (HI4.out.later hB (Nat.le_refl _))
      cases hb : (hd rs S).testBit K
      · rw [hb] at HOk HHas
        have HOk' := Lib.hid HOk.out
        have hok := HOk.out
        subst hok
        clear hb
        go_wp2_with (go_at_call 25; refine (contains_any _ (listB (hd rs S)) _ _ HI3'.out).mono ?_; rintro e w' ⟨rfl, rfl⟩; rw [HHas.out])
        go_ret
        exact ⟨rfl, HB5.out.trans (hB.mono HB5.out.size)⟩
      · rw [hb] at HOk HHas
        have hok := HOk.out
        subst hok
        obtain ⟨c, hmx, hc4, hc1, hc2⟩ := HIs.out rfl
        subst hmx
        have HC1 := Lib.hid hc1
        have HC2 := Lib.hid hc2
        clear hb hc1 hc2
        go_wp2_with (first | (go_at_call 25; (with_reducible refine (contains_any _ l (c : Int) _ HI4'.out).mono ?_); rintro e w' ⟨rfl, rfl⟩; rw [HC1.out]) | (go_at_call 25; refine (contains_any _ (listB (hd rs S)) _ _ HI3'.out).mono ?_; rintro e w' ⟨rfl, rfl⟩; rw [HHas.out]) | (go_at_call 32; refine (within_any c S _ (by omega) (by omega)).mono ?_; rintro e w' ⟨rfl, rfl⟩; rw [HC2.out]))
        go_ret
        exact ⟨rfl, HB5.out.trans (hB.mono HB5.out.size)⟩
end Go.Proofs.YtmihkbiihfhpoaaDoor
