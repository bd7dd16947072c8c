/- JustifyRetracts returns true. -/
import Derived.Test.YtmihkbiihfhpoaaDoorJWhyP
import Derived.Outline
namespace Go.Proofs.YtmihkbiihfhpoaaDoor
open Go.RowKit Go.Shelf

def someOf (S : Nat) (l : List Int) : Bool := l.any fun z => subB z.toNat S
def allOf (S O : Nat) (l : List Int) : Bool := l.all fun z => !subB z.toNat S || z.toNat.testBit O
theorem some_ret {n d : Nat} {rs : List JRule} (G : Good n d rs) {S : Nat} (hS : S < 2 ^ n) (K : Nat) : someOf S (leastI n (suppP rs K)) = (hd rs S).testBit K := by
  have := hasOne_least G.p32 (supp_mono rs K) hS
  unfold hasOne at this
  unfold someOf
  rw [this]
  simp [suppP, bitB]
theorem all_ret {n d : Nat} {rs : List JRule} (G : Good n d rs) {S : Nat} (hS : S < 2 ^ n) (K O : Nat) : allOf S O (leastI n (suppP rs K)) = !(hd rs (sdiff S (2 ^ O))).testBit K := by
  have h1 := least_iff (supp_mono rs K) G.p32 (Nat.lt_of_le_of_lt (sdiff_le S (2 ^ O)) hS)
  rw [show suppP rs K (sdiff S (2 ^ O)) = (hd rs (sdiff S (2 ^ O))).testBit K from by simp [suppP, bitB]] at h1
  have key : ∀ u, SubS u (sdiff S (2 ^ O)) ↔ SubS u S ∧ u.testBit O = false := fun u => by
    constructor
    · intro h
      refine ⟨h.trans (sdiff_sub _ _), ?_⟩
      cases hb : u.testBit O
      · rfl
      · have := h O hb
        rw [sdiff_bit] at this
        simp at this
    · rintro ⟨h, hb⟩ i hi
      rw [sdiff_bit, h i hi]
      have : O ≠ i := fun e => by subst e; rw [hb] at hi; cases hi
      simp [this]
  unfold allOf
  cases hc : (hd rs (sdiff S (2 ^ O))).testBit K
  · rw [List.all_eq_true.2]
    · rfl
    · intro z hz
      obtain ⟨u, rfl, hu⟩ := leastI_mem.1 hz
      rw [Int.toNat_natCast]
      cases hs : subB u S
      · rfl
      · cases hb : u.testBit O
        · have := h1.2 ⟨u, hu, (key u).2 ⟨(subB_iff _ _).1 hs, hb⟩⟩
          rw [hc] at this
          cases this
        · rfl
  · obtain ⟨u, hu, hs⟩ := h1.1 hc
    obtain ⟨h2, h3⟩ := (key u).1 hs
    exact all_of_mem (leastI_mem.2 ⟨u, rfl, hu⟩) (by rw [Int.toNat_natCast, (subB_iff _ _).2 h2, h3]; rfl)
theorem add_or {a b : Nat} (h : a &&& b = 0) : a ||| b = a + b := by
  have h2 : a < 2 ^ (a + b + 1) := Nat.lt_of_lt_of_le (Nat.lt_two_pow_self) (Nat.pow_le_pow_right (by decide) (by omega))
  have h3 : b < 2 ^ (a + b + 1) := Nat.lt_of_lt_of_le (Nat.lt_two_pow_self) (Nat.pow_le_pow_right (by decide) (by omega))
  have h4 : a + b < 2 ^ (a + b + 1) := Nat.lt_of_lt_of_le (Nat.lt_two_pow_self) (Nat.pow_le_pow_right (by decide) (by omega))
  have key := BitVec.add_eq_or_of_and_eq_zero (BitVec.ofNat (a + b + 1) a) (BitVec.ofNat (a + b + 1) b) (by
    apply BitVec.eq_of_toNat_eq
    rw [BitVec.toNat_and, BitVec.toNat_ofNat, BitVec.toNat_ofNat, Nat.mod_eq_of_lt h2, Nat.mod_eq_of_lt h3, h]
    simp)
  have k2 := congrArg BitVec.toNat key
  rw [BitVec.toNat_add, BitVec.toNat_or, BitVec.toNat_ofNat, BitVec.toNat_ofNat, Nat.mod_eq_of_lt h2, Nat.mod_eq_of_lt h3, Nat.mod_eq_of_lt h4] at k2
  exact k2.symm
theorem less_set {S O : Nat} (h : S.testBit O = true) : (S : Int) - ((2 ^ O : Nat) : Int) = ((sdiff S (2 ^ O) : Nat) : Int) := by
  have e : S = sdiff S (2 ^ O) + 2 ^ O := by
    have h1 : sdiff S (2 ^ O) &&& 2 ^ O = 0 := by
      rw [and_zero_iff]
      intro i hi
      rw [sdiff_bit] at hi
      rw [Nat.testBit_two_pow]
      simp at hi
      simp [hi.2]
    have h2 : sdiff S (2 ^ O) ||| 2 ^ O = S := by
      apply Nat.eq_of_testBit_eq
      intro i
      rw [Nat.testBit_or, sdiff_bit, Nat.testBit_two_pow]
      by_cases hi : O = i
      · subst hi; simp [h]
      · simp [hi]
    rw [← add_or h1, h2]
  omega
theorem less_unset {S O : Nat} (h : S.testBit O = false) : sdiff S (2 ^ O) = S := by
  apply Nat.eq_of_testBit_eq
  intro i
  rw [sdiff_bit]
  by_cases hi : O = i
  · subst hi; simp [h]
  · simp [hi]
theorem lost_bit {H H' K : Nat} (h : H < 4294967296) : hasZ (listB (sdiff H H')) K = (H.testBit K && !H'.testBit K) := by
  rw [hasZ_list _ _ (Nat.lt_of_le_of_lt (sdiff_le H H') h), testBit_sdiff]
set_option maxRecDepth 100000 in
set_option maxHeartbeats 4000000 in
theorem lawRetracts (seen : Int) (drawn : Int) (v : Value) (N : Nat) (f : Nat → Nat → Int) (set : Int) (obs : Int) (thing : Int) (w : World) (hseenb : -9223372036854775808 ≤ seen ∧ seen ≤ 9223372036854775807) (hdrawnb : -9223372036854775808 ≤ drawn ∧ drawn ≤ 9223372036854775807) (hsetb : -9223372036854775808 ≤ set ∧ set ≤ 9223372036854775807) (hobsb : -9223372036854775808 ≤ obs ∧ obs ≤ 9223372036854775807) (hthingb : -9223372036854775808 ≤ thing ∧ thing ≤ 9223372036854775807) (hF : FourAt w.heap.size w v N f) (hT : Tabs w) :
    Calls Tryd.prog 6 #[.int .i64 seen, .int .i64 drawn, v, .int .i64 set, .int .i64 obs, .int .i64 thing] w fun e w' => e = .returned (.bool true) ∧ Below w.heap.size w w' := by
  obtain ⟨n, m, rs, hme, G⟩ := made_ex seen drawn N f
  have HF := Lib.hid hF
  have HT := Lib.hid hT
  have HMade := Lib.hid (fun (W : World) (h : FourAt W.heap.size W v N f) => made_good hme v W hseenb hdrawnb h)
  have HG := Lib.hid G
  obtain ⟨va, vc, hvs⟩ : ∃ a c, v = .slice a N c := by obtain ⟨⟨a, c, h, _⟩, _⟩ := hF; exact ⟨a, c, h⟩
  subst hvs
  have n1 := G.n1
  have n6 := G.n6
  have d1 := G.d1
  have d8 := G.d8
  have hpw := G.pow
  have hsh := shl_one n (by omega)
  have hp0 := G.p1
  have hp32 := G.p32
  clear hF hT hme
  obtain ⟨S, hS, hS2⟩ := G.pick set
  have HPS := Lib.hid (g_pick hsetb G.p1 G.p32 hS)
  clear hS
  obtain ⟨O, hO, hO2⟩ := pick_nat obs n1
  have HPO := Lib.hid (g_pick hobsb n1 (by omega) hO)
  clear hO
  obtain ⟨K, hK, hK2⟩ := pick_nat2 thing (b := m) n1
  have HPK := Lib.hid (g_pick2 (b := m) hthingb n1 (by omega) (by omega) hK)
  clear hK
  have hL2 : sdiff S (2 ^ O) < 2 ^ n := Nat.lt_of_le_of_lt (sdiff_le S (2 ^ O)) hS2
  have HHolds := Lib.hid (fun (W w0 : World) (T : Nat) (rv : Value) (h : LawI w0 T n m rs rv W) => g_holds G h hS2)
  have HRet := Lib.hid (fun (W w0 : World) (T : Nat) (rv : Value) (h : LawI w0 T n m rs rv W) => g_ret G h hS2 hO2)
  have HSupp := Lib.hid (fun (W w0 : World) (T : Nat) (rv : Value) (h : LawI w0 T n m rs rv W) => g_supp G h hK2)
  have HWhy := Lib.hid (fun (W w0 : World) (T : Nat) (rv : Value) (h : LawI w0 T n m rs rv W) => g_why G h hL2 hK2)
  have HChkL := Lib.hid (fun (W w0 : World) (T : Nat) (rv v : Value) (l : List Int) (h : LawI w0 T n m rs rv W) (hv : IntsAt W.heap.size W v l) => g_check G h hL2 hK2 hv)
  have HChkS := Lib.hid (fun (W w0 : World) (T : Nat) (rv v : Value) (l : List Int) (h : LawI w0 T n m rs rv W) (hv : IntsAt W.heap.size W v l) => g_check G h hS2 hK2 hv)
  have HBs := Lib.hid (leastI_bd n (suppP rs K) (by omega))
  have hls := leastI_length n (suppP rs K) (by omega)
  have HSome := Lib.hid (some_ret G hS2 K)
  have HAll := Lib.hid (all_ret G hS2 K O)
  have HHas := Lib.hid (hasZ_list (hd rs S) K (G.hd32 hS2))
  have HLost := Lib.hid (lost_bit (H := hd rs S) (H' := hd rs (sdiff S (2 ^ O))) (K := K) (G.hd32 hS2))
  have HMono : Hid ((hd rs (sdiff S (2 ^ O))).testBit K = true → (hd rs S).testBit K = true) := hd_mono (sdiff_sub _ _) K
  have HDer : Hid ((hd rs (sdiff S (2 ^ O))).testBit K = true → derivesB n rs (sdiff S (2 ^ O)) K (whyL ⟨n, m, rs⟩ (sdiff S (2 ^ O) : Nat) K) = true ∧ derivesB n rs S K (whyL ⟨n, m, rs⟩ (sdiff S (2 ^ O) : Nat) K) = true) := fun h => ⟨(why_ok G hL2 hK2 h).der, derives_mono (sdiff_sub _ _) (why_ok G hL2 hK2 h).der⟩
  have HshO := Lib.hid (shl_one O (by omega))
  have HLs := Lib.hid (fun h => less_set (S := S) (O := O) h)
  have HLu := Lib.hid (fun h => less_unset (S := S) (O := O) h)
  have HbS := Lib.hid (bit_eq1 S O)
  have HpS : Hid ((0 : Int) ≤ (S : Int) / 2 ^ O) := Int.ediv_nonneg (by omega) (Int.pow_nonneg (by omega))
  have hS4 : S < 4096 := Nat.lt_of_lt_of_le hS2 (Nat.le_trans hpw (by decide))
  have hLe := sdiff_le S (2 ^ O)
  clear G
  generalize hX : sdiff S (2 ^ O) = X at *
  clear hX
  generalize 2 ^ n = P at *
  generalize (2 : Nat) ^ O = PO at *
  generalize hl : leastI n (suppP rs K) = l at *
  clear hl
  go_enter Tryd.func6, Tryd.ntmps6
  go_wp2_with fail
  refine (sane_any _ HT.out).mono ?_
  rintro e w1 ⟨rfl, hb1⟩
  go_wp2_with fail
  refine (HMade.out _ ((HF.out.below hb1 (Nat.le_refl _)).mono hb1.size)).mono ?_
  rintro e w2 ⟨rv, rfl, hR2, hb2⟩
  obtain ⟨ra, rc, hrv, _, _⟩ := hR2.shape
  have LL := LawI.new (n := n) (d := m) HT.out (hb1.trans (hb2.mono hb1.size)) hR2
  subst hrv
  have hBw12 := hb1.trans (hb2.mono hb1.size)
  have k0 := LL.1.c0
  have k1 := LL.1.c1
  have k2 := LL.1.c2
  clear hR2 hb1 hb2
  go_wp2_with fail
  refine (HPS.out _).mono ?_
  rintro e w' ⟨rfl, rfl⟩
  go_wp2_with fail
  refine (HPO.out _).mono ?_
  rintro e w' ⟨rfl, rfl⟩
  go_wp2_with fail
  refine (HPK.out _).mono ?_
  rintro e w' ⟨rfl, rfl⟩
  go_wp2_with fail
  refine (HHolds.out _ _ _ _ LL).mono ?_
  rintro e w3 ⟨v3, rfl, hi3, hb3⟩
  obtain ⟨ha, hc, hs3, hc1, hc2⟩ := hi3.shape
  subst hs3
  replace LL := LL.below hb3
  replace k0 := LL.1.c0
  replace k1 := LL.1.c1
  replace k2 := LL.1.c2
  have Ih := Lib.hid hi3
  clear hi3
  clear hb3
  go_wp2_with fail
  refine (HRet.out _ _ _ _ LL).mono ?_
  rintro e w4 ⟨v4, rfl, hi4, hb4⟩
  obtain ⟨ra, rc, hs4, rc1, rc2⟩ := hi4.shape
  subst hs4
  replace LL := LL.below hb4
  replace k0 := LL.1.c0
  replace k1 := LL.1.c1
  replace k2 := LL.1.c2
  replace Ih := Lib.hid (Ih.out.later hb4 (Nat.le_refl _))
  have Ir := Lib.hid hi4
  clear hi4
  clear hb4
  go_wp2_with fail
  refine (HSupp.out _ _ _ _ LL).mono ?_
  rintro e w5 ⟨v5, rfl, hi5, hb5⟩
  obtain ⟨sa, sc, hs5, sc1, sc2⟩ := hi5.shape
  subst hs5
  replace LL := LL.below hb5
  replace k0 := LL.1.c0
  replace k1 := LL.1.c1
  replace k2 := LL.1.c2
  replace Ih := Lib.hid (Ih.out.later hb5 (Nat.le_refl _))
  replace Ir := Lib.hid (Ir.out.later hb5 (Nat.le_refl _))
  have Is := Lib.hid hi5
  clear hi5
  clear hb5
  go_wp2
  clear hsh
  unfold maxLen at sc2
  generalize hL : l.length = L at *
  have HL := Lib.hid hL
  clear hL
  go_loop [23, 24, 25] (fun sv av i => ∃ j : Nat, j ≤ L ∧ i = .int .i64 j ∧ sv = .bool (someOf S (l.take j)) ∧ av = .bool (allOf S O (l.take j))) (fun _ _ i => L - (intOf i).toNat)
  case atStart => exact ⟨0, Nat.zero_le _, rfl, rfl, rfl⟩
  case round =>
    obtain ⟨j, hj, rfl, rfl, rfl⟩ := hrel
    by_cases hlt : j < L
    · obtain ⟨bl, off, hae, hbl, hcl⟩ := Is.out.at j (by rw [HL.out]; exact hlt)
      subst hae
      have hzb := HBs.out _ (getD_mem l 0 j (by rw [HL.out]; exact hlt))
      have HA1 : Hid (someOf S (l.take (j + 1)) = (someOf S (l.take j) || subB (l.getD j 0).toNat S)) := any_take (fun z : Int => subB z.toNat S) 0 l j (by rw [HL.out]; exact hlt)
      have HA2 : Hid (allOf S O (l.take (j + 1)) = (allOf S O (l.take j) && (!subB (l.getD j 0).toNat S || (l.getD j 0).toNat.testBit O))) := all_take (fun z : Int => !subB z.toNat S || z.toNat.testBit O) 0 l j (by rw [HL.out]; exact hlt)
      obtain ⟨x, hx⟩ := Int.eq_ofNat_of_zero_le hzb.1
      rw [hx] at hcl hzb
      rw [hx, Int.toNat_natCast] at HA1 HA2
      have hx4 : x < 4096 := by omega
      have jj : (j : Int) < (L : Int) := by omega
      have HW := Lib.hid (fun W : World => within_any x S W (by omega) (by omega))
      have Hbx := Lib.hid (bit_eq1 x O)
      have Hpx : Hid ((0 : Int) ≤ (x : Int) / 2 ^ O) := Int.ediv_nonneg (by omega) (Int.pow_nonneg (by omega))
      clear hx
      generalize someOf S (l.take j) = sm at *
      generalize allOf S O (l.take j) = am at *
      cases hsb : subB x S
      · have HSB := Lib.hid hsb
        rw [hsb] at HA1 HA2
        clear hsb
        go_wp2_with (go_at_call 32; refine (HW.out _).mono ?_; rintro e w' ⟨rfl, rfl⟩; rw [HSB.out])
        go_round
        case rel => exact ⟨j + 1, by omega, by go_num, by rw [HA1.out]; simp, by rw [HA2.out]; simp⟩
        case measure => simp [intOf]; omega
      · have HSB := Lib.hid hsb
        rw [hsb] at HA1 HA2
        clear hsb
        have hbx := Hbx.out
        have hpx := Hpx.out
        generalize x.testBit O = xb at *
        cases am
        all_goals
          go_wp2_with (go_at_call 32; refine (HW.out _).mono ?_; rintro e w' ⟨rfl, rfl⟩; rw [HSB.out])
          clear hbx hpx
          go_round
          case rel => exact ⟨j + 1, by omega, by go_num, by rw [HA1.out]; simp, by rw [HA2.out]; simp⟩
          case measure => simp [intOf]; omega
    · obtain rfl : j = L := by omega
      rw [List.take_of_length_le (by rw [HL.out]; exact Nat.le_refl _), HSome.out, HAll.out]
      have hXp : X < P := hL2
      cases ha : (hd rs S).testBit K
      · have hb : (hd rs X).testBit K = false := by
          cases hb : (hd rs X).testBit K
          · rfl
          · rw [HMono.out hb] at ha; cases ha
        rw [ha] at HHas HLost HSome
        rw [hb] at HLost HAll HWhy
        clear ha hb
        cases hbit : S.testBit O
        all_goals
          have hbS := HbS.out
          have hpS := HpS.out
          have hshO := HshO.out
          rw [hbit] at hbS
          first | (have hun := HLu.out hbit; subst hun) | (have hse := HLs.out hbit)
          clear hbit
          go_wp2_with (first | (go_at_call 25; (with_reducible refine (contains_any _ _ _ _ Ir.out).mono ?_); rintro e w' ⟨rfl, rfl⟩; rw [HLost.out]) | (go_at_call 25; (with_reducible refine (contains_any _ _ _ _ Ih.out).mono ?_); rintro e w' ⟨rfl, rfl⟩; rw [HHas.out]))
          refine (HWhy.out _ _ _ _ LL).mono ?_
          rintro e w6 ⟨v6, rfl, hi6, hb6⟩
          obtain ⟨ya, yc, hys, _, _⟩ := hi6.shape
          subst hys
          have L6 := LL.below hb6
          have Ir6 := Lib.hid (Ir.out.later hb6 (Nat.le_refl _))
          have Ih6 := Lib.hid (Ih.out.later hb6 (Nat.le_refl _))
          go_wp2_with (first | (go_at_call 25; (with_reducible refine (contains_any _ _ _ _ Ir6.out).mono ?_); rintro e w' ⟨rfl, rfl⟩; rw [HLost.out]) | (go_at_call 25; (with_reducible refine (contains_any _ _ _ _ Ih6.out).mono ?_); rintro e w' ⟨rfl, rfl⟩; rw [HHas.out]))
          go_ret
          exact ⟨rfl, L6.2.2.2⟩
      · cases hb : (hd rs X).testBit K
        · rw [ha] at HHas HLost HSome
          rw [hb] at HLost HAll HWhy
          clear ha hb
          cases hbit : S.testBit O
          all_goals
            have hbS := HbS.out
            have hpS := HpS.out
            have hshO := HshO.out
            rw [hbit] at hbS
            first | (have hun := HLu.out hbit; subst hun) | (have hse := HLs.out hbit)
            clear hbit
            go_wp2_with (first | (go_at_call 25; (with_reducible refine (contains_any _ _ _ _ Ir.out).mono ?_); rintro e w' ⟨rfl, rfl⟩; rw [HLost.out]) | (go_at_call 25; (with_reducible refine (contains_any _ _ _ _ Ih.out).mono ?_); rintro e w' ⟨rfl, rfl⟩; rw [HHas.out]))
            refine (HWhy.out _ _ _ _ LL).mono ?_
            rintro e w6 ⟨v6, rfl, hi6, hb6⟩
            obtain ⟨ya, yc, hys, _, _⟩ := hi6.shape
            subst hys
            have L6 := LL.below hb6
            have Ir6 := Lib.hid (Ir.out.later hb6 (Nat.le_refl _))
            have Ih6 := Lib.hid (Ih.out.later hb6 (Nat.le_refl _))
            go_wp2_with (first | (go_at_call 25; (with_reducible refine (contains_any _ _ _ _ Ir6.out).mono ?_); rintro e w' ⟨rfl, rfl⟩; rw [HLost.out]) | (go_at_call 25; (with_reducible refine (contains_any _ _ _ _ Ih6.out).mono ?_); rintro e w' ⟨rfl, rfl⟩; rw [HHas.out]))
            go_ret
            exact ⟨rfl, L6.2.2.2⟩
        · obtain ⟨hd1, hd2⟩ := HDer.out hb
          rw [ha] at HHas HLost HSome
          rw [hb] at HLost HAll HWhy
          have HD1 := Lib.hid hd1
          have HD2 := Lib.hid hd2
          clear ha hb hd1 hd2
          cases hbit : S.testBit O
          all_goals
            have hbS := HbS.out
            have hpS := HpS.out
            have hshO := HshO.out
            rw [hbit] at hbS
            first | (have hun := HLu.out hbit; subst hun) | (have hse := HLs.out hbit)
            clear hbit
            go_wp2_with (first | (go_at_call 25; (with_reducible refine (contains_any _ _ _ _ Ir.out).mono ?_); rintro e w' ⟨rfl, rfl⟩; rw [HLost.out]) | (go_at_call 25; (with_reducible refine (contains_any _ _ _ _ Ih.out).mono ?_); rintro e w' ⟨rfl, rfl⟩; rw [HHas.out]))
            refine (HWhy.out _ _ _ _ LL).mono ?_
            rintro e w6 ⟨v6, rfl, hi6, hb6⟩
            obtain ⟨ya, yc, hys, _, _⟩ := hi6.shape
            subst hys
            have L6 := LL.below hb6
            have Ir6 := Lib.hid (Ir.out.later hb6 (Nat.le_refl _))
            have Ih6 := Lib.hid (Ih.out.later hb6 (Nat.le_refl _))
            have k60 := L6.1.c0
            have k61 := L6.1.c1
            have k62 := L6.1.c2
            go_wp2_with (first | (go_at_call 25; (with_reducible refine (contains_any _ _ _ _ Ir6.out).mono ?_); rintro e w' ⟨rfl, rfl⟩; rw [HLost.out]) | (go_at_call 25; (with_reducible refine (contains_any _ _ _ _ Ih6.out).mono ?_); rintro e w' ⟨rfl, rfl⟩; rw [HHas.out]))
            refine (HChkL.out _ _ _ _ _ _ L6 hi6).mono ?_
            rintro e w7 ⟨rfl, hb7⟩
            rw [HD1.out]
            have L7 := L6.below hb7
            have k70 := L7.1.c0
            have k71 := L7.1.c1
            have k72 := L7.1.c2
            go_wp2_with fail
            refine (HChkS.out _ _ _ _ _ _ L7 (hi6.later hb7 (Nat.le_refl _))).mono ?_
            rintro e w8 ⟨rfl, hb8⟩
            rw [HD2.out]
            go_wp2
            go_ret
            exact ⟨rfl, (L7.below hb8).2.2.2⟩
end Go.Proofs.YtmihkbiihfhpoaaDoor
