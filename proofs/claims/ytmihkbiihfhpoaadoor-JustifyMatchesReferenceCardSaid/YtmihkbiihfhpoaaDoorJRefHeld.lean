/- The reference's Thing, Set, fires, Held, Holds. -/
import Derived.Test.YtmihkbiihfhpoaaDoorJWhyP
namespace Go.Proofs.YtmihkbiihfhpoaaDoor
open Go.RowKit Go.Shelf

theorem add_or {a b : Nat} (h : a &&& b = 0) : a ||| b = a + b := by
  have h2 : a < 2 ^ (a + b + 1) := Nat.lt_of_lt_of_le (Nat.lt_two_pow_self) (Nat.pow_le_pow_right (by decide) (by omega))
  have h3 : b < 2 ^ (a + b + 1) := Nat.lt_of_lt_of_le (Nat.lt_two_pow_self) (Nat.pow_le_pow_right (by decide) (by omega))
  have h4 : a + b < 2 ^ (a + b + 1) := Nat.lt_of_lt_of_le (Nat.lt_two_pow_self) (Nat.pow_le_pow_right (by decide) (by omega))
  have key := BitVec.add_eq_or_of_and_eq_zero (BitVec.ofNat (a + b + 1) a) (BitVec.ofNat (a + b + 1) b) (by
    apply BitVec.eq_of_toNat_eq
    rw [BitVec.toNat_and, BitVec.toNat_ofNat, BitVec.toNat_ofNat, Nat.mod_eq_of_lt h2, Nat.mod_eq_of_lt h3, h]
    simp)
  have k2 := congrArg BitVec.toNat key
  rw [BitVec.toNat_add, BitVec.toNat_or, BitVec.toNat_ofNat, BitVec.toNat_ofNat, Nat.mod_eq_of_lt h2, Nat.mod_eq_of_lt h3, Nat.mod_eq_of_lt h4] at k2
  exact k2.symm
theorem add_bit {S g : Nat} (h : S.testBit g = false) : S + 2 ^ g = S ||| 2 ^ g := by
  refine (add_or ?_).symm
  rw [and_zero_iff]
  intro i hi
  rw [Nat.testBit_two_pow]
  apply decide_eq_false
  intro e
  subst e
  rw [h] at hi
  cases hi
theorem thingR_any (s d k : Int) (rv : Value) (w : World) (hs : 0 ≤ s ∧ s ≤ 12) (hd : 0 ≤ d ∧ d ≤ 20) (hrv : ∃ a l c, rv = .slice a l c) :
    Calls Tryd.prog 46 #[thV s d rv, .int .i64 k] w fun e w' => e = .returned (.bool (inB k 0 (s + d - 1))) ∧ Below w.heap.size w w' := by
  obtain ⟨a, l, c, rfl⟩ := hrv
  go_enter Tryd.func46, Tryd.ntmps46
  go_wp2_with (go_at_call 45; refine (refIn_any _ _ _ _).mono ?_; rintro e w' ⟨rfl, rfl⟩)
  go_ret
  exact ⟨rfl, (Below.refl _ _).alloc (Nat.le_refl _) _⟩
theorem setR_any (n : Nat) (d z : Int) (rv : Value) (w : World) (hn : n ≤ 12) (hrv : ∃ a l c, rv = .slice a l c) :
    Calls Tryd.prog 50 #[thV n d rv, .int .i64 z] w fun e w' => e = .returned (.bool (inB z 0 (((2 ^ n : Nat) : Int) - 1))) ∧ Below w.heap.size w w' := by
  obtain ⟨a, l, c, rfl⟩ := hrv
  have hsh := shl_one n (by omega)
  have h4 := all_lt hn
  generalize 2 ^ n = P at *
  go_enter Tryd.func50, Tryd.ntmps50
  go_wp2_with (go_at_call 45; refine (refIn_any _ _ _ _).mono ?_; rintro e w' ⟨rfl, rfl⟩)
  go_ret
  exact ⟨rfl, (Below.refl _ _).alloc (Nat.le_refl _) _⟩
set_option maxRecDepth 100000 in
set_option maxHeartbeats 400000 in
theorem fires_any (nv : Value) (g : Int) (l : List Int) (S : Nat) (w : World) (hN : IntsAt w.heap.size w nv l) (hl : ∀ z ∈ l, 0 ≤ z ∧ z < 32) (hS : S < 4294967296) :
    Calls Tryd.prog 60 #[ruleV nv g, .int .i64 S] w fun e w' => e = .returned (.bool (meetsB l S)) ∧ Below w.heap.size w w' := by
  obtain ⟨a, c, rfl, hlc, hcm⟩ := hN.shape
  unfold maxLen at hcm
  unfold ruleV
  have hb0 : Below w.heap.size w (w.alloc (.cells #[.slice a l.length c, .int .i64 g] 48)) := (Below.refl _ _).alloc (Nat.le_refl _) _
  have HI := Lib.hid (hN.below hb0 (Nat.le_refl _))
  have hbx := RBox.new w (.slice a l.length c) g
  have c0 := hbx.c0
  have HB0 := Lib.hid hb0
  have HLz := Lib.hid hl
  clear hN hb0 hbx hl
  generalize hm : l.length = m at *
  have Hm := Lib.hid hm
  clear hm
  go_enter Tryd.func60, Tryd.ntmps60
  go_wp2
  generalize w.alloc (.cells #[.slice a m c, .int .i64 g] 48) = W at *
  go_loop [5] (fun i => ∃ j : Nat, j ≤ m ∧ i = .int .i64 j ∧ Hid (meetsB (l.take j) S = true)) (fun i => m - (intOf i).toNat)
  case atStart => exact ⟨0, Nat.zero_le _, rfl, rfl⟩
  case round =>
    obtain ⟨j, hj, rfl, HF⟩ := hrel
    by_cases hlt : j < m
    · obtain ⟨b, off, hae, _, hcl⟩ := HI.out.at j (by rw [Hm.out]; exact hlt)
      subst hae
      have HS : Hid (meetsB (l.take (j + 1)) S = (meetsB (l.take j) S && bitB S (l.getD j 0))) := all_take (bitB S) 0 l j (by rw [Hm.out]; exact hlt)
      rw [HF.out, Bool.true_and] at HS
      have HM : Hid (l.getD j 0 ∈ l) := getD_mem _ _ _ (by rw [Hm.out]; exact hlt)
      have hzb := HLz.out _ HM.out
      have jj : (j : Int) < (m : Int) := by omega
      generalize l.getD j 0 = z at *
      obtain ⟨x, rfl⟩ := Int.eq_ofNat_of_zero_le hzb.1
      have HbB : Hid (bitB S (x : Int) = S.testBit x) := by show _ = _; simp [bitB]
      cases hb : S.testBit x
      · have HBt := Lib.hid hb
        clear hb
        go_wp2_with (go_at_call 54; refine (hasR_any _ _ _ (by omega) (by omega)).mono ?_; rintro e w2 ⟨rfl, rfl⟩; rw [HBt.out])
        go_ret
        exact ⟨ret_bool (all_of_mem (p := bitB S) HM.out (by rw [HbB.out, HBt.out])).symm, HB0.out⟩
      · have HBt := Lib.hid hb
        clear hb
        go_wp2_with (go_at_call 54; refine (hasR_any _ _ _ (by omega) (by omega)).mono ?_; rintro e w2 ⟨rfl, rfl⟩; rw [HBt.out])
        go_round
        case rel => exact ⟨j + 1, by omega, by go_num, by show _ = _; rw [HS.out, HbB.out, HBt.out]⟩
        case measure => simp [intOf]; omega
    · obtain rfl : j = m := by omega
      have HF2 : Hid (meetsB l S = true) := by show _ = _; have := HF.out; rwa [List.take_of_length_le (by rw [Hm.out]; exact Nat.le_refl _)] at this
      clear HF
      go_wp2
      go_ret
      exact ⟨ret_bool HF2.out.symm, HB0.out⟩

theorem sweepR_lt {S : Nat} {r : JRule} (hS : S < 4294967296) (hg : 0 ≤ r.gives ∧ r.gives < 32) : sweepR S r < 4294967296 := by
  unfold sweepR
  split
  · exact or_addB S _ hS hg.1 hg.2
  · exact hS
set_option maxRecDepth 100000 in
set_option maxHeartbeats 2000000 in
theorem heldRef_any (s : Int) (d : Nat) (rs : List JRule) (rv : Value) (S0 : Nat) (w : World) (hd20 : d ≤ 20) (hR : RulesAt w.heap.size w rv rs) (hG : GoodR rs) (hS : S0 < 4294967296) :
    Calls Tryd.prog 51 #[thV s d rv, .int .i64 S0] w fun e w' => e = .returned (.int .i64 (rounds rs (d + 1) S0 : Nat)) ∧ rounds rs (d + 1) S0 < 4294967296 ∧ Below w.heap.size w w' := by
  obtain ⟨ra, rc, rfl, hrc, hrm⟩ := hR.shape
  unfold maxLen at hrm
  have hb0 : Below w.heap.size w (w.alloc (.cells #[.int .i64 s, .int .i64 d, .slice ra rs.length rc] 25)) := (Below.refl _ _).alloc (Nat.le_refl _) _
  have HR := Lib.hid (hR.below hb0 (Nat.le_refl _))
  have HTb := Lib.hid (ThBox.new w s d (.slice ra rs.length rc))
  have HB0 := Lib.hid hb0
  have h40 := hG.1
  have HG := Lib.hid hG
  have hszW : w.heap.size + 1 ≤ (w.alloc (.cells #[.int .i64 s, .int .i64 d, .slice ra rs.length rc] 25)).heap.size := by simp
  clear hR hb0 hG
  generalize hm : rs.length = m at *
  have Hm := Lib.hid hm
  clear hm
  go_enter Tryd.func51, Tryd.ntmps51
  go_wp2
  generalize w.alloc (.cells #[.int .i64 s, .int .i64 d, .slice ra m rc] 25) = W at *
  go_loopw [5, 6] (fun tv rv wr => ∃ r S : Nat, r ≤ d + 1 ∧ rv = .int .i64 r ∧ tv = .int .i64 S ∧ S < 4294967296 ∧ Hid (rounds rs (d + 1) S0 = rounds rs (d + 1 - r) S) ∧ Below W.heap.size W wr) (fun _ rv _ => d + 1 - (intOf rv).toNat)
  case atStart => exact ⟨0, S0, Nat.zero_le _, rfl, rfl, hS, rfl, Below.refl _ _⟩
  case round =>
    obtain ⟨r, S, hr, rfl, rfl, hS', HRd, hB⟩ := hrel
    have k1 := (HTb.out.below hB (by omega)).c1
    by_cases hrd : r < d + 1
    · have HRd2 : Hid (rounds rs (d + 1) S0 = rounds rs (d + 1 - (r + 1)) (sweep rs S)) := by
        show _ = _
        rw [HRd.out, show d + 1 - r = (d + 1 - (r + 1)) + 1 from by omega]
        rfl
      clear HRd
      have d1 : decide ((r : Int) ≤ (d : Int)) = true := by simp; omega
      have d2 : decide (r ≤ d) = true := by simp; omega
      have d3 : (r : Int) ≤ (d : Int) := by omega
      go_wp2
      obtain ⟨wo, hwo⟩ : ∃ wo : World, wo = wr := ⟨_, rfl⟩
      rw [← hwo] at hB k1 ⊢
      clear hwo k1
      go_loopw [5, 7] (fun tv iv wy => ∃ j X : Nat, j ≤ m ∧ iv = .int .i64 j ∧ tv = .int .i64 X ∧ X < 4294967296 ∧ Hid (sweep rs S = (rs.drop j).foldl sweepR X) ∧ Below wo.heap.size wo wy) (fun _ iv _ => m - (intOf iv).toNat)
      case atStart => exact ⟨0, S, Nat.zero_le _, rfl, rfl, hS', rfl, Below.refl _ _⟩
      case round =>
        obtain ⟨j, X, hj, rfl, rfl, hX, HSw, hBy⟩ := hrel
        have hBw : Below W.heap.size W wr := hB.trans (hBy.mono hB.size)
        have hTy := HTb.out.below hBw (by omega)
        have k2 := hTy.c2
        by_cases hjm : j < m
        · obtain ⟨bl, off, nv, hae, hbl, c1, c2, c3⟩ := HR.out.at j (by rw [Hm.out]; exact hjm)
          subst hae
          have HMem : Hid (rs.getD j default ∈ rs) := getD_mem _ _ _ (by rw [Hm.out]; exact hjm)
          have hgood := HG.out.2 _ HMem.out
          have hdrop := drop_getD rs default j (by rw [Hm.out]; exact hjm)
          rw [hdrop, List.foldl_cons] at HSw
          have hlt2 := sweepR_lt (r := rs.getD j default) hX hgood.2
          have HX : Hid (sweepR X (rs.getD j default) = if meetsB (rs.getD j default).needs X && !bitB X (rs.getD j default).gives then addB X (rs.getD j default).gives else X) := rfl
          obtain ⟨na, nc, hnv, _, _⟩ := c3.shape
          subst hnv
          have HN := Lib.hid ((c3.below hBw (by omega)).mono (Nat.le_trans (by omega : w.heap.size ≤ W.heap.size) hBw.size))
          have e1 := (hBw.cell (p := ⟨bl, off + j * 2, none⟩) (by show bl < _; omega)).trans c1
          have e2 := (hBw.cell (p := ⟨bl, off + j * 2 + 1, none⟩) (by show bl < _; omega)).trans c2
          have jj : (j : Int) < (m : Int) := by omega
          clear c1 c2 c3 hdrop
          generalize rs.getD j default = rr at *
          obtain ⟨g, hg⟩ := Int.eq_ofNat_of_zero_le hgood.2.1
          have hg32 : g < 32 := by omega
          have HNd := Lib.hid hgood.1
          rw [hg] at e2 HX
          have HbB : Hid (bitB X (g : Int) = X.testBit g) := by show _ = _; simp [bitB]
          rw [HbB.out] at HX
          have He2 := Lib.hid e2
          clear hgood hg
          have hszy := hBw.size
          cases hme : meetsB rr.needs X
          · rw [hme, Bool.false_and] at HX
            have HXX : Hid (sweepR X rr = X) := HX
            have HMe := Lib.hid hme
            clear hme
            unfold ruleV at *
            go_wp2_with (go_at_call 60; refine (fires_any _ _ _ _ _ HN.out HNd.out hX).mono ?_; rintro e w2 ⟨rfl, hb2⟩; rw [HMe.out])
            go_roundw
            case rel => exact ⟨j + 1, X, by omega, by go_num, rfl, hX, by show _ = _; rw [HSw.out, HXX.out], hBy.trans (hb2.mono hBy.size)⟩
            case measure => simp [intOf]; omega
          · rw [hme, Bool.true_and] at HX
            have HMe := Lib.hid hme
            clear hme
            cases hbt : X.testBit g
            · rw [hbt] at HX
              have HXX : Hid (sweepR X rr = addB X (g : Int)) := HX
              have HBt := Lib.hid hbt
              have HAdd : Hid (addB X (g : Int) = X + 2 ^ g) := by show _ = _; rw [add_bit hbt]; simp [addB]
              rw [HXX.out, HAdd.out] at hlt2 HSw
              have hsh := shl_one g hg32
              clear hbt
              generalize (2 : Nat) ^ g = PG at *
              unfold ruleV at *
              have HSum : Hid (wrap64 ((X : Int) + wrap64 (2 ^ g)) = (X : Int) + (PG : Int)) := by show _ = _; rw [hsh]; clear hsh; exact IntWalk.wrap64_in _ ⟨by omega, by omega⟩
              clear hsh
              go_wp2_with (first | (go_at_call 60; refine (fires_any _ _ _ _ _ HN.out HNd.out hX).mono ?_; rintro e w2 ⟨rfl, hb2⟩; rw [HMe.out]; have hBw2 : Below W.heap.size W w2 := hBw.trans (hb2.mono hszy); have k22 := (HTb.out.below hBw2 (by omega)).c2; have e22 := (hb2.cell (p := ⟨bl, off + j * 2 + 1, none⟩) (by show bl < _; omega)).trans He2.out) | (go_at_call 54; refine (hasR_any _ _ _ (by omega) (by omega)).mono ?_; rintro e w3 ⟨rfl, rfl⟩; rw [HBt.out]))
              go_roundw
              case rel => exact ⟨j + 1, X + PG, by omega, by go_num, by (rw [HSum.out]; go_num), hlt2, HSw.out, hBy.trans (hb2.mono hBy.size)⟩
              case measure => simp [intOf]; omega
            · rw [hbt] at HX
              have HXX : Hid (sweepR X rr = X) := HX
              have HBt := Lib.hid hbt
              clear hbt
              unfold ruleV at *
              go_wp2_with (first | (go_at_call 60; refine (fires_any _ _ _ _ _ HN.out HNd.out hX).mono ?_; rintro e w2 ⟨rfl, hb2⟩; rw [HMe.out]; have hBw2 : Below W.heap.size W w2 := hBw.trans (hb2.mono hszy); have k22 := (HTb.out.below hBw2 (by omega)).c2; have e22 := (hb2.cell (p := ⟨bl, off + j * 2 + 1, none⟩) (by show bl < _; omega)).trans He2.out) | (go_at_call 54; refine (hasR_any _ _ _ (by omega) (by omega)).mono ?_; rintro e w3 ⟨rfl, rfl⟩; rw [HBt.out]))
              go_roundw
              case rel => exact ⟨j + 1, X, by omega, by go_num, rfl, hX, by show _ = _; rw [HSw.out, HXX.out], hBy.trans (hb2.mono hBy.size)⟩
              case measure => simp [intOf]; omega
        · obtain rfl : j = m := by omega
          have HSf : Hid (sweep rs S = X) := by show _ = _; rw [HSw.out, List.drop_eq_nil_of_le (by rw [Hm.out]; exact Nat.le_refl _)]; rfl
          go_wp2
          go_roundw
          case rel => exact ⟨r + 1, X, by omega, by go_num, rfl, hX, by show _ = _; rw [HRd2.out, HSf.out], hBw⟩
          case measure => simp [intOf]; omega
    · obtain rfl : r = d + 1 := by omega
      have HFin : Hid (rounds rs (d + 1) S0 = S) := by show _ = _; rw [HRd.out, Nat.sub_self]; rfl
      go_wp2
      go_ret
      exact ⟨by rw [HFin.out]; rfl, by rw [HFin.out]; exact hS', HB0.out.trans (hB.mono HB0.out.size)⟩
end Go.Proofs.YtmihkbiihfhpoaaDoor
