/- The reference's Collided. -/
import Derived.Test.YthfenbdlolbikaaGreatDoorDMore
set_option linter.unusedVariables false
set_option linter.unusedSimpArgs false
namespace Go.Proofs.YthfenbdlolbikaaGreatDoor
open Go.RowKit Go.Shelf

theorem any_take_succ (l : List Bytes) (p : Bytes → Bool) (k : Nat) (h : k < l.length) : (l.take (k + 1)).any p = ((l.take k).any p || p (l.getD k [])) := by
  rw [take_getD l [] k h, List.any_append]
  simp
theorem any_hit (l : List Bytes) (p : Bytes → Bool) (k : Nat) (h : k < l.length) (hp : p (l.getD k []) = true) : l.any p = true :=
  List.any_eq_true.2 ⟨_, getD_mem' l [] k h, hp⟩
/-- Two strings collide. -/
def coll2 (x y : Bytes) : Bool := x != y && sha x == sha y
theorem meet_eq (a b : List Bytes) : meetB a b = a.any fun x => b.any (coll2 x) := rfl
set_option maxRecDepth 100000 in
set_option maxHeartbeats 2000000 in
theorem collided_any (va vb : Value) (la lb : List Bytes) (w : World) (hA : StrsAt w.heap.size w va la) (hB : StrsAt w.heap.size w vb lb) (hla : ∀ x ∈ la, x.length ≤ 1000000) (hlb : ∀ x ∈ lb, x.length ≤ 1000000) (hl : lb.length ≤ 1000000) :
    Calls Tryz.prog 63 #[va, vb] w fun e w' => e = .returned (.bool (meetB la lb)) ∧ Below w.heap.size w w' := by
  obtain ⟨a, c, rfl, hac, hcm⟩ := hA.shape
  obtain ⟨a', c', rfl, hac', hcm'⟩ := hB.shape
  unfold maxLen at hcm hcm'
  have HA := Lib.hid hA
  have HB := Lib.hid hB
  have HLa := Lib.hid hla
  have HLb := Lib.hid hlb
  clear hA hB hla hlb
  generalize hn : la.length = n at *
  have Hn := Lib.hid hn
  generalize hm : lb.length = m at *
  have Hm := Lib.hid hm
  clear hn hm
  go_enter Tryz.func63, Tryz.ntmps63
  go_wp2
  go_loopw [5, 6] (fun sv i wr => ∃ k : Nat, k ≤ m ∧ i = .int .i64 k ∧ OwnS w.heap.size wr sv ((lb.take k).map sha) ∧ Below w.heap.size w wr) (fun _ i _ => m - (intOf i).toNat)
  case atStart => exact ⟨0, Nat.zero_le _, rfl, OwnS.nil _ _, Below.refl _ _⟩
  case round =>
    obtain ⟨k, hk, rfl, hO, hW⟩ := hrel
    have hz := hW.size
    have HO := Lib.hid hO
    clear hO
    by_cases h1 : k < m
    · obtain ⟨b, off, rfl, hb, q1⟩ := HB.out.at k (by rw [Hm.out]; exact h1)
      have p1 := (hW.cell (p := ⟨b, off + k, none⟩) hb).trans q1
      have hyl := HLb.out _ (getD_mem' lb [] k (by rw [Hm.out]; exact h1))
      have HS1 : Hid ((lb.take (k + 1)).map sha = (lb.take k).map sha ++ [sha (lb.getD k [])]) := by
        show _ = _
        rw [take_getD lb [] k (by rw [Hm.out]; exact h1), List.map_append]
        rfl
      have hml : ((lb.take k).map sha).length = k := by rw [List.length_map, List.length_take, Hm.out]; omega
      have HSm := Lib.hid (fun W : World => refSum_any (bs (lb.getD k [])) W (by rw [bs_size]; omega))
      rw [bs_list] at HSm
      have HMl := Lib.hid hml
      generalize (lb.take k).map sha = sl at *
      generalize sha (lb.getD k []) = z at *
      generalize bs (lb.getD k []) = Y at *
      have HW := Lib.hid hW
      have kk1 : (k : Int) < (m : Int) := by omega
      have HLit := Lib.hid (fun (W : World) (h : w.heap.size ≤ W.heap.size) => ownS_lit W w.heap.size z h)
      clear q1 hml hW
      go_wp2_with fail
      refine (HSm.out _).mono ?_
      rintro e w2 ⟨rfl, hb2⟩
      have hz2 := hb2.size
      have hB2 := HW.out.trans (hb2.mono hz)
      have hO2 := HO.out.below hb2 (Nat.le_refl _)
      have HB2 := Lib.hid hB2
      have HO2 := Lib.hid hO2
      clear hb2 hB2 hO2
      go_wp2_with (at_builtin; refine append_SS rfl _ _ rfl w.heap.size w.heap.size u5 _ sl [z] rfl rfl (World.ownsRow.alloc HO2.out _) (HLit.out _ (by omega)) (by rw [HMl.out]; simp; omega) (by simp; omega) w (HB2.out.alloc (by omega) _) ?_; intro v5 w3 hO3 hg3 hb3; have HO3 := Lib.hid hO3; clear hO3)
      go_roundw
      case rel => exact ⟨k + 1, by omega, by go_num, by rw [HS1.out]; exact HO3.out, hb3⟩
      case measure => simp [intOf]; omega
    · obtain rfl : k = m := by omega
      have HSh := HO.out
      rw [List.take_of_length_le (by rw [Hm.out]; exact Nat.le_refl _)] at HSh
      obtain ⟨sa, sc, hsv, hsc1, hsc2⟩ := HSh.strs.shape
      rw [List.length_map, Hm.out] at hsv hsc1
      unfold maxLen at hsc2
      subst hsv
      have HO := Lib.hid HSh
      clear HSh
      have Hml : Hid ((lb.map sha).length = k) := by show _ = _; rw [List.length_map, Hm.out]
      go_wp2
      go_loopw [7] (fun i wr2 => ∃ j : Nat, j ≤ n ∧ i = .int .i64 j ∧ Hid (((la.take j).any fun x => lb.any (coll2 x)) = false) ∧ Hid (OwnS w.heap.size wr2 (.slice sa k sc) (lb.map sha)) ∧ Below w.heap.size w wr2) (fun i _ => n - (intOf i).toNat)
      case atStart => exact ⟨0, Nat.zero_le _, rfl, rfl, HO, hW⟩
      case round =>
        clear HO hW hz
        obtain ⟨j, hj, rfl, HC, HO, hW⟩ := hrel
        have hz := hW.size
        by_cases h2 : j < n
        · obtain ⟨b, off, rfl, hb, q1⟩ := HA.out.at j (by rw [Hn.out]; exact h2)
          have HQ1 := Lib.hid (fun (W : World) (hW : Below w.heap.size w W) => (hW.cell (p := ⟨b, off + j, none⟩) hb).trans q1)
          have p1 := HQ1.out _ hW
          have hxl := HLa.out _ (getD_mem' la [] j (by rw [Hn.out]; exact h2))
          have HSm := Lib.hid (fun W : World => refSum_any (bs (la.getD j [])) W (by rw [bs_size]; omega))
          rw [bs_list] at HSm
          have HC2 := Lib.hid (any_take_succ la (fun x => lb.any (coll2 x)) j (by rw [Hn.out]; exact h2))
          rw [HC.out, Bool.false_or] at HC2
          have HC3 := Lib.hid (any_hit la (fun x => lb.any (coll2 x)) j (by rw [Hn.out]; exact h2))
          generalize la.getD j [] = x at *
          have HW := Lib.hid hW
          have kk1 : (j : Int) < (n : Int) := by omega
          clear q1 hW HC
          go_wp2_with fail
          refine (HSm.out _).mono ?_
          rintro e w2 ⟨rfl, hb2⟩
          have hz2 := hb2.size
          have hB2 := HW.out.trans (hb2.mono hz)
          have HO2 := Lib.hid (HO.out.below hb2 (Nat.le_refl _))
          have HB2 := Lib.hid hB2
          clear hb2 hB2 HO HW p1
          go_wp2
          go_loopw [9] (fun i wr3 => ∃ l : Nat, l ≤ k ∧ i = .int .i64 l ∧ Hid ((lb.take l).any (coll2 x) = false) ∧ Hid (OwnS w.heap.size wr3 (.slice sa k sc) (lb.map sha)) ∧ Below w.heap.size w wr3) (fun i _ => k - (intOf i).toNat)
          case atStart => exact ⟨0, Nat.zero_le _, rfl, rfl, HO2, HB2.out⟩
          case round =>
            clear HO2 HB2 hz2 hz
            obtain ⟨l, hl', rfl, HD, HO, hW⟩ := hrel
            have hz := hW.size
            by_cases h3 : l < k
            · obtain ⟨b', off', rfl, hb', q2⟩ := HB.out.at l (by rw [Hm.out]; exact h3)
              obtain ⟨b3, off3, rfl, hb3, q3⟩ := HO.out.strs.at l (by rw [Hml.out]; exact h3)
              have p1 := HQ1.out _ hW
              have p2 := (hW.cell (p := ⟨b', off' + l, none⟩) hb').trans q2
              have hgd : (lb.map sha).getD l [] = sha (lb.getD l []) := by
                rw [List.getD_eq_getElem?_getD, List.getD_eq_getElem?_getD, List.getElem?_map, List.getElem?_eq_getElem (by rw [Hm.out]; exact h3)]
                rfl
              rw [hgd] at q3
              have HD2 := Lib.hid (any_take_succ lb (coll2 x) l (by rw [Hm.out]; exact h3))
              rw [HD.out, Bool.false_or] at HD2
              have HD3 := Lib.hid (any_hit lb (coll2 x) l (by rw [Hm.out]; exact h3))
              generalize lb.getD l [] = y at *
              have Hc : Hid (coll2 x y = (x != y && sha x == sha y)) := rfl
              have hc1 := bs_eq_list x y
              have hc2 := bs_eq_list (sha x) (sha y)
              generalize sha x = sx at *
              generalize sha y = sy at *
              have kk2 : (l : Int) < (k : Int) := by omega
              clear q2 hgd
              by_cases hxy : x = y
              · have HR : Hid ((lb.take (l + 1)).any (coll2 x) = false) := by
                  show _ = _
                  rw [HD2.out, Hc.out, hxy, show (y != y) = false from by simp]
                  rfl
                have hc3 : ((bs x).toList == (bs y).toList) = true := by rw [hc1, hxy]; exact beq_self_eq_true _
                clear hc1 hc2 HD2 HD3 hxy Hc
                generalize bs x = X at *
                generalize bs y = Y at *
                have hc4 : (X.toList != Y.toList) = false := by rw [bne, hc3]; rfl
                go_wp2
                go_quiet (fail)
                go_wp2
                go_roundw
                case rel => exact ⟨l + 1, by omega, by go_num, HR, Lib.hid (HO.out.below (below_drewN0 (Below.refl _ _) _) (Nat.le_refl _)), below_drewN0 hW _⟩
                case measure => simp [intOf]; omega
              · have hc3 : ((bs x).toList == (bs y).toList) = false := by rw [hc1]; exact beq_eq_false_iff_ne.2 hxy
                by_cases hss : sx = sy
                · have HF : Hid ((la.any fun x => lb.any (coll2 x)) = true) := by
                    show _ = _
                    exact HC3.out (HD3.out (by rw [Hc.out, hss]; simp [hxy]))
                  have hc6 : ((bs sx).toList == (bs sy).toList) = true := by rw [hc2, hss]; exact beq_self_eq_true _
                  clear hc1 hc2 HD2 HD3 hxy hss Hc
                  generalize bs x = X at *
                  generalize bs y = Y at *
                  generalize bs sx = SX at *
                  generalize bs sy = SY at *
                  have hc4 : (X.toList != Y.toList) = true := by rw [bne, hc3]; rfl
                  go_wp2
                  go_quiet (fail)
                  go_wp2
                  go_ret
                  exact ⟨by rw [meet_eq, HF.out]; rfl, below_drewN0 hW _⟩
                · have HR : Hid ((lb.take (l + 1)).any (coll2 x) = false) := by
                    show _ = _
                    rw [HD2.out, Hc.out, beq_eq_false_iff_ne.2 hss, Bool.and_false]
                  have hc6 : ((bs sx).toList == (bs sy).toList) = false := by rw [hc2]; exact beq_eq_false_iff_ne.2 hss
                  clear hc1 hc2 HD2 HD3 hxy hss Hc
                  generalize bs x = X at *
                  generalize bs y = Y at *
                  generalize bs sx = SX at *
                  generalize bs sy = SY at *
                  have hc4 : (X.toList != Y.toList) = true := by rw [bne, hc3]; rfl
                  go_wp2
                  go_quiet (fail)
                  go_wp2
                  go_roundw
                  case rel => exact ⟨l + 1, by omega, by go_num, HR, Lib.hid (HO.out.below (below_drewN0 (Below.refl _ _) _) (Nat.le_refl _)), below_drewN0 hW _⟩
                  case measure => simp [intOf]; omega
            · obtain rfl : l = k := by omega
              have HF : Hid (((la.take (j + 1)).any fun x => lb.any (coll2 x)) = false) := by
                have := HD.out
                rw [List.take_of_length_le (by rw [Hm.out]; exact Nat.le_refl _)] at this
                show _ = _
                rw [HC2.out]
                exact this
              go_wp2
              go_roundw
              case rel => exact ⟨j + 1, by omega, by go_num, HF, HO, hW⟩
              case measure => simp [intOf]; omega
        · obtain rfl : j = n := by omega
          have HF : Hid (meetB la lb = false) := by
            have := HC.out
            rw [List.take_of_length_le (by rw [Hn.out]; exact Nat.le_refl _)] at this
            exact this
          go_wp2
          go_ret
          exact ⟨by rw [HF.out]; rfl, hW⟩
end Go.Proofs.YthfenbdlolbikaaGreatDoor
