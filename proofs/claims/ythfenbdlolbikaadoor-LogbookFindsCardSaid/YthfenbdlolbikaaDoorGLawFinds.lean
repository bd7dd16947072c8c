import Derived.Test.YthfenbdlolbikaaDoorMMade
set_option linter.unusedVariables false
set_option linter.unusedSimpArgs false

/- LogbookFinds: the walk. -/
namespace Go.Proofs.YthfenbdlolbikaaDoor
open Go.RowKit Go.Shelf

theorem ownG_len {b : Nat} {W : World} {v : Value} {l : List LRec} (h : OwnG b W v l) : ∃ a c, v = .slice a l.length c ∧ l.length ≤ c ∧ c ≤ maxLen := h.shape
theorem made_len (o : Int) (N : Nat) (f : Nat → Nat → Int) : (madeBook o N f).recs.length ≤ 12 := by
  show (madeRecs f (min N 12)).length ≤ 12
  rw [madeRecs_length]
  omega
set_option maxRecDepth 100000 in
set_option maxHeartbeats 4000000 in
theorem lawFinds (o : Int) (xv : Value) (N : Nat) (f : Nat → Nat → Int) (kd sc : Int) (w : World) (ho : I64 o) (hk : I64 kd) (hs : I64 sc) (hX : FiveAt w.heap.size w xv N f) (hT : Rounds w) :
    Calls Tryd.prog 5 #[.int .i64 o, xv, .int .i64 kd, .int .i64 sc] w fun e w' => e = .returned (.bool true) ∧ Below w.heap.size w w' := by
  have HT := Lib.hid hT
  have HX := Lib.hid hX
  have hp1 := pickZ_bd kd 3 (by omega)
  have hp2 := pickZ_bd sc 450 (by omega)
  have HP1 := Lib.hid (fun W => gpick_any kd 3 W hk.1 hk.2 (by omega) (by omega))
  have HP2 := Lib.hid (fun W => gpick_any sc 450 W hs.1 hs.2 (by omega) (by omega))
  obtain ⟨⟨xa, xc, rfl, _, _, _⟩, _⟩ := hX
  generalize pickZ kd 3 = K at *
  generalize pickZ sc 450 = S at *
  have wk : IntKind.i64.wrap (1 + K) = 1 + K := IntWalk.i64_in _ (by omega)
  clear hT
  go_enter Tryd.func5, Tryd.ntmps5
  go_wp2_with fail
  refine (gsane_any w HT.out).mono ?_
  rintro e w1 ⟨rfl, hb1⟩
  have HX1 := Lib.hid (HX.out.later hb1)
  have HT1 := Lib.hid ((LiveP.start HT.out).step hb1)
  clear hb1
  go_wp2_with fail
  refine (made_any o _ N f w1 ho HX1.out).mono ?_
  rintro e w2 ⟨rv, rfl, hO, hb2⟩
  have hv := made_ok o N f
  have hml := made_len o N f
  generalize madeBook o N f = bk at *
  obtain ⟨O, l⟩ := bk
  simp only at hO hml ⊢
  have HF : Hid (findB ⟨O, l⟩ (1 + K) S = findDn l (1 + K) S l.length) := if_pos hv
  obtain ⟨ra, rc, hrv, hrc1, hrc2⟩ := hO.shape
  subst hrv
  have hL := (((HT1.out.step hb2).add (keep_recs hO.recs)).alloc (.cells #[.int .i64 O, .slice ra l.length rc] 25)).add (keep_book (logBox_new w2 O (.slice ra l.length rc)))
  obtain ⟨B, hB⟩ : ∃ B, B = w2.heap.size := ⟨_, rfl⟩
  rw [← hB] at hL
  have hbk := show BookN B O (.slice ra l.length rc) _ from hL.get (by simp)
  rw [hB] at hbk
  have q0 := hbk.c0
  have q1 := hbk.c1
  have HL := Lib.hid hL
  clear hL hb2 hO hbk hv
  generalize hm : l.length = m at *
  have HM := Lib.hid hm
  clear hm
  go_wp2_with fail
  refine (HP1.out _).mono ?_
  rintro e w' ⟨rfl, rfl⟩
  go_wp2_with fail
  refine (HP2.out _).mono ?_
  rintro e w' ⟨rfl, rfl⟩
  go_wp2_with fail
  refine (find_any O _ l (1 + K) S _ (show RecsN _ _ _ from HL.out.get (by simp)) (by rw [HM.out]; omega) HL.out.rounds.lt).mono ?_
  rintro e w3 ⟨rfl, hb3⟩
  have hL := HL.out.step hb3
  have hbk := show BookN B O (.slice ra m rc) _ from hL.get (by simp)
  have hrc := show RecsN (.slice ra m rc) l w3 from hL.get (by simp)
  rw [hB] at hbk
  rw [HF.out]
  have hsp := findDn_spec l (1 + K) S m
  clear q0 q1 hb3
  have q0 := hbk.c0
  have q1 := hbk.c1
  have HBl := Lib.hid hL.below
  have HRc := Lib.hid (show RecsAt w3.heap.size w3 (.slice ra m rc) l from hrc)
  clear hbk hL hrc HL hB
  rcases hsp with ⟨h1, h2⟩ | ⟨n, h1, h2, h3, h4⟩
  · have HHit : Hid (∀ i, 0 ≤ i → i < m → hitB l (1 + K) S i = false) := fun i _ hi => h2 i hi
    rw [h1]
    clear h1 h2
    go_wp2
    go_loopw [13] (fun i wr => ∃ j : Nat, 0 ≤ j ∧ j ≤ m ∧ i = .int .i64 j ∧ wr = w3) (fun i _ => m - (intOf i).toNat)
    case atStart => exact ⟨0, Nat.le_refl _, by omega, by go_num, rfl⟩
    case round =>
      obtain ⟨j, hj1, hj2, rfl, rfl⟩ := hrel
      by_cases hjm : j < m
      · have jj : (j : Int) < (m : Int) := by omega
        have j0 : 0 ≤ (j : Int) := by omega
        obtain ⟨b, off, hae, hb, hat⟩ := HRc.out.at j (by rw [HM.out]; exact hjm)
        subst hae
        have hh := HHit.out j hj1 hjm
        unfold hitB at hh
        obtain ⟨c0, c1, _, _, _⟩ := hat
        generalize (l.getD j default).sec = sx at *
        generalize (l.getD j default).kind = kx at *
        by_cases hkx : kx = 1 + K
        · have d1 : (kx == 1 + K) = true := by simp [hkx]
          have d2 : decide (sx ≤ S) = false := by rw [decide_eq_true hkx, Bool.true_and] at hh; exact hh
          clear hh
          subst hkx
          have d3 : ¬ (sx ≤ S) := of_decide_eq_false d2
          go_wp2
          go_roundw
          case rel => exact ⟨j + 1, by omega, by omega, by go_num, by trivial⟩
          case measure => simp [intOf]; omega
        · have d1 : (kx == 1 + K) = false := by simp [hkx]
          clear hh
          go_wp2
          go_roundw
          case rel => exact ⟨j + 1, by omega, by omega, by go_num, by trivial⟩
          case measure => simp [intOf]; omega
      · obtain rfl : j = m := by omega
        go_wp2
        go_ret
        exact ⟨rfl, HBl.out⟩
  · have HHit : Hid (∀ i, n + 1 ≤ i → i < m → hitB l (1 + K) S i = false) := fun i hi1 hi2 => h4 i (by omega) hi2
    rw [h2]
    clear h2 h4
    have nn : (n : Int) < (m : Int) := by omega
    have n0 : 0 ≤ (n : Int) := by omega
    obtain ⟨b, off, hae, hb, hat⟩ := HRc.out.at n (by rw [HM.out]; exact h1)
    subst hae
    unfold hitB at h3
    rw [Bool.and_eq_true, decide_eq_true_eq, decide_eq_true_eq] at h3
    obtain ⟨c0, c1, _, _, _⟩ := hat
    generalize (l.getD n default).sec = sx at *
    generalize (l.getD n default).kind = kx at *
    obtain ⟨rfl, h3⟩ := h3
    have d1 : (1 + K != 1 + K) = false := by simp
    have d2 : decide (S < sx) = false := by simp; omega
    go_wp2
    clear c0 c1 d1 d2
    go_loopw [13] (fun i wr => ∃ j : Nat, n + 1 ≤ j ∧ j ≤ m ∧ i = .int .i64 j ∧ wr = w3) (fun i _ => m - (intOf i).toNat)
    case atStart => exact ⟨n + 1, Nat.le_refl _, by omega, by go_num, rfl⟩
    case round =>
      obtain ⟨j, hj1, hj2, rfl, rfl⟩ := hrel
      by_cases hjm : j < m
      · have jj : (j : Int) < (m : Int) := by omega
        have j0 : 0 ≤ (j : Int) := by omega
        obtain ⟨b2, off2, hae, hb2, hat⟩ := HRc.out.at j (by rw [HM.out]; exact hjm)
        cases hae
        have hh := HHit.out j hj1 hjm
        unfold hitB at hh
        obtain ⟨c0, c1, _, _, _⟩ := hat
        generalize (l.getD j default).sec = sx at *
        generalize (l.getD j default).kind = kx at *
        by_cases hkx : kx = 1 + K
        · have d1 : (kx == 1 + K) = true := by simp [hkx]
          have d2 : decide (sx ≤ S) = false := by rw [decide_eq_true hkx, Bool.true_and] at hh; exact hh
          clear hh
          subst hkx
          have d3 : ¬ (sx ≤ S) := of_decide_eq_false d2
          go_wp2
          go_roundw
          case rel => exact ⟨j + 1, by omega, by omega, by go_num, by trivial⟩
          case measure => simp [intOf]; omega
        · have d1 : (kx == 1 + K) = false := by simp [hkx]
          clear hh
          go_wp2
          go_roundw
          case rel => exact ⟨j + 1, by omega, by omega, by go_num, by trivial⟩
          case measure => simp [intOf]; omega
      · obtain rfl : j = m := by omega
        go_wp2
        go_ret
        exact ⟨rfl, HBl.out⟩
end Go.Proofs.YthfenbdlolbikaaDoor
