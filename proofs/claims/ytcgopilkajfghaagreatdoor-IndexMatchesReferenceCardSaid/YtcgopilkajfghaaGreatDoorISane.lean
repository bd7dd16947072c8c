/- sane of the statements on indices returns true. -/
import Derived.Test.YtcgopilkajfghaaGreatDoorITag
import Derived.Test.YtcgopilkajfghaaGreatDoorISaneP
set_option linter.unusedVariables false
set_option linter.unusedSimpArgs false
namespace Go.Proofs.YtcgopilkajfghaaGreatDoor
open Go.RowKit Go.Shelf

set_option maxRecDepth 100000 in
set_option maxHeartbeats 2000000 in
theorem iexample_any (w : World) :
    Calls Tryz.prog 35 #[] w fun e w' => ∃ g, e = .returned (.slice (some ⟨g, 0, none⟩) 3 3) ∧ OwnK cardK w.heap.size w' (.slice (some ⟨g, 0, none⟩) 3 3) [ex5, ex3, ex9] ∧ Below w.heap.size w w' := by
  have HO : Hid (OwnK cardK w.heap.size (w.alloc (.cells #[.int .i64 5, .int .i64 1, .int .i64 0, .int .i64 1200, .int .i64 1300, .int .i64 3, .int .i64 2, .int .i64 0, .int .i64 1250, .int .i64 1400, .int .i64 9, .int .i64 1, .int .i64 0, .int .i64 1200, .int .i64 1250] 35)) (.slice (some ⟨w.heap.size, 0, none⟩) 3 3) [ex5, ex3, ex9]) := ownK_lit cardOk w [ex5, ex3, ex9] #[.int .i64 5, .int .i64 1, .int .i64 0, .int .i64 1200, .int .i64 1300, .int .i64 3, .int .i64 2, .int .i64 0, .int .i64 1250, .int .i64 1400, .int .i64 9, .int .i64 1, .int .i64 0, .int .i64 1200, .int .i64 1250] rfl (by decide)
  have HB : Hid (Below w.heap.size w (w.alloc (.cells #[.int .i64 5, .int .i64 1, .int .i64 0, .int .i64 1200, .int .i64 1300, .int .i64 3, .int .i64 2, .int .i64 0, .int .i64 1250, .int .i64 1400, .int .i64 9, .int .i64 1, .int .i64 0, .int .i64 1200, .int .i64 1250] 35))) := (Below.refl _ _).alloc (Nat.le_refl _) _
  go_enter Tryz.func35, Tryz.ntmps35
  go_wp2
  go_ret
  exact ⟨_, rfl, HO.out, HB.out⟩
def exR : List ICard := [ex5, ex3, ex9]
theorem exR_get : ∀ k, k < 3 → exR[k]? = some (exC k)
  | 0, _ => rfl
  | 1, _ => rfl
  | 2, _ => rfl
theorem exC_in : ∀ k, k < 3 → inI (exC k).id
  | 0, _ => by unfold inI; decide
  | 1, _ => by unfold inI; decide
  | 2, _ => by unfold inI; decide
set_option maxRecDepth 100000 in
set_option maxHeartbeats 16000000 in
theorem isane_any (w : World) (hT : Rounds w) :
    Calls Tryz.prog 4 #[] w fun e w' => e = .returned (.bool true) ∧ Below w.heap.size w w' := by
  have HT := Lib.hid hT
  clear hT
  obtain ⟨q0, q1, q2, q3, q4, q5, q6, q7, q8, q9, q10, q11, q12, q13, q14⟩ := ex_all
  have E0 := Lib.hid q0
  have E1 := Lib.hid q1
  have E2 := Lib.hid q2
  have E3 := Lib.hid q3
  have E4 := Lib.hid q4
  have E5 := Lib.hid q5
  have E6 := Lib.hid q6
  have E7 := Lib.hid q7
  have E8 := Lib.hid q8
  have E9 := Lib.hid q9
  have E10 := Lib.hid q10
  have E11 := Lib.hid q11
  have E12 := Lib.hid q12
  have E13 := Lib.hid q13
  have E14 := Lib.hid q14
  clear q0 q1 q2 q3 q4 q5 q6 q7 q8 q9 q10 q11 q12 q13 q14
  go_enter Tryz.func4, Tryz.ntmps4
  go_wp2_with fail
  refine (new_any _).mono ?_
  rintro e w1 ⟨S0, X, rfl, hN, hb, hS⟩
  have HN0 := Lib.hid hN
  have HB0 := Lib.hid hb
  have HS0 := Lib.hid hS
  clear hN hb hS
  go_wp2_with fail
  refine (iexample_any _).mono ?_
  rintro e w2 ⟨g, rfl, ho, hb⟩
  have hlt := World.ownsRow.lt ho g rfl
  have HN2 : Hid (IdxN S0 X (exF 0) w2) := HN0.out.below hb
  have HR2 : Hid (RowsAt cardK w2.heap.size w2 (.slice (some ⟨g, 0, none⟩) 3 3) exR) := ho.rows cardOk
  have HG2 : Hid (¬ S0 g ∧ g < w2.heap.size) := ⟨fun h => Nat.lt_irrefl _ (Nat.lt_of_lt_of_le (HN0.out.lt g h) hlt.1), hlt.2⟩
  have HB2 : Hid (Below w.heap.size w w2) := HB0.out.trans (hb.mono HB0.out.size)
  clear ho hb hlt HN0 HB0
  go_wp2
  go_loopw [3] (fun i wr => ∃ (k : Nat) (S : Nat → Prop), k ≤ 3 ∧ i = .int .i64 k ∧ Hid (IdxN S X (exF k) wr) ∧ Hid (RowsAt cardK wr.heap.size wr (.slice (some ⟨g, 0, none⟩) 3 3) exR) ∧ Hid (¬ S g ∧ g < wr.heap.size) ∧ Hid (∀ j, S j → w.heap.size ≤ j) ∧ Hid (Below w.heap.size w wr)) (fun i _ => 3 - (intOf i).toNat)
  case atStart => exact ⟨0, S0, Nat.zero_le _, rfl, HN2, HR2, HG2, HS0, HB2⟩
  case round =>
    obtain ⟨k, S, hk, rfl, HN, HR, HG, HS, HB⟩ := hrel
    have k0 : 0 ≤ (k : Int) := by omega
    by_cases h1 : k < 3
    · have k1 : (k : Int) < 3 := by omega
      obtain ⟨gb, off, hae, hgb, p0, p1, p2, p3, p4⟩ := cards_at HR.out k (exC k) (exR_get k h1)
      cases hae
      rw [Nat.zero_add] at p0 p1 p2 p3 p4
      have HP := Lib.hid (ex_put k h1)
      have HI := Lib.hid (exC_in k h1)
      generalize exC k = c at *
      go_wp2_with fail
      clear p0 p1 p2 p3 p4
      refine (put_any c _ HN.out HI.out).mono ?_
      rintro e w5 ⟨rfl, S', hi5, ht5, hs5⟩
      rw [HP.out] at hi5 ⊢
      simp only at hi5 ⊢
      have HI5 := Lib.hid hi5
      have HB5 : Hid (Below w.heap.size w w5) := HB.out.trans (ht5.below HB.out.size HS.out)
      have HR5 : Hid (RowsAt cardK w5.heap.size w5 (.slice (some ⟨g, 0, none⟩) 3 3) exR) := (HR.out.turnO ht5 (Nat.le_refl _) (fun g' hg => by cases hg; exact HG.out.1)).mono ht5.size
      have HG5 : Hid (¬ S' g ∧ g < w5.heap.size) := ⟨fun h => by
        rcases hs5 g h with h | h
        · exact HG.out.1 h
        · exact Nat.lt_irrefl _ (Nat.lt_of_lt_of_le HG.out.2 h), Nat.lt_of_lt_of_le HG.out.2 ht5.size⟩
      have HS5 : Hid (∀ j, S' j → w.heap.size ≤ j) := fun j hj => by
        rcases hs5 j hj with h | h
        · exact HS.out j h
        · exact Nat.le_trans HB.out.size h
      clear hi5 ht5 hs5 HN HB HR HG HS
      go_wp2
      go_roundw
      case rel => exact ⟨k + 1, S', by omega, by go_num, HI5, HR5, HG5, HS5, HB5⟩
      case measure => simp [intOf]; omega
    · obtain rfl : k = 3 := by omega
      have HN3 : Hid (IdxN S X exL wr) := HN.out
      clear HN
      go_wp2_with fail
      refine (rank_any 5 _ HN3.out (by unfold inI; decide)).mono ?_
      rintro e w3 ⟨rfl, hb⟩
      rw [E0.out]
      simp only
      have HN4 := Lib.hid (HN3.out.below hb)
      have HR4 := Lib.hid (HR.out.later hb (Nat.le_refl _))
      have HG4 : Hid (¬ S g ∧ g < w3.heap.size) := ⟨HG.out.1, Nat.lt_of_lt_of_le HG.out.2 hb.size⟩
      have HB4 : Hid (Below w.heap.size w w3) := HB.out.trans (hb.mono HB.out.size)
      clear hb HN3 HR HG HB
      go_wp2_with fail
      refine (kth_any 2 _ HN4.out).mono ?_
      rintro e w' ⟨rfl, rfl⟩
      rw [E1.out]
      simp only
      go_wp2_with fail
      refine (rank_any 4 _ HN4.out (by unfold inI; decide)).mono ?_
      rintro e w4 ⟨rfl, hb⟩
      rw [E2.out]
      simp only
      have HN5 := Lib.hid (HN4.out.below hb)
      have HR5 := Lib.hid (HR4.out.later hb (Nat.le_refl _))
      have HG5 : Hid (¬ S g ∧ g < w4.heap.size) := ⟨HG4.out.1, Nat.lt_of_lt_of_le HG4.out.2 hb.size⟩
      have HB5 : Hid (Below w.heap.size w w4) := HB4.out.trans (hb.mono HB4.out.size)
      clear hb HN4 HR4 HG4 HB4
      go_wp2_with fail
      refine (kth_any 3 _ HN5.out).mono ?_
      rintro e w' ⟨rfl, rfl⟩
      rw [E3.out]
      simp only
      obtain ⟨gb, off, hae, hgb, p0, p1, p2, p3, p4⟩ := cards_at HR5.out 0 ex5 rfl
      cases hae
      go_wp2_with fail
      clear p0 p1 p2 p3 p4
      refine (put_any ex5 _ HN5.out (by unfold inI; decide)).mono ?_
      rintro e w5 ⟨rfl, S', hi5, ht5, hs5⟩
      rw [E4.out] at hi5 ⊢
      simp only at hi5 ⊢
      have HN6 := Lib.hid hi5
      have HB6 : Hid (Below w.heap.size w w5) := HB5.out.trans (ht5.below HB5.out.size HS.out)
      have HR6 : Hid (RowsAt cardK w5.heap.size w5 (.slice (some ⟨g, 0, none⟩) 3 3) exR) := (HR5.out.turnO ht5 (Nat.le_refl _) (fun g' hg => by cases hg; exact HG5.out.1)).mono ht5.size
      have HG6 : Hid (¬ S' g ∧ g < w5.heap.size) := ⟨fun h => by
        rcases hs5 g h with h | h
        · exact HG5.out.1 h
        · exact Nat.lt_irrefl _ (Nat.lt_of_lt_of_le HG5.out.2 h), Nat.lt_of_lt_of_le HG5.out.2 ht5.size⟩
      have HS6 : Hid (∀ j, S' j → w.heap.size ≤ j) := fun j hj => by
        rcases hs5 j hj with h | h
        · exact HS.out j h
        · exact Nat.le_trans HB5.out.size h
      clear hi5 ht5 hs5 HN5 HB5 HR5 HG5 HS hgb
      go_wp2_with fail
      refine (drop_any 4 _ HN6.out (by unfold inI; decide)).mono ?_
      rintro e w6 ⟨rfl, S2, hi5, ht5, hs5⟩
      rw [E5.out] at hi5 ⊢
      simp only at hi5 ⊢
      have hB7 : Below w.heap.size w w6 := HB6.out.trans (ht5.below HB6.out.size HS6.out)
      have hR7 : RowsAt cardK w6.heap.size w6 (.slice (some ⟨g, 0, none⟩) 3 3) exR := (HR6.out.turnO ht5 (Nat.le_refl _) (fun g' hg => by cases hg; exact HG6.out.1)).mono ht5.size
      have HL7 := Lib.hid ((((LiveP.start HT.out).go hB7).add (keep_idx hi5)).add (keep_rows hR7))
      clear hi5 ht5 hs5 hB7 hR7 HN6 HB6 HR6 HG6 HS6
      obtain ⟨gb, off, hae, hgb, p0, p1, p2, p3, p4⟩ := cards_at (show RowsAt cardK _ _ _ _ from (show (RowsN cardK (.slice (some ⟨g, 0, none⟩) 3 3) exR) _ from HL7.out.get (by simp))) 0 ex5 rfl
      cases hae
      go_wp2_with fail
      clear p0 p1 p2 p3 p4 hgb
      refine (put_nil ex5 _).mono ?_
      rintro e w8 ⟨rfl, hb⟩
      have HL8 := Lib.hid (HL7.out.step hb)
      clear hb HL7
      go_wp2_with fail
      refine (rank_nil 5 _).mono ?_
      rintro e w9 ⟨rfl, hb⟩
      have HL9 := Lib.hid (HL8.out.step hb)
      clear hb HL8
      go_wp2_with fail
      refine (kth_nil 0 _).mono ?_
      rintro e w10 ⟨rfl, hb⟩
      have HL10 := Lib.hid (HL9.out.step hb)
      clear hb HL9
      go_wp2_with fail
      refine (drop_nil 5 _).mono ?_
      rintro e w11 ⟨rfl, hb⟩
      have HL11 := Lib.hid (HL10.out.step hb)
      clear hb HL10
      go_wp2_with fail
      refine (count_nil 5 _).mono ?_
      rintro e w12 ⟨rfl, hb⟩
      have HL12 := Lib.hid (HL11.out.step hb)
      clear hb HL11
      have hqz : ∀ W, (binOp .neq 60 (levV ⟨0, 0, 0⟩) (.agg #[.int .i64 0, .int .i64 0, .int .i64 0])).run Tryz.prog W = .ok (.bool false) W := fun W => (run_neqLev ⟨0, 0, 0⟩ ⟨0, 0, 0⟩ W).trans (by simp)
      go_wp2_with fail
      refine (busiest_nil _).mono ?_
      rintro e w13 ⟨rfl, hb⟩
      have HL13 := Lib.hid (HL12.out.step hb)
      clear hb HL12
      go_wp2_with fail
      clear hqz
      refine (cards_nil _).mono ?_
      rintro e w14 ⟨rfl, hb⟩
      have HL14 := Lib.hid (HL13.out.step hb)
      clear hb HL13
      go_wp2_with fail
      refine (profile_nil _).mono ?_
      rintro e w' ⟨rfl, rfl⟩
      go_wp2_with fail
      refine (during_nil 0 5 _).mono ?_
      rintro e w15 ⟨rfl, hb⟩
      have HL15 := Lib.hid (HL14.out.step hb)
      clear hb HL14
      go_wp2_with fail
      refine (about_nil 1 0 5 _).mono ?_
      rintro e w16 ⟨rfl, hb⟩
      have HL16 := Lib.hid (HL15.out.step hb)
      clear hb HL15
      obtain ⟨V, hV⟩ : ∃ V, V = w16.alloc (.cells #[.int .i64 0, .int .i64 1200, .int .i64 0, .int .i64 1200, .int .i64 1300, .int .i64 2, .int .i64 1300, .int .i64 1400, .int .i64 1, .int .i64 1400, .int .i64 2100, .int .i64 0] 60) := ⟨_, rfl⟩
      have hoV : OwnK levK w16.heap.size V (.slice (some ⟨w16.heap.size, 0, none⟩) 4 4) exV := by rw [hV]; exact ownK_lit levKOk w16 exV #[.int .i64 0, .int .i64 1200, .int .i64 0, .int .i64 1200, .int .i64 1300, .int .i64 2, .int .i64 1300, .int .i64 1400, .int .i64 1, .int .i64 1400, .int .i64 2100, .int .i64 0] rfl (by decide)
      have hLV := HL16.out.alloc (.cells #[.int .i64 0, .int .i64 1200, .int .i64 0, .int .i64 1200, .int .i64 1300, .int .i64 2, .int .i64 1300, .int .i64 1400, .int .i64 1, .int .i64 1400, .int .i64 2100, .int .i64 0] 60)
      rw [← hV] at hLV
      have HLV := Lib.hid (hLV.add (keep_rows (hoV.rows levKOk)))
      have HVe := Lib.hid hV
      clear hLV hoV hV
      clear HL16
      go_wp2
      rw [← HVe.out]
      have HQ : Hid (∀ W, V.grownBy W none → CardAt W g (0 + 2 * 5) ex9 ∧ CardAt W g (0 + 0 * 5) ex5 ∧ CardAt W g (0 + 1 * 5) ex3 ∧ IdxN S2 X exL W) := fun W hW => by
        have hL := HLV.out.step (grown_below hW)
        have hr : RowsAt cardK _ _ _ _ := (show (RowsN cardK (.slice (some ⟨g, 0, none⟩) 3 3) exR) _ from hL.get (by simp))
        obtain ⟨b0, o0, e0, _, c0⟩ := cards_at hr 0 ex5 rfl
        obtain ⟨b1, o1, e1, _, c1⟩ := cards_at hr 1 ex3 rfl
        obtain ⟨b2, o2, e2, _, c2⟩ := cards_at hr 2 ex9 rfl
        cases e0
        cases e1
        cases e2
        exact ⟨c2, c0, c1, (show (IdxN S2 X exL) _ from hL.get (by simp))⟩
      refine wp_region_calm (tagPl [1, 11, 12, 16, 17, 18, 23, 30, 31, 32] [(1, .own cardK V.heap.size exL), (11, .own cardK V.heap.size exL), (12, .val (.bool true)), (16, .own intK V.heap.size [5, 3]), (17, .own intK V.heap.size [5, 3]), (18, .val (.bool true)), (23, .own intK V.heap.size []), (30, .own intK V.heap.size [9, 5]), (31, .own intK V.heap.size [9, 5]), (32, .val (.bool true))] 1000) (by kernel_rfl) (by kernel_rfl) (by kernel_rfl) tag_c0 tag_hst ?_
      iterate 1 (refine calm_quiet (v := ?_) (by rfl) (by rfl) (fun W hW hD => ?_) ?_; rotate_left; (· (clear hD hW; go_simp; try with_reducible rfl)); simp only [Act.put, List.setIfInBounds_toArray, List.set_cons_zero, List.set_cons_succ, Nat.reduceAdd, Nat.zero_add])
      refine calm_makes (by rfl) (by rfl) (fun W hW hD Kc hK => ?_) (fun va => ?_)
      · obtain ⟨_, _, _, hX⟩ := HQ.out W hW
        have hz := hW.size
        refine wp_of_call (f := 26) ?_ ((cards_any W hX).mono ?_)
        · clear hD hW hK hX
          go_simp
        · rintro e w5 ⟨v5, rfl, ho5, hb5⟩
          exact ⟨_, rfl, hK _ _ (made_below (OwnK.mono ho5 hz) hb5 (World.ownsRow.lt ho5))⟩
      simp only [Act.put, List.setIfInBounds_toArray, List.set_cons_zero, List.set_cons_succ, Nat.reduceAdd, Nat.zero_add]
      iterate 9 (refine calm_quiet (v := ?_) (by rfl) (by rfl) (fun W hW hD => ?_) ?_; rotate_left; (· (obtain ⟨⟨x0, x1, x2, x3, x4⟩, ⟨y0, y1, y2, y3, y4⟩, ⟨z0, z1, z2, z3, z4⟩, _⟩ := HQ.out W hW; clear hD hW; go_simp; try with_reducible rfl)); simp only [Act.put, List.setIfInBounds_toArray, List.set_cons_zero, List.set_cons_succ, Nat.reduceAdd, Nat.zero_add])
      refine calm_makes (by rfl) (by rfl) (fun W hW hD Kc hK => ?_) (fun vb => ?_)
      · have hz := hW.size
        have ho := ownK_lit cardOk W exL #[.int .i64 9, .int .i64 1, .int .i64 0, .int .i64 1200, .int .i64 1250, .int .i64 5, .int .i64 1, .int .i64 0, .int .i64 1200, .int .i64 1300, .int .i64 3, .int .i64 2, .int .i64 0, .int .i64 1250, .int .i64 1400] rfl (by decide)
        refine wp_of_run (v := .slice (some ⟨W.heap.size, 0, none⟩) 3 3) (w' := W.alloc (.cells #[.int .i64 9, .int .i64 1, .int .i64 0, .int .i64 1200, .int .i64 1250, .int .i64 5, .int .i64 1, .int .i64 0, .int .i64 1200, .int .i64 1300, .int .i64 3, .int .i64 2, .int .i64 0, .int .i64 1250, .int .i64 1400] 35)) ?_ (hK _ _ (made_below (OwnK.mono ho hz) ((Below.refl _ _).alloc (Nat.le_refl _) _) (World.ownsRow.lt ho)))
        clear hD hW hK ho
        go_simp
        try rfl
      simp only [Act.put, List.setIfInBounds_toArray, List.set_cons_zero, List.set_cons_succ, Nat.reduceAdd, Nat.zero_add]
      refine calm_fixed (.bool true) ⟨(default : World), rfl⟩ (fun v W h => h) rfl (by rfl) (by rfl) (fun W hW hD Kc hK => ?_) ?_
      · have h1 : OwnK cardK V.heap.size W va exL := hD [] 1 (by kernel_rfl) (by kernel_rfl) (by kernel_rfl)
        have h11 : OwnK cardK V.heap.size W vb exL := hD [] 11 (by kernel_rfl) (by kernel_rfl) (by kernel_rfl)
        refine wp_of_call (f := 25) (args := #[va, vb]) ?_ ((sameC_any va vb exL exL W (h1.rows cardOk) (h11.rows cardOk)).mono ?_)
        · clear hD hW hK h1 h11
          go_simp
        · rintro e w5 ⟨rfl, hb5⟩
          rw [beq_self_eq_true]
          exact ⟨_, rfl, hK _ _ (made_plain rfl hb5 rfl)⟩
      simp only [Act.put, List.setIfInBounds_toArray, List.set_cons_zero, List.set_cons_succ, Nat.reduceAdd, Nat.zero_add]
      iterate 3 (refine calm_quiet (v := ?_) (by rfl) (by rfl) (fun W hW hD => ?_) ?_; rotate_left; (· (clear hD hW; go_simp; try with_reducible rfl)); simp only [Act.put, List.setIfInBounds_toArray, List.set_cons_zero, List.set_cons_succ, Nat.reduceAdd, Nat.zero_add])
      refine calm_makes (by rfl) (by rfl) (fun W hW hD Kc hK => ?_) (fun vc => ?_)
      · obtain ⟨_, _, _, hX⟩ := HQ.out W hW
        have hz := hW.size
        refine wp_of_call (f := 15) ?_ ((during_any 1250 1260 W hX).mono ?_)
        · clear hD hW hK hX
          go_simp
        · rintro e w5 ⟨v5, rfl, ho5, hb5⟩
          rw [E6.out] at ho5
          exact ⟨_, rfl, hK _ _ (made_below (OwnK.mono ho5 hz) hb5 (World.ownsRow.lt ho5))⟩
      simp only [Act.put, List.setIfInBounds_toArray, List.set_cons_zero, List.set_cons_succ, Nat.reduceAdd, Nat.zero_add]
      refine calm_makes (by rfl) (by rfl) (fun W hW hD Kc hK => ?_) (fun vd => ?_)
      · have hz := hW.size
        have ho := ownK_lit intOk W [5, 3] #[.int .i64 5, .int .i64 3] rfl (by decide)
        refine wp_of_run (v := .slice (some ⟨W.heap.size, 0, none⟩) 2 2) (w' := W.alloc (.cells #[.int .i64 5, .int .i64 3] 3)) ?_ (hK _ _ (made_below (OwnK.mono ho hz) ((Below.refl _ _).alloc (Nat.le_refl _) _) (World.ownsRow.lt ho)))
        clear hD hW hK ho
        go_simp
        try rfl
      simp only [Act.put, List.setIfInBounds_toArray, List.set_cons_zero, List.set_cons_succ, Nat.reduceAdd, Nat.zero_add]
      refine calm_fixed (.bool true) ⟨(default : World), rfl⟩ (fun v W h => h) rfl (by rfl) (by rfl) (fun W hW hD Kc hK => ?_) ?_
      · have h16 : OwnK intK V.heap.size W vc [5, 3] := hD [] 16 (by kernel_rfl) (by kernel_rfl) (by kernel_rfl)
        have h17 : OwnK intK V.heap.size W vd [5, 3] := hD [] 17 (by kernel_rfl) (by kernel_rfl) (by kernel_rfl)
        refine wp_of_call (f := 14) (args := #[vc, vd]) ?_ ((sameI_any vc vd [5, 3] [5, 3] W (h16.rows intOk) (h17.rows intOk)).mono ?_)
        · clear hD hW hK h16 h17
          go_simp
        · rintro e w5 ⟨rfl, hb5⟩
          rw [beq_self_eq_true]
          exact ⟨_, rfl, hK _ _ (made_plain rfl hb5 rfl)⟩
      simp only [Act.put, List.setIfInBounds_toArray, List.set_cons_zero, List.set_cons_succ, Nat.reduceAdd, Nat.zero_add]
      iterate 2 (refine calm_quiet (v := ?_) (by rfl) (by rfl) (fun W hW hD => ?_) ?_; rotate_left; (· (clear hD hW; go_simp; try with_reducible rfl)); simp only [Act.put, List.setIfInBounds_toArray, List.set_cons_zero, List.set_cons_succ, Nat.reduceAdd, Nat.zero_add])
      iterate 2 (refine calm_quiet (v := ?_) (by rfl) (by rfl) (fun W hW hD => ?_) ?_; rotate_left; (· (clear hD hW; go_simp; try with_reducible rfl)); simp only [Act.put, List.setIfInBounds_toArray, List.set_cons_zero, List.set_cons_succ, Nat.reduceAdd, Nat.zero_add])
      refine calm_makes (by rfl) (by rfl) (fun W hW hD Kc hK => ?_) (fun ve => ?_)
      · obtain ⟨_, _, _, hX⟩ := HQ.out W hW
        have hz := hW.size
        refine wp_of_call (f := 15) ?_ ((during_any 1400 1500 W hX).mono ?_)
        · clear hD hW hK hX
          go_simp
        · rintro e w5 ⟨v5, rfl, ho5, hb5⟩
          rw [E7.out] at ho5
          exact ⟨_, rfl, hK _ _ (made_below (OwnK.mono ho5 hz) hb5 (World.ownsRow.lt ho5))⟩
      simp only [Act.put, List.setIfInBounds_toArray, List.set_cons_zero, List.set_cons_succ, Nat.reduceAdd, Nat.zero_add]
      refine calm_quiet (v := .int .i64 0) (by rfl) (by rfl) (fun W hW hD => ?_) ?_
      · obtain ⟨sa, sc, hs, _, _⟩ := (show OwnK intK V.heap.size W ve [] from hD [] 23 (by kernel_rfl) (by kernel_rfl) (by kernel_rfl)).shape
        subst hs
        clear hD hW
        go_simp
        try rfl
      simp only [Act.put, List.setIfInBounds_toArray, List.set_cons_zero, List.set_cons_succ, Nat.reduceAdd, Nat.zero_add]
      iterate 3 (refine calm_quiet (v := ?_) (by rfl) (by rfl) (fun W hW hD => ?_) ?_; rotate_left; (· (clear hD hW; go_simp; try with_reducible rfl)); simp only [Act.put, List.setIfInBounds_toArray, List.set_cons_zero, List.set_cons_succ, Nat.reduceAdd, Nat.zero_add])
      iterate 2 (refine calm_quiet (v := ?_) (by rfl) (by rfl) (fun W hW hD => ?_) ?_; rotate_left; (· (clear hD hW; go_simp; try with_reducible rfl)); simp only [Act.put, List.setIfInBounds_toArray, List.set_cons_zero, List.set_cons_succ, Nat.reduceAdd, Nat.zero_add])
      refine calm_makes (by rfl) (by rfl) (fun W hW hD Kc hK => ?_) (fun vf => ?_)
      · obtain ⟨_, _, _, hX⟩ := HQ.out W hW
        have hz := hW.size
        refine wp_of_call (f := 17) ?_ ((about_any 1 1200 1201 W hX).mono ?_)
        · clear hD hW hK hX
          go_simp
        · rintro e w5 ⟨v5, rfl, ho5, hb5⟩
          rw [E8.out] at ho5
          exact ⟨_, rfl, hK _ _ (made_below (OwnK.mono ho5 hz) hb5 (World.ownsRow.lt ho5))⟩
      simp only [Act.put, List.setIfInBounds_toArray, List.set_cons_zero, List.set_cons_succ, Nat.reduceAdd, Nat.zero_add]
      refine calm_makes (by rfl) (by rfl) (fun W hW hD Kc hK => ?_) (fun vg => ?_)
      · have hz := hW.size
        have ho := ownK_lit intOk W [9, 5] #[.int .i64 9, .int .i64 5] rfl (by decide)
        refine wp_of_run (v := .slice (some ⟨W.heap.size, 0, none⟩) 2 2) (w' := W.alloc (.cells #[.int .i64 9, .int .i64 5] 3)) ?_ (hK _ _ (made_below (OwnK.mono ho hz) ((Below.refl _ _).alloc (Nat.le_refl _) _) (World.ownsRow.lt ho)))
        clear hD hW hK ho
        go_simp
        try rfl
      simp only [Act.put, List.setIfInBounds_toArray, List.set_cons_zero, List.set_cons_succ, Nat.reduceAdd, Nat.zero_add]
      refine calm_fixed (.bool true) ⟨(default : World), rfl⟩ (fun v W h => h) rfl (by rfl) (by rfl) (fun W hW hD Kc hK => ?_) ?_
      · have h30 : OwnK intK V.heap.size W vf [9, 5] := hD [] 30 (by kernel_rfl) (by kernel_rfl) (by kernel_rfl)
        have h31 : OwnK intK V.heap.size W vg [9, 5] := hD [] 31 (by kernel_rfl) (by kernel_rfl) (by kernel_rfl)
        refine wp_of_call (f := 14) (args := #[vf, vg]) ?_ ((sameI_any vf vg [9, 5] [9, 5] W (h30.rows intOk) (h31.rows intOk)).mono ?_)
        · clear hD hW hK h30 h31
          go_simp
        · rintro e w5 ⟨rfl, hb5⟩
          rw [beq_self_eq_true]
          exact ⟨_, rfl, hK _ _ (made_plain rfl hb5 rfl)⟩
      simp only [Act.put, List.setIfInBounds_toArray, List.set_cons_zero, List.set_cons_succ, Nat.reduceAdd, Nat.zero_add]
      iterate 2 (refine calm_quiet (v := ?_) (by rfl) (by rfl) (fun W hW hD => ?_) ?_; rotate_left; (· (clear hD hW; go_simp; try with_reducible rfl)); simp only [Act.put, List.setIfInBounds_toArray, List.set_cons_zero, List.set_cons_succ, Nat.reduceAdd, Nat.zero_add])
      refine calm_nil fun W hW hF => ?_
      have HL20 := Lib.hid (HLV.out.step (grown_below hW))
      clear hF hW HLV HQ HVe
      go_wp2
      have HQ : Hid (∀ W', W.grownBy W' none → (W'.cell? ⟨w16.heap.size, 1 * 3, none⟩ = some (.int .i64 1200) ∧ W'.cell? ⟨w16.heap.size, 1 * 3 + 1, none⟩ = some (.int .i64 1300) ∧ W'.cell? ⟨w16.heap.size, 1 * 3 + 2, none⟩ = some (.int .i64 2)) ∧ IdxN S2 X exL W' ∧ RowsAt levK W'.heap.size W' (.slice (some ⟨w16.heap.size, 0, none⟩) 4 4) exV) := fun W' hW' => by
        have hL := HL20.out.step (grown_below hW')
        have hr : RowsAt levK _ _ _ _ := (show (RowsN levK (.slice (some ⟨w16.heap.size, 0, none⟩) 4 4) exV) _ from hL.get (by simp))
        obtain ⟨b0, o0, e0, _, c0, c1, c2⟩ := levs_at hr 1 ⟨1200, 1300, 2⟩ rfl
        cases e0
        rw [Nat.zero_add] at c0 c1 c2
        exact ⟨⟨c0, c1, c2⟩, (show (IdxN S2 X exL) _ from hL.get (by simp)), hr⟩
      have HBv : Hid (∀ W', W.grownBy W' none → Calls Tryz.prog 30 #[.pointer (some ⟨X, 0, none⟩)] W' fun e w' => e = .returned (levV ⟨1200, 1300, 2⟩) ∧ Below W'.heap.size W' w') := fun W' hW' => by
        have h := busiest_any W' (HQ.out W' hW').2.1
        rwa [ex_levs, ex_busy] at h
      have HPv : Hid (∀ W', W.grownBy W' none → Calls Tryz.prog 28 #[.pointer (some ⟨X, 0, none⟩)] W' fun e w' => ∃ v, e = .returned v ∧ OwnK levK W'.heap.size w' v exV ∧ Below W'.heap.size W' w') := fun W' hW' => by
        have h := profile_any W' (HQ.out W' hW').2.1
        rwa [ex_levs] at h
      have hqb : ∀ W, (binOp .eql 60 (levV ⟨1200, 1300, 2⟩) (.agg #[.int .i64 1200, .int .i64 1300, .int .i64 2])).run Tryz.prog W = .ok (.bool true) W := fun W => (run_eqlLev ⟨1200, 1300, 2⟩ ⟨1200, 1300, 2⟩ W).trans (by simp)
      refine wp_region_calm (tagPl [1, 5, 10, 15, 20, 22, 26] [(1, .val (.int .i64 2)), (5, .val (.int .i64 2)), (10, .val (.int .i64 1)), (15, .val (.int .i64 0)), (20, .own levK W.heap.size exV), (22, .val (.bool true)), (26, .val (levV ⟨1200, 1300, 2⟩))] 1000) (by kernel_rfl) (by kernel_rfl) (by kernel_rfl) tag_c0 tag_hst ?_
      iterate 1 (refine calm_quiet (v := ?_) (by rfl) (by rfl) (fun W_ hW hD => ?_) ?_; rotate_left; (· (clear hD hW; go_simp; try with_reducible rfl)); simp only [Act.put, List.setIfInBounds_toArray, List.set_cons_zero, List.set_cons_succ, Nat.reduceAdd, Nat.zero_add])
      refine calm_fixed (.int .i64 2) ⟨(default : World), rfl⟩ (fun v W h => h) rfl (by rfl) (by rfl) (fun W_ hW hD Kc hK => ?_) ?_
      · obtain ⟨_, hX, hlv⟩ := HQ.out W_ hW
        refine wp_of_call (f := 23) ?_ ((count_any 1249 W_ hX).mono ?_)
        · clear hD hW hK hX hlv
          go_simp
        · rintro e w5 ⟨rfl, rfl⟩
          rw [E9.out]
          exact ⟨_, rfl, hK _ _ (made_plain rfl (Below.refl _ _) rfl)⟩
      simp only [Act.put, List.setIfInBounds_toArray, List.set_cons_zero, List.set_cons_succ, Nat.reduceAdd, Nat.zero_add]
      iterate 3 (refine calm_quiet (v := ?_) (by rfl) (by rfl) (fun W_ hW hD => ?_) ?_; rotate_left; (· (clear hD hW; go_simp; try with_reducible rfl)); simp only [Act.put, List.setIfInBounds_toArray, List.set_cons_zero, List.set_cons_succ, Nat.reduceAdd, Nat.zero_add])
      refine calm_fixed (.int .i64 2) ⟨(default : World), rfl⟩ (fun v W h => h) rfl (by rfl) (by rfl) (fun W_ hW hD Kc hK => ?_) ?_
      · obtain ⟨_, hX, hlv⟩ := HQ.out W_ hW
        refine wp_of_call (f := 23) ?_ ((count_any 1250 W_ hX).mono ?_)
        · clear hD hW hK hX hlv
          go_simp
        · rintro e w5 ⟨rfl, rfl⟩
          rw [E10.out]
          exact ⟨_, rfl, hK _ _ (made_plain rfl (Below.refl _ _) rfl)⟩
      simp only [Act.put, List.setIfInBounds_toArray, List.set_cons_zero, List.set_cons_succ, Nat.reduceAdd, Nat.zero_add]
      iterate 4 (refine calm_quiet (v := ?_) (by rfl) (by rfl) (fun W_ hW hD => ?_) ?_; rotate_left; (· (clear hD hW; go_simp; try with_reducible rfl)); simp only [Act.put, List.setIfInBounds_toArray, List.set_cons_zero, List.set_cons_succ, Nat.reduceAdd, Nat.zero_add])
      refine calm_fixed (.int .i64 1) ⟨(default : World), rfl⟩ (fun v W h => h) rfl (by rfl) (by rfl) (fun W_ hW hD Kc hK => ?_) ?_
      · obtain ⟨_, hX, hlv⟩ := HQ.out W_ hW
        refine wp_of_call (f := 23) ?_ ((count_any 1399 W_ hX).mono ?_)
        · clear hD hW hK hX hlv
          go_simp
        · rintro e w5 ⟨rfl, rfl⟩
          rw [E11.out]
          exact ⟨_, rfl, hK _ _ (made_plain rfl (Below.refl _ _) rfl)⟩
      simp only [Act.put, List.setIfInBounds_toArray, List.set_cons_zero, List.set_cons_succ, Nat.reduceAdd, Nat.zero_add]
      iterate 4 (refine calm_quiet (v := ?_) (by rfl) (by rfl) (fun W_ hW hD => ?_) ?_; rotate_left; (· (clear hD hW; go_simp; try with_reducible rfl)); simp only [Act.put, List.setIfInBounds_toArray, List.set_cons_zero, List.set_cons_succ, Nat.reduceAdd, Nat.zero_add])
      refine calm_fixed (.int .i64 0) ⟨(default : World), rfl⟩ (fun v W h => h) rfl (by rfl) (by rfl) (fun W_ hW hD Kc hK => ?_) ?_
      · obtain ⟨_, hX, hlv⟩ := HQ.out W_ hW
        refine wp_of_call (f := 23) ?_ ((count_any 1400 W_ hX).mono ?_)
        · clear hD hW hK hX hlv
          go_simp
        · rintro e w5 ⟨rfl, rfl⟩
          rw [E12.out]
          exact ⟨_, rfl, hK _ _ (made_plain rfl (Below.refl _ _) rfl)⟩
      simp only [Act.put, List.setIfInBounds_toArray, List.set_cons_zero, List.set_cons_succ, Nat.reduceAdd, Nat.zero_add]
      iterate 4 (refine calm_quiet (v := ?_) (by rfl) (by rfl) (fun W_ hW hD => ?_) ?_; rotate_left; (· (clear hD hW; go_simp; try with_reducible rfl)); simp only [Act.put, List.setIfInBounds_toArray, List.set_cons_zero, List.set_cons_succ, Nat.reduceAdd, Nat.zero_add])
      refine calm_makes (by rfl) (by rfl) (fun W_ hW hD Kc hK => ?_) (fun vh => ?_)
      · have hz := hW.size
        refine wp_of_call (f := 28) ?_ ((HPv.out W_ hW).mono ?_)
        · clear hD hK
          go_simp
        · rintro e w5 ⟨v5, rfl, ho5, hb5⟩
          exact ⟨_, rfl, hK _ _ (made_below (OwnK.mono ho5 hz) hb5 (World.ownsRow.lt ho5))⟩
      simp only [Act.put, List.setIfInBounds_toArray, List.set_cons_zero, List.set_cons_succ, Nat.reduceAdd, Nat.zero_add]
      iterate 1 (refine calm_quiet (v := ?_) (by rfl) (by rfl) (fun W_ hW hD => ?_) ?_; rotate_left; (· (clear hD hW; go_simp; try with_reducible rfl)); simp only [Act.put, List.setIfInBounds_toArray, List.set_cons_zero, List.set_cons_succ, Nat.reduceAdd, Nat.zero_add])
      refine calm_fixed (.bool true) ⟨(default : World), rfl⟩ (fun v W h => h) rfl (by rfl) (by rfl) (fun W_ hW hD Kc hK => ?_) ?_
      · obtain ⟨_, hX, hlv⟩ := HQ.out W_ hW
        have h20 : OwnK levK W.heap.size W_ vh exV := hD [] 20 (by kernel_rfl) (by kernel_rfl) (by kernel_rfl)
        refine wp_of_call (f := 27) (args := #[vh, .slice (some ⟨w16.heap.size, 0, none⟩) 4 4]) ?_ ((sameL_any vh (.slice (some ⟨w16.heap.size, 0, none⟩) 4 4) exV exV W_ (h20.rows levKOk) hlv).mono ?_)
        · clear hD hW hK hX hlv h20
          go_simp
        · rintro e w5 ⟨rfl, hb5⟩
          rw [beq_self_eq_true]
          exact ⟨_, rfl, hK _ _ (made_plain rfl hb5 rfl)⟩
      simp only [Act.put, List.setIfInBounds_toArray, List.set_cons_zero, List.set_cons_succ, Nat.reduceAdd, Nat.zero_add]
      iterate 3 (refine calm_quiet (v := ?_) (by rfl) (by rfl) (fun W_ hW hD => ?_) ?_; rotate_left; (· (clear hD hW; go_simp; try with_reducible rfl)); simp only [Act.put, List.setIfInBounds_toArray, List.set_cons_zero, List.set_cons_succ, Nat.reduceAdd, Nat.zero_add])
      refine calm_fixed (levV ⟨1200, 1300, 2⟩) ⟨(default : World), rfl⟩ (fun v W h => h) rfl (by rfl) (by rfl) (fun W_ hW hD Kc hK => ?_) ?_
      · refine wp_of_call (f := 30) ?_ ((HBv.out W_ hW).mono ?_)
        · clear hD hK
          go_simp
        · rintro e w5 ⟨rfl, hb5⟩
          exact ⟨_, rfl, hK _ _ (made_plain rfl hb5 rfl)⟩
      simp only [Act.put, List.setIfInBounds_toArray, List.set_cons_zero, List.set_cons_succ, Nat.reduceAdd, Nat.zero_add]
      iterate 3 (refine calm_quiet (v := ?_) (by rfl) (by rfl) (fun W_ hW hD => ?_) ?_; rotate_left; (· (obtain ⟨⟨x0, x1, x2⟩, _, _⟩ := HQ.out W_ hW; clear hD hW; go_simp; try with_reducible rfl)); simp only [Act.put, List.setIfInBounds_toArray, List.set_cons_zero, List.set_cons_succ, Nat.reduceAdd, Nat.zero_add])
      iterate 11 (refine calm_quiet (v := ?_) (by rfl) (by rfl) (fun W_ hW hD => ?_) ?_; rotate_left; (· (clear hD hW; go_simp; try with_reducible rfl)); simp only [Act.put, List.setIfInBounds_toArray, List.set_cons_zero, List.set_cons_succ, Nat.reduceAdd, Nat.zero_add])
      refine calm_nil fun W2 hW hF => ?_
      have HL21 := Lib.hid (HL20.out.step (grown_below hW))
      clear hF hW HL20 HQ HBv HPv hqb
      go_wp2_with fail
      refine (iroot_any _ (show (IdxN S2 X exL) _ from HL21.out.get (by simp)) HL21.out.rounds).mono ?_
      rintro e w22 ⟨rfl, hb⟩
      have HL22 := Lib.hid (HL21.out.step hb)
      clear hb HL21
      have hsz : (bs (rootL (codesC exL))).size = 32 := by rw [bs_size]; exact ex_root
      generalize bs (rootL (codesC exL)) = rt at *
      have hse : (bs []).toList = [] := bs_toList []
      go_wp2_with fail
      refine (root_nil _).mono ?_
      rintro e w' ⟨rfl, rfl⟩
      obtain ⟨gb, off, hae, hgb, p0, p1, p2, p3, p4⟩ := cards_at (show RowsAt cardK _ _ _ _ from (show (RowsN cardK (.slice (some ⟨g, 0, none⟩) 3 3) exR) _ from HL22.out.get (by simp))) 0 ex5 rfl
      cases hae
      go_wp2_with fail
      clear p0 p1 p2 p3 p4 hgb
      refine (valid_any ex5 _).mono ?_
      rintro e w23 ⟨rfl, hb⟩
      have HL23 := Lib.hid (HL22.out.step hb)
      clear hb HL22
      rw [E13.out]
      go_wp2_with fail
      refine (valid_any cardZ _).mono ?_
      rintro e w24 ⟨rfl, hb⟩
      have HL24 := Lib.hid (HL23.out.step hb)
      clear hb HL23
      rw [E14.out]
      go_wp2
      go_ret
      exact ⟨rfl, HL24.out.below⟩
end Go.Proofs.YtcgopilkajfghaaGreatDoor
