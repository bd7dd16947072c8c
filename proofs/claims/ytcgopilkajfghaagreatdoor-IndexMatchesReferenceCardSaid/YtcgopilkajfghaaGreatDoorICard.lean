/- The reference's Card, Step, Drops. -/
import Derived.Test.YtcgopilkajfghaaGreatDoorISmall
set_option linter.unusedVariables false
set_option linter.unusedSimpArgs false
namespace Go.Proofs.YtcgopilkajfghaaGreatDoor
open Go.RowKit Go.Shelf

/-- The card that five integers determine. -/
def begZ (g : Nat → Int) : Int := pickZ (g 3) 2100
def cardG (g : Nat → Int) : ICard := ⟨pickZ (g 0) 20, pickZ (g 1) 4, pickZ (g 2) 10, begZ g, begZ g + 1 + pickZ (g 4) (min 400 (2100 - begZ g))⟩
theorem cardG_ok (g : Nat → Int) : validC (cardG g) = true ∧ 0 ≤ (cardG g).id ∧ (cardG g).id < 20 := by
  have h0 := pickZ_bd (g 0) 20 (by omega)
  have h1 := pickZ_bd (g 1) 4 (by omega)
  have h2 := pickZ_bd (g 2) 10 (by omega)
  have h3 := pickZ_bd (g 3) 2100 (by omega)
  have h4 := pickZ_bd (g 4) (min 400 (2100 - begZ g)) (by unfold begZ; omega)
  refine ⟨?_, h0.1, h0.2⟩
  unfold validC inC spellB cardG
  simp only [Bool.and_eq_true, decide_eq_true_eq]
  unfold begZ at *
  omega
abbrev inAll (n : Nat) (g : Nat → Int) : Prop := ∀ k, k < n → -9223372036854775808 ≤ g k ∧ g k ≤ 9223372036854775807
set_option maxRecDepth 100000 in
set_option maxHeartbeats 1000000 in
theorem drops_any (g : Nat → Int) (w : World) (hg : inAll 6 g) :
    Calls Tryz.prog 37 #[.agg #[.int .i64 (g 0), .int .i64 (g 1), .int .i64 (g 2), .int .i64 (g 3), .int .i64 (g 4), .int .i64 (g 5)]] w fun e w' => e = .returned (.bool (decide (pickZ (g 5) 4 = 0))) ∧ Below w.heap.size w w' := by
  have HP := Lib.hid (fun W => ipickR_any (g 5) 4 W (hg 5 (by omega)).1 (hg 5 (by omega)).2 (by omega) (by omega))
  have HB : Hid (∀ o, Below w.heap.size w (w.alloc o)) := fun o => (Below.refl _ _).alloc (Nat.le_refl _) _
  obtain ⟨z, hz⟩ : ∃ z, z = pickZ (g 5) 4 := ⟨_, rfl⟩
  rw [← hz] at HP ⊢
  clear hz hg
  go_enter Tryz.func37, Tryz.ntmps37
  go_wp2_with fail
  refine (HP.out _).mono ?_
  rintro e w' ⟨rfl, rfl⟩
  go_wp2
  go_ret
  exact ⟨by first | rfl | simp, HB.out _⟩
/-! ### Card. -/
set_option maxRecDepth 100000 in
set_option maxHeartbeats 2000000 in
theorem card_any (g : Nat → Int) (w : World) (hg : inAll 5 g) :
    Calls Tryz.prog 60 #[.agg #[.int .i64 (g 0), .int .i64 (g 1), .int .i64 (g 2), .int .i64 (g 3), .int .i64 (g 4)]] w fun e w' => e = .returned (cardV (cardG g)) ∧ Below w.heap.size w w' := by
  have hb := pickZ_bd (g 3) 2100 (by omega)
  obtain ⟨m4, hm4⟩ : ∃ m, m = min 400 (2100 - begZ g) := ⟨_, rfl⟩
  have hm4b : 1 ≤ m4 ∧ m4 ≤ 400 := by rw [hm4]; unfold begZ; omega
  have h4 := pickZ_bd (g 4) m4 hm4b.1
  have HP3 := Lib.hid (fun W => ipickR_any (g 3) 2100 W (hg 3 (by omega)).1 (hg 3 (by omega)).2 (by omega) (by omega))
  have HP0 := Lib.hid (fun W => ipickR_any (g 0) 20 W (hg 0 (by omega)).1 (hg 0 (by omega)).2 (by omega) (by omega))
  have HP1 := Lib.hid (fun W => ipickR_any (g 1) 4 W (hg 1 (by omega)).1 (hg 1 (by omega)).2 (by omega) (by omega))
  have HP2 := Lib.hid (fun W => ipickR_any (g 2) 10 W (hg 2 (by omega)).1 (hg 2 (by omega)).2 (by omega) (by omega))
  have HP4 := Lib.hid (fun W => ipickR_any (g 4) m4 W (hg 4 (by omega)).1 (hg 4 (by omega)).2 hm4b.1 (by omega))
  have HC : Hid (cardG g = ⟨pickZ (g 0) 20, pickZ (g 1) 4, pickZ (g 2) 10, pickZ (g 3) 2100, pickZ (g 3) 2100 + 1 + pickZ (g 4) m4⟩) := by show _ = _; rw [hm4]; rfl
  have hmm : m4 = min 400 (2100 - pickZ (g 3) 2100) := hm4
  rw [HC.out]
  clear HC hm4 hg
  generalize pickZ (g 3) 2100 = bz at *
  generalize pickZ (g 0) 20 = a0 at *
  generalize pickZ (g 1) 4 = a1 at *
  generalize pickZ (g 2) 10 = a2 at *
  generalize pickZ (g 4) m4 = a4 at *
  generalize g 0 = g0 at *
  generalize g 1 = g1 at *
  generalize g 2 = g2 at *
  generalize g 3 = g3 at *
  generalize g 4 = g4 at *
  obtain ⟨V, hV⟩ : ∃ V, V = (w.alloc (.cells #[.int .i64 g0, .int .i64 g1, .int .i64 g2, .int .i64 g3, .int .i64 g4] 105)).alloc (.cells (cardR cardZ) 35) := ⟨_, rfl⟩
  have HB0 : Hid (Below w.heap.size w V) := by show Below _ _ _; rw [hV]; exact ((Below.refl _ _).alloc (Nat.le_refl _) _).alloc (by simp) _
  have HXV : Hid (BoxN w.heap.size 105 #[.int .i64 g0, .int .i64 g1, .int .i64 g2, .int .i64 g3, .int .i64 g4] V) := by show BoxN _ _ _ _; rw [hV]; exact (box_new w _ _).alloc _
  have HRV : Hid (CardN (w.heap.size + 1) cardZ V) := by
    have h := box_new (w.alloc (.cells #[.int .i64 g0, .int .i64 g1, .int .i64 g2, .int .i64 g3, .int .i64 g4] 105)) 35 (cardR cardZ)
    rw [World.size_alloc] at h
    show BoxN _ _ _ _
    rw [hV]; exact h
  have HVe := Lib.hid hV
  have x3 := BoxN.cell HXV.out 3 _ rfl
  rw [hV] at x3
  clear hV
  have w1 : IntKind.i64.wrap (bz + 1) = bz + 1 := IntWalk.i64_in _ (by omega)
  have w2 : IntKind.i64.wrap (2100 - bz) = 2100 - bz := IntWalk.i64_in _ (by omega)
  have w3 : IntKind.i64.wrap (bz + 1 + a4) = bz + 1 + a4 := IntWalk.i64_in _ (by omega)
  have hmm' : min 400 (2100 - bz) = m4 := hmm.symm
  clear hmm
  go_enter Tryz.func60, Tryz.ntmps60
  go_wp2_with fail
  rw [← HVe.out]
  refine (HP3.out V).mono ?_
  rintro e w' ⟨rfl, rfl⟩
  clear x3
  go_wp2
  have HQ : Hid (∀ W, V.grownBy W none → W.cell? ⟨w.heap.size, 0, none⟩ = some (.int .i64 g0) ∧ W.cell? ⟨w.heap.size, 1, none⟩ = some (.int .i64 g1) ∧ W.cell? ⟨w.heap.size, 2, none⟩ = some (.int .i64 g2) ∧ W.cell? ⟨w.heap.size, 3, none⟩ = some (.int .i64 g3) ∧ W.cell? ⟨w.heap.size, 4, none⟩ = some (.int .i64 g4)) := fun W hW =>
    ⟨BoxN.cell (BoxN.grown HXV.out hW (by simp)) 0 _ rfl, BoxN.cell (BoxN.grown HXV.out hW (by simp)) 1 _ rfl, BoxN.cell (BoxN.grown HXV.out hW (by simp)) 2 _ rfl, BoxN.cell (BoxN.grown HXV.out hW (by simp)) 3 _ rfl, BoxN.cell (BoxN.grown HXV.out hW (by simp)) 4 _ rfl⟩
  refine wp_region_calm ⟨[2, 5, 8, 17], fun q v _ => v = if q = 2 then .int .i64 a0 else if q = 5 then .int .i64 a1 else if q = 8 then .int .i64 a2 else .int .i64 a4, fun _ => [], 99, none, 21⟩ (by kernel_rfl) (by kernel_rfl) (by kernel_rfl) (fun g h => by cases h) (fun k hk v W W' r h hg hc => h) ?_
  iterate 2 (refine calm_quiet (v := ?_) (by rfl) (by rfl) (fun W hW hD => ?_) ?_; rotate_left; (· (obtain ⟨z0, z1, z2, z3, z4⟩ := HQ.out W hW; clear hD hW; go_simp; try with_reducible rfl)); simp only [Act.put, List.setIfInBounds_toArray, List.set_cons_zero, List.set_cons_succ, Nat.reduceAdd, Nat.zero_add])
  refine calm_makes (by rfl) (by rfl) (fun W hW hD Kc hK => ?_) (fun v_a0 => ?_)
  · refine wp_of_call (f := 61) ?_ ((HP0.out W).mono ?_)
    · clear hD hW hK
      go_simp
    · rintro e w5 ⟨rfl, rfl⟩
      exact ⟨_, rfl, hK _ _ (made_plain rfl (Below.refl _ _) rfl)⟩
  simp only [Act.put, List.setIfInBounds_toArray, List.set_cons_zero, List.set_cons_succ, Nat.reduceAdd, Nat.zero_add]
  iterate 2 (refine calm_quiet (v := ?_) (by rfl) (by rfl) (fun W hW hD => ?_) ?_; rotate_left; (· (obtain ⟨z0, z1, z2, z3, z4⟩ := HQ.out W hW; clear hD hW; go_simp; try with_reducible rfl)); simp only [Act.put, List.setIfInBounds_toArray, List.set_cons_zero, List.set_cons_succ, Nat.reduceAdd, Nat.zero_add])
  refine calm_makes (by rfl) (by rfl) (fun W hW hD Kc hK => ?_) (fun v_a1 => ?_)
  · refine wp_of_call (f := 61) ?_ ((HP1.out W).mono ?_)
    · clear hD hW hK
      go_simp
    · rintro e w5 ⟨rfl, rfl⟩
      exact ⟨_, rfl, hK _ _ (made_plain rfl (Below.refl _ _) rfl)⟩
  simp only [Act.put, List.setIfInBounds_toArray, List.set_cons_zero, List.set_cons_succ, Nat.reduceAdd, Nat.zero_add]
  iterate 2 (refine calm_quiet (v := ?_) (by rfl) (by rfl) (fun W hW hD => ?_) ?_; rotate_left; (· (obtain ⟨z0, z1, z2, z3, z4⟩ := HQ.out W hW; clear hD hW; go_simp; try with_reducible rfl)); simp only [Act.put, List.setIfInBounds_toArray, List.set_cons_zero, List.set_cons_succ, Nat.reduceAdd, Nat.zero_add])
  refine calm_makes (by rfl) (by rfl) (fun W hW hD Kc hK => ?_) (fun v_a2 => ?_)
  · refine wp_of_call (f := 61) ?_ ((HP2.out W).mono ?_)
    · clear hD hW hK
      go_simp
    · rintro e w5 ⟨rfl, rfl⟩
      exact ⟨_, rfl, hK _ _ (made_plain rfl (Below.refl _ _) rfl)⟩
  simp only [Act.put, List.setIfInBounds_toArray, List.set_cons_zero, List.set_cons_succ, Nat.reduceAdd, Nat.zero_add]
  iterate 5 (refine calm_quiet (v := ?_) (by rfl) (by rfl) (fun W hW hD => ?_) ?_; rotate_left; (· (obtain ⟨z0, z1, z2, z3, z4⟩ := HQ.out W hW; clear hD hW; go_simp; try with_reducible rfl)); simp only [Act.put, List.setIfInBounds_toArray, List.set_cons_zero, List.set_cons_succ, Nat.reduceAdd, Nat.zero_add])
  iterate 3 (refine calm_quiet (v := ?_) (by rfl) (by rfl) (fun W hW hD => ?_) ?_; rotate_left; (· (obtain ⟨z0, z1, z2, z3, z4⟩ := HQ.out W hW; clear hD hW; go_simp; try with_reducible rfl)); simp only [Act.put, List.setIfInBounds_toArray, List.set_cons_zero, List.set_cons_succ, Nat.reduceAdd, Nat.zero_add])
  refine calm_makes (by rfl) (by rfl) (fun W hW hD Kc hK => ?_) (fun v_a4 => ?_)
  · refine wp_of_call (f := 61) ?_ ((HP4.out W).mono ?_)
    · clear hD hW hK
      go_simp
    · rintro e w5 ⟨rfl, rfl⟩
      exact ⟨_, rfl, hK _ _ (made_plain rfl (Below.refl _ _) rfl)⟩
  simp only [Act.put, List.setIfInBounds_toArray, List.set_cons_zero, List.set_cons_succ, Nat.reduceAdd, Nat.zero_add]
  refine calm_quiet (v := .int .i64 (bz + 1 + a4)) (by rfl) (by rfl) (fun W hW hD => ?_) ?_
  · obtain rfl : v_a4 = .int .i64 a4 := hD [] 17 (by kernel_rfl) (by kernel_rfl) (by kernel_rfl)
    clear hD hW
    go_simp
  simp only [Act.put, List.setIfInBounds_toArray, List.set_cons_zero, List.set_cons_succ, Nat.reduceAdd, Nat.zero_add]
  iterate 1 (refine calm_quiet (v := ?_) (by rfl) (by rfl) (fun W hW hD => ?_) ?_; rotate_left; (· (skip; clear hD hW; go_simp; try with_reducible rfl)); simp only [Act.put, List.setIfInBounds_toArray, List.set_cons_zero, List.set_cons_succ, Nat.reduceAdd, Nat.zero_add])
  refine calm_quiet (v := .agg #[.int .i64 a0, .int .i64 a1, .int .i64 a2, .int .i64 bz, .int .i64 (bz + 1 + a4)]) (by rfl) (by rfl) (fun W hW hD => ?_) ?_
  · obtain rfl : v_a0 = .int .i64 a0 := hD [] 2 (by kernel_rfl) (by kernel_rfl) (by kernel_rfl)
    obtain rfl : v_a1 = .int .i64 a1 := hD [] 5 (by kernel_rfl) (by kernel_rfl) (by kernel_rfl)
    obtain rfl : v_a2 = .int .i64 a2 := hD [] 8 (by kernel_rfl) (by kernel_rfl) (by kernel_rfl)
    clear hD hW
    go_simp
  simp only [Act.put, List.setIfInBounds_toArray, List.set_cons_zero, List.set_cons_succ, Nat.reduceAdd, Nat.zero_add]
  refine calm_tail (by rfl) fun W hW hF => ?_
  have hc : CardN (w.heap.size + 1) cardZ W := BoxN.grown HRV.out hW (by simp)
  have z0 := BoxN.cell hc 0 _ rfl
  have z1 := BoxN.cell hc 1 _ rfl
  have z2 := BoxN.cell hc 2 _ rfl
  have z3 := BoxN.cell hc 3 _ rfl
  have z4 := BoxN.cell hc 4 _ rfl
  have zf := BoxN.frozen hc
  have HB9 : Hid (Below w.heap.size w (((((W.setCell ⟨w.heap.size + 1, 0, none⟩ (.int .i64 a0)).setCell ⟨w.heap.size + 1, 1, none⟩ (.int .i64 a1)).setCell ⟨w.heap.size + 1, 2, none⟩ (.int .i64 a2)).setCell ⟨w.heap.size + 1, 3, none⟩ (.int .i64 bz)).setCell ⟨w.heap.size + 1, 4, none⟩ (.int .i64 (bz + 1 + a4)))) :=
    below_set5 (c := ⟨a0, a1, a2, bz, bz + 1 + a4⟩) (HB0.out.trans ((grown_below hW).mono HB0.out.size)) (by omega)
  have HC9 : Hid (CardN (w.heap.size + 1) ⟨a0, a1, a2, bz, bz + 1 + a4⟩ (((((W.setCell ⟨w.heap.size + 1, 0, none⟩ (.int .i64 a0)).setCell ⟨w.heap.size + 1, 1, none⟩ (.int .i64 a1)).setCell ⟨w.heap.size + 1, 2, none⟩ (.int .i64 a2)).setCell ⟨w.heap.size + 1, 3, none⟩ (.int .i64 bz)).setCell ⟨w.heap.size + 1, 4, none⟩ (.int .i64 (bz + 1 + a4)))) :=
    card_set5 (c := ⟨a0, a1, a2, bz, bz + 1 + a4⟩) hc
  clear hF hW hc HQ HB0
  go_wp2
  exact bodyPost_ret (v := cardV ⟨a0, a1, a2, bz, bz + 1 + a4⟩) (results_cell_row rfl _ _ (w.heap.size + 1) 35 (cardR ⟨a0, a1, a2, bz, bz + 1 + a4⟩) (0, 0) _ rfl HC9.out Tryz.underlying35 rfl (by kernel_rfl)) rfl ⟨rfl, HB9.out⟩
/-! ### Step. -/
set_option maxRecDepth 100000 in
set_option maxHeartbeats 2000000 in
theorem step_any (g : Nat → Int) (w : World) (hg : inAll 6 g) :
    Calls Tryz.prog 36 #[.agg #[.int .i64 (g 0), .int .i64 (g 1), .int .i64 (g 2), .int .i64 (g 3), .int .i64 (g 4), .int .i64 (g 5)]] w fun e w' => e = .returned (cardV (cardG g)) ∧ Below w.heap.size w w' := by
  have HC := Lib.hid (fun W => card_any g W (fun k hk => hg k (by omega)))
  obtain ⟨c, hc⟩ : ∃ c, c = cardG g := ⟨_, rfl⟩
  rw [← hc] at HC ⊢
  clear hc hg
  obtain ⟨V, hV⟩ : ∃ V, V = (w.alloc (.cells #[.int .i64 (g 0), .int .i64 (g 1), .int .i64 (g 2), .int .i64 (g 3), .int .i64 (g 4), .int .i64 (g 5)] 68)).alloc (.cells (cardR cardZ) 35) := ⟨_, rfl⟩
  have HB0 : Hid (Below w.heap.size w V) := by show Below _ _ _; rw [hV]; exact ((Below.refl _ _).alloc (Nat.le_refl _) _).alloc (by simp) _
  have hx : BoxN w.heap.size 68 #[.int .i64 (g 0), .int .i64 (g 1), .int .i64 (g 2), .int .i64 (g 3), .int .i64 (g 4), .int .i64 (g 5)] V := by rw [hV]; exact (box_new w _ _).alloc _
  have HRV : Hid (CardN (w.heap.size + 1) cardZ V) := by
    have h := box_new (w.alloc (.cells #[.int .i64 (g 0), .int .i64 (g 1), .int .i64 (g 2), .int .i64 (g 3), .int .i64 (g 4), .int .i64 (g 5)] 68)) 35 (cardR cardZ)
    rw [World.size_alloc] at h
    show BoxN _ _ _ _
    rw [hV]; exact h
  have HVe := Lib.hid hV
  have x0 := BoxN.cell hx 0 _ rfl
  have x1 := BoxN.cell hx 1 _ rfl
  have x2 := BoxN.cell hx 2 _ rfl
  have x3 := BoxN.cell hx 3 _ rfl
  have x4 := BoxN.cell hx 4 _ rfl
  clear hx
  rw [hV] at x0 x1 x2 x3 x4
  clear hV
  generalize g 0 = g0 at *
  generalize g 1 = g1 at *
  generalize g 2 = g2 at *
  generalize g 3 = g3 at *
  generalize g 4 = g4 at *
  generalize g 5 = g5 at *
  go_enter Tryz.func36, Tryz.ntmps36
  go_wp2_with fail
  rw [← HVe.out]
  refine (HC.out V).mono ?_
  rintro e W ⟨rfl, hb⟩
  have hc : CardN (w.heap.size + 1) cardZ W := BoxN.below HRV.out hb (BoxN.lt HRV.out)
  have z0 := BoxN.cell hc 0 _ rfl
  have z1 := BoxN.cell hc 1 _ rfl
  have z2 := BoxN.cell hc 2 _ rfl
  have z3 := BoxN.cell hc 3 _ rfl
  have z4 := BoxN.cell hc 4 _ rfl
  have zf := BoxN.frozen hc
  have HB9 : Hid (Below w.heap.size w (((((W.setCell ⟨w.heap.size + 1, 0, none⟩ (.int .i64 c.id)).setCell ⟨w.heap.size + 1, 1, none⟩ (.int .i64 c.unit)).setCell ⟨w.heap.size + 1, 2, none⟩ (.int .i64 c.kind)).setCell ⟨w.heap.size + 1, 3, none⟩ (.int .i64 c.beg)).setCell ⟨w.heap.size + 1, 4, none⟩ (.int .i64 c.fin))) :=
    below_set5 (HB0.out.trans (hb.mono HB0.out.size)) (by omega)
  have HC9 : Hid (CardN (w.heap.size + 1) c (((((W.setCell ⟨w.heap.size + 1, 0, none⟩ (.int .i64 c.id)).setCell ⟨w.heap.size + 1, 1, none⟩ (.int .i64 c.unit)).setCell ⟨w.heap.size + 1, 2, none⟩ (.int .i64 c.kind)).setCell ⟨w.heap.size + 1, 3, none⟩ (.int .i64 c.beg)).setCell ⟨w.heap.size + 1, 4, none⟩ (.int .i64 c.fin))) :=
    card_set5 hc
  clear hc hb HB0 x0 x1 x2 x3 x4
  go_wp2
  exact bodyPost_ret (v := cardV c) (results_cell_row rfl _ _ (w.heap.size + 1) 35 (cardR c) (0, 0) _ rfl HC9.out Tryz.underlying35 rfl (by kernel_rfl)) rfl ⟨rfl, HB9.out⟩
end Go.Proofs.YtcgopilkajfghaaGreatDoor
