/- alike: two indices with the same cards give the same answers. -/
import Derived.Test.YtcgopilkajfghaaDoorITag
set_option linter.unusedVariables false
set_option linter.unusedSimpArgs false
namespace Go.Proofs.YtcgopilkajfghaaDoor
open Go.RowKit Go.Shelf

set_option maxRecDepth 100000 in
set_option maxHeartbeats 8000000 in
theorem alike_any {S R : Nat → Prop} {X Y : Nat} {l : List ICard} (f t u : Int) (w : World) (hX : IdxN S X l w) (hY : IdxN R Y l w) (hT : Rounds w) :
    Calls Tryd.prog 26 #[.pointer (some ⟨X, 0, none⟩), .pointer (some ⟨Y, 0, none⟩), .agg #[.int .i64 f, .int .i64 t], .int .i64 u] w fun e w' => e = .returned (.bool true) ∧ Below w.heap.size w w' := by
  obtain ⟨V, hV⟩ : ∃ V, V = w.alloc (.cells #[.int .i64 f, .int .i64 t] 29) := ⟨_, rfl⟩
  have hB0 : Below w.heap.size w V := by rw [hV]; exact (Below.refl _ _).alloc (Nat.le_refl _) _
  have HX : Hid (BoxN w.heap.size 29 #[.int .i64 f, .int .i64 t] V) := by show BoxN _ _ _ _; rw [hV]; exact box_new w _ _
  have HI := Lib.hid (hX.below hB0)
  have HJ := Lib.hid (hY.below hB0)
  have HT := Lib.hid (hT.below hB0 (Nat.le_refl _))
  have HB0 := Lib.hid hB0
  have HVe := Lib.hid hV
  have HL : Hid (∀ W, V.grownBy W none → IdxN S X l W ∧ IdxN R Y l W ∧ Rounds W ∧ True) := fun W hW => ⟨HI.out.below (grown_below hW), HJ.out.below (grown_below hW), HT.out.below (grown_below hW) (Nat.le_refl _), trivial⟩
  have HQ : Hid (∀ W, V.grownBy W none → W.cell? ⟨w.heap.size, 0, none⟩ = some (.int .i64 f) ∧ W.cell? ⟨w.heap.size, 1, none⟩ = some (.int .i64 t)) := fun W hW => ⟨BoxN.cell (BoxN.grown HX.out hW (by simp)) 0 _ rfl, BoxN.cell (BoxN.grown HX.out hW (by simp)) 1 _ rfl⟩
  obtain ⟨rt, hrt⟩ : ∃ rt, rt = rootL (codesC l) := ⟨_, rfl⟩
  obtain ⟨L, hL⟩ : ∃ L, L = levsR (fun y : Nat => (cntY l (y : Int) : Int)) 2100 := ⟨_, rfl⟩
  obtain ⟨bb, hbb⟩ : ∃ B, B = busE L := ⟨_, rfl⟩
  obtain ⟨D, hD⟩ : ∃ D, D = durE l f t := ⟨_, rfl⟩
  obtain ⟨A, hA⟩ : ∃ A, A = aboutE l u f t := ⟨_, rfl⟩
  obtain ⟨cn, hcn⟩ : ∃ c, c = countE l f := ⟨_, rfl⟩
  have HRt : Hid (∀ {S X} (W : World), IdxN S X l W → Rounds W → Calls Tryd.prog 30 #[.pointer (some ⟨X, 0, none⟩)] W fun e w' => e = .returned (.string (bs rt)) ∧ Below W.heap.size W w') := fun W h1 h2 => by rw [hrt]; exact iroot_any W h1 h2
  have HPr : Hid (∀ {S X} (W : World), IdxN S X l W → Calls Tryd.prog 27 #[.pointer (some ⟨X, 0, none⟩)] W fun e w' => ∃ v, e = .returned v ∧ OwnK levK W.heap.size w' v L ∧ Below W.heap.size W w') := fun W h1 => by rw [hL]; exact profile_any W h1
  have HBs : Hid (∀ {S X} (W : World), IdxN S X l W → Calls Tryd.prog 28 #[.pointer (some ⟨X, 0, none⟩)] W fun e w' => e = .returned (levV bb) ∧ Below W.heap.size W w') := fun W h1 => by rw [hbb, hL]; exact busiest_any W h1
  have HDu : Hid (∀ {S X} (W : World), IdxN S X l W → Calls Tryd.prog 23 #[.pointer (some ⟨X, 0, none⟩), .agg #[.int .i64 f, .int .i64 t]] W fun e w' => ∃ v, e = .returned v ∧ OwnK intK W.heap.size w' v D ∧ Below W.heap.size W w') := fun W h1 => by rw [hD]; exact during_any f t W h1
  have HAb : Hid (∀ {S X} (W : World), IdxN S X l W → Calls Tryd.prog 24 #[.pointer (some ⟨X, 0, none⟩), .int .i64 u, .agg #[.int .i64 f, .int .i64 t]] W fun e w' => ∃ v, e = .returned v ∧ OwnK intK W.heap.size w' v A ∧ Below W.heap.size W w') := fun W h1 => by rw [hA]; exact about_any u f t W h1
  have HCn : Hid (∀ {S X} (W : World), IdxN S X l W → Calls Tryd.prog 21 #[.pointer (some ⟨X, 0, none⟩), .int .i64 f] W fun e w' => e = .returned (.int .i64 cn) ∧ w' = W) := fun W h1 => by rw [hcn]; exact count_any f W h1
  clear hB0 hV hX hY hT hrt hbb hL hD hA hcn HI HJ HT HX
  have hqs : ((bs rt).toList == (bs rt).toList) = true := by simp
  have hqb : ∀ W, (binOp .eql 60 (levV bb) (levV bb)).run Tryd.prog W = .ok (.bool true) W := fun W => by rw [run_eqlLev]; simp
  go_enter Tryd.func26, Tryd.ntmps26
  go_wp2
  rw [← HVe.out]
  refine wp_region_calm (tagPl [1, 3, 4, 7, 9, 14, 16, 17, 21, 23, 29, 32, 33, 39, 43, 44, 50, 54] [(1, .own cardK V.heap.size l), (3, .own cardK V.heap.size l), (4, .val (.bool true)), (7, .val (.string (bs rt))), (9, .val (.string (bs rt))), (14, .own levK V.heap.size L), (16, .own levK V.heap.size L), (17, .val (.bool true)), (21, .val (levV bb)), (23, .val (levV bb)), (29, .own intK V.heap.size D), (32, .own intK V.heap.size D), (33, .val (.bool true)), (39, .own intK V.heap.size A), (43, .own intK V.heap.size A), (44, .val (.bool true)), (50, .val (.int .i64 cn)), (54, .val (.int .i64 cn))] 1000) (by kernel_rfl) (by kernel_rfl) (by kernel_rfl) tag_c0 tag_hst ?_
  iterate 1 (refine calm_quiet (v := ?_) (by rfl) (by rfl) (fun W hW hD => ?_) ?_; rotate_left; (· (clear hD hW; go_simp; try with_reducible rfl)); simp only [Act.put, List.setIfInBounds_toArray, List.set_cons_zero, List.set_cons_succ, Nat.reduceAdd, Nat.zero_add])
  refine calm_makes (by rfl) (by rfl) (fun W hW hD Kc hK => ?_) (fun va => ?_)
  · obtain ⟨hX, hY, hR, _⟩ := HL.out W hW
    have hz := hW.size
    refine wp_of_call (f := 15) ?_ ((cards_any W hX).mono ?_)
    · clear hD hW hK hX hY hR
      go_simp
    · rintro e w5 ⟨v5, rfl, ho5, hb5⟩
      exact ⟨_, rfl, hK _ _ (made_below (OwnK.mono ho5 hz) hb5 (World.ownsRow.lt ho5))⟩
  simp only [Act.put, List.setIfInBounds_toArray, List.set_cons_zero, List.set_cons_succ, Nat.reduceAdd, Nat.zero_add]
  iterate 1 (refine calm_quiet (v := ?_) (by rfl) (by rfl) (fun W hW hD => ?_) ?_; rotate_left; (· (clear hD hW; go_simp; try with_reducible rfl)); simp only [Act.put, List.setIfInBounds_toArray, List.set_cons_zero, List.set_cons_succ, Nat.reduceAdd, Nat.zero_add])
  refine calm_makes (by rfl) (by rfl) (fun W hW hD Kc hK => ?_) (fun vb => ?_)
  · obtain ⟨hX, hY, hR, _⟩ := HL.out W hW
    have hz := hW.size
    refine wp_of_call (f := 15) ?_ ((cards_any W hY).mono ?_)
    · clear hD hW hK hX hY hR
      go_simp
    · rintro e w5 ⟨v5, rfl, ho5, hb5⟩
      exact ⟨_, rfl, hK _ _ (made_below (OwnK.mono ho5 hz) hb5 (World.ownsRow.lt ho5))⟩
  simp only [Act.put, List.setIfInBounds_toArray, List.set_cons_zero, List.set_cons_succ, Nat.reduceAdd, Nat.zero_add]
  refine calm_fixed (.bool true) ⟨(default : World), rfl⟩ (fun v W h => h) rfl (by rfl) (by rfl) (fun W hW hD Kc hK => ?_) ?_
  · have h1 : OwnK cardK V.heap.size W va l := hD [] 1 (by kernel_rfl) (by kernel_rfl) (by kernel_rfl)
    have h3 : OwnK cardK V.heap.size W vb l := hD [] 3 (by kernel_rfl) (by kernel_rfl) (by kernel_rfl)
    refine wp_of_call (f := 31) (args := #[va, vb]) ?_ ((sameC_any va vb l l W (h1.rows cardOk) (h3.rows cardOk)).mono ?_)
    · clear hD hW hK h1 h3
      go_simp
    · rintro e w5 ⟨rfl, hb5⟩
      rw [beq_self_eq_true]
      exact ⟨_, rfl, hK _ _ (made_plain rfl hb5 rfl)⟩
  simp only [Act.put, List.setIfInBounds_toArray, List.set_cons_zero, List.set_cons_succ, Nat.reduceAdd, Nat.zero_add]
  iterate 2 (refine calm_quiet (v := ?_) (by rfl) (by rfl) (fun W hW hD => ?_) ?_; rotate_left; (· (clear hD hW; go_simp; try with_reducible rfl)); simp only [Act.put, List.setIfInBounds_toArray, List.set_cons_zero, List.set_cons_succ, Nat.reduceAdd, Nat.zero_add])
  refine calm_fixed (.string (bs rt)) ⟨(default : World), rfl⟩ (fun v W h => h) rfl (by rfl) (by rfl) (fun W hW hD Kc hK => ?_) ?_
  · obtain ⟨hX, hY, hR, _⟩ := HL.out W hW
    refine wp_of_call (f := 30) ?_ ((HRt.out W hX hR).mono ?_)
    · clear hD hW hK hX hY hR
      go_simp
    · rintro e w5 ⟨rfl, hb5⟩
      exact ⟨_, rfl, hK _ _ (made_plain rfl hb5 rfl)⟩
  simp only [Act.put, List.setIfInBounds_toArray, List.set_cons_zero, List.set_cons_succ, Nat.reduceAdd, Nat.zero_add]
  iterate 1 (refine calm_quiet (v := ?_) (by rfl) (by rfl) (fun W hW hD => ?_) ?_; rotate_left; (· (clear hD hW; go_simp; try with_reducible rfl)); simp only [Act.put, List.setIfInBounds_toArray, List.set_cons_zero, List.set_cons_succ, Nat.reduceAdd, Nat.zero_add])
  refine calm_fixed (.string (bs rt)) ⟨(default : World), rfl⟩ (fun v W h => h) rfl (by rfl) (by rfl) (fun W hW hD Kc hK => ?_) ?_
  · obtain ⟨hX, hY, hR, _⟩ := HL.out W hW
    refine wp_of_call (f := 30) ?_ ((HRt.out W hY hR).mono ?_)
    · clear hD hW hK hX hY hR
      go_simp
    · rintro e w5 ⟨rfl, hb5⟩
      exact ⟨_, rfl, hK _ _ (made_plain rfl hb5 rfl)⟩
  simp only [Act.put, List.setIfInBounds_toArray, List.set_cons_zero, List.set_cons_succ, Nat.reduceAdd, Nat.zero_add]
  iterate 3 (refine calm_quiet (v := ?_) (by rfl) (by rfl) (fun W hW hD => ?_) ?_; rotate_left; (· (clear hD hW; go_simp; try with_reducible rfl)); simp only [Act.put, List.setIfInBounds_toArray, List.set_cons_zero, List.set_cons_succ, Nat.reduceAdd, Nat.zero_add])
  iterate 1 (refine calm_quiet (v := ?_) (by rfl) (by rfl) (fun W hW hD => ?_) ?_; rotate_left; (· (clear hD hW; go_simp; try with_reducible rfl)); simp only [Act.put, List.setIfInBounds_toArray, List.set_cons_zero, List.set_cons_succ, Nat.reduceAdd, Nat.zero_add])
  refine calm_makes (by rfl) (by rfl) (fun W hW hD Kc hK => ?_) (fun vc => ?_)
  · obtain ⟨hX, hY, hR, _⟩ := HL.out W hW
    have hz := hW.size
    refine wp_of_call (f := 27) ?_ ((HPr.out W hX).mono ?_)
    · clear hD hW hK hX hY hR
      go_simp
    · rintro e w5 ⟨v5, rfl, ho5, hb5⟩
      exact ⟨_, rfl, hK _ _ (made_below (OwnK.mono ho5 hz) hb5 (World.ownsRow.lt ho5))⟩
  simp only [Act.put, List.setIfInBounds_toArray, List.set_cons_zero, List.set_cons_succ, Nat.reduceAdd, Nat.zero_add]
  iterate 1 (refine calm_quiet (v := ?_) (by rfl) (by rfl) (fun W hW hD => ?_) ?_; rotate_left; (· (clear hD hW; go_simp; try with_reducible rfl)); simp only [Act.put, List.setIfInBounds_toArray, List.set_cons_zero, List.set_cons_succ, Nat.reduceAdd, Nat.zero_add])
  refine calm_makes (by rfl) (by rfl) (fun W hW hD Kc hK => ?_) (fun vd => ?_)
  · obtain ⟨hX, hY, hR, _⟩ := HL.out W hW
    have hz := hW.size
    refine wp_of_call (f := 27) ?_ ((HPr.out W hY).mono ?_)
    · clear hD hW hK hX hY hR
      go_simp
    · rintro e w5 ⟨v5, rfl, ho5, hb5⟩
      exact ⟨_, rfl, hK _ _ (made_below (OwnK.mono ho5 hz) hb5 (World.ownsRow.lt ho5))⟩
  simp only [Act.put, List.setIfInBounds_toArray, List.set_cons_zero, List.set_cons_succ, Nat.reduceAdd, Nat.zero_add]
  refine calm_fixed (.bool true) ⟨(default : World), rfl⟩ (fun v W h => h) rfl (by rfl) (by rfl) (fun W hW hD Kc hK => ?_) ?_
  · have h14 : OwnK levK V.heap.size W vc L := hD [] 14 (by kernel_rfl) (by kernel_rfl) (by kernel_rfl)
    have h16 : OwnK levK V.heap.size W vd L := hD [] 16 (by kernel_rfl) (by kernel_rfl) (by kernel_rfl)
    refine wp_of_call (f := 36) (args := #[vc, vd]) ?_ ((sameL_any vc vd L L W (h14.rows levKOk) (h16.rows levKOk)).mono ?_)
    · clear hD hW hK h14 h16
      go_simp
    · rintro e w5 ⟨rfl, hb5⟩
      rw [beq_self_eq_true]
      exact ⟨_, rfl, hK _ _ (made_plain rfl hb5 rfl)⟩
  simp only [Act.put, List.setIfInBounds_toArray, List.set_cons_zero, List.set_cons_succ, Nat.reduceAdd, Nat.zero_add]
  iterate 2 (refine calm_quiet (v := ?_) (by rfl) (by rfl) (fun W hW hD => ?_) ?_; rotate_left; (· (clear hD hW; go_simp; try with_reducible rfl)); simp only [Act.put, List.setIfInBounds_toArray, List.set_cons_zero, List.set_cons_succ, Nat.reduceAdd, Nat.zero_add])
  iterate 1 (refine calm_quiet (v := ?_) (by rfl) (by rfl) (fun W hW hD => ?_) ?_; rotate_left; (· (clear hD hW; go_simp; try with_reducible rfl)); simp only [Act.put, List.setIfInBounds_toArray, List.set_cons_zero, List.set_cons_succ, Nat.reduceAdd, Nat.zero_add])
  refine calm_fixed (levV bb) ⟨(default : World), rfl⟩ (fun v W h => h) rfl (by rfl) (by rfl) (fun W hW hD Kc hK => ?_) ?_
  · obtain ⟨hX, hY, hR, _⟩ := HL.out W hW
    refine wp_of_call (f := 28) ?_ ((HBs.out W hX).mono ?_)
    · clear hD hW hK hX hY hR
      go_simp
    · rintro e w5 ⟨rfl, hb5⟩
      exact ⟨_, rfl, hK _ _ (made_plain rfl hb5 rfl)⟩
  simp only [Act.put, List.setIfInBounds_toArray, List.set_cons_zero, List.set_cons_succ, Nat.reduceAdd, Nat.zero_add]
  iterate 1 (refine calm_quiet (v := ?_) (by rfl) (by rfl) (fun W hW hD => ?_) ?_; rotate_left; (· (clear hD hW; go_simp; try with_reducible rfl)); simp only [Act.put, List.setIfInBounds_toArray, List.set_cons_zero, List.set_cons_succ, Nat.reduceAdd, Nat.zero_add])
  refine calm_fixed (levV bb) ⟨(default : World), rfl⟩ (fun v W h => h) rfl (by rfl) (by rfl) (fun W hW hD Kc hK => ?_) ?_
  · obtain ⟨hX, hY, hR, _⟩ := HL.out W hW
    refine wp_of_call (f := 28) ?_ ((HBs.out W hY).mono ?_)
    · clear hD hW hK hX hY hR
      go_simp
    · rintro e w5 ⟨rfl, hb5⟩
      exact ⟨_, rfl, hK _ _ (made_plain rfl hb5 rfl)⟩
  simp only [Act.put, List.setIfInBounds_toArray, List.set_cons_zero, List.set_cons_succ, Nat.reduceAdd, Nat.zero_add]
  iterate 3 (refine calm_quiet (v := ?_) (by rfl) (by rfl) (fun W hW hD => ?_) ?_; rotate_left; (· (clear hD hW; go_simp; try with_reducible rfl)); simp only [Act.put, List.setIfInBounds_toArray, List.set_cons_zero, List.set_cons_succ, Nat.reduceAdd, Nat.zero_add])
  iterate 2 (refine calm_quiet (v := ?_) (by rfl) (by rfl) (fun W hW hD => ?_) ?_; rotate_left; (· (obtain ⟨y0, y1⟩ := HQ.out W hW; clear hD hW; go_simp; try with_reducible rfl)); simp only [Act.put, List.setIfInBounds_toArray, List.set_cons_zero, List.set_cons_succ, Nat.reduceAdd, Nat.zero_add])
  refine calm_makes (by rfl) (by rfl) (fun W hW hD Kc hK => ?_) (fun ve => ?_)
  · obtain ⟨hX, hY, hR, _⟩ := HL.out W hW
    have hz := hW.size
    refine wp_of_call (f := 23) ?_ ((HDu.out W hX).mono ?_)
    · clear hD hW hK hX hY hR
      go_simp
    · rintro e w5 ⟨v5, rfl, ho5, hb5⟩
      exact ⟨_, rfl, hK _ _ (made_below (OwnK.mono ho5 hz) hb5 (World.ownsRow.lt ho5))⟩
  simp only [Act.put, List.setIfInBounds_toArray, List.set_cons_zero, List.set_cons_succ, Nat.reduceAdd, Nat.zero_add]
  iterate 2 (refine calm_quiet (v := ?_) (by rfl) (by rfl) (fun W hW hD => ?_) ?_; rotate_left; (· (obtain ⟨y0, y1⟩ := HQ.out W hW; clear hD hW; go_simp; try with_reducible rfl)); simp only [Act.put, List.setIfInBounds_toArray, List.set_cons_zero, List.set_cons_succ, Nat.reduceAdd, Nat.zero_add])
  refine calm_makes (by rfl) (by rfl) (fun W hW hD Kc hK => ?_) (fun vf => ?_)
  · obtain ⟨hX, hY, hR, _⟩ := HL.out W hW
    have hz := hW.size
    refine wp_of_call (f := 23) ?_ ((HDu.out W hY).mono ?_)
    · clear hD hW hK hX hY hR
      go_simp
    · rintro e w5 ⟨v5, rfl, ho5, hb5⟩
      exact ⟨_, rfl, hK _ _ (made_below (OwnK.mono ho5 hz) hb5 (World.ownsRow.lt ho5))⟩
  simp only [Act.put, List.setIfInBounds_toArray, List.set_cons_zero, List.set_cons_succ, Nat.reduceAdd, Nat.zero_add]
  refine calm_fixed (.bool true) ⟨(default : World), rfl⟩ (fun v W h => h) rfl (by rfl) (by rfl) (fun W hW hD Kc hK => ?_) ?_
  · have h29 : OwnK intK V.heap.size W ve D := hD [] 29 (by kernel_rfl) (by kernel_rfl) (by kernel_rfl)
    have h32 : OwnK intK V.heap.size W vf D := hD [] 32 (by kernel_rfl) (by kernel_rfl) (by kernel_rfl)
    refine wp_of_call (f := 22) (args := #[ve, vf]) ?_ ((sameI_any ve vf D D W (h29.rows intOk) (h32.rows intOk)).mono ?_)
    · clear hD hW hK h29 h32
      go_simp
    · rintro e w5 ⟨rfl, hb5⟩
      rw [beq_self_eq_true]
      exact ⟨_, rfl, hK _ _ (made_plain rfl hb5 rfl)⟩
  simp only [Act.put, List.setIfInBounds_toArray, List.set_cons_zero, List.set_cons_succ, Nat.reduceAdd, Nat.zero_add]
  iterate 2 (refine calm_quiet (v := ?_) (by rfl) (by rfl) (fun W hW hD => ?_) ?_; rotate_left; (· (clear hD hW; go_simp; try with_reducible rfl)); simp only [Act.put, List.setIfInBounds_toArray, List.set_cons_zero, List.set_cons_succ, Nat.reduceAdd, Nat.zero_add])
  iterate 3 (refine calm_quiet (v := ?_) (by rfl) (by rfl) (fun W hW hD => ?_) ?_; rotate_left; (· (obtain ⟨y0, y1⟩ := HQ.out W hW; clear hD hW; go_simp; try with_reducible rfl)); simp only [Act.put, List.setIfInBounds_toArray, List.set_cons_zero, List.set_cons_succ, Nat.reduceAdd, Nat.zero_add])
  refine calm_makes (by rfl) (by rfl) (fun W hW hD Kc hK => ?_) (fun vg => ?_)
  · obtain ⟨hX, hY, hR, _⟩ := HL.out W hW
    have hz := hW.size
    refine wp_of_call (f := 24) ?_ ((HAb.out W hX).mono ?_)
    · clear hD hW hK hX hY hR
      go_simp
    · rintro e w5 ⟨v5, rfl, ho5, hb5⟩
      exact ⟨_, rfl, hK _ _ (made_below (OwnK.mono ho5 hz) hb5 (World.ownsRow.lt ho5))⟩
  simp only [Act.put, List.setIfInBounds_toArray, List.set_cons_zero, List.set_cons_succ, Nat.reduceAdd, Nat.zero_add]
  iterate 3 (refine calm_quiet (v := ?_) (by rfl) (by rfl) (fun W hW hD => ?_) ?_; rotate_left; (· (obtain ⟨y0, y1⟩ := HQ.out W hW; clear hD hW; go_simp; try with_reducible rfl)); simp only [Act.put, List.setIfInBounds_toArray, List.set_cons_zero, List.set_cons_succ, Nat.reduceAdd, Nat.zero_add])
  refine calm_makes (by rfl) (by rfl) (fun W hW hD Kc hK => ?_) (fun vh => ?_)
  · obtain ⟨hX, hY, hR, _⟩ := HL.out W hW
    have hz := hW.size
    refine wp_of_call (f := 24) ?_ ((HAb.out W hY).mono ?_)
    · clear hD hW hK hX hY hR
      go_simp
    · rintro e w5 ⟨v5, rfl, ho5, hb5⟩
      exact ⟨_, rfl, hK _ _ (made_below (OwnK.mono ho5 hz) hb5 (World.ownsRow.lt ho5))⟩
  simp only [Act.put, List.setIfInBounds_toArray, List.set_cons_zero, List.set_cons_succ, Nat.reduceAdd, Nat.zero_add]
  refine calm_fixed (.bool true) ⟨(default : World), rfl⟩ (fun v W h => h) rfl (by rfl) (by rfl) (fun W hW hD Kc hK => ?_) ?_
  · have h39 : OwnK intK V.heap.size W vg A := hD [] 39 (by kernel_rfl) (by kernel_rfl) (by kernel_rfl)
    have h43 : OwnK intK V.heap.size W vh A := hD [] 43 (by kernel_rfl) (by kernel_rfl) (by kernel_rfl)
    refine wp_of_call (f := 22) (args := #[vg, vh]) ?_ ((sameI_any vg vh A A W (h39.rows intOk) (h43.rows intOk)).mono ?_)
    · clear hD hW hK h39 h43
      go_simp
    · rintro e w5 ⟨rfl, hb5⟩
      rw [beq_self_eq_true]
      exact ⟨_, rfl, hK _ _ (made_plain rfl hb5 rfl)⟩
  simp only [Act.put, List.setIfInBounds_toArray, List.set_cons_zero, List.set_cons_succ, Nat.reduceAdd, Nat.zero_add]
  iterate 2 (refine calm_quiet (v := ?_) (by rfl) (by rfl) (fun W hW hD => ?_) ?_; rotate_left; (· (clear hD hW; go_simp; try with_reducible rfl)); simp only [Act.put, List.setIfInBounds_toArray, List.set_cons_zero, List.set_cons_succ, Nat.reduceAdd, Nat.zero_add])
  iterate 3 (refine calm_quiet (v := ?_) (by rfl) (by rfl) (fun W hW hD => ?_) ?_; rotate_left; (· (obtain ⟨y0, y1⟩ := HQ.out W hW; clear hD hW; go_simp; try with_reducible rfl)); simp only [Act.put, List.setIfInBounds_toArray, List.set_cons_zero, List.set_cons_succ, Nat.reduceAdd, Nat.zero_add])
  refine calm_fixed (.int .i64 cn) ⟨(default : World), rfl⟩ (fun v W h => h) rfl (by rfl) (by rfl) (fun W hW hD Kc hK => ?_) ?_
  · obtain ⟨hX, hY, hR, _⟩ := HL.out W hW
    refine wp_of_call (f := 21) ?_ ((HCn.out W hX).mono ?_)
    · clear hD hW hK hX hY hR
      go_simp
    · rintro e w5 ⟨rfl, rfl⟩
      exact ⟨_, rfl, hK _ _ (made_plain rfl (Below.refl _ _) rfl)⟩
  simp only [Act.put, List.setIfInBounds_toArray, List.set_cons_zero, List.set_cons_succ, Nat.reduceAdd, Nat.zero_add]
  iterate 3 (refine calm_quiet (v := ?_) (by rfl) (by rfl) (fun W hW hD => ?_) ?_; rotate_left; (· (obtain ⟨y0, y1⟩ := HQ.out W hW; clear hD hW; go_simp; try with_reducible rfl)); simp only [Act.put, List.setIfInBounds_toArray, List.set_cons_zero, List.set_cons_succ, Nat.reduceAdd, Nat.zero_add])
  refine calm_fixed (.int .i64 cn) ⟨(default : World), rfl⟩ (fun v W h => h) rfl (by rfl) (by rfl) (fun W hW hD Kc hK => ?_) ?_
  · obtain ⟨hX, hY, hR, _⟩ := HL.out W hW
    refine wp_of_call (f := 21) ?_ ((HCn.out W hY).mono ?_)
    · clear hD hW hK hX hY hR
      go_simp
    · rintro e w5 ⟨rfl, rfl⟩
      exact ⟨_, rfl, hK _ _ (made_plain rfl (Below.refl _ _) rfl)⟩
  simp only [Act.put, List.setIfInBounds_toArray, List.set_cons_zero, List.set_cons_succ, Nat.reduceAdd, Nat.zero_add]
  iterate 3 (refine calm_quiet (v := ?_) (by rfl) (by rfl) (fun W hW hD => ?_) ?_; rotate_left; (· (clear hD hW; go_simp; try with_reducible rfl)); simp only [Act.put, List.setIfInBounds_toArray, List.set_cons_zero, List.set_cons_succ, Nat.reduceAdd, Nat.zero_add])
  refine calm_nil fun W hW hF => ?_
  have HB9 : Hid (Below w.heap.size w W) := HB0.out.trans ((grown_below hW).mono HB0.out.size)
  clear hF hW
  go_wp2
  go_ret
  exact ⟨rfl, HB9.out⟩
end Go.Proofs.YtcgopilkajfghaaDoor
