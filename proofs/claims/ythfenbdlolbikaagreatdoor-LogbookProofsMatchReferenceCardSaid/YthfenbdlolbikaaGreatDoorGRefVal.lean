/- The reference's Valid and Find of logbook. -/
import Derived.Test.YthfenbdlolbikaaGreatDoorGRefEnc
set_option linter.unusedVariables false
set_option linter.unusedSimpArgs false
namespace Go.Proofs.YthfenbdlolbikaaGreatDoor
open Go.RowKit Go.Shelf

theorem recB_sec {x : LRec} (h : recB x = true) : 0 ≤ x.sec := by
  unfold recB at h
  simp only [Bool.and_eq_true, inZ_iff] at h
  exact h.1.1.1.1.1
theorem lastSec_take (l : List LRec) (k : Nat) (h : k < l.length) (hk : 0 < k) : lastSec 0 (l.take k) = (l.getD (k - 1) default).sec := by
  have := lastSec_succ 0 l (k - 1) (by omega)
  rwa [show k - 1 + 1 = k from by omega] at this
set_option maxHeartbeats 4000000 in
set_option maxRecDepth 100000 in
theorem refValid_any (o : Int) (rv : Value) (l : List LRec) (w : World) (h : RecsAt w.heap.size w rv l) (hl : l.length ≤ 1000000) :
    Calls Tryz.prog 42 #[bookV o rv] w fun e w' => e = .returned (.bool (bookB ⟨o, l⟩)) ∧ Below w.heap.size w w' := by
  obtain ⟨a, c, rfl, hlc, hcm⟩ := h.shape
  unfold maxLen at hcm
  have HL := Lib.hid h
  have HV : Hid (bookB ⟨o, l⟩ = (secsB 0 l && inZ o 0 99 && decide (l.length ≤ 60))) := rfl
  clear h
  generalize hn : l.length = n at *
  have HN := Lib.hid hn
  clear hn
  have HB : Hid (∀ o : Obj, Below w.heap.size w (w.alloc o)) := fun o => (Below.refl _ _).alloc (Nat.le_refl _) o
  by_cases ho1 : o < 0
  · have HF : Hid (bookB ⟨o, l⟩ = false) := by
      show _ = _
      rw [HV.out, show inZ o 0 99 = false from by rw [Bool.eq_false_iff]; intro h; have := inZ_iff.1 h; omega]
      simp
    go_enter Tryz.func42, Tryz.ntmps42
    go_wp2
    go_ret
    exact ⟨by rw [HF.out]; try rfl, HB.out _⟩
  by_cases ho2 : 99 < o
  · have HF : Hid (bookB ⟨o, l⟩ = false) := by
      show _ = _
      rw [HV.out, show inZ o 0 99 = false from by rw [Bool.eq_false_iff]; intro h; have := inZ_iff.1 h; omega]
      simp
    go_enter Tryz.func42, Tryz.ntmps42
    go_wp2
    go_ret
    exact ⟨by rw [HF.out]; try rfl, HB.out _⟩
  by_cases ho3 : 60 < n
  · have HF : Hid (bookB ⟨o, l⟩ = false) := by
      show _ = _
      rw [HV.out, decide_eq_false (by omega), Bool.and_false]
    have n60 : (60 : Int) < (n : Int) := by omega
    go_enter Tryz.func42, Tryz.ntmps42
    go_wp2
    go_ret
    exact ⟨by rw [HF.out]; try rfl, HB.out _⟩
  have HV2 : Hid (bookB ⟨o, l⟩ = secsB 0 l) := by
    show _ = _
    rw [HV.out, inZ_iff.2 ⟨by omega, by omega⟩, decide_eq_true (by omega)]
    simp
  have n60 : ¬ ((60 : Int) < (n : Int)) := by omega
  clear ho3 HV
  go_enter Tryz.func42, Tryz.ntmps42
  go_wp2
  clear ho1 ho2 n60
  go_loopw [3] (fun i wr => ∃ k : Nat, k ≤ n ∧ i = .int .i64 k ∧ Hid (secsB 0 (l.take k) = true) ∧ Below w.heap.size w wr ∧ LogBox wr w.heap.size o (.slice a n c)) (fun i _ => n - (intOf i).toNat)
  case atStart => exact ⟨0, Nat.zero_le _, rfl, rfl, HB.out _, logBox_new w o (.slice a n c)⟩
  case round =>
    obtain ⟨k, hk, rfl, HS, hW, hbox⟩ := hrel
    have hz := hW.size
    by_cases h1 : k < n
    · have hkn : (k : Int) < (n : Int) := by omega
      have hk0 : 0 ≤ (k : Int) := by omega
      obtain ⟨b, off, hae, hb, hat⟩ := HL.out.at k (by rw [HN.out]; exact h1)
      subst hae
      have HQ : Hid (∀ W, wr.grownBy W none → W.cell? ⟨w.heap.size, 1, none⟩ = some (.slice (some ⟨b, off, none⟩) n c) ∧ RecAt W b (off + k * 5) (l.getD k default)) := fun W hg => ⟨(hbox.below (grown_below hg) hbox.lt).c1, hat.below (hW.trans ((grown_below hg).mono hz)) hb⟩
      have HQP : Hid (0 < k → ∀ W, wr.grownBy W none → W.cell? ⟨b, off + (k - 1) * 5, none⟩ = some (.int .i64 (lastSec 0 (l.take k)))) := fun h0 W hg => by
        obtain ⟨b2, off2, hae2, hb2, hat2⟩ := HL.out.at (k - 1) (by rw [HN.out]; omega)
        cases hae2
        rw [lastSec_take l k (by rw [HN.out]; exact h1) h0]
        exact (hat2.below (hW.trans ((grown_below hg).mono hz)) hb).1
      have HS2 := Lib.hid (secsB_succ l k (by rw [HN.out]; exact h1))
      rw [HS.out, Bool.true_and] at HS2
      have HK0 : Hid (k = 0 → lastSec 0 (l.take k) = 0) := fun e => by rw [e]; rfl
      have HW := Lib.hid hW
      have HX := Lib.hid hbox
      generalize lastSec 0 (l.take k) = u at *
      generalize l.getD k default = x at *
      have q0 := hbox.c0
      have q1 := hbox.c1
      clear hat hW hbox
      obtain ⟨s, kd, p, q, t⟩ := x
      have HQ' : Hid (∀ W, wr.grownBy W none → W.cell? ⟨w.heap.size, 1, none⟩ = some (.slice (some ⟨b, off, none⟩) n c) ∧ W.cell? ⟨b, off + k * 5, none⟩ = some (.int .i64 s) ∧ W.cell? ⟨b, off + k * 5 + 1, none⟩ = some (.int .i64 kd) ∧ W.cell? ⟨b, off + k * 5 + 2, none⟩ = some (.int .i64 p) ∧ W.cell? ⟨b, off + k * 5 + 3, none⟩ = some (.int .i64 q) ∧ W.cell? ⟨b, off + k * 5 + 4, none⟩ = some (.string (bs t))) := fun W hg => HQ.out W hg
      clear HQ
      have HQ := HQ'
      clear HQ'
      have HRv := Lib.hid (fun W => refvalid_any ⟨s, kd, p, q, t⟩ W)
      cases hr : recB ⟨s, kd, p, q, t⟩
      · rw [hr] at HRv HS2
        have HF : Hid (bookB ⟨o, l⟩ = false) := by
          show _ = _
          rw [HV2.out, secsB_take (k + 1) (by rw [HS2.out]; rfl)]
        clear hr HS2 HS HQP HK0
        go_wp2
        clear q0 q1
        refine wp_region_calm ⟨[5], fun _ v _ => v = .bool false, fun _ => [], 99, none, 1000⟩ (by kernel_rfl) (by kernel_rfl) (by kernel_rfl) (fun g h => by cases h) (fun k hk v W W' c h hg hc => h) ?_
        iterate 5 (refine calm_quiet (v := ?_) (by rfl) (by rfl) (fun W hW hD => ?_) ?_; rotate_left; (· (obtain ⟨z0, z1, z2, z3, z4, z5⟩ := HQ.out W hW; clear hD hW; go_simp; try with_reducible rfl)); simp only [Act.put, List.setIfInBounds_toArray, List.set_cons_zero, List.set_cons_succ, Nat.reduceAdd, Nat.zero_add])
        refine calm_makes (by rfl) (by rfl) (fun W hW hD Kc hK => ?_) (fun v30 => ?_)
        · refine wp_of_call (f := 79) ?_ ((HRv.out W).mono ?_)
          · obtain ⟨z0, z1, z2, z3, z4, z5⟩ := HQ.out W hW
            clear hD hW hK
            go_simp
          · rintro e w5 ⟨rfl, hb5⟩
            exact ⟨_, rfl, hK _ _ (made_plain rfl hb5 rfl)⟩
        simp only [Act.put, List.setIfInBounds_toArray, List.set_cons_zero, List.set_cons_succ, Nat.reduceAdd, Nat.zero_add]
        refine calm_quiet (v := .bool true) (by rfl) (by rfl) (fun W hW hD => ?_) ?_
        · obtain rfl : v30 = .bool false := hD [] 5 (by kernel_rfl) (by kernel_rfl) (by kernel_rfl)
          clear hD hW
          go_simp
        simp only [Act.put, List.setIfInBounds_toArray, List.set_cons_zero, List.set_cons_succ, Nat.reduceAdd, Nat.zero_add]
        iterate 1 (refine calm_quiet (v := ?_) (by rfl) (by rfl) (fun W hW hD => ?_) ?_; rotate_left; (· (clear hD hW; go_simp; try with_reducible rfl)); simp only [Act.put, List.setIfInBounds_toArray, List.set_cons_zero, List.set_cons_succ, Nat.reduceAdd, Nat.zero_add])
        iterate 18 (refine calm_skip (by rfl) (by rfl) ?_; simp only [Act.put, List.setIfInBounds_toArray, List.set_cons_zero, List.set_cons_succ, Nat.reduceAdd, Nat.zero_add])
        iterate 1 (refine calm_quiet (v := ?_) (by rfl) (by rfl) (fun W hW hD => ?_) ?_; rotate_left; (· (obtain ⟨z0, z1, z2, z3, z4, z5⟩ := HQ.out W hW; clear hD hW; go_simp; try with_reducible rfl)); simp only [Act.put, List.setIfInBounds_toArray, List.set_cons_zero, List.set_cons_succ, Nat.reduceAdd, Nat.zero_add])
        refine calm_nil fun W hW hF => ?_
        have HBf := Lib.hid (HW.out.trans ((grown_below hW).mono hz))
        clear hF hW HQ HW HX
        go_wp2
        go_ret
        exact ⟨by rw [HF.out]; try rfl, HBf.out⟩
      · have hsec := recB_sec hr
        rw [hr, Bool.true_and] at HS2
        rw [hr] at HRv
        simp only at hsec HS2
        clear hr
        by_cases hk1 : k = 0
        · have HS3 : Hid (secsB 0 (l.take (k + 1)) = true) := by
            show _ = _
            rw [HS2.out, HK0.out hk1]
            exact decide_eq_true hsec
          have kz : decide (0 < k) = false := by simp; omega
          clear hk1 HS2 HS HQP HK0 hsec
          go_wp2
          clear q0 q1
          refine wp_region_calm ⟨[5], fun _ v _ => v = .bool true, fun _ => [], 99, none, 1000⟩ (by kernel_rfl) (by kernel_rfl) (by kernel_rfl) (fun g h => by cases h) (fun k hk v W W' c h hg hc => h) ?_
          iterate 5 (refine calm_quiet (v := ?_) (by rfl) (by rfl) (fun W hW hD => ?_) ?_; rotate_left; (· (obtain ⟨z0, z1, z2, z3, z4, z5⟩ := HQ.out W hW; clear hD hW; go_simp; try with_reducible rfl)); simp only [Act.put, List.setIfInBounds_toArray, List.set_cons_zero, List.set_cons_succ, Nat.reduceAdd, Nat.zero_add])
          refine calm_makes (by rfl) (by rfl) (fun W hW hD Kc hK => ?_) (fun v30 => ?_)
          · refine wp_of_call (f := 79) ?_ ((HRv.out W).mono ?_)
            · obtain ⟨z0, z1, z2, z3, z4, z5⟩ := HQ.out W hW
              clear hD hW hK
              go_simp
            · rintro e w5 ⟨rfl, hb5⟩
              exact ⟨_, rfl, hK _ _ (made_plain rfl hb5 rfl)⟩
          simp only [Act.put, List.setIfInBounds_toArray, List.set_cons_zero, List.set_cons_succ, Nat.reduceAdd, Nat.zero_add]
          refine calm_quiet (v := .bool false) (by rfl) (by rfl) (fun W hW hD => ?_) ?_
          · obtain rfl : v30 = .bool true := hD [] 5 (by kernel_rfl) (by kernel_rfl) (by kernel_rfl)
            clear hD hW
            go_simp
          simp only [Act.put, List.setIfInBounds_toArray, List.set_cons_zero, List.set_cons_succ, Nat.reduceAdd, Nat.zero_add]
          iterate 1 (refine calm_quiet (v := ?_) (by rfl) (by rfl) (fun W hW hD => ?_) ?_; rotate_left; (· (clear hD hW; go_simp; try with_reducible rfl)); simp only [Act.put, List.setIfInBounds_toArray, List.set_cons_zero, List.set_cons_succ, Nat.reduceAdd, Nat.zero_add])
          iterate 3 (refine calm_quiet (v := ?_) (by rfl) (by rfl) (fun W hW hD => ?_) ?_; rotate_left; (· (obtain ⟨z0, z1, z2, z3, z4, z5⟩ := HQ.out W hW; clear hD hW; go_simp; try with_reducible rfl)); simp only [Act.put, List.setIfInBounds_toArray, List.set_cons_zero, List.set_cons_succ, Nat.reduceAdd, Nat.zero_add])
          iterate 14 (refine calm_skip (by rfl) (by rfl) ?_; simp only [Act.put, List.setIfInBounds_toArray, List.set_cons_zero, List.set_cons_succ, Nat.reduceAdd, Nat.zero_add])
          iterate 2 (refine calm_quiet (v := ?_) (by rfl) (by rfl) (fun W hW hD => ?_) ?_; rotate_left; (· (obtain ⟨z0, z1, z2, z3, z4, z5⟩ := HQ.out W hW; clear hD hW; go_simp; try with_reducible rfl)); simp only [Act.put, List.setIfInBounds_toArray, List.set_cons_zero, List.set_cons_succ, Nat.reduceAdd, Nat.zero_add])
          refine calm_nil fun W hW hF => ?_
          have HBf := Lib.hid (HW.out.trans ((grown_below hW).mono hz))
          have HXf := Lib.hid (HX.out.below (grown_below hW) HX.out.lt)
          clear hF hW HQ HW HX kz
          go_wp2
          go_roundw
          case rel => exact ⟨k + 1, by omega, by go_num, HS3, HBf.out, HXf.out⟩
          case measure => simp [intOf]; omega
        · have HQP2 := Lib.hid (HQP.out (by omega))
          obtain ⟨k2, hk2⟩ : ∃ j, j = k - 1 := ⟨_, rfl⟩
          rw [← hk2] at HQP2
          have wj : IntKind.i64.wrap ((k : Int) - 1) = (k2 : Int) := by rw [IntWalk.i64_in _ (by omega)]; omega
          have wj2 : (k : Int) - 1 = (k2 : Int) := by omega
          have wj3 : IntKind.i64.wrap (k2 : Int) = (k2 : Int) := IntWalk.i64_in _ (by omega)
          have kz : decide (0 < k) = true := by simp; omega
          have k20 : 0 ≤ (k2 : Int) := by omega
          have k2n : (k2 : Int) < (n : Int) := by omega
          have HQP := HQP2
          clear HQP2 hk2 hk1 HS HK0 hsec
          by_cases hlt : s < u
          · have dl : decide (s < u) = true := by simp [hlt]
            have HF : Hid (bookB ⟨o, l⟩ = false) := by
              show _ = _
              rw [HV2.out, secsB_take (k + 1) (by rw [HS2.out]; exact decide_eq_false (by omega))]
            clear HS2
            go_wp2
            clear q0 q1
            refine wp_region_calm ⟨[5], fun _ v _ => v = .bool true, fun _ => [], 99, none, 1000⟩ (by kernel_rfl) (by kernel_rfl) (by kernel_rfl) (fun g h => by cases h) (fun k hk v W W' c h hg hc => h) ?_
            iterate 5 (refine calm_quiet (v := ?_) (by rfl) (by rfl) (fun W hW hD => ?_) ?_; rotate_left; (· (obtain ⟨z0, z1, z2, z3, z4, z5⟩ := HQ.out W hW; clear hD hW; go_simp; try with_reducible rfl)); simp only [Act.put, List.setIfInBounds_toArray, List.set_cons_zero, List.set_cons_succ, Nat.reduceAdd, Nat.zero_add])
            refine calm_makes (by rfl) (by rfl) (fun W hW hD Kc hK => ?_) (fun v30 => ?_)
            · refine wp_of_call (f := 79) ?_ ((HRv.out W).mono ?_)
              · obtain ⟨z0, z1, z2, z3, z4, z5⟩ := HQ.out W hW
                clear hD hW hK
                go_simp
              · rintro e w5 ⟨rfl, hb5⟩
                exact ⟨_, rfl, hK _ _ (made_plain rfl hb5 rfl)⟩
            simp only [Act.put, List.setIfInBounds_toArray, List.set_cons_zero, List.set_cons_succ, Nat.reduceAdd, Nat.zero_add]
            refine calm_quiet (v := .bool false) (by rfl) (by rfl) (fun W hW hD => ?_) ?_
            · obtain rfl : v30 = .bool true := hD [] 5 (by kernel_rfl) (by kernel_rfl) (by kernel_rfl)
              clear hD hW
              go_simp
            simp only [Act.put, List.setIfInBounds_toArray, List.set_cons_zero, List.set_cons_succ, Nat.reduceAdd, Nat.zero_add]
            iterate 1 (refine calm_quiet (v := ?_) (by rfl) (by rfl) (fun W hW hD => ?_) ?_; rotate_left; (· (clear hD hW; go_simp; try with_reducible rfl)); simp only [Act.put, List.setIfInBounds_toArray, List.set_cons_zero, List.set_cons_succ, Nat.reduceAdd, Nat.zero_add])
            iterate 19 (refine calm_quiet (v := ?_) (by rfl) (by rfl) (fun W hW hD => ?_) ?_; rotate_left; (· (obtain ⟨z0, z1, z2, z3, z4, z5⟩ := HQ.out W hW; have zp := HQP.out W hW; clear hD hW; go_simp; try with_reducible rfl)); simp only [Act.put, List.setIfInBounds_toArray, List.set_cons_zero, List.set_cons_succ, Nat.reduceAdd, Nat.zero_add])
            refine calm_nil fun W hW hF => ?_
            have HBf := Lib.hid (HW.out.trans ((grown_below hW).mono hz))
            clear hF hW HQ HW HX kz wj wj2 wj3
            go_wp2
            go_ret
            exact ⟨by rw [HF.out]; try rfl, HBf.out⟩
          · have dl : decide (s < u) = false := by simp; omega
            have HS3 : Hid (secsB 0 (l.take (k + 1)) = true) := by
              show _ = _
              rw [HS2.out]
              exact decide_eq_true (by omega)
            clear HS2
            go_wp2
            clear q0 q1
            refine wp_region_calm ⟨[5], fun _ v _ => v = .bool true, fun _ => [], 99, none, 1000⟩ (by kernel_rfl) (by kernel_rfl) (by kernel_rfl) (fun g h => by cases h) (fun k hk v W W' c h hg hc => h) ?_
            iterate 5 (refine calm_quiet (v := ?_) (by rfl) (by rfl) (fun W hW hD => ?_) ?_; rotate_left; (· (obtain ⟨z0, z1, z2, z3, z4, z5⟩ := HQ.out W hW; clear hD hW; go_simp; try with_reducible rfl)); simp only [Act.put, List.setIfInBounds_toArray, List.set_cons_zero, List.set_cons_succ, Nat.reduceAdd, Nat.zero_add])
            refine calm_makes (by rfl) (by rfl) (fun W hW hD Kc hK => ?_) (fun v30 => ?_)
            · refine wp_of_call (f := 79) ?_ ((HRv.out W).mono ?_)
              · obtain ⟨z0, z1, z2, z3, z4, z5⟩ := HQ.out W hW
                clear hD hW hK
                go_simp
              · rintro e w5 ⟨rfl, hb5⟩
                exact ⟨_, rfl, hK _ _ (made_plain rfl hb5 rfl)⟩
            simp only [Act.put, List.setIfInBounds_toArray, List.set_cons_zero, List.set_cons_succ, Nat.reduceAdd, Nat.zero_add]
            refine calm_quiet (v := .bool false) (by rfl) (by rfl) (fun W hW hD => ?_) ?_
            · obtain rfl : v30 = .bool true := hD [] 5 (by kernel_rfl) (by kernel_rfl) (by kernel_rfl)
              clear hD hW
              go_simp
            simp only [Act.put, List.setIfInBounds_toArray, List.set_cons_zero, List.set_cons_succ, Nat.reduceAdd, Nat.zero_add]
            iterate 1 (refine calm_quiet (v := ?_) (by rfl) (by rfl) (fun W hW hD => ?_) ?_; rotate_left; (· (clear hD hW; go_simp; try with_reducible rfl)); simp only [Act.put, List.setIfInBounds_toArray, List.set_cons_zero, List.set_cons_succ, Nat.reduceAdd, Nat.zero_add])
            iterate 19 (refine calm_quiet (v := ?_) (by rfl) (by rfl) (fun W hW hD => ?_) ?_; rotate_left; (· (obtain ⟨z0, z1, z2, z3, z4, z5⟩ := HQ.out W hW; have zp := HQP.out W hW; clear hD hW; go_simp; try with_reducible rfl)); simp only [Act.put, List.setIfInBounds_toArray, List.set_cons_zero, List.set_cons_succ, Nat.reduceAdd, Nat.zero_add])
            refine calm_nil fun W hW hF => ?_
            have HBf := Lib.hid (HW.out.trans ((grown_below hW).mono hz))
            have HXf := Lib.hid (HX.out.below (grown_below hW) HX.out.lt)
            clear hF hW HQ HW HX kz wj wj2 wj3
            go_wp2
            go_roundw
            case rel => exact ⟨k + 1, by omega, by go_num, HS3, HBf.out, HXf.out⟩
            case measure => simp [intOf]; omega
    · obtain rfl : k = n := by omega
      have hS := HS.out
      rw [List.take_of_length_le (by rw [HN.out]; exact Nat.le_refl _)] at hS
      have HF : Hid (bookB ⟨o, l⟩ = true) := by show _ = _; rw [HV2.out]; exact hS
      have q0 := hbox.c0
      have q1 := hbox.c1
      clear hS hbox
      go_wp2
      go_ret
      exact ⟨by rw [HF.out]; try rfl, hW⟩
end Go.Proofs.YthfenbdlolbikaaGreatDoor
