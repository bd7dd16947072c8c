/- The reference's Holds. -/
import Derived.Test.YtmihkbiihfhpoaaDoorJRefValid
import Derived.Test.YtmihkbiihfhpoaaDoorJApi
namespace Go.Proofs.YtmihkbiihfhpoaaDoor
open Go.RowKit Go.Shelf

theorem valid_gives {t : JTh} (h : validB t = true) : ∀ r ∈ t.rules, t.seen.toNat ≤ r.gives.toNat ∧ r.gives.toNat < t.seen.toNat + t.drawn.toNat := by
  obtain ⟨hs, hd, hG, hb⟩ := valid_good h
  intro r hr
  have hq := hb r hr
  unfold badRule at hq
  simp only [Bool.or_eq_false_iff, Bool.not_eq_false', inB, Bool.and_eq_true, decide_eq_true_eq, decide_eq_false_iff_not] at hq
  have h1 := hq.1.2
  have h2 := hq.2
  omega
theorem valid_hd {t : JTh} (h : validB t = true) (S : Nat) : rounds t.rules (t.drawn.toNat + 1) S = hd t.rules S := rounds_hd (valid_gives h) S
theorem setB_of {n : Nat} {d z : Int} {rs : List JRule} (h : validB ⟨n, d, rs⟩ = true) : inB z 0 (((2 ^ n : Nat) : Int) - 1) = setB ⟨n, d, rs⟩ z := by
  unfold setB
  rw [h, Bool.true_and]
  show _ = inB z 0 (2 ^ ((n : Int)).toNat - 1)
  rw [Int.toNat_natCast]
  congr 2
set_option maxRecDepth 100000 in
set_option maxHeartbeats 1000000 in
theorem refHolds_any (t : JTh) (rv : Value) (z : Int) (w : World) (hR : RulesAt w.heap.size w rv t.rules) :
    Calls Tryd.prog 18 #[thV t.seen t.drawn rv, .int .i64 z] w fun e w' => ∃ v, e = .returned (.tuple #[v, .int .i64 (errOf (setB t z))]) ∧ OwnI w.heap.size w' v (holdsL t z) ∧ Below w.heap.size w w' := by
  obtain ⟨s, d, rs⟩ := t
  dsimp only at hR ⊢
  obtain ⟨ra, rc, rfl, hrc, hrm⟩ := hR.shape
  unfold maxLen at hrm
  have hb0 : Below w.heap.size w (w.alloc (.cells #[.int .i64 s, .int .i64 d, .slice ra rs.length rc] 25)) := (Below.refl _ _).alloc (Nat.le_refl _) _
  have HR := Lib.hid (box_rules (t := ⟨s, d, rs⟩) hR)
  have HTb := Lib.hid (ThBox.new w s d (.slice ra rs.length rc))
  have HB0 := Lib.hid hb0
  have HL : Hid (holdsL ⟨s, d, rs⟩ z = if setB ⟨s, d, rs⟩ z then listB (hd rs z.toNat) else []) := rfl
  clear hR hb0
  cases hv : validB ⟨s, d, rs⟩
  · have HS : Hid (setB ⟨s, d, rs⟩ z = false) := by show _ = _; unfold setB; rw [hv]; rfl
    rw [HS.out] at HL ⊢
    generalize rs.length = m at *
    go_enter Tryd.func18, Tryd.ntmps18
    go_wp2_with (go_at_call 15; refine (refValid_any ⟨s, d, rs⟩ _ _ HR.out).mono ?_; rintro e w2 ⟨rfl, hb2⟩; rw [hv])
    go_ret2
    exact ⟨_, rfl, by rw [HL.out]; exact OwnI.nil _ _, HB0.out.trans (hb2.mono HB0.out.size)⟩
  · obtain ⟨hs, hd', hG, _⟩ := valid_good hv
    dsimp only at hs hd' hG
    obtain ⟨n, rfl⟩ := Int.eq_ofNat_of_zero_le hs.1
    obtain ⟨dd, rfl⟩ := Int.eq_ofNat_of_zero_le hd'.1
    have hn12 : n ≤ 12 := by omega
    have hd20 : dd ≤ 20 := by omega
    have HQ : Hid (∀ W, Calls Tryd.prog 50 #[thV n dd (.slice ra rs.length rc), .int .i64 z] W fun e w' => e = .returned (.bool (setB ⟨(n : Nat), (dd : Nat), rs⟩ z)) ∧ Below W.heap.size W w') := fun W => by
      have h := setR_any n dd z (.slice ra rs.length rc) W hn12 ⟨_, _, _, rfl⟩
      rwa [setB_of hv] at h
    have HH : Hid (∀ S, rounds rs (dd + 1) S = hd rs S) := fun S => valid_hd hv S
    have HG := Lib.hid hG
    have HV := Lib.hid hv
    have lT : w.heap.size < (w.alloc (.cells #[.int .i64 n, .int .i64 dd, .slice ra rs.length rc] 25)).heap.size := by simp
    clear hG hv hs hd'
    cases hset : setB ⟨(n : Nat), (dd : Nat), rs⟩ z
    · rw [hset] at HL HQ
      clear hset
      generalize rs.length = m at *
      go_enter Tryd.func18, Tryd.ntmps18
      go_wp2_with (first | (go_at_call 15; refine (refValid_any ⟨(n : Nat), (dd : Nat), rs⟩ _ _ HR.out).mono ?_; rintro e w2 ⟨rfl, hb2⟩; rw [HV.out]; have hT2 := HTb.out.below hb2 lT; have c0 := hT2.c0; have c1 := hT2.c1; have c2 := hT2.c2) | (go_at_call 50; refine (HQ.out _).mono ?_; rintro e w3 ⟨rfl, hb3⟩))
      go_ret2
      exact ⟨_, rfl, by rw [HL.out]; exact OwnI.nil _ _, HB0.out.trans ((hb2.trans (hb3.mono hb2.size)).mono HB0.out.size)⟩
    · obtain ⟨_, hz0, hz1, hz2⟩ := set_facts hset
      obtain ⟨S, rfl⟩ := Int.eq_ofNat_of_zero_le hz0
      rw [hset] at HL HQ
      rw [Int.toNat_natCast] at HL
      have hS : S < 4294967296 := by omega
      have HLt : Hid (hd rs S < 4294967296) := held_lt HG.out hS
      have HHe : Hid (∀ (W : World), RulesAt W.heap.size W (.slice ra rs.length rc) rs → Calls Tryd.prog 51 #[thV n dd (.slice ra rs.length rc), .int .i64 S] W fun e w' => e = .returned (.int .i64 (hd rs S : Nat)) ∧ Below W.heap.size W w') := fun W hW => (heldRef_any n dd rs _ S W hd20 hW HG.out hS).mono fun e w' ⟨h1, _, h3⟩ => ⟨by rw [h1, HH.out], h3⟩
      clear hset hz0 hz1 hz2
      generalize hd rs S = H at *
      have HLi := Lib.hid (fun W => listedR_any H W HLt.out)
      have HRL := Lib.hid (fun (W : World) hb => HR.out.later (w' := W) hb (Nat.le_refl _))
      generalize rs.length = m at *
      go_enter Tryd.func18, Tryd.ntmps18
      go_wp2_with (first | (go_at_call 15; refine (refValid_any ⟨(n : Nat), (dd : Nat), rs⟩ _ _ HR.out).mono ?_; rintro e w2 ⟨rfl, hb2⟩; rw [HV.out]; have hT2 := HTb.out.below hb2 lT; have c0 := hT2.c0; have c1 := hT2.c1; have c2 := hT2.c2) | (go_at_call 50; refine (HQ.out _).mono ?_; rintro e w3 ⟨rfl, hb3⟩; have hb23 := hb2.trans (hb3.mono hb2.size); have hT3 := HTb.out.below hb23 lT; have e0 := hT3.c0; have e1 := hT3.c1; have e2 := hT3.c2) | (go_at_call 51; refine (HHe.out _ (HRL.out _ hb23)).mono ?_; rintro e w4 ⟨rfl, hb4⟩) | (go_at_call 38; refine (HLi.out _).mono ?_; rintro e w5 ⟨vl, rfl, hO, hb5⟩))
      go_ret2
      have hb24 := hb23.trans (hb4.mono hb23.size)
      exact ⟨vl, rfl, by rw [HL.out]; exact hO.mono (Nat.le_trans HB0.out.size hb24.size), HB0.out.trans ((hb24.trans (hb5.mono hb24.size)).mono HB0.out.size)⟩
end Go.Proofs.YtmihkbiihfhpoaaDoor
