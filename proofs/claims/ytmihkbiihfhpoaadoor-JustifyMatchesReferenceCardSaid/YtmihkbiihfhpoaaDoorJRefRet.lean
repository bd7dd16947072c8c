/- The reference's Retract. -/
import Derived.Test.YtmihkbiihfhpoaaDoorJRefHolds
import Derived.Test.YtmihkbiihfhpoaaDoorJRet
import Derived.Test.YtmihkbiihfhpoaaDoorJCopy
namespace Go.Proofs.YtmihkbiihfhpoaaDoor
open Go.RowKit Go.Shelf

theorem sdiff_add {A B : Nat} (h : SubS B A) : sdiff A B + B = A := by
  rw [← add_or]
  · apply Nat.eq_of_testBit_eq
    intro i
    rw [Nat.testBit_or, testBit_sdiff]
    have := h i
    cases hb : B.testBit i <;> cases ha : A.testBit i <;> simp_all
  · rw [and_zero_iff]
    intro i hi
    rw [testBit_sdiff] at hi
    cases hb : B.testBit i <;> simp_all
theorem sub_sdiff {A B : Nat} (h : SubS B A) : A - B = sdiff A B := by
  have := sdiff_add h
  omega
theorem sdiff_none {A i : Nat} (h : A.testBit i = false) : sdiff A (2 ^ i) = A := by
  apply Nat.eq_of_testBit_eq
  intro j
  rw [testBit_sdiff, Nat.testBit_two_pow]
  by_cases e : i = j
  · subst e; simp [h]
  · simp [e]
theorem sub_bit {A i : Nat} (h : A.testBit i = true) : A - 2 ^ i = sdiff A (2 ^ i) := by
  refine sub_sdiff fun j hj => ?_
  rw [Nat.testBit_two_pow, decide_eq_true_eq] at hj
  subst hj
  exact h
/-- What the calls of Retract's last line leave. -/
def RetF (B H1 H2 HD : Nat) : Nat → Value → World → Prop
  | 2, v, _ => v = .int .i64 (H1 : Int)
  | 5, v, _ => v = .int .i64 (H2 : Int)
  | _, v, W => OwnI B W v (listB HD)
theorem RetF_kept {B H1 H2 HD k : Nat} {v : Value} {W W' : World} {c : Option Nat} (h : RetF B H1 H2 HD k v W) (hg : W.grownBy W' c) (hc : ∀ g, c = some g → v.ownBlock ≠ some g) : RetF B H1 H2 HD k v W' := by
  unfold RetF at *
  split at h <;> first | exact h | exact rowI_kept h hg hc
set_option maxRecDepth 100000 in
set_option maxHeartbeats 2000000 in
theorem refRetract_any (t : JTh) (rv : Value) (z o : Int) (w : World) (hR : RulesAt w.heap.size w rv t.rules) :
    Calls Tryd.prog 23 #[thV t.seen t.drawn rv, .int .i64 z, .int .i64 o] w fun e w' => ∃ v, e = .returned (.tuple #[v, .int .i64 (errOf (retB t z o))]) ∧ OwnI w.heap.size w' v (retractL t z o) ∧ Below w.heap.size w w' := by
  obtain ⟨s, d, rs⟩ := t
  dsimp only at hR ⊢
  obtain ⟨ra, rc, rfl, hrc, hrm⟩ := hR.shape
  unfold maxLen at hrm
  have hb0 : Below w.heap.size w (w.alloc (.cells #[.int .i64 s, .int .i64 d, .slice ra rs.length rc] 25)) := (Below.refl _ _).alloc (Nat.le_refl _) _
  have HR := Lib.hid (box_rules (t := ⟨s, d, rs⟩) hR)
  have HTb := Lib.hid (ThBox.new w s d (.slice ra rs.length rc))
  have HB0 := Lib.hid hb0
  have HL : Hid (retractL ⟨s, d, rs⟩ z o = if retB ⟨s, d, rs⟩ z o then listB (sdiff (hd rs z.toNat) (hd rs (sdiff z.toNat (2 ^ o.toNat)))) else []) := rfl
  have HE : Hid (retB ⟨s, d, rs⟩ z o = (setB ⟨s, d, rs⟩ z && inB o 0 (s - 1))) := rfl
  clear hR hb0
  cases hv : validB ⟨s, d, rs⟩
  · have HS : Hid (retB ⟨s, d, rs⟩ z o = false) := by show _ = _; rw [HE.out]; unfold setB; rw [hv]; rfl
    rw [HS.out] at HL ⊢
    generalize rs.length = m at *
    go_enter Tryd.func23, Tryd.ntmps23
    go_wp2_with (go_at_call 15; refine (refValid_any ⟨s, d, rs⟩ _ _ HR.out).mono ?_; rintro e w2 ⟨rfl, hb2⟩; rw [hv])
    go_ret2
    exact ⟨_, rfl, by rw [HL.out]; exact OwnI.nil _ _, HB0.out.trans (hb2.mono HB0.out.size)⟩
  · obtain ⟨hs, hd', hG, _⟩ := valid_good hv
    dsimp only at hs hd' hG
    obtain ⟨n, rfl⟩ := Int.eq_ofNat_of_zero_le hs.1
    obtain ⟨dd, rfl⟩ := Int.eq_ofNat_of_zero_le hd'.1
    have hn12 : n ≤ 12 := by omega
    have hd20 : dd ≤ 20 := by omega
    have HQ : Hid (∀ W, Calls Tryd.prog 50 #[thV n dd (.slice ra rs.length rc), .int .i64 z] W fun e w' => e = .returned (.bool (setB ⟨(n : Nat), (dd : Nat), rs⟩ z)) ∧ Below W.heap.size W w') := fun W => by
      have h := setR_any n dd z (.slice ra rs.length rc) W hn12 ⟨_, _, _, rfl⟩
      rwa [setB_of hv] at h
    have HH : Hid (∀ S, rounds rs (dd + 1) S = hd rs S) := fun S => valid_hd hv S
    have HG := Lib.hid hG
    have HV := Lib.hid hv
    have lT : w.heap.size < (w.alloc (.cells #[.int .i64 n, .int .i64 dd, .slice ra rs.length rc] 25)).heap.size := by simp
    clear hG hv hs hd'
    cases hset : setB ⟨(n : Nat), (dd : Nat), rs⟩ z
    · rw [hset] at HE HQ
      have HS : Hid (retB ⟨(n : Nat), (dd : Nat), rs⟩ z o = false) := HE
      rw [HS.out] at HL ⊢
      clear hset
      generalize rs.length = m at *
      go_enter Tryd.func23, Tryd.ntmps23
      go_wp2_with (first | (go_at_call 15; refine (refValid_any ⟨(n : Nat), (dd : Nat), rs⟩ _ _ HR.out).mono ?_; rintro e w2 ⟨rfl, hb2⟩; rw [HV.out]; have hT2 := HTb.out.below hb2 lT; have c0 := hT2.c0; have c1 := hT2.c1; have c2 := hT2.c2) | (go_at_call 50; refine (HQ.out _).mono ?_; rintro e w3 ⟨rfl, hb3⟩))
      go_ret2
      exact ⟨_, rfl, by rw [HL.out]; exact OwnI.nil _ _, HB0.out.trans ((hb2.trans (hb3.mono hb2.size)).mono HB0.out.size)⟩
    · rw [hset, Bool.true_and] at HE
      rw [hset] at HQ
      cases ho : inB o 0 ((n : Int) - 1)
      · rw [ho] at HE
        rw [HE.out] at HL ⊢
        clear hset
        generalize rs.length = m at *
        go_enter Tryd.func23, Tryd.ntmps23
        go_wp2_with (first | (go_at_call 15; refine (refValid_any ⟨(n : Nat), (dd : Nat), rs⟩ _ _ HR.out).mono ?_; rintro e w2 ⟨rfl, hb2⟩; rw [HV.out]; have hT2 := HTb.out.below hb2 lT; have c0 := hT2.c0; have c1 := hT2.c1; have c2 := hT2.c2) | (go_at_call 50; refine (HQ.out _).mono ?_; rintro e w3 ⟨rfl, hb3⟩; have hb23 := hb2.trans (hb3.mono hb2.size); have hT3 := HTb.out.below hb23 lT; have e0 := hT3.c0; have e1 := hT3.c1; have e2 := hT3.c2) | (go_at_call 45; refine (refIn_any _ _ _ _).mono ?_; rintro e w4 ⟨rfl, rfl⟩; rw [ho]))
        go_ret2
        exact ⟨_, rfl, by rw [HL.out]; exact OwnI.nil _ _, HB0.out.trans (hb23.mono HB0.out.size)⟩
      · rw [ho] at HE
        rw [HE.out] at HL ⊢
        obtain ⟨_, hz0, hz1, hz2⟩ := set_facts hset
        obtain ⟨S, rfl⟩ := Int.eq_ofNat_of_zero_le hz0
        have ho2 := ho
        simp only [inB, Bool.and_eq_true, decide_eq_true_eq] at ho2
        obtain ⟨q, rfl⟩ := Int.eq_ofNat_of_zero_le ho2.1
        have hq32 : q < 32 := by omega
        rw [Int.toNat_natCast, Int.toNat_natCast] at HL
        have hS : S < 4294967296 := by omega
        have HHe : Hid (∀ (X : Nat) (W : World), X < 4294967296 → RulesAt W.heap.size W (.slice ra rs.length rc) rs → Calls Tryd.prog 51 #[thV n dd (.slice ra rs.length rc), .int .i64 X] W fun e w' => e = .returned (.int .i64 (hd rs X : Nat)) ∧ Below W.heap.size W w') := fun X W hX hW => (heldRef_any n dd rs _ X W hd20 hW HG.out hX).mono fun e w' ⟨h1, _, h3⟩ => ⟨by rw [h1, HH.out], h3⟩
        have hlS : sdiff S (2 ^ q) ≤ S := by have := sdiff_add (A := S) (B := S &&& 2 ^ q) (fun i hi => by rw [Nat.testBit_and, Bool.and_eq_true] at hi; exact hi.1); have e : sdiff S (S &&& 2 ^ q) = sdiff S (2 ^ q) := by { apply Nat.eq_of_testBit_eq; intro i; rw [testBit_sdiff, testBit_sdiff, Nat.testBit_and]; cases S.testBit i <;> simp }; omega
        have hsub : SubS (hd rs (sdiff S (2 ^ q))) (hd rs S) := hd_mono fun i hi => by rw [testBit_sdiff, Bool.and_eq_true] at hi; exact hi.1
        have HSub := Lib.hid (sub_sdiff hsub)
        have hH := sdiff_add hsub
        have hHS : hd rs S < 4294967296 := held_lt HG.out hS
        have hHL : hd rs (sdiff S (2 ^ q)) < 4294967296 := held_lt HG.out (by omega)
        have hle : hd rs (sdiff S (2 ^ q)) ≤ hd rs S := by omega
        have w2 : IntKind.i64.wrap ((hd rs S : Int) - (hd rs (sdiff S (2 ^ q)) : Int)) = ((hd rs S - hd rs (sdiff S (2 ^ q)) : Nat) : Int) := by rw [IntWalk.i64_in _ (by omega)]; omega
        have HLi := Lib.hid (fun W => listedR_any (hd rs S - hd rs (sdiff S (2 ^ q))) W (by omega))
        have HRL := Lib.hid (fun (W : World) hb => HR.out.later (w' := W) hb (Nat.le_refl _))
        have HL2 : Hid (retractL ⟨(n : Nat), (dd : Nat), rs⟩ (S : Nat) (q : Nat) = listB (hd rs S - hd rs (sdiff S (2 ^ q)))) := by show _ = _; rw [HL.out, HSub.out]; rfl
        have HC1 := Lib.hid (fun W => HHe.out S W hS)
        have HC2 := Lib.hid (fun W => HHe.out (sdiff S (2 ^ q)) W (by omega))
        have hlt2 : sdiff S (2 ^ q) < 4294967296 := by omega
        clear hset hz0 hz1 hz2 HL HSub hsub hH hHS HHe ho2 hle
        have HW2 := Lib.hid w2
        clear w2
        generalize hL : sdiff S (2 ^ q) = L at *
        generalize hd rs S - hd rs L = HD at *
        generalize hd rs L = H2 at *
        generalize hd rs S = H1 at *
        cases hbt : S.testBit q
        · obtain rfl : S = L := (sdiff_none hbt).symm.trans hL
          have HBt := Lib.hid hbt
          clear hbt hL
          have w2 := HW2.out
          clear HW2
          generalize rs.length = m at *
          go_enter Tryd.func23, Tryd.ntmps23
          go_wp2_with (first | (go_at_call 15; refine (refValid_any ⟨(n : Nat), (dd : Nat), rs⟩ _ _ HR.out).mono ?_; rintro e w2 ⟨rfl, hb2⟩; rw [HV.out]; have hT2 := HTb.out.below hb2 lT; have c0 := hT2.c0; have c1 := hT2.c1; have c2 := hT2.c2) | (go_at_call 50; refine (HQ.out _).mono ?_; rintro e w3 ⟨rfl, hb3⟩; have hb23 := hb2.trans (hb3.mono hb2.size); have hT3 := HTb.out.below hb23 lT; have e0 := hT3.c0; have e1 := hT3.c1; have e2 := hT3.c2) | (go_at_call 45; refine (refIn_any _ _ _ _).mono ?_; rintro e w4 ⟨rfl, rfl⟩; rw [ho]) | (go_at_call 54; refine (hasR_any _ _ _ (by omega) (by omega)).mono ?_; rintro e w5 ⟨rfl, rfl⟩; rw [HBt.out]))
          refine wp_region_calm ⟨[2, 5, 7], RetF w.heap.size H1 H2 HD, fun _ => [], 99, none, 1000⟩ (by kernel_rfl) (by kernel_rfl) (by kernel_rfl) (fun g h => by cases h) (fun k hk v W W' c h hg hc => RetF_kept h hg fun g hh => (hc g hh).1) ?_
          iterate 2 (refine calm_quiet (v := ?_) (by rfl) (by rfl) (fun W hW hD => ?_) ?_; rotate_left; (· (have q0 := grown_cell0 hW e0; have q1 := grown_cell0 hW e1; have q2 := grown_cell0 hW e2; clear hD hW; go_simp; try with_reducible rfl)); simp only [Act.put, List.setIfInBounds_toArray, List.set_cons_zero, List.set_cons_succ, Nat.reduceAdd])
          refine calm_makes (by rfl) (by rfl) (fun W hW hD K hK => ?_) (fun v36 => ?_)
          · have hbW := hb23.trans ((grown_below hW).mono hb23.size)
            refine wp_of_call ?_ ((HC1.out W (HRL.out W hbW)).mono ?_)
            · clear hD hW hK hbW
              go_simp
              try rfl
            · rintro e w' ⟨he, hb⟩
              exact ⟨_, he, hK _ _ (made_plain rfl hb rfl)⟩
          simp only [Act.put, List.setIfInBounds_toArray, List.set_cons_zero, List.set_cons_succ, Nat.reduceAdd]
          iterate 2 (refine calm_quiet (v := ?_) (by rfl) (by rfl) (fun W hW hD => ?_) ?_; rotate_left; (· (have q0 := grown_cell0 hW e0; have q1 := grown_cell0 hW e1; have q2 := grown_cell0 hW e2; clear hD hW; go_simp; try with_reducible rfl)); simp only [Act.put, List.setIfInBounds_toArray, List.set_cons_zero, List.set_cons_succ, Nat.reduceAdd])
          refine calm_makes (by rfl) (by rfl) (fun W hW hD K hK => ?_) (fun v39 => ?_)
          · have hbW := hb23.trans ((grown_below hW).mono hb23.size)
            refine wp_of_call ?_ ((HC2.out W (HRL.out W hbW)).mono ?_)
            · clear hD hW hK hbW
              go_simp
              try rfl
            · rintro e w' ⟨he, hb⟩
              exact ⟨_, he, hK _ _ (made_plain rfl hb rfl)⟩
          simp only [Act.put, List.setIfInBounds_toArray, List.set_cons_zero, List.set_cons_succ, Nat.reduceAdd]
          refine calm_quiet (v := .int .i64 HD) (by rfl) (by rfl) (fun W hW hD => ?_) ?_
          · obtain rfl : v36 = .int .i64 H1 := hD [] 2 (by kernel_rfl) (by kernel_rfl) (by kernel_rfl)
            obtain rfl : v39 = .int .i64 H2 := hD [] 5 (by kernel_rfl) (by kernel_rfl) (by kernel_rfl)
            clear hD hW
            go_simp
          simp only [Act.put, List.setIfInBounds_toArray, List.set_cons_zero, List.set_cons_succ, Nat.reduceAdd]
          refine calm_makes (by rfl) (by rfl) (fun W hW hD K hK => ?_) (fun v41 => ?_)
          · refine wp_of_call ?_ ((HLi.out W).mono ?_)
            · clear hD hW hK
              go_simp
              try rfl
            · rintro e w' ⟨vl, he, ho, hb⟩
              exact ⟨_, he, hK _ _ (made_below (ho.mono (Nat.le_trans (Nat.le_trans HB0.out.size hb23.size) (grown_below hW).size)) hb (World.ownsRow.lt ho))⟩
          simp only [Act.put, List.setIfInBounds_toArray, List.set_cons_zero, List.set_cons_succ, Nat.reduceAdd]
          iterate 2 (refine calm_quiet (v := ?_) (by rfl) (by rfl) (fun W hW hD => ?_) ?_; rotate_left; (· (clear hD hW; go_simp; try with_reducible rfl)); simp only [Act.put, List.setIfInBounds_toArray, List.set_cons_zero, List.set_cons_succ, Nat.reduceAdd])
          refine calm_nil fun W hW hF => ?_
          have HO := Lib.hid (hF 7 (by kernel_rfl) (by kernel_rfl))
          have HB6 := Lib.hid (grown_below hW)
          clear hF hW
          go_wp2
          go_ret2
          exact ⟨_, rfl, by rw [HL2.out]; exact HO.out, HB0.out.trans ((hb23.trans (HB6.out.mono hb23.size)).mono HB0.out.size)⟩
        · have h2 : S - 2 ^ q = L := (sub_bit hbt).trans hL
          have hge : 2 ^ q ≤ S := by
            rcases Nat.lt_or_ge S (2 ^ q) with h | h
            · rw [Nat.testBit_lt_two_pow h] at hbt
              cases hbt
            · exact h
          have HSh := Lib.hid (shl_one q hq32)
          have HBt := Lib.hid hbt
          clear hbt hL
          generalize (2 : Nat) ^ q = PG at *
          have HW1 : Hid (IntKind.i64.wrap ((S : Int) - (PG : Int)) = (L : Int)) := by show _ = _; rw [IntWalk.i64_in _ (by omega)]; omega
          clear h2 hge
          have hsh := HSh.out
          have w1 := HW1.out
          have w2 := HW2.out
          clear HSh HW1 HW2
          generalize rs.length = m at *
          go_enter Tryd.func23, Tryd.ntmps23
          go_wp2_with (first | (go_at_call 15; refine (refValid_any ⟨(n : Nat), (dd : Nat), rs⟩ _ _ HR.out).mono ?_; rintro e w2 ⟨rfl, hb2⟩; rw [HV.out]; have hT2 := HTb.out.below hb2 lT; have c0 := hT2.c0; have c1 := hT2.c1; have c2 := hT2.c2) | (go_at_call 50; refine (HQ.out _).mono ?_; rintro e w3 ⟨rfl, hb3⟩; have hb23 := hb2.trans (hb3.mono hb2.size); have hT3 := HTb.out.below hb23 lT; have e0 := hT3.c0; have e1 := hT3.c1; have e2 := hT3.c2) | (go_at_call 45; refine (refIn_any _ _ _ _).mono ?_; rintro e w4 ⟨rfl, rfl⟩; rw [ho]) | (go_at_call 54; refine (hasR_any _ _ _ (by omega) (by omega)).mono ?_; rintro e w5 ⟨rfl, rfl⟩; rw [HBt.out]))
          refine wp_region_calm ⟨[2, 5, 7], RetF w.heap.size H1 H2 HD, fun _ => [], 99, none, 1000⟩ (by kernel_rfl) (by kernel_rfl) (by kernel_rfl) (fun g h => by cases h) (fun k hk v W W' c h hg hc => RetF_kept h hg fun g hh => (hc g hh).1) ?_
          iterate 2 (refine calm_quiet (v := ?_) (by rfl) (by rfl) (fun W hW hD => ?_) ?_; rotate_left; (· (have q0 := grown_cell0 hW e0; have q1 := grown_cell0 hW e1; have q2 := grown_cell0 hW e2; clear hD hW; go_simp; try with_reducible rfl)); simp only [Act.put, List.setIfInBounds_toArray, List.set_cons_zero, List.set_cons_succ, Nat.reduceAdd])
          refine calm_makes (by rfl) (by rfl) (fun W hW hD K hK => ?_) (fun v36 => ?_)
          · have hbW := hb23.trans ((grown_below hW).mono hb23.size)
            refine wp_of_call ?_ ((HC1.out W (HRL.out W hbW)).mono ?_)
            · clear hD hW hK hbW
              go_simp
              try rfl
            · rintro e w' ⟨he, hb⟩
              exact ⟨_, he, hK _ _ (made_plain rfl hb rfl)⟩
          simp only [Act.put, List.setIfInBounds_toArray, List.set_cons_zero, List.set_cons_succ, Nat.reduceAdd]
          iterate 2 (refine calm_quiet (v := ?_) (by rfl) (by rfl) (fun W hW hD => ?_) ?_; rotate_left; (· (have q0 := grown_cell0 hW e0; have q1 := grown_cell0 hW e1; have q2 := grown_cell0 hW e2; clear hD hW; go_simp; try with_reducible rfl)); simp only [Act.put, List.setIfInBounds_toArray, List.set_cons_zero, List.set_cons_succ, Nat.reduceAdd])
          refine calm_makes (by rfl) (by rfl) (fun W hW hD K hK => ?_) (fun v39 => ?_)
          · have hbW := hb23.trans ((grown_below hW).mono hb23.size)
            refine wp_of_call ?_ ((HC2.out W (HRL.out W hbW)).mono ?_)
            · clear hD hW hK hbW
              go_simp
              try rfl
            · rintro e w' ⟨he, hb⟩
              exact ⟨_, he, hK _ _ (made_plain rfl hb rfl)⟩
          simp only [Act.put, List.setIfInBounds_toArray, List.set_cons_zero, List.set_cons_succ, Nat.reduceAdd]
          refine calm_quiet (v := .int .i64 HD) (by rfl) (by rfl) (fun W hW hD => ?_) ?_
          · obtain rfl : v36 = .int .i64 H1 := hD [] 2 (by kernel_rfl) (by kernel_rfl) (by kernel_rfl)
            obtain rfl : v39 = .int .i64 H2 := hD [] 5 (by kernel_rfl) (by kernel_rfl) (by kernel_rfl)
            clear hD hW
            go_simp
          simp only [Act.put, List.setIfInBounds_toArray, List.set_cons_zero, List.set_cons_succ, Nat.reduceAdd]
          refine calm_makes (by rfl) (by rfl) (fun W hW hD K hK => ?_) (fun v41 => ?_)
          · refine wp_of_call ?_ ((HLi.out W).mono ?_)
            · clear hD hW hK
              go_simp
              try rfl
            · rintro e w' ⟨vl, he, ho, hb⟩
              exact ⟨_, he, hK _ _ (made_below (ho.mono (Nat.le_trans (Nat.le_trans HB0.out.size hb23.size) (grown_below hW).size)) hb (World.ownsRow.lt ho))⟩
          simp only [Act.put, List.setIfInBounds_toArray, List.set_cons_zero, List.set_cons_succ, Nat.reduceAdd]
          iterate 2 (refine calm_quiet (v := ?_) (by rfl) (by rfl) (fun W hW hD => ?_) ?_; rotate_left; (· (clear hD hW; go_simp; try with_reducible rfl)); simp only [Act.put, List.setIfInBounds_toArray, List.set_cons_zero, List.set_cons_succ, Nat.reduceAdd])
          refine calm_nil fun W hW hF => ?_
          have HO := Lib.hid (hF 7 (by kernel_rfl) (by kernel_rfl))
          have HB6 := Lib.hid (grown_below hW)
          clear hF hW
          go_wp2
          go_ret2
          exact ⟨_, rfl, by rw [HL2.out]; exact HO.out, HB0.out.trans ((hb23.trans (HB6.out.mono hb23.size)).mono HB0.out.size)⟩
end Go.Proofs.YtmihkbiihfhpoaaDoor
