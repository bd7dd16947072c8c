/- The reference's Valid. -/
import Derived.Test.YtmihkbiihfhpoaaDoorCalm
import Derived.Test.YtmihkbiihfhpoaaDoorJRefHeld
import Derived.Outline
namespace Go.Proofs.YtmihkbiihfhpoaaDoor
open Go.RowKit Go.Shelf

/-- One need of a rule is bad, as the reference says it. -/
def refBadN (s d : Int) (l : List Int) (k : Nat) : Bool := !inB (l.getD k 0) 0 (s + d - 1) || (decide (0 < k) && decide (l.getD k 0 ≤ l.getD (k - 1) 0))
theorem refBad_eq (s d : Int) (l : List Int) (k : Nat) : refBadN s d l k = badN s d (lastOf l k) (l.getD k 0) := by
  unfold refBadN badN lastOf
  by_cases hk : k = 0
  · subst hk
    generalize l.getD 0 0 = z
    simp only [inB]
    by_cases h0 : (0 : Int) ≤ z
    · have h1 : ¬ z ≤ -1 := by omega
      simp [h1]
    · simp [h0]
  · have hp : 0 < k := by omega
    rw [if_neg hk, decide_eq_true hp, Bool.true_and, Bool.or_comm]
def refBadR (s d : Int) (r : JRule) : Bool := decide (6 < r.needs.length) || !inB r.gives s (s + d - 1) || (List.range r.needs.length).any (refBadN s d r.needs)
theorem refBadR_eq {s d : Int} (hs : 0 ≤ s) (r : JRule) : refBadR s d r = badRule s d r := by
  unfold refBadR badRule badNs
  have e1 : (List.range r.needs.length).any (refBadN s d r.needs) = (List.range r.needs.length).any fun i => badN s d (lastOf r.needs i) (r.needs.getD i 0) := by
    congr 1
    funext i
    exact refBad_eq s d r.needs i
  have e2 : (!inB r.gives s (s + d - 1)) = (decide (r.gives < s) || !inB r.gives 0 (s + d - 1)) := by
    unfold inB
    by_cases h : s ≤ r.gives
    · have h1 : ¬ r.gives < s := by omega
      have h2 : (0 : Int) ≤ r.gives := by omega
      simp [h, h1, h2]
    · have h1 : r.gives < s := by omega
      simp [h, h1]
  rw [e1, e2]
  generalize (List.range r.needs.length).any _ = X
  generalize decide (6 < r.needs.length) = Y
  generalize decide (r.gives < s) = Z
  generalize (!inB r.gives 0 (s + d - 1)) = V
  cases X <;> cases Y <;> cases Z <;> cases V <;> rfl
set_option maxRecDepth 100000 in
set_option maxHeartbeats 2000000 in
theorem refValid_any (t : JTh) (rv : Value) (w : World) (hR : RulesAt w.heap.size w rv t.rules) :
    Calls Tryd.prog 15 #[thV t.seen t.drawn rv] w fun e w' => e = .returned (.bool (validB t)) ∧ Below w.heap.size w w' := by
  obtain ⟨s, d, rs⟩ := t
  dsimp only at hR ⊢
  have hval : validB ⟨s, d, rs⟩ = (inB s 0 12 && inB d 0 20 && !decide (40 < rs.length) && !rs.any (badRule s d)) := rfl
  rw [hval]
  clear hval
  obtain ⟨ra, rc, rfl, hrc, hrm⟩ := hR.shape
  unfold maxLen at hrm
  cases h1 : inB s 0 12
  · clear hR
    generalize rs.length = m at *
    go_enter Tryd.func15, Tryd.ntmps15
    go_wp2_with (go_at_call 45; refine (refIn_any _ _ _ _).mono ?_; rintro e w' ⟨rfl, rfl⟩; rw [h1])
    go_ret
    exact ⟨rfl, (Below.refl _ _).alloc (Nat.le_refl _) _⟩
  have hs : 0 ≤ s ∧ s ≤ 12 := by simpa [inB] using h1
  cases h2 : inB d 0 20
  · clear hR
    generalize rs.length = m at *
    go_enter Tryd.func15, Tryd.ntmps15
    go_wp2_with (first | (go_at_call 45; refine (refIn_any _ _ _ _).mono ?_; rintro e w' ⟨rfl, rfl⟩; first | rw [h1] | rw [h2]))
    go_ret
    exact ⟨rfl, (Below.refl _ _).alloc (Nat.le_refl _) _⟩
  have hd : 0 ≤ d ∧ d ≤ 20 := by simpa [inB] using h2
  by_cases h3 : 40 < rs.length
  · clear hR
    have h3' : (40 : Int) < (rs.length : Int) := by omega
    have d3 : decide (40 < rs.length) = true := by simp; omega
    rw [d3]
    generalize List.any rs (badRule s d) = q at *
    generalize rs.length = m at *
    go_enter Tryd.func15, Tryd.ntmps15
    go_wp2_with (first | (go_at_call 45; refine (refIn_any _ _ _ _).mono ?_; rintro e w' ⟨rfl, rfl⟩; first | rw [h1] | rw [h2]))
    go_ret
    exact ⟨rfl, (Below.refl _ _).alloc (Nat.le_refl _) _⟩
  have h3' : (rs.length : Int) ≤ 40 := by omega
  have d3 : decide (40 < rs.length) = false := by simp; omega
  have hb0 : Below w.heap.size w (w.alloc (.cells #[.int .i64 s, .int .i64 d, .slice ra rs.length rc] 25)) := (Below.refl _ _).alloc (Nat.le_refl _) _
  have HR := Lib.hid (hR.below hb0 (Nat.le_refl _))
  have HTb := Lib.hid (ThBox.new w s d (.slice ra rs.length rc))
  have HB0 := Lib.hid hb0
  have hszW : w.heap.size + 1 ≤ (w.alloc (.cells #[.int .i64 s, .int .i64 d, .slice ra rs.length rc] 25)).heap.size := by simp
  have HV : Hid ((true && true && !decide (40 < rs.length) && !rs.any (badRule s d)) = !rs.any (badRule s d)) := by show _ = _; rw [d3]; rfl
  rw [HV.out]
  clear hR hb0 d3 HV
  generalize hm : rs.length = m at *
  have Hm := Lib.hid hm
  clear hm
  go_enter Tryd.func15, Tryd.ntmps15
  go_wp2_with (first | (go_at_call 45; refine (refIn_any _ _ _ _).mono ?_; rintro e w' ⟨rfl, rfl⟩; first | rw [h1] | rw [h2]))
  generalize w.alloc (.cells #[.int .i64 s, .int .i64 d, .slice ra m rc] 25) = W at *
  go_loopw [3] (fun iv wr => ∃ j : Nat, j ≤ m ∧ iv = .int .i64 j ∧ Hid ((rs.take j).any (badRule s d) = false) ∧ Below W.heap.size W wr) (fun iv _ => m - (intOf iv).toNat)
  case atStart => exact ⟨0, Nat.zero_le _, rfl, rfl, Below.refl _ _⟩
  case round =>
    obtain ⟨j, hj, rfl, HF, hB⟩ := hrel
    have kk := HTb.out.below hB (by omega)
    have k0 := kk.c0
    have k1 := kk.c1
    have k2 := kk.c2
    have KK := Lib.hid kk
    clear kk
    by_cases hjm : j < m
    · obtain ⟨bl, off, nv, hae, hbl, c1, c2, c3⟩ := HR.out.at j (by rw [Hm.out]; exact hjm)
      subst hae
      have HMem : Hid (rs.getD j default ∈ rs) := getD_mem _ _ _ (by rw [Hm.out]; exact hjm)
      have HS : Hid ((rs.take (j + 1)).any (badRule s d) = ((rs.take j).any (badRule s d) || badRule s d (rs.getD j default))) := any_take (badRule s d) default rs j (by rw [Hm.out]; exact hjm)
      rw [HF.out, Bool.false_or] at HS
      have HQ : Hid (badRule s d (rs.getD j default) = refBadR s d (rs.getD j default)) := (refBadR_eq hs.1 _).symm
      obtain ⟨na, nc, hnv, _, hnm⟩ := c3.shape
      subst hnv
      unfold maxLen at hnm
      have e1 := (hB.cell (p := ⟨bl, off + j * 2, none⟩) (by show bl < _; omega)).trans c1
      have e2 := (hB.cell (p := ⟨bl, off + j * 2 + 1, none⟩) (by show bl < _; omega)).trans c2
      have HN := Lib.hid ((c3.below hB (by omega)).mono (Nat.le_trans (by omega : w.heap.size ≤ W.heap.size) hB.size))
      have jj : (j : Int) < (m : Int) := by omega
      clear c1 c2 c3
      generalize rs.getD j default = rr at *
      have hszr := hB.size
      have HbA : Hid (Below wr.heap.size wr (wr.alloc (.cells #[.slice na rr.needs.length nc, .int .i64 rr.gives] 48))) := (Below.refl _ _).alloc (Nat.le_refl _) _
      have HKA := Lib.hid (KK.out.below HbA.out (by omega))
      have a0 := HKA.out.c0
      have a1 := HKA.out.c1
      have HRA := Lib.hid (RBox.new wr (.slice na rr.needs.length nc) rr.gives)
      have r0 := HRA.out.c0
      have r1 := HRA.out.c1
      have HNA := Lib.hid (HN.out.below HbA.out (Nat.le_refl _))
      have HBB : Hid (Below w.heap.size w (wr.alloc (.cells #[.slice na rr.needs.length nc, .int .i64 rr.gives] 48))) := HB0.out.trans ((hB.trans (HbA.out.mono hB.size)).mono HB0.out.size)
      have HT1 : Hid (badRule s d rr = true → rs.any (badRule s d) = true) := fun h => List.any_eq_true.2 ⟨rr, HMem.out, h⟩
      generalize hn : rr.needs.length = n at *
      have Hn := Lib.hid hn
      clear hn HN
      have hwA : wr.heap.size + 1 ≤ (wr.alloc (.cells #[.slice na n nc, .int .i64 rr.gives] 48)).heap.size := by simp
      have HQ2 : Hid (refBadR s d rr = (decide (6 < n) || !inB rr.gives s (s + d - 1) || (List.range n).any (refBadN s d rr.needs))) := by show _ = _; unfold refBadR; rw [Hn.out]
      by_cases h6 : 6 < n
      · have d6 : decide ((6 : Int) < (n : Int)) = true := by simp; omega
        have HBad : Hid (rs.any (badRule s d) = true) := HT1.out (by rw [HQ.out, HQ2.out]; simp [h6])
        clear HQ2
        go_wp2
        go_ret
        exact ⟨by rw [HBad.out]; rfl, HBB.out⟩
      · have d6 : decide ((6 : Int) < (n : Int)) = false := by simp; omega
        cases hg : inB rr.gives s (s + d - 1)
        · have HBad : Hid (rs.any (badRule s d) = true) := HT1.out (by rw [HQ.out, HQ2.out, hg]; simp)
          clear HQ2
          go_wp2_with (go_at_call 45; refine (refIn_any _ _ _ _).mono ?_; rintro e w' ⟨rfl, rfl⟩; rw [hg])
          go_ret
          exact ⟨by rw [HBad.out]; rfl, HBB.out⟩
        · have HRq : Hid (badRule s d rr = (List.range n).any (refBadN s d rr.needs)) := by show _ = _; rw [HQ.out, HQ2.out, hg]; simp [h6]
          clear HQ2 HQ
          go_wp2_with (go_at_call 45; refine (refIn_any _ _ _ _).mono ?_; rintro e w' ⟨rfl, rfl⟩; rw [hg])
          generalize hwa : wr.alloc (.cells #[.slice na n nc, .int .i64 rr.gives] 48) = wa at *
          clear hwa
          go_loopw [5] (fun kv wy => ∃ k : Nat, k ≤ n ∧ kv = .int .i64 k ∧ Hid ((List.range k).any (refBadN s d rr.needs) = false) ∧ Below wa.heap.size wa wy) (fun kv _ => n - (intOf kv).toNat)
          case atStart => exact ⟨0, Nat.zero_le _, rfl, rfl, Below.refl _ _⟩
          case round =>
            obtain ⟨k, hk, rfl, HFk, hBy⟩ := hrel
            have hszy := hBy.size
            have kk := HKA.out.below hBy (by omega)
            have y0 := kk.c0
            have y1 := kk.c1
            have y2 := kk.c2
            have ry := HRA.out.below hBy (by omega)
            have s0 := ry.c0
            have s1 := ry.c1
            have HNy := Lib.hid (HNA.out.below hBy (by omega))
            by_cases hkn : k < n
            · obtain ⟨nb, noff, hae, _, hck⟩ := HNy.out.at k (by rw [Hn.out]; exact hkn)
              subst hae
              have HCk := Lib.hid hck
              clear hck
              have HCp : Hid (0 < k → wr.cell? ⟨nb, noff + (k - 1), none⟩ = some (.int .i64 (rr.needs.getD (k - 1) 0))) := fun h0 => by
                obtain ⟨nb', noff', hae', _, hcp⟩ := HNy.out.at (k - 1) (by rw [Hn.out]; omega)
                cases hae'
                exact hcp
              have HF1 : Hid ((List.range (k + 1)).any (refBadN s d rr.needs) = refBadN s d rr.needs k) := by
                show _ = _
                rw [List.range_succ, List.any_append, HFk.out, Bool.false_or, List.any_cons, List.any_nil, Bool.or_false]
              have HTr : Hid (refBadN s d rr.needs k = true → rs.any (badRule s d) = true) := fun h => HT1.out (by rw [HRq.out]; exact List.any_eq_true.2 ⟨k, List.mem_range.2 hkn, h⟩)
              have HEq : Hid (refBadN s d rr.needs k = (!inB (rr.needs.getD k 0) 0 (s + d - 1) || (decide (0 < k) && decide (rr.needs.getD k 0 ≤ rr.needs.getD (k - 1) 0)))) := rfl
              have HTh := Lib.hid (fun (W' : World) => thingR_any s d (rr.needs.getD k 0) (.slice (some ⟨bl, off, none⟩) m rc) W' hs hd ⟨_, _, _, rfl⟩)
              have kn : (k : Int) < (n : Int) := by omega
              clear HFk
              generalize rr.needs.getD k 0 = z at *
              cases hz : inB z 0 (s + d - 1)
              · have HBad : Hid (rs.any (badRule s d) = true) := HTr.out (by rw [HEq.out, hz]; rfl)
                rw [hz] at HTh
                clear HEq hz
                go_wp2
                refine wp_region_calm ⟨[6], fun _ v _ => v = .bool false, fun _ => [], 99, none, 1000⟩ (by kernel_rfl) (by kernel_rfl) (by kernel_rfl) (fun g h => by cases h) (fun k hk v W W' c h hg hc => h) ?_
                iterate 6 (refine calm_quiet (v := ?_) (by rfl) (by rfl) (fun W hW hD => ?_) ?_; rotate_left; (· (have q0 := grown_cell0 hW y0; have q1 := grown_cell0 hW y1; have q2 := grown_cell0 hW y2; have q3 := grown_cell0 hW s0; have q4 := grown_cell0 hW HCk.out; clear hD hW; go_simp; try with_reducible rfl)); simp only [Act.put, List.setIfInBounds_toArray, List.set_cons_zero, List.set_cons_succ, Nat.reduceAdd])
                refine calm_makes (by rfl) (by rfl) (fun W hW hD K hK => ?_) (fun v65 => ?_)
                · refine wp_of_call ?_ ((HTh.out W).mono ?_)
                  · clear hD hW hK
                    go_simp
                    try rfl
                  · rintro e w' ⟨he, hb⟩
                    exact ⟨_, he, hK _ _ (made_plain rfl hb rfl)⟩
                simp only [Act.put, List.setIfInBounds_toArray, List.set_cons_zero, List.set_cons_succ, Nat.reduceAdd]
                refine calm_quiet (v := .bool true) (by rfl) (by rfl) (fun W hW hD => ?_) ?_
                · obtain rfl : v65 = .bool false := hD [] 6 (by kernel_rfl) (by kernel_rfl) (by kernel_rfl)
                  clear hD hW
                  go_simp
                simp only [Act.put, List.setIfInBounds_toArray, List.set_cons_zero, List.set_cons_succ, Nat.reduceAdd]
                iterate 1 (refine calm_quiet (v := ?_) (by rfl) (by rfl) (fun W hW hD => ?_) ?_; rotate_left; (· (clear hD hW; go_simp; try with_reducible rfl)); simp only [Act.put, List.setIfInBounds_toArray, List.set_cons_zero, List.set_cons_succ, Nat.reduceAdd])
                iterate 16 (refine calm_skip (by rfl) (by rfl) ?_; simp only [Act.put, List.setIfInBounds_toArray, List.set_cons_zero, List.set_cons_succ, Nat.reduceAdd])
                iterate 1 (refine calm_quiet (v := ?_) (by rfl) (by rfl) (fun W hW hD => ?_) ?_; rotate_left; (· (clear hD hW; go_simp; try with_reducible rfl)); simp only [Act.put, List.setIfInBounds_toArray, List.set_cons_zero, List.set_cons_succ, Nat.reduceAdd])
                refine calm_nil fun W hW hF => ?_
                have HB6 := Lib.hid (grown_below hW)
                clear hF hW
                go_wp2
                go_ret
                exact ⟨by rw [HBad.out]; rfl, HBB.out.trans ((hBy.trans (HB6.out.mono hszy)).mono HBB.out.size)⟩
              · rw [hz] at HTh HEq
                clear hz
                by_cases hk0 : 0 < k
                · have d0 : decide ((0 : Int) < (k : Int)) = true := by simp; omega
                  have w1 : IntKind.i64.wrap ((k : Int) - 1) = ((k - 1 : Nat) : Int) := by rw [IntWalk.i64_in _ (by omega)]; omega
                  have HCq := Lib.hid (HCp.out hk0)
                  rw [decide_eq_true hk0] at HEq
                  have kp : ((k - 1 : Nat) : Int) < (n : Int) := by omega
                  clear HCp
                  generalize rr.needs.getD (k - 1) 0 = zp at *
                  generalize k - 1 = kq at *
                  cases hle : decide (z ≤ zp)
                  · have HNo : Hid (refBadN s d rr.needs k = false) := by show _ = _; rw [HEq.out, hle]; rfl
                    clear HEq
                    go_wp2
                    refine wp_region_calm ⟨[6], fun _ v _ => v = .bool true, fun _ => [], 99, none, 1000⟩ (by kernel_rfl) (by kernel_rfl) (by kernel_rfl) (fun g h => by cases h) (fun k hk v W W' c h hg hc => h) ?_
                    iterate 6 (refine calm_quiet (v := ?_) (by rfl) (by rfl) (fun W hW hD => ?_) ?_; rotate_left; (· (have q0 := grown_cell0 hW y0; have q1 := grown_cell0 hW y1; have q2 := grown_cell0 hW y2; have q3 := grown_cell0 hW s0; have q4 := grown_cell0 hW HCk.out; clear hD hW; go_simp; try with_reducible rfl)); simp only [Act.put, List.setIfInBounds_toArray, List.set_cons_zero, List.set_cons_succ, Nat.reduceAdd])
                    refine calm_makes (by rfl) (by rfl) (fun W hW hD K hK => ?_) (fun v65 => ?_)
                    · refine wp_of_call ?_ ((HTh.out W).mono ?_)
                      · clear hD hW hK
                        go_simp
                        try rfl
                      · rintro e w' ⟨he, hb⟩
                        exact ⟨_, he, hK _ _ (made_plain rfl hb rfl)⟩
                    simp only [Act.put, List.setIfInBounds_toArray, List.set_cons_zero, List.set_cons_succ, Nat.reduceAdd]
                    refine calm_quiet (v := .bool false) (by rfl) (by rfl) (fun W hW hD => ?_) ?_
                    · obtain rfl : v65 = .bool true := hD [] 6 (by kernel_rfl) (by kernel_rfl) (by kernel_rfl)
                      clear hD hW
                      go_simp
                    simp only [Act.put, List.setIfInBounds_toArray, List.set_cons_zero, List.set_cons_succ, Nat.reduceAdd]
                    iterate 1 (refine calm_quiet (v := ?_) (by rfl) (by rfl) (fun W hW hD => ?_) ?_; rotate_left; (· (clear hD hW; go_simp; try with_reducible rfl)); simp only [Act.put, List.setIfInBounds_toArray, List.set_cons_zero, List.set_cons_succ, Nat.reduceAdd])
                    iterate 3 (refine calm_quiet (v := ?_) (by rfl) (by rfl) (fun W hW hD => ?_) ?_; rotate_left; (· (clear hD hW; go_simp; try with_reducible rfl)); simp only [Act.put, List.setIfInBounds_toArray, List.set_cons_zero, List.set_cons_succ, Nat.reduceAdd])
                    iterate 14 (refine calm_quiet (v := ?_) (by rfl) (by rfl) (fun W hW hD => ?_) ?_; rotate_left; (· (have q3 := grown_cell0 hW s0; have q4 := grown_cell0 hW HCk.out; have q5 := grown_cell0 hW HCq.out; clear hD hW; go_simp; try with_reducible rfl)); simp only [Act.put, List.setIfInBounds_toArray, List.set_cons_zero, List.set_cons_succ, Nat.reduceAdd])
                    refine calm_nil fun W hW hF => ?_
                    have HB6 := Lib.hid (grown_below hW)
                    clear hF hW
                    go_wp2
                    go_roundw
                    case rel => exact ⟨k + 1, by omega, by go_num, by show _ = _; rw [HF1.out, HNo.out], hBy.trans (HB6.out.mono hszy)⟩
                    case measure => simp [intOf]; omega
                  · have HBad : Hid (rs.any (badRule s d) = true) := HTr.out (by rw [HEq.out, hle]; rfl)
                    clear HEq
                    go_wp2
                    refine wp_region_calm ⟨[6], fun _ v _ => v = .bool true, fun _ => [], 99, none, 1000⟩ (by kernel_rfl) (by kernel_rfl) (by kernel_rfl) (fun g h => by cases h) (fun k hk v W W' c h hg hc => h) ?_
                    iterate 6 (refine calm_quiet (v := ?_) (by rfl) (by rfl) (fun W hW hD => ?_) ?_; rotate_left; (· (have q0 := grown_cell0 hW y0; have q1 := grown_cell0 hW y1; have q2 := grown_cell0 hW y2; have q3 := grown_cell0 hW s0; have q4 := grown_cell0 hW HCk.out; clear hD hW; go_simp; try with_reducible rfl)); simp only [Act.put, List.setIfInBounds_toArray, List.set_cons_zero, List.set_cons_succ, Nat.reduceAdd])
                    refine calm_makes (by rfl) (by rfl) (fun W hW hD K hK => ?_) (fun v65 => ?_)
                    · refine wp_of_call ?_ ((HTh.out W).mono ?_)
                      · clear hD hW hK
                        go_simp
                        try rfl
                      · rintro e w' ⟨he, hb⟩
                        exact ⟨_, he, hK _ _ (made_plain rfl hb rfl)⟩
                    simp only [Act.put, List.setIfInBounds_toArray, List.set_cons_zero, List.set_cons_succ, Nat.reduceAdd]
                    refine calm_quiet (v := .bool false) (by rfl) (by rfl) (fun W hW hD => ?_) ?_
                    · obtain rfl : v65 = .bool true := hD [] 6 (by kernel_rfl) (by kernel_rfl) (by kernel_rfl)
                      clear hD hW
                      go_simp
                    simp only [Act.put, List.setIfInBounds_toArray, List.set_cons_zero, List.set_cons_succ, Nat.reduceAdd]
                    iterate 1 (refine calm_quiet (v := ?_) (by rfl) (by rfl) (fun W hW hD => ?_) ?_; rotate_left; (· (clear hD hW; go_simp; try with_reducible rfl)); simp only [Act.put, List.setIfInBounds_toArray, List.set_cons_zero, List.set_cons_succ, Nat.reduceAdd])
                    iterate 3 (refine calm_quiet (v := ?_) (by rfl) (by rfl) (fun W hW hD => ?_) ?_; rotate_left; (· (clear hD hW; go_simp; try with_reducible rfl)); simp only [Act.put, List.setIfInBounds_toArray, List.set_cons_zero, List.set_cons_succ, Nat.reduceAdd])
                    iterate 14 (refine calm_quiet (v := ?_) (by rfl) (by rfl) (fun W hW hD => ?_) ?_; rotate_left; (· (have q3 := grown_cell0 hW s0; have q4 := grown_cell0 hW HCk.out; have q5 := grown_cell0 hW HCq.out; clear hD hW; go_simp; try with_reducible rfl)); simp only [Act.put, List.setIfInBounds_toArray, List.set_cons_zero, List.set_cons_succ, Nat.reduceAdd])
                    refine calm_nil fun W hW hF => ?_
                    have HB6 := Lib.hid (grown_below hW)
                    clear hF hW
                    go_wp2
                    go_ret
                    exact ⟨by rw [HBad.out]; rfl, HBB.out.trans ((hBy.trans (HB6.out.mono hszy)).mono HBB.out.size)⟩
                · have d0 : decide ((0 : Int) < (k : Int)) = false := by simp; omega
                  have HNo : Hid (refBadN s d rr.needs k = false) := by show _ = _; rw [HEq.out, decide_eq_false hk0]; rfl
                  clear HEq
                  go_wp2
                  refine wp_region_calm ⟨[6], fun _ v _ => v = .bool true, fun _ => [], 99, none, 1000⟩ (by kernel_rfl) (by kernel_rfl) (by kernel_rfl) (fun g h => by cases h) (fun k hk v W W' c h hg hc => h) ?_
                  iterate 6 (refine calm_quiet (v := ?_) (by rfl) (by rfl) (fun W hW hD => ?_) ?_; rotate_left; (· (have q0 := grown_cell0 hW y0; have q1 := grown_cell0 hW y1; have q2 := grown_cell0 hW y2; have q3 := grown_cell0 hW s0; have q4 := grown_cell0 hW HCk.out; clear hD hW; go_simp; try with_reducible rfl)); simp only [Act.put, List.setIfInBounds_toArray, List.set_cons_zero, List.set_cons_succ, Nat.reduceAdd])
                  refine calm_makes (by rfl) (by rfl) (fun W hW hD K hK => ?_) (fun v65 => ?_)
                  · refine wp_of_call ?_ ((HTh.out W).mono ?_)
                    · clear hD hW hK
                      go_simp
                      try rfl
                    · rintro e w' ⟨he, hb⟩
                      exact ⟨_, he, hK _ _ (made_plain rfl hb rfl)⟩
                  simp only [Act.put, List.setIfInBounds_toArray, List.set_cons_zero, List.set_cons_succ, Nat.reduceAdd]
                  refine calm_quiet (v := .bool false) (by rfl) (by rfl) (fun W hW hD => ?_) ?_
                  · obtain rfl : v65 = .bool true := hD [] 6 (by kernel_rfl) (by kernel_rfl) (by kernel_rfl)
                    clear hD hW
                    go_simp
                  simp only [Act.put, List.setIfInBounds_toArray, List.set_cons_zero, List.set_cons_succ, Nat.reduceAdd]
                  iterate 1 (refine calm_quiet (v := ?_) (by rfl) (by rfl) (fun W hW hD => ?_) ?_; rotate_left; (· (clear hD hW; go_simp; try with_reducible rfl)); simp only [Act.put, List.setIfInBounds_toArray, List.set_cons_zero, List.set_cons_succ, Nat.reduceAdd])
                  iterate 3 (refine calm_quiet (v := ?_) (by rfl) (by rfl) (fun W hW hD => ?_) ?_; rotate_left; (· (clear hD hW; go_simp; try with_reducible rfl)); simp only [Act.put, List.setIfInBounds_toArray, List.set_cons_zero, List.set_cons_succ, Nat.reduceAdd])
                  iterate 12 (refine calm_skip (by rfl) (by rfl) ?_; simp only [Act.put, List.setIfInBounds_toArray, List.set_cons_zero, List.set_cons_succ, Nat.reduceAdd])
                  iterate 2 (refine calm_quiet (v := ?_) (by rfl) (by rfl) (fun W hW hD => ?_) ?_; rotate_left; (· (clear hD hW; go_simp; try with_reducible rfl)); simp only [Act.put, List.setIfInBounds_toArray, List.set_cons_zero, List.set_cons_succ, Nat.reduceAdd])
                  refine calm_nil fun W hW hF => ?_
                  have HB6 := Lib.hid (grown_below hW)
                  clear hF hW
                  go_wp2
                  go_roundw
                  case rel => exact ⟨k + 1, by omega, by go_num, by show _ = _; rw [HF1.out, HNo.out], hBy.trans (HB6.out.mono hszy)⟩
                  case measure => simp [intOf]; omega
            · obtain rfl : k = n := by omega
              have HFin : Hid (badRule s d rr = false) := by show _ = _; rw [HRq.out, HFk.out]
              clear HFk HRq
              go_wp2
              go_roundw
              case rel => exact ⟨j + 1, by omega, by go_num, by show _ = _; rw [HS.out, HFin.out], hB.trans ((HbA.out.trans (hBy.mono HbA.out.size)).mono hszr)⟩
              case measure => simp [intOf]; omega
    · obtain rfl : j = m := by omega
      have HFin : Hid (rs.any (badRule s d) = false) := by show _ = _; have := HF.out; rwa [List.take_of_length_le (by rw [Hm.out]; exact Nat.le_refl _)] at this
      clear HF
      go_wp2
      go_ret
      exact ⟨by rw [HFin.out]; rfl, HB0.out.trans (hB.mono HB0.out.size)⟩
end Go.Proofs.YtmihkbiihfhpoaaDoor
