/- DigestProofAccepted returns true. -/
import Derived.Test.YteemhemnkdgehaaDoorDLawSplit
import Derived.StillTailTactics
import Derived.Test.YteemhemnkdgehaaDoorDStepS
namespace Go.Proofs.YteemhemnkdgehaaDoor
open Go.RowKit Go.Shelf

theorem proofE_in {l : List Bytes} {k : Nat} (h : k < l.length) : proofE l k = (proofL l k, 0) := by
  unfold proofE
  rw [if_pos ⟨by omega, by omega⟩, Int.toNat_natCast]
theorem proofE_out {l : List Bytes} {i : Int} (h : ¬ (0 ≤ i ∧ i < (l.length : Int))) : proofE l i = ([], 2) := by
  unfold proofE
  rw [if_neg h]
theorem proofL_bin {l : List Bytes} (k r : Nat) (hr : l.length < 2 ^ r) : (proofL l k).length ≤ r := proofL_short l.length l k r (Nat.le_refl _) (by omega)
theorem verB_val {root : Bytes} {n i : Nat} {s : Bytes} {p : List Bytes} (hi : i < n) (hd : digB p = true) : verB root n i s p = (valR p.reverse n i s == some root) := by
  unfold verB
  rw [decide_eq_true (show (0 : Int) ≤ (i : Int) by omega), decide_eq_true (show (i : Int) < (n : Int) by omega), hd, Int.toNat_natCast, Int.toNat_natCast]
  rfl
theorem proofL_digB (l : List Bytes) (k : Nat) : digB (proofL l k) = true := digB_of (proofL_dig l.length l k (Nat.le_refl _))
theorem proofL_acc {l : List Bytes} {k : Nat} (h : k < l.length) : verB (rootL l) l.length k (l.getD k []) (proofL l k) = true := by
  rw [verB_val h (proofL_digB l k), valR_proof l.length l k (Nat.le_refl _) h]
  exact beq_self_eq_true _
/-- Only proofs of this length are accepted. -/
theorem verB_len {root : Bytes} {l : List Bytes} {k : Nat} {q : List Bytes} (h : k < l.length) (hq : digB q = true) (hne : q.length ≠ (proofL l k).length) : verB root l.length k (l.getD k []) q = false := by
  rw [verB_val h hq, beq_eq_false_iff_ne]
  intro e
  have h2 := valR_len _ _ _ _ _ _ _ _ e (valR_proof l.length l k (Nat.le_refl _) h)
  simp at h2
  exact hne h2
theorem proofL_long {root : Bytes} {l : List Bytes} {k : Nat} (h : k < l.length) : verB (rootL l) l.length k (l.getD k []) (proofL l k ++ [rootL l]) = false :=
  verB_len h (digB_of fun x hx => by
    rcases List.mem_append.1 hx with hx | hx
    · exact proofL_dig l.length l k (Nat.le_refl _) x hx
    · rw [List.mem_singleton.1 hx]; exact rootL_length l) (by simp)
theorem proofL_cut {l : List Bytes} {k : Nat} (h : k < l.length) (hp : 0 < (proofL l k).length) : verB (rootL l) l.length k (l.getD k []) ((proofL l k).drop 1) = false :=
  verB_len h (digB_of fun x hx => proofL_dig l.length l k (Nat.le_refl _) x (List.mem_of_mem_drop hx)) (by rw [List.length_drop]; omega)
theorem verB_out {R : Bytes} {n i : Int} {s : Bytes} (h : ¬ (0 ≤ i ∧ i < n)) : verB R n i s [] = false := by
  unfold verB
  by_cases h0 : 0 ≤ i
  · rw [decide_eq_true h0, decide_eq_false (fun h1 => h ⟨h0, h1⟩)]; rfl
  · rw [decide_eq_false h0]; rfl
theorem proofL_sm (l : List Bytes) (k : Nat) (h : l.length ≤ 1000) : Sm (proofL l k) := ⟨by have := proofL_bin (l := l) k 10 (by show _ < 1024; omega); omega, fun x hx => by have := proofL_dig l.length l k (Nat.le_refl _) x hx; omega⟩
/-- What the operations leave: append(append([]string{}, p...), root) and what Verify says of it. -/
def PaccF (H : Nat) (x y : List Bytes) : Nat → Value → World → Prop
  | 8, v, W => OwnS H W v []
  | 10, v, W => OwnS H W v x
  | 12, v, W => OwnS H W v y
  | 13, v, W => OwnS H W v (x ++ y)
  | _, v, _ => v = .bool false
theorem rowS_kept {base : Nat} {l : List Bytes} {v : Value} {W W' : World} {c : Option Nat} (h : OwnS base W v l) (hg : W.grownBy W' c) (hc : ∀ g, c = some g → v.ownBlock ≠ some g) : OwnS base W' v l :=
  World.ownsRow.kept h hg (by
    cases c with
    | none => cases v.ownBlock <;> simp
    | some g => exact .inr (hc g rfl))
theorem paccF_kept {H k : Nat} {x y : List Bytes} {v : Value} {W W' : World} {c : Option Nat} (h : PaccF H x y k v W) (hg : W.grownBy W' c) (hc : ∀ g, c = some g → v.ownBlock ≠ some g) : PaccF H x y k v W' := by
  unfold PaccF at *
  split at h <;> first | exact rowS_kept h hg hc | exact h
set_option maxRecDepth 100000 in
set_option maxHeartbeats 8000000 in
theorem pacc_any (vl : Value) (l0 : List Bytes) (m : Int) (w : World) (hm : I64 m) (hp : StrsAt w.heap.size w vl l0) (hT : Rounds w) :
    Calls Tryd.prog 5 #[vl, .int .i64 m] w fun e w' => e = .returned (.bool true) ∧ Below w.heap.size w w' := by
  have HL := Lib.hid (Live.start hT)
  have HP := Lib.hid hp
  have HT := Lib.hid hT
  obtain ⟨ap, cp, rfl, _, _⟩ := hp.shape
  have Hm := Lib.hid hm
  have HmP := Lib.hid (fewL_sm l0 40 (by omega))
  have hlen : (fewL l0 40).length ≤ 40 := by rw [fewL_len]; omega
  generalize l0.length = pl at *
  generalize hfp : fewL l0 40 = l at *
  have HFp := Lib.hid hfp
  clear hfp hp hT
  go_enter Tryd.func5, Tryd.ntmps5
  go_wp2_with fail
  refine (sane_any w HT.out).mono ?_
  rintro e w1 ⟨rfl, hb⟩
  have HL := Lib.hid (HL.out.step hb)
  clear hb
  go_wp2_with fail
  refine (few_live HL.out (HL.out.old HP.out) 40 (by omega)).mono ?_
  rintro e w2 ⟨v1, rfl, hL⟩
  rw [HFp.out] at hL
  obtain ⟨a1, c1, rfl, hc1, hc2⟩ := (hL.strs (.head _)).shape
  unfold maxLen at hc2
  have HL := Lib.hid hL
  clear hL
  have HX1 := Lib.hid (fun (k : Nat) h => @proofE_in l k h)
  have HX2 := Lib.hid (fun (m : Int) h => @proofE_out l m h)
  have HX3 := Lib.hid (fun (k r : Nat) h => @proofL_bin l k r h)
  have HX4 := Lib.hid (fun (k : Nat) h => @proofL_acc l k h)
  have HX5 := Lib.hid (fun (k : Nat) h => @proofL_long [] l k h)
  have HX6 := Lib.hid (fun (k : Nat) h => @proofL_cut l k h)
  have HX7 := Lib.hid (fun (k : Nat) => proofL_sm l k (by omega))
  have HX8 := Lib.hid (fun (k : Nat) (h : k < l.length) => HmP.out.2 _ (getD_mem' l [] k h))
  generalize hn : l.length = n at *
  have Hn := Lib.hid hn
  clear hn
  go_wp2_with fail
  refine (root_live HL.out (HL.out.strs (.head _)) HmP.out).mono ?_
  rintro e w3 ⟨rfl, hL⟩
  have HL := Lib.hid hL
  clear hL
  go_wp2_with fail
  go_loopw [7, 8, 9] (fun i x e wr => ∃ k : Nat, k ≤ n ∧ i = .int .i64 k ∧ Live w [(.slice a1 n c1, l)] wr) (fun i _ _ _ => n - (intOf i).toNat)
  case atStart => exact ⟨0, Nat.zero_le _, rfl, HL.out⟩
  case round =>
    obtain ⟨k, hk, rfl, hLv⟩ := hrel
    have HLv := Lib.hid hLv
    clear hLv
    by_cases hkn : k < n
    · have kn' : (k : Int) < (n : Int) := by omega
      have HE1 := Lib.hid (HX1.out k hkn)
      have HE3 := Lib.hid (HX3.out k)
      have HE4 := Lib.hid (HX4.out k hkn)
      have HE7 := Lib.hid (HX7.out k)
      have HE8 := Lib.hid (HX8.out k hkn)
      go_wp2_with fail
      refine (proof_live HLv.out (HLv.out.strs (.head _)) HmP.out k).mono ?_
      rintro e w4 ⟨v2, rfl, hL⟩
      rw [HE1.out] at hL ⊢
      have hxl : (proofL l k).length ≤ 100 := by have := HE3.out 6 (by show n < 64; omega); omega
      obtain ⟨a2, c2, rfl, _, _⟩ := (hL.strs (.head _)).shape
      have HL := Lib.hid hL
      obtain ⟨b1, off, ha1, _, q1⟩ := (hL.strs (v := .slice a1 n c1) (l := l) (by simp)).at k (by rw [Hn.out]; exact hkn)
      subst ha1
      clear hL
      have Hse := Lib.hid (show (bs (l.getD k [])).size ≤ 1000 by rw [bs_size]; exact HE8.out)
      have HE4' : Hid (verB (bs (rootL l)).data.toList n k (bs (l.getD k [])).data.toList (proofL l k) = true) := HE4.out
      generalize bs (l.getD k []) = E at *
      generalize proofL l k = x at *
      generalize hxx : x.length = xl at *
      have HXl := Lib.hid hxx
      clear hxx
      go_wp2_with fail
      refine (binary_any n _ (by omega)).mono ?_
      rintro e w5 ⟨⟨r, rfl, hr1, hr2⟩, rfl⟩
      have hxr := HE3.out r hr1
      have d2 : ¬ ((r : Int) < (xl : Int)) := by omega
      clear hr1
      go_wp2_with fail
      refine (verify_live HL.out (bs (rootL l)) E n k (by unfold I64; omega) (by unfold I64; omega) (by have := Hse.out; omega) (HL.out.strs (v := .slice a2 xl c2) (l := x) (by simp)) (by rw [HXl.out]; omega)).mono ?_
      rintro e w7 ⟨rfl, hL⟩
      rw [HE4'.out]
      have HL := Lib.hid hL
      clear hL
      go_wp2
      go_roundw
      case rel => exact ⟨k + 1, by omega, by go_num, HL.out.tail⟩
      case measure => simp [intOf]; omega
    · obtain rfl : k = n := by omega
      by_cases hin : 0 ≤ m ∧ m < (k : Int)
      · obtain ⟨h0, h1⟩ := hin
        obtain ⟨j, rfl⟩ := Int.eq_ofNat_of_zero_le h0
        have hjn : j < k := by omega
        have HE1 := Lib.hid (HX1.out j hjn)
        have hxl : (proofL l j).length ≤ 100 := by have := HX3.out j 6 (by show k < 64; omega); omega
        have HE5 := Lib.hid (HX5.out j hjn)
        have HE6 := Lib.hid (HX6.out j hjn)
        have HE7 := Lib.hid (HX7.out j)
        have HE8 := Lib.hid (HX8.out j hjn)
        go_wp2_with fail
        refine (proof_live HLv.out (HLv.out.strs (.head _)) HmP.out j).mono ?_
        rintro e w4 ⟨v2, rfl, hL⟩
        rw [HE1.out] at hL ⊢
        obtain ⟨a2, c2, rfl, hc3, hc4⟩ := (hL.strs (.head _)).shape
        unfold maxLen at hc4
        have HL := Lib.hid hL
        obtain ⟨b1, off, ha1, hb1, q1⟩ := (hL.strs (v := .slice a1 k c1) (l := l) (by simp)).at j (by rw [Hn.out]; exact hjn)
        subst ha1
        clear hL
        have Hse := Lib.hid (show (bs (l.getD j [])).size ≤ 1000 by rw [bs_size]; exact HE8.out)
        have HE5' : Hid (verB (bs (rootL l)).data.toList k j (bs (l.getD j [])).data.toList (proofL l j ++ [rootL l]) = false) := HE5.out
        have HE6' : Hid (0 < (proofL l j).length → verB (bs (rootL l)).data.toList k j (bs (l.getD j [])).data.toList ((proofL l j).drop 1) = false) := HE6.out
        generalize bs (l.getD j []) = E at *
        generalize proofL l j = x at *
        generalize hxx : x.length = xl at *
        have HXl := Lib.hid hxx
        clear hxx HX1 HX2 HX3 HX4 HX5 HX6 HX7 HX8 HE5 HE6
        have jk : (j : Int) < (k : Int) := by omega
        have j0 : 0 ≤ (j : Int) := by omega
        generalize hRR : bs (rootL l) = R at *
        have HRR := Lib.hid hRR
        clear hRR
        go_wp2_with fail
        have hq2 : w4.cell? ⟨b1, off + j, none⟩ = some (.string E) := q1
        have hE0 := HL.out.own (v := .slice a2 xl c2) (l := x) (by simp)
        have HE0 := Lib.hid hE0
        have HQ2 := Lib.hid hq2
        have HQ1 := Lib.hid hb1
        clear hE0 q1 hq2 hb1
        refine wp_region_calm ⟨[8, 10, 12, 13, 14], PaccF w4.heap.size x [rootL l], fun k => if k = 10 then [8] else if k = 13 then [10] else [], 99, none⟩ (by kernel_rfl) (by kernel_rfl) (by kernel_rfl) (fun g h => by cases h) (fun k _ v W W' c h hg hc => paccF_kept h hg fun g hh => (hc g hh).1) ?_
        iterate 6 (refine calm_quiet (v := ?_) (by rfl) (by rfl) (fun W hW hD => ?_) ?_; rotate_left; (· (clear hD hW; go_simp; try with_reducible rfl)); simp only [Act.put, List.setIfInBounds_toArray, List.set_cons_zero, List.set_cons_succ, Nat.reduceAdd, Nat.zero_add])
        iterate 2 (refine calm_quiet (v := ?_) (by rfl) (by rfl) (fun W hW hD => ?_) ?_; rotate_left; (· (have q2 := grown_cell hW HQ2.out (by simp); clear hD hW; go_simp; try with_reducible rfl)); simp only [Act.put, List.setIfInBounds_toArray, List.set_cons_zero, List.set_cons_succ, Nat.reduceAdd, Nat.zero_add])
        refine calm_makes (by rfl) (by rfl) (fun W hW hD K hK => ?_) (fun v105 => ?_)
        · refine wp_of_run (v := .slice (some ⟨W.heap.size, 0, none⟩) 0 0) (w' := W.alloc (.cells #[] 9)) ?_ (hK _ _ (made_below (OwnS.mono (ownS_lit0 W W.heap.size (Nat.le_refl _)) hW.size) ((Below.refl _ _).alloc (Nat.le_refl _) _) (World.ownsRow.lt (ownS_lit0 W W.heap.size (Nat.le_refl _)))))
          clear hD hW hK
          go_simp
        simp only [Act.put, List.setIfInBounds_toArray, List.set_cons_zero, List.set_cons_succ, Nat.reduceAdd, Nat.zero_add]
        iterate 1 (refine calm_quiet (v := ?_) (by rfl) (by rfl) (fun W hW hD => ?_) ?_; rotate_left; (· (clear hD hW; go_simp; try with_reducible rfl)); simp only [Act.put, List.setIfInBounds_toArray, List.set_cons_zero, List.set_cons_succ, Nat.reduceAdd, Nat.zero_add])
        refine calm_makes (by rfl) (by rfl) (fun W hW hD K hK => ?_) (fun v107 => ?_)
        · have h8 : OwnS w4.heap.size W v105 [] := hD [] 8 (by kernel_rfl) (by kernel_rfl) (by kernel_rfl)
          exact wp_append_SS (.tmp 105) (.tmp 106) rfl w4.heap.size 0 v105 (.slice a2 xl c2) [] x rfl rfl h8 (HE0.out.below (grown_below hW) (Nat.le_refl _)) (by rw [HXl.out]; simp; omega) hW.size (fun v' w' h1 h2 h3 => hK _ _ (made_grown (j := 8) (u := v105) (by kernel_rfl) rfl h1 h2 (fun g hg => ⟨(World.ownsRow.lt h1 g hg).2, grown_own h3 hg⟩)))
        simp only [Act.put, List.setIfInBounds_toArray, List.set_cons_zero, List.set_cons_succ, Nat.reduceAdd, Nat.zero_add]
        iterate 1 (refine calm_quiet (v := ?_) (by rfl) (by rfl) (fun W hW hD => ?_) ?_; rotate_left; (· (clear hD hW; go_simp; try with_reducible rfl)); simp only [Act.put, List.setIfInBounds_toArray, List.set_cons_zero, List.set_cons_succ, Nat.reduceAdd, Nat.zero_add])
        refine calm_makes (by rfl) (by rfl) (fun W hW hD K hK => ?_) (fun v109 => ?_)
        · have HO1 := Lib.hid (fun (W : World) => ownS_lit W W.heap.size (rootL l) (Nat.le_refl _))
          rw [HRR.out] at HO1
          refine wp_of_run (v := .slice (some ⟨W.heap.size, 0, none⟩) 1 1) (w' := W.alloc (.cells #[.string R] 9)) ?_ (hK _ _ (made_below (OwnS.mono (HO1.out W) hW.size) ((Below.refl _ _).alloc (Nat.le_refl _) _) (World.ownsRow.lt (HO1.out W))))
          clear hD hW hK
          go_simp
        simp only [Act.put, List.setIfInBounds_toArray, List.set_cons_zero, List.set_cons_succ, Nat.reduceAdd, Nat.zero_add]
        refine calm_makes (by rfl) (by rfl) (fun W hW hD K hK => ?_) (fun v110 => ?_)
        · have h10 : OwnS w4.heap.size W v107 x := hD [] 10 (by kernel_rfl) (by kernel_rfl) (by kernel_rfl)
          have h12 : OwnS w4.heap.size W v109 [rootL l] := hD [] 12 (by kernel_rfl) (by kernel_rfl) (by kernel_rfl)
          exact wp_append_SS (.tmp 107) (.tmp 109) rfl w4.heap.size w4.heap.size v107 v109 x [rootL l] rfl rfl h10 h12 (by rw [HXl.out]; simp; omega) hW.size (fun v' w' h1 h2 h3 => hK _ _ (made_grown (j := 10) (u := v107) (by kernel_rfl) rfl h1 h2 (fun g hg => ⟨(World.ownsRow.lt h1 g hg).2, grown_own h3 hg⟩)))
        simp only [Act.put, List.setIfInBounds_toArray, List.set_cons_zero, List.set_cons_succ, Nat.reduceAdd, Nat.zero_add]
        refine calm_makes (by rfl) (by rfl) (fun W hW hD K hK => ?_) (fun v111 => ?_)
        · have h13 : OwnS w4.heap.size W v110 (x ++ [rootL l]) := hD [] 13 (by kernel_rfl) (by kernel_rfl) (by kernel_rfl)
          refine wp_of_call ?_ ((verify_any R.data.toList k j E.data.toList v110 (x ++ [rootL l]) W (by omega) (by omega) (by rw [blen]; have := Hse.out; omega) h13.strs (by rw [List.length_append, HXl.out]; simp; omega) (HL.out.2.1.below (grown_below hW) (Nat.le_refl _))).mono ?_)
          · clear hD hW hK h13
            go_simp
            exact ⟨rfl, rfl⟩
          · rintro e w' ⟨he, hb⟩
            rw [HE5'.out] at he
            exact ⟨_, he, hK _ _ (made_plain rfl hb rfl)⟩
        simp only [Act.put, List.setIfInBounds_toArray, List.set_cons_zero, List.set_cons_succ, Nat.reduceAdd, Nat.zero_add]
        iterate 1 (refine calm_quiet (v := ?_) (by rfl) (by rfl) (fun W hW hD => ?_) ?_; rotate_left; (· (clear hD hW; go_simp; try with_reducible rfl)); simp only [Act.put, List.setIfInBounds_toArray, List.set_cons_zero, List.set_cons_succ, Nat.reduceAdd, Nat.zero_add])
        refine calm_nil fun W5 hW5 hF => ?_
        obtain rfl : v111 = .bool false := hF 14 (by kernel_rfl) (by kernel_rfl)
        have hL5 := HL.out.step (grown_below hW5)
        have hq5 := grown_cell hW5 HQ2.out (by simp)
        have hb5 := Nat.lt_of_lt_of_le HQ1.out hW5.size
        have HL := Lib.hid hL5
        have HQ2 := Lib.hid hq5
        clear hW5 hF hL5 hq5 hb5
        go_wp2
        by_cases hx0 : 0 < xl
        · have d0 : (0 : Int) < (xl : Int) := by omega
          have d1 : decide ((xl : Int) > 0) = true := by simp; omega
          have d2 : decide (0 < xl) = true := by simp; omega
          have d3 : (1 : Int) ≤ (xl : Int) := by omega
          have d4 : (1 : Int) ≤ (c2 : Int) := by omega
          have hs0 := HL.out.strs (v := .slice a2 xl c2) (l := x) (by simp)
          obtain ⟨b2, o2, ha2, _⟩ := hs0.at 0 (by rw [HXl.out]; exact hx0)
          subst ha2
          have HE6 := Lib.hid (HE6'.out hx0)
          by_cases hc2 : c2 = 1
          · subst hc2
            obtain rfl : xl = 1 := by omega
            refine wp_region_calm ⟨[14], fun _ v _ => v = .bool false, fun _ => [], 99, none⟩ (by kernel_rfl) (by kernel_rfl) (by kernel_rfl) (fun g h => by cases h) (fun k _ v W W' c h _ _ => h) ?_
            iterate 10 (refine calm_quiet (v := ?_) (by rfl) (by rfl) (fun W hW hD => ?_) ?_; rotate_left; (· (clear hD hW; go_simp; try with_reducible rfl)); simp only [Act.put, List.setIfInBounds_toArray, List.set_cons_zero, List.set_cons_succ, Nat.reduceAdd, Nat.zero_add])
            iterate 2 (refine calm_quiet (v := ?_) (by rfl) (by rfl) (fun W hW hD => ?_) ?_; rotate_left; (· (have q2 := grown_cell hW HQ2.out (by simp); clear hD hW; go_simp; try with_reducible rfl)); simp only [Act.put, List.setIfInBounds_toArray, List.set_cons_zero, List.set_cons_succ, Nat.reduceAdd, Nat.zero_add])
            iterate 2 (refine calm_quiet (v := ?_) (by rfl) (by rfl) (fun W hW hD => ?_) ?_; rotate_left; (· (clear hD hW; go_simp; try with_reducible rfl)); simp only [Act.put, List.setIfInBounds_toArray, List.set_cons_zero, List.set_cons_succ, Nat.reduceAdd, Nat.zero_add])
            refine calm_makes (by rfl) (by rfl) (fun W hW hD K hK => ?_) (fun v126 => ?_)
            · have hs1 : StrsAt W.heap.size W (.slice (some ⟨b2, o2, none⟩) 0 0) (x.drop 1) := by rw [List.drop_eq_nil_of_le (by rw [HXl.out]; exact Nat.le_refl _)]; exact ⟨_, 0, rfl, Nat.le_refl _, by unfold maxLen; omega, fun h => absurd h (by simp)⟩
              refine wp_of_call ?_ ((verify_any R.data.toList k j E.data.toList (.slice (some ⟨b2, o2, none⟩) 0 0) (x.drop 1) W (by omega) (by omega) (by rw [blen]; have := Hse.out; omega) hs1 (by rw [List.length_drop, HXl.out]; omega) (HL.out.2.1.below (grown_below hW) (Nat.le_refl _))).mono ?_)
              · clear hD hW hK hs1
                go_simp
                exact ⟨rfl, rfl⟩
              · rintro e w' ⟨he, hb⟩
                rw [HE6.out] at he
                exact ⟨_, he, hK _ _ (made_plain rfl hb rfl)⟩
            simp only [Act.put, List.setIfInBounds_toArray, List.set_cons_zero, List.set_cons_succ, Nat.reduceAdd, Nat.zero_add]
            iterate 2 (refine calm_quiet (v := ?_) (by rfl) (by rfl) (fun W hW hD => ?_) ?_; rotate_left; (· (clear hD hW; go_simp; try with_reducible rfl)); simp only [Act.put, List.setIfInBounds_toArray, List.set_cons_zero, List.set_cons_succ, Nat.reduceAdd, Nat.zero_add])
            refine calm_nil fun W6 hW6 hF => ?_
            obtain rfl : v126 = .bool false := hF 14 (by kernel_rfl) (by kernel_rfl)
            have hL6 := HL.out.1.trans ((grown_below hW6).mono HL.out.1.size)
            have HB6 := Lib.hid hL6
            clear hW6 hF hL6
            go_wp2
            go_ret
            exact ⟨rfl, HB6.out⟩
          · have c2' : ¬ (c2 : Int) - 1 = 0 := by omega
            have c3' : ¬ c2 - 1 = 0 := by omega
            have c4' : 1 < c2 := by omega
            refine wp_region_calm ⟨[14], fun _ v _ => v = .bool false, fun _ => [], 99, none⟩ (by kernel_rfl) (by kernel_rfl) (by kernel_rfl) (fun g h => by cases h) (fun k _ v W W' c h _ _ => h) ?_
            iterate 10 (refine calm_quiet (v := ?_) (by rfl) (by rfl) (fun W hW hD => ?_) ?_; rotate_left; (· (clear hD hW; go_simp; try with_reducible rfl)); simp only [Act.put, List.setIfInBounds_toArray, List.set_cons_zero, List.set_cons_succ, Nat.reduceAdd, Nat.zero_add])
            iterate 2 (refine calm_quiet (v := ?_) (by rfl) (by rfl) (fun W hW hD => ?_) ?_; rotate_left; (· (have q2 := grown_cell hW HQ2.out (by simp); clear hD hW; go_simp; try with_reducible rfl)); simp only [Act.put, List.setIfInBounds_toArray, List.set_cons_zero, List.set_cons_succ, Nat.reduceAdd, Nat.zero_add])
            iterate 2 (refine calm_quiet (v := ?_) (by rfl) (by rfl) (fun W hW hD => ?_) ?_; rotate_left; (· (clear hD hW; go_simp; try with_reducible rfl)); simp only [Act.put, List.setIfInBounds_toArray, List.set_cons_zero, List.set_cons_succ, Nat.reduceAdd, Nat.zero_add])
            refine calm_makes (by rfl) (by rfl) (fun W hW hD K hK => ?_) (fun v126 => ?_)
            · have hs1 : StrsAt W.heap.size W (.slice (some ⟨b2, o2 + 1, none⟩) (xl - 1) (c2 - 1)) (x.drop 1) := ((HL.out.strs (v := .slice (some ⟨b2, o2, none⟩) xl c2) (l := x) (by simp)).drop 1 (by rw [HXl.out]; omega)).later (grown_below hW) (Nat.le_refl _)
              refine wp_of_call ?_ ((verify_any R.data.toList k j E.data.toList (.slice (some ⟨b2, o2 + 1, none⟩) (xl - 1) (c2 - 1)) (x.drop 1) W (by omega) (by omega) (by rw [blen]; have := Hse.out; omega) hs1 (by rw [List.length_drop, HXl.out]; omega) (HL.out.2.1.below (grown_below hW) (Nat.le_refl _))).mono ?_)
              · clear hD hW hK hs1
                go_simp
                exact ⟨rfl, rfl⟩
              · rintro e w' ⟨he, hb⟩
                rw [HE6.out] at he
                exact ⟨_, he, hK _ _ (made_plain rfl hb rfl)⟩
            simp only [Act.put, List.setIfInBounds_toArray, List.set_cons_zero, List.set_cons_succ, Nat.reduceAdd, Nat.zero_add]
            iterate 2 (refine calm_quiet (v := ?_) (by rfl) (by rfl) (fun W hW hD => ?_) ?_; rotate_left; (· (clear hD hW; go_simp; try with_reducible rfl)); simp only [Act.put, List.setIfInBounds_toArray, List.set_cons_zero, List.set_cons_succ, Nat.reduceAdd, Nat.zero_add])
            refine calm_nil fun W6 hW6 hF => ?_
            obtain rfl : v126 = .bool false := hF 14 (by kernel_rfl) (by kernel_rfl)
            have hL6 := HL.out.1.trans ((grown_below hW6).mono HL.out.1.size)
            have HB6 := Lib.hid hL6
            clear hW6 hF hL6
            go_wp2
            go_ret
            exact ⟨rfl, HB6.out⟩
        · obtain rfl : xl = 0 := by omega
          have d1 : decide ((((0 : Nat) : Int)) > 0) = false := by simp
          refine wp_region_calm ⟨[], fun _ _ _ => True, fun _ => [], 99, none⟩ (by kernel_rfl) (by kernel_rfl) (by kernel_rfl) (fun g h => by cases h) (fun k _ v W W' c h _ _ => h) ?_
          iterate 4 (refine calm_quiet (v := ?_) (by rfl) (by rfl) (fun W hW hD => ?_) ?_; rotate_left; (· (clear hD hW; go_simp; try with_reducible rfl)); simp only [Act.put, List.setIfInBounds_toArray, List.set_cons_zero, List.set_cons_succ, Nat.reduceAdd, Nat.zero_add])
          iterate 11 (refine calm_skip (by rfl) (by rfl) ?_; simp only [Act.put, List.setIfInBounds_toArray, List.set_cons_zero, List.set_cons_succ, Nat.reduceAdd, Nat.zero_add])
          iterate 2 (refine calm_quiet (v := ?_) (by rfl) (by rfl) (fun W hW hD => ?_) ?_; rotate_left; (· (clear hD hW; go_simp; try with_reducible rfl)); simp only [Act.put, List.setIfInBounds_toArray, List.set_cons_zero, List.set_cons_succ, Nat.reduceAdd, Nat.zero_add])
          refine calm_nil fun W6 hW6 hF => ?_
          have hL6 := HL.out.1.trans ((grown_below hW6).mono HL.out.1.size)
          have HB6 := Lib.hid hL6
          clear hW6 hF hL6
          go_wp2
          go_ret
          exact ⟨rfl, HB6.out⟩
      · have HE2 := Lib.hid (HX2.out m hin)
        have HV := Lib.hid (@verB_out (rootL l) k m [] hin)
        go_wp2_with fail
        refine (proof_live HLv.out (HLv.out.strs (.head _)) HmP.out m).mono ?_
        rintro e w4 ⟨v2, rfl, hL⟩
        rw [HE2.out] at hL ⊢
        obtain ⟨a2, c2, rfl, _, _⟩ := (hL.strs (.head _)).shape
        have HL := Lib.hid hL
        clear hL HX1 HX2 HX3 HX4 HX5 HX6 HX7 HX8
        by_cases h0 : 0 ≤ m
        · have h1 : decide (m < (k : Int)) = false := decide_eq_false (fun h => hin ⟨h0, h⟩)
          clear hin
          go_wp2_with fail
          refine (verify_live HL.out (bs (rootL l)) (⟨#[]⟩ : ByteArray) k m (by unfold I64; omega) Hm.out (Nat.zero_le _) (StrsAt.nil _ _) (Nat.zero_le _)).mono ?_
          rintro e w7 ⟨rfl, hL⟩
          rw [bs_list, show (⟨#[]⟩ : ByteArray).data.toList = [] from rfl, HV.out]
          have HL := Lib.hid hL
          clear hL
          go_wp2
          go_ret
          exact ⟨rfl, HL.out.1⟩
        · clear hin
          go_wp2_with fail
          refine (verify_live HL.out (bs (rootL l)) (⟨#[]⟩ : ByteArray) k m (by unfold I64; omega) Hm.out (Nat.zero_le _) (StrsAt.nil _ _) (Nat.zero_le _)).mono ?_
          rintro e w7 ⟨rfl, hL⟩
          rw [bs_list, show (⟨#[]⟩ : ByteArray).data.toList = [] from rfl, HV.out]
          have HL := Lib.hid hL
          clear hL
          go_wp2
          go_ret
          exact ⟨rfl, HL.out.1⟩
end Go.Proofs.YteemhemnkdgehaaDoor
