/- DigestChainBinding returns true. -/
import Derived.Test.YteemhemnkdgehaaDoorDLawSplit
import Derived.Test.YteemhemnkdgehaaDoorDHeads
import Derived.Test.YteemhemnkdgehaaDoorCalm
namespace Go.Proofs.YteemhemnkdgehaaDoor
open Go.RowKit Go.Shelf

/-- Two different lists of records with one head. -/
theorem chain_bind : ∀ (p q : List Bytes), p ≠ q → headR p = headR q → collB (headsR p) (headsR q) = true ∨ (p.length < q.length ∧ sha ((headsR q).getD p.length []) = z32) ∨ (q.length < p.length ∧ sha ((headsR p).getD q.length []) = z32)
  | [], [], h, _ => absurd rfl h
  | [], y :: u, _, h => .inr (.inl ⟨by simp, h.symm⟩)
  | x :: t, [], _, h => .inr (.inr ⟨by simp, h⟩)
  | x :: t, y :: u, hne, h => by
    by_cases he : (2 : UInt8) :: (headR t ++ x) = 2 :: (headR u ++ y)
    · obtain ⟨h1, h2⟩ := List.append_inj (show headR t ++ x = headR u ++ y by injection he) (by rw [headR_length, headR_length])
      rcases chain_bind t u (fun e => hne (by rw [e, h2])) h1 with h3 | ⟨h3, h4⟩ | ⟨h3, h4⟩
      · exact .inl (collB_tail h3)
      · exact .inr (.inl ⟨by simp; omega, h4⟩)
      · exact .inr (.inr ⟨by simp; omega, h4⟩)
    · exact .inl (collB_head he h)
/-- The world in which 32 zero bytes were made. -/
noncomputable def mkW (W : World) : World := (mk32 W).choose
theorem mkW_run (W : World) : (Instr.makeSlice 46 (.int .i64 32) (.int .i64 32)).run Tryd.prog W = .ok (.slice (some ⟨W.heap.size, 0, none⟩) 32 32) (mkW W) := (mk32 W).choose_spec.1
theorem mkW_below (W : World) : Below W.heap.size W (mkW W) := (mk32 W).choose_spec.2.1
theorem mkW_lt (W : World) : W.heap.size < (mkW W).heap.size := (mk32 W).choose_spec.2.2.1
theorem mkW_conv (W W2 : World) (h : Below (mkW W).heap.size (mkW W) W2) : (convert 46 9 (.slice (some ⟨W.heap.size, 0, none⟩) 32 32)).run Tryd.prog W2 = .ok (.string (bs z32)) W2 := (mk32 W).choose_spec.2.2.2 W2 h
theorem sum_live2 {w0 W : World} {L : List (Value × List Bytes)} (h : Live w0 L W) (S : ByteArray) (hS : S.size ≤ 1000000) :
    Calls Tryd.prog 30 #[.string S] W fun e w' => e = .returned (.string (bs (sha S.data.toList))) ∧ Live w0 L w' ∧ Below W.heap.size W w' :=
  (sum_any S W (by omega) h.2.1).mono fun _ _ ⟨h1, h2⟩ => ⟨h1, h.step h2, h2⟩
theorem Live.mk {w0 W : World} {L : List (Value × List Bytes)} (h : Live w0 L W) : Live w0 L (mkW W) := h.step (mkW_below W)
/-- What the operations leave: the digest, and the 32 zero bytes. -/
def ChainF (S : Value) : Nat → Value → World → Prop
  | 14, v, _ => v = S
  | _, v, W => ∃ W0 : World, v = .slice (some ⟨W0.heap.size, 0, none⟩) 32 32 ∧ Below (mkW W0).heap.size (mkW W0) W
theorem chainF_kept {S : Value} {k : Nat} {v : Value} {W W' : World} (h : ChainF S k v W) (hg : W.grownBy W' none) : ChainF S k v W' := by
  unfold ChainF at *
  split at h
  · exact h
  · obtain ⟨W0, h1, h2⟩ := h
    exact ⟨W0, h1, h2.trans ((grown_below hg).mono h2.size)⟩
set_option maxRecDepth 100000 in
set_option maxHeartbeats 8000000 in
theorem chainb_any (va : Value) (la : List Bytes) (vb : Value) (lb : List Bytes) (w : World) (hp : StrsAt w.heap.size w va la) (hq : StrsAt w.heap.size w vb lb) (hT : Rounds w) :
    Calls Tryd.prog 11 #[va, vb] w fun e w' => e = .returned (.bool true) ∧ Below w.heap.size w w' := by
  have HL := Lib.hid (Live.start hT)
  have HP := Lib.hid hp
  have HQ := Lib.hid hq
  have HT := Lib.hid hT
  obtain ⟨ap, cp, rfl, _, _⟩ := hp.shape
  obtain ⟨aq, cq, rfl, _, _⟩ := hq.shape
  have HmP := Lib.hid (fewL_sm la 20 (by omega))
  have HmQ := Lib.hid (fewL_sm lb 20 (by omega))
  have hpn : (fewL la 20).length ≤ 20 := by rw [fewL_len]; omega
  have hqn : (fewL lb 20).length ≤ 20 := by rw [fewL_len]; omega
  generalize la.length = pl at *
  generalize lb.length = ql at *
  generalize hfp : fewL la 20 = p' at *
  generalize hfq : fewL lb 20 = q' at *
  have HFp := Lib.hid hfp
  have HFq := Lib.hid hfq
  have HEl1 := Lib.hid (headsR_el p'.reverse (fun x hx => HmP.out.2 x (List.mem_reverse.1 hx)))
  have HEl2 := Lib.hid (headsR_el q'.reverse (fun x hx => HmQ.out.2 x (List.mem_reverse.1 hx)))
  have hxn : (headsR p'.reverse).length = p'.length := by rw [headsR_length, List.length_reverse]
  have hyn : (headsR q'.reverse).length = q'.length := by rw [headsR_length, List.length_reverse]
  have HCb := Lib.hid (chain_bind p'.reverse q'.reverse)
  rw [List.length_reverse, List.length_reverse] at HCb
  have HSame : Hid ((p' == q') = true → p'.reverse = q'.reverse) := fun h => by rw [beq_iff_eq] at h; rw [h]
  have HDiff : Hid ((p' == q') = false → p'.reverse ≠ q'.reverse) := fun h e => by rw [beq_eq_false_iff_ne] at h; exact h (List.reverse_inj.1 e)
  have HSg : Hid ((p' == q') = true → headR p'.reverse = headR q'.reverse) := fun h => by rw [beq_iff_eq] at h; rw [h]
  have hh1 := headR_length p'.reverse
  have hh2 := headR_length q'.reverse
  rw [← bs_size] at hh1 hh2
  have HEq := Lib.hid (bs_eq_list (headR p'.reverse) (headR q'.reverse))
  clear hfp hfq hp hq hT
  go_enter Tryd.func11, Tryd.ntmps11
  go_wp2_with fail
  refine (sane_any w HT.out).mono ?_
  rintro e w1 ⟨rfl, hb⟩
  have HL := Lib.hid (HL.out.step hb)
  clear hb
  go_wp2_with fail
  refine (few_live HL.out (HL.out.old HP.out) 20 (by omega)).mono ?_
  rintro e w2 ⟨v1, rfl, hL⟩
  rw [HFp.out] at hL
  obtain ⟨a1, c1, rfl, _, _⟩ := (hL.strs (.head _)).shape
  have HL := Lib.hid hL
  clear hL
  go_wp2_with fail
  refine (few_live HL.out (HL.out.old HQ.out) 20 (by omega)).mono ?_
  rintro e w3 ⟨v2, rfl, hL⟩
  rw [HFq.out] at hL
  obtain ⟨a2, c2, rfl, _, _⟩ := (hL.strs (.head _)).shape
  have HL := Lib.hid hL
  clear hL
  go_wp2_with fail
  refine (heads_live HL.out (HL.out.strs (l := p') (by simp)) HmP.out).mono ?_
  rintro e w4 ⟨v3, rfl, hL⟩
  obtain ⟨a3, c3, rfl, hc3, hc3'⟩ := (hL.strs (.head _)).shape
  have HL := Lib.hid hL
  rw [hxn] at HL hc3 ⊢
  clear hL
  go_wp2_with fail
  refine (heads_live HL.out (HL.out.strs (l := q') (by simp)) HmQ.out).mono ?_
  rintro e w5 ⟨v4, rfl, hL⟩
  obtain ⟨a4, c4, rfl, hc4, hc4'⟩ := (hL.strs (.head _)).shape
  have HL := Lib.hid hL
  rw [hyn] at HL hc4 ⊢
  clear hL
  generalize bs (headR p'.reverse) = H1 at *
  generalize bs (headR q'.reverse) = H2 at *
  generalize headR p'.reverse = g1 at *
  generalize headR q'.reverse = g2 at *
  have HXn := Lib.hid hxn
  have HYn := Lib.hid hyn
  generalize headsR p'.reverse = X at *
  generalize headsR q'.reverse = Y at *
  generalize p'.length = pn at *
  generalize q'.length = qn at *
  clear hxn hyn
  unfold maxLen at hc3' hc4'
  go_wp2_with fail
  refine (same_live HL.out (HL.out.strs (l := p') (by simp)) (HL.out.strs (l := q') (by simp))).mono ?_
  rintro e w6 ⟨rfl, hL⟩
  have HL := Lib.hid hL
  clear hL
  cases hsm : (p' == q')
  · rw [hsm] at HSame HDiff
    cases hg : (g1 == g2)
    · have he : (H1.toList == H2.toList) = false := by rw [HEq.out, hg]
      have he2 : (H1.toList != H2.toList) = true := by rw [bne, he]; rfl
      clear hsm hg
      go_wp2
      go_ret
      exact ⟨rfl, HL.out.1⟩
    · have he : (H1.toList == H2.toList) = true := by rw [HEq.out, hg]
      have he2 : (H1.toList != H2.toList) = false := by rw [bne, he]; rfl
      have hcb := HCb.out (HDiff.out (by first | rfl | trivial)) (beq_iff_eq.1 hg)
      clear hsm hg
      rcases Nat.lt_trichotomy pn qn with hlt | heq | hgt
      · have HCb2 : Hid (collB X Y = true ∨ sha (Y.getD pn []) = z32) := by
          rcases hcb with h | ⟨h1, h⟩ | ⟨h1, h⟩
          · exact .inl h
          · first | exact .inr h | (exfalso; omega)
          · first | exact .inr h | (exfalso; omega)
        clear hcb
        have hsx := HL.out.strs (v := .slice a3 pn c3) (l := X) (by simp)
        have hsy := HL.out.strs (v := .slice a4 qn c4) (l := Y) (by simp)
        have HSx := Lib.hid hsx
        have HSy := Lib.hid hsy
        obtain ⟨gl, ol, hal, hgl, hcl⟩ := hsy.at pn (by rw [HYn.out]; exact hlt)
        subst hal
        have hel := HEl2.out _ (getD_mem' Y [] pn (by rw [HYn.out]; exact hlt))
        have hme := bs_eq_list (sha (Y.getD pn [])) z32
        have hbe : (bs (Y.getD pn [])).size ≤ 1000000 := by rw [bs_size]; exact hel
        have HSum := Lib.hid (fun W (hW : Below w6.heap.size w6 W) => (sum_any (bs (Y.getD pn [])) W (by omega) (HL.out.2.1.below hW (Nat.le_refl _))).mono fun e w' (h : _ ∧ _) => And.intro h.1 (And.intro (hW.trans (h.2.mono hW.size)) h.2))
        rw [bs_list] at HSum
        generalize Y.getD pn [] = E at *
        generalize bs E = EB at *
        generalize bs (sha E) = SE at *
        have q0 : w6.cell? ⟨gl, ol + pn, none⟩ = some (.string EB) := hcl
        have HMk := mkW_run
        have HCv2 := Lib.hid mkW_conv
        generalize hZZ : bs z32 = Z at *
        have hne3 : ((pn : Int) != (qn : Int)) = true := by simp; omega
        have hne4 : (pn != qn) = true := by simp; omega
        have hne5 : decide (pn = qn) = false := by simp; omega
        have hne6 : ((pn : Int) == (qn : Int)) = false := by simp; omega
        have hne7 : (pn == qn) = false := by simp; omega
        have hmin : min (pn : Int) (qn : Int) = (pn : Int) := by omega
        have hgt1 : decide ((pn : Int) < (qn : Int)) = true := by simp; omega
        have hmlt : (pn : Int) < (qn : Int) := by omega
        clear hsx hsy hZZ hel
        cases hz : (sha E == z32)
        all_goals
          rw [hz] at hme
          have Hz := Lib.hid hz
          clear hz
          go_wp2
          have hq2 := q0
          refine wp_region_calm ⟨[14, 15], ChainF (.string SE), fun _ => [], 99, none, 1000⟩ (by kernel_rfl) (by kernel_rfl) (by kernel_rfl) (fun g h => by cases h) (fun k _ v W W' c h hg hc => chainF_kept h (by
            cases c with
            | none => exact hg
            | some g => obtain ⟨_, _, i, j, u, hh, _⟩ := hc g rfl; cases hh)) ?_
          iterate 14 (refine calm_quiet (v := ?_) (by rfl) (by rfl) (fun W hW _ => ?_) ?_; rotate_left; (· (have q2 : W.cell? ⟨gl, ol + pn, none⟩ = some (.string EB) := grown_cell0 hW hq2; clear hW; go_simp; try with_reducible rfl)); simp only [Act.put, List.setIfInBounds_toArray, List.set_cons_zero, List.set_cons_succ, Nat.reduceAdd, Nat.zero_add])
          refine calm_makes (by rfl) (by rfl) (fun W hW _ K hK => ?_) (fun v75 => ?_)
          · have hW' := grown_below hW
            refine wp_of_call ?_ ((HSum.out W hW').mono ?_)
            · clear hW hK hW'
              go_simp
            · rintro e w' ⟨he, h1, h2⟩
              exact ⟨_, he, hK _ _ (made_plain rfl h2 rfl)⟩
          simp only [Act.put, List.setIfInBounds_toArray, List.set_cons_zero, List.set_cons_succ, Nat.reduceAdd, Nat.zero_add]
          refine calm_makes (by rfl) (by rfl) (fun W hW _ K hK => ?_) (fun v76 => ?_)
          · refine wp_of_run (v := .slice (some ⟨W.heap.size, 0, none⟩) 32 32) (w' := mkW W) ?_ (hK _ _ (made_below ⟨W, rfl, Below.refl _ _⟩ (mkW_below W) fun g hg => ?_))
            · clear hW hK
              go_simp
            · have hg' : some W.heap.size = some g := hg
              injection hg' with hg'
              subst hg'
              exact ⟨Nat.le_refl _, mkW_lt W⟩
          simp only [Act.put, List.setIfInBounds_toArray, List.set_cons_zero, List.set_cons_succ, Nat.reduceAdd, Nat.zero_add]
          refine calm_quiet (v := ?_) (by rfl) (by rfl) (fun W hW hD => ?_) ?_
          rotate_left
          · obtain ⟨W0, rfl, hb0⟩ : ChainF (.string SE) 15 v76 W := hD [] 15 (by kernel_rfl) (by kernel_rfl) (by kernel_rfl)
            have hcv := HCv2.out W0 W hb0
            clear hW hD hb0
            go_simp
            try with_reducible rfl
          simp only [Act.put, List.setIfInBounds_toArray, List.set_cons_zero, List.set_cons_succ, Nat.reduceAdd, Nat.zero_add]
          refine calm_quiet (v := ?_) (by rfl) (by rfl) (fun W hW hD => ?_) ?_
          rotate_left
          · obtain rfl : v75 = .string SE := hD [] 14 (by kernel_rfl) (by kernel_rfl) (by kernel_rfl)
            clear hW hD
            go_simp
            try with_reducible rfl
          simp only [Act.put, List.setIfInBounds_toArray, List.set_cons_zero, List.set_cons_succ, Nat.reduceAdd, Nat.zero_add]
          iterate 2 (refine calm_quiet (v := ?_) (by rfl) (by rfl) (fun W hW _ => ?_) ?_; rotate_left; (· (clear hW; go_simp; try with_reducible rfl)); simp only [Act.put, List.setIfInBounds_toArray, List.set_cons_zero, List.set_cons_succ, Nat.reduceAdd, Nat.zero_add])
          refine calm_nil fun W hW _ => ?_
          have hLW := HL.out.step (grown_below hW)
          have HLw := Lib.hid hLW
          clear hW hLW hq2
          go_wp2_with fail
          refine (collide_live HLw.out (HLw.out.strs (l := X) (.tail _ (.head _))) (HLw.out.strs (l := Y) (.head _)) HEl1.out HEl2.out).mono ?_
          rintro e w8 ⟨rfl, hL⟩
          have HLz := Lib.hid hL
          clear hL
          have hfin : Hid (collB X Y = true ∨ (sha E == z32) = true) := by
            rcases HCb2.out with h | h
            · exact .inl h
            · exact .inr (by rw [h]; exact beq_self_eq_true _)
          rw [Hz.out] at hfin
          generalize collB X Y = cb at *
          cases cb
          all_goals go_wp2
          all_goals go_ret
          all_goals first | exact ⟨rfl, HLz.out.1⟩ | (exfalso; have := hfin.out; simp at this)
      · have HC : Hid (collB X Y = true) := by
          rcases hcb with h | ⟨h, _⟩ | ⟨h, _⟩
          · exact h
          · exfalso; omega
          · exfalso; omega
        subst heq
        clear hcb
        go_wp2
        go_quiet (fail)
        go_wp2_with fail
        refine (collide_live (HL.out.drewN _) ((HL.out.drewN _).strs (v := .slice a3 pn c3) (l := X) (by simp)) ((HL.out.drewN _).strs (v := .slice a4 pn c4) (l := Y) (by simp)) HEl1.out HEl2.out).mono ?_
        rintro e w8 ⟨rfl, hL⟩
        rw [HC.out]
        have HL := Lib.hid hL
        clear hL
        go_wp2
        go_ret
        exact ⟨rfl, HL.out.1⟩
      · have HCb2 : Hid (collB X Y = true ∨ sha (X.getD qn []) = z32) := by
          rcases hcb with h | ⟨h1, h⟩ | ⟨h1, h⟩
          · exact .inl h
          · first | exact .inr h | (exfalso; omega)
          · first | exact .inr h | (exfalso; omega)
        clear hcb
        have hsx := HL.out.strs (v := .slice a3 pn c3) (l := X) (by simp)
        have hsy := HL.out.strs (v := .slice a4 qn c4) (l := Y) (by simp)
        have HSx := Lib.hid hsx
        have HSy := Lib.hid hsy
        obtain ⟨gl, ol, hal, hgl, hcl⟩ := hsx.at qn (by rw [HXn.out]; exact hgt)
        subst hal
        have hel := HEl1.out _ (getD_mem' X [] qn (by rw [HXn.out]; exact hgt))
        have hme := bs_eq_list (sha (X.getD qn [])) z32
        have hbe : (bs (X.getD qn [])).size ≤ 1000000 := by rw [bs_size]; exact hel
        have HSum := Lib.hid (fun W (hW : Below w6.heap.size w6 W) => (sum_any (bs (X.getD qn [])) W (by omega) (HL.out.2.1.below hW (Nat.le_refl _))).mono fun e w' (h : _ ∧ _) => And.intro h.1 (And.intro (hW.trans (h.2.mono hW.size)) h.2))
        rw [bs_list] at HSum
        generalize X.getD qn [] = E at *
        generalize bs E = EB at *
        generalize bs (sha E) = SE at *
        have q0 : w6.cell? ⟨gl, ol + qn, none⟩ = some (.string EB) := hcl
        have HMk := mkW_run
        have HCv2 := Lib.hid mkW_conv
        generalize hZZ : bs z32 = Z at *
        have hne3 : ((pn : Int) != (qn : Int)) = true := by simp; omega
        have hne4 : (pn != qn) = true := by simp; omega
        have hne5 : decide (pn = qn) = false := by simp; omega
        have hne6 : ((pn : Int) == (qn : Int)) = false := by simp; omega
        have hne7 : (pn == qn) = false := by simp; omega
        have hmin : min (pn : Int) (qn : Int) = (qn : Int) := by omega
        have hgt1 : decide ((pn : Int) < (qn : Int)) = false := by simp; omega
        have hmlt : (qn : Int) < (pn : Int) := by omega
        clear hsx hsy hZZ hel
        cases hz : (sha E == z32)
        all_goals
          rw [hz] at hme
          have Hz := Lib.hid hz
          clear hz
          go_wp2
          have hq2 := q0
          refine wp_region_calm ⟨[14, 15], ChainF (.string SE), fun _ => [], 99, none, 1000⟩ (by kernel_rfl) (by kernel_rfl) (by kernel_rfl) (fun g h => by cases h) (fun k _ v W W' c h hg hc => chainF_kept h (by
            cases c with
            | none => exact hg
            | some g => obtain ⟨_, _, i, j, u, hh, _⟩ := hc g rfl; cases hh)) ?_
          iterate 14 (refine calm_quiet (v := ?_) (by rfl) (by rfl) (fun W hW _ => ?_) ?_; rotate_left; (· (have q2 : W.cell? ⟨gl, ol + qn, none⟩ = some (.string EB) := grown_cell0 hW hq2; clear hW; go_simp; try with_reducible rfl)); simp only [Act.put, List.setIfInBounds_toArray, List.set_cons_zero, List.set_cons_succ, Nat.reduceAdd, Nat.zero_add])
          refine calm_makes (by rfl) (by rfl) (fun W hW _ K hK => ?_) (fun v75 => ?_)
          · have hW' := grown_below hW
            refine wp_of_call ?_ ((HSum.out W hW').mono ?_)
            · clear hW hK hW'
              go_simp
            · rintro e w' ⟨he, h1, h2⟩
              exact ⟨_, he, hK _ _ (made_plain rfl h2 rfl)⟩
          simp only [Act.put, List.setIfInBounds_toArray, List.set_cons_zero, List.set_cons_succ, Nat.reduceAdd, Nat.zero_add]
          refine calm_makes (by rfl) (by rfl) (fun W hW _ K hK => ?_) (fun v76 => ?_)
          · refine wp_of_run (v := .slice (some ⟨W.heap.size, 0, none⟩) 32 32) (w' := mkW W) ?_ (hK _ _ (made_below ⟨W, rfl, Below.refl _ _⟩ (mkW_below W) fun g hg => ?_))
            · clear hW hK
              go_simp
            · have hg' : some W.heap.size = some g := hg
              injection hg' with hg'
              subst hg'
              exact ⟨Nat.le_refl _, mkW_lt W⟩
          simp only [Act.put, List.setIfInBounds_toArray, List.set_cons_zero, List.set_cons_succ, Nat.reduceAdd, Nat.zero_add]
          refine calm_quiet (v := ?_) (by rfl) (by rfl) (fun W hW hD => ?_) ?_
          rotate_left
          · obtain ⟨W0, rfl, hb0⟩ : ChainF (.string SE) 15 v76 W := hD [] 15 (by kernel_rfl) (by kernel_rfl) (by kernel_rfl)
            have hcv := HCv2.out W0 W hb0
            clear hW hD hb0
            go_simp
            try with_reducible rfl
          simp only [Act.put, List.setIfInBounds_toArray, List.set_cons_zero, List.set_cons_succ, Nat.reduceAdd, Nat.zero_add]
          refine calm_quiet (v := ?_) (by rfl) (by rfl) (fun W hW hD => ?_) ?_
          rotate_left
          · obtain rfl : v75 = .string SE := hD [] 14 (by kernel_rfl) (by kernel_rfl) (by kernel_rfl)
            clear hW hD
            go_simp
            try with_reducible rfl
          simp only [Act.put, List.setIfInBounds_toArray, List.set_cons_zero, List.set_cons_succ, Nat.reduceAdd, Nat.zero_add]
          iterate 2 (refine calm_quiet (v := ?_) (by rfl) (by rfl) (fun W hW _ => ?_) ?_; rotate_left; (· (clear hW; go_simp; try with_reducible rfl)); simp only [Act.put, List.setIfInBounds_toArray, List.set_cons_zero, List.set_cons_succ, Nat.reduceAdd, Nat.zero_add])
          refine calm_nil fun W hW _ => ?_
          have hLW := HL.out.step (grown_below hW)
          have HLw := Lib.hid hLW
          clear hW hLW hq2
          go_wp2_with fail
          refine (collide_live HLw.out (HLw.out.strs (l := X) (.tail _ (.head _))) (HLw.out.strs (l := Y) (.head _)) HEl1.out HEl2.out).mono ?_
          rintro e w8 ⟨rfl, hL⟩
          have HLz := Lib.hid hL
          clear hL
          have hfin : Hid (collB X Y = true ∨ (sha E == z32) = true) := by
            rcases HCb2.out with h | h
            · exact .inl h
            · exact .inr (by rw [h]; exact beq_self_eq_true _)
          rw [Hz.out] at hfin
          generalize collB X Y = cb at *
          cases cb
          all_goals go_wp2
          all_goals go_ret
          all_goals first | exact ⟨rfl, HLz.out.1⟩ | (exfalso; have := hfin.out; simp at this)
  · have hg := HSg.out hsm
    have he : (H1.toList == H2.toList) = true := by rw [HEq.out, hg]; exact beq_self_eq_true _
    have he2 : (H1.toList != H2.toList) = false := by rw [bne, he]; rfl
    clear hsm hg HSame HDiff HSg
    go_wp2
    go_ret
    exact ⟨rfl, HL.out.1⟩
end Go.Proofs.YteemhemnkdgehaaDoor
