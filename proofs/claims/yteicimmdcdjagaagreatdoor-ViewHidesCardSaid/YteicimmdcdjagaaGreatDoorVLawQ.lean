import Derived.Test.YteicimmdcdjagaaGreatDoorVMadeW
import Derived.Test.YteicimmdcdjagaaGreatDoorVEq
set_option linter.unusedVariables false
set_option linter.unusedSimpArgs false

/- ViewQueries. -/
set_option linter.unusedVariables false
set_option linter.unusedSimpArgs false
namespace Go.Proofs.YteicimmdcdjagaaGreatDoor
open Go.RowKit Go.Shelf

/-- Which notes are about a unit, in a spell. -/
def inS (u fr to : Int) (x : VNote) : Bool := decide (x.unit = u) && (decide (fr ≤ x.day) && decide (x.day < to))
theorem query_inS (l : List VNote) (u fr to : Int) : queryL (ofN l u) fr to = l.filter (inS u fr to) := by
  unfold queryL ofN
  rw [List.filter_filter]
  congr 1
  funext x
  unfold inS
  rw [Bool.and_comm]
theorem filter_at {α : Type} [Inhabited α] (q : α → Bool) (l : List α) (k : Nat) (h : k < l.length) : (l.take (k + 1)).filter q = (l.take k).filter q ++ (if q (l.getD k default) then [l.getD k default] else []) := by
  rw [take_getD l default k h, List.filter_append]
  generalize l.getD k default = x
  congr 1
  cases hq : q x <;> simp [List.filter_cons, hq]
theorem filter_next {α : Type} [Inhabited α] (q : α → Bool) (l : List α) (k : Nat) (h : k < l.length) (hq : q (l.getD k default) = true) : (l.filter q)[((l.take k).filter q).length]? = some (l.getD k default) := by
  have e : l.filter q = (l.take k).filter q ++ (l.drop k).filter q := by rw [← List.filter_append, List.take_append_drop]
  have e2 : l.drop k = l.getD k default :: l.drop (k + 1) := by rw [List.drop_eq_getElem_cons h, List.getD_eq_getElem?_getD, List.getElem?_eq_getElem h]; rfl
  rw [e, List.getElem?_append_right (Nat.le_refl _), Nat.sub_self, e2, List.filter_cons, hq]
  rfl
theorem filter_le {α : Type} (q : α → Bool) (l : List α) (k : Nat) : ((l.take k).filter q).length ≤ (l.filter q).length := by
  have e : l.filter q = (l.take k).filter q ++ (l.drop k).filter q := by rw [← List.filter_append, List.take_append_drop]
  rw [e, List.length_append]
  omega
theorem append_KG {α : Type} {K : SK α} (ok : K.Ok) {ops : Array Oper} {rest : List Oper} {o : Oper} {a : Act} {Q : Exit → Act → World → Prop} {wr : World} (hw : Region.wanted o (yielded ops a.tmps) = true) (s x : Operand)
    (ho : o.op = .call { callee := .builtin .append, args := #[s, x], argTypes := #[K.st, K.st] }) (base B2 : Nat) (v sv : Value) (l l2 : List α)
    (hs : a.eval s = v) (hx : a.eval x = sv) (hown : OwnK K base wr v l) (hsv : RowsAt K B2 wr sv l2) (hlen : l.length + l2.length < 1000000) (hbase : base ≤ wr.heap.size) (w0 : World) (hb : Below base w0 wr)
    (h : ∀ v' w', OwnK K base w' v' (l ++ l2) → wr.grownBy w' v.ownBlock → Below base w0 w' → wpList Tryz.prog ops Q rest (a.put o.dst v') w') : wpList Tryz.prog ops Q (o :: rest) a wr := by
  rw [wpList, if_pos hw]
  exact .inl (wp_append_K ok s x ho base B2 v sv l l2 hs hx hown hsv hlen hbase fun v' w' h1 h2 _ => h v' w' h1 h2 (hb.grown h2 hbase fun k hk => (World.ownsRow.lt hown k hk).1))
theorem made_dos (z : Int) (N : Nat) (f : Nat → Nat → Int) : dosB ⟨keyB z, (madeD (keyB z) N f).notes⟩ = true := by
  obtain ⟨h1, h2, _⟩ := madeD_ok (keyB_length z) N f
  have e : (⟨keyB z, (madeD (keyB z) N f).notes⟩ : VDos) = madeD (keyB z) N f := by
    cases hm : madeD (keyB z) N f
    rw [hm] at h2
    simp only at h2
    rw [h2]
  rw [e]
  exact h1
theorem unit_in {u : Int} (h : 0 ≤ u ∧ u ≤ 99) : (true && inZ u 0 99) = true := by
  unfold inZ
  simp
  omega
theorem wr_trans {a b c : World} (h : a.grownBy b none) (g : b.grownBy c none) : a.grownBy c none := ⟨g.os.trans h.os, g.tape.trans h.tape, g.output.trans h.output, Nat.le_trans h.size g.size, fun k hk hne => (g.block k (Nat.lt_of_lt_of_le hk h.size) (by simp)).trans (h.block k hk (by simp))⟩
set_option maxRecDepth 100000 in
set_option maxHeartbeats 8000000 in
theorem lawQ (z : Int) (xv : Value) (N : Nat) (f : Nat → Nat → Int) (id : Int) (g : Nat → Int) (w : World) (hz : -9223372036854775808 ≤ z ∧ z ≤ 9223372036854775807) (hid : -9223372036854775808 ≤ id ∧ id ≤ 9223372036854775807)
    (hg : ∀ k, k < 3 → -9223372036854775808 ≤ g k ∧ g k ≤ 9223372036854775807) (hX : FourAt w.heap.size w xv N f) (hT : Rounds w) :
    Calls Tryz.prog 4 #[.int .i64 z, xv, .int .i64 id, .agg #[.int .i64 (g 0), .int .i64 (g 1), .int .i64 (g 2)]] w fun e w' => e = .returned (.bool true) ∧ Below w.heap.size w w' := by
  have hL := ((LiveP.start hT).alloc (.cells #[.int .i64 (g 0), .int .i64 (g 1), .int .i64 (g 2)] 37)).add (keep_box (box_new w _ _))
  have HX := Lib.hid hX
  have HZ := Lib.hid hz
  have HU := Lib.hid (fun W => unit_any id W hid.1 hid.2)
  have hub := unitZ_bd id
  obtain ⟨u, hu⟩ : ∃ u, unitZ id = u := ⟨_, rfl⟩
  rw [hu] at HU hub
  have hp0 := pickZ_bd (g 0) 40 (by omega)
  have hp1 := pickZ_bd (g 1) 20 (by omega)
  have hp2 := pickZ_bd (g 2) 20 (by omega)
  have HP0 := Lib.hid (fun W => vpick_any (g 0) 40 W (hg 0 (by omega)).1 (hg 0 (by omega)).2 (by omega) (by omega))
  have HP1 := Lib.hid (fun W => vpick_any (g 1) 20 W (hg 1 (by omega)).1 (hg 1 (by omega)).2 (by omega) (by omega))
  have HP2 := Lib.hid (fun W => vpick_any (g 2) 20 W (hg 2 (by omega)).1 (hg 2 (by omega)).2 (by omega) (by omega))
  generalize pickZ (g 0) 40 = fr at *
  generalize pickZ (g 1) 20 = d1 at *
  generalize pickZ (g 2) 20 = d2 at *
  obtain ⟨mi, hmi⟩ : ∃ mi, fr + d1 = mi := ⟨_, rfl⟩
  obtain ⟨to, hto⟩ : ∃ to, mi + d2 = to := ⟨_, rfl⟩
  have hfm : fr ≤ mi := by omega
  have hmt : mi ≤ to := by omega
  have wm : IntKind.i64.wrap (fr + d1) = mi := by rw [hmi]; exact IntWalk.i64_in _ (by omega)
  have wt : IntKind.i64.wrap (mi + d2) = to := by rw [hto]; exact IntWalk.i64_in _ (by omega)
  have WM := Lib.hid wm
  have WT := Lib.hid wt
  have HL0 := Lib.hid hL
  clear hL hX hz hid hu hg hT hp0 hp1 hp2 hmi hto wm wt
  go_enter Tryz.func4, Tryz.ntmps4
  go_wp2_with fail
  refine (vsane_any _ HL0.out.rounds).mono ?_
  rintro e w1 ⟨rfl, hb⟩
  have HL1 := Lib.hid (HL0.out.step hb)
  clear hb HL0
  go_wp2_with fail
  refine (made_any z xv N f w1 HZ.out (HX.out.later HL1.out.below)).mono ?_
  rintro e w2 ⟨nv, rfl, ho, hb⟩
  obtain ⟨hd1, hd2, hd3, hd4⟩ := madeD_ok (keyB_length z) N f
  obtain ⟨K, hK⟩ : ∃ K, K = keyB z := ⟨_, rfl⟩
  obtain ⟨l, hl⟩ : ∃ l, l = (madeD (keyB z) N f).notes := ⟨_, rfl⟩
  have hdo : dosB ⟨K, l⟩ = true := by rw [hK, hl]; exact made_dos z N f
  have hln : l.length ≤ 12 := by rw [hl]; exact hd3
  rw [← hl] at ho
  rw [← hK]
  clear hd1 hd2 hd3 hd4 hK hl HX HZ
  obtain ⟨ra, rc, hnv, hrc1, hrc2⟩ := ho.shape
  subst hnv
  generalize hrn : l.length = rn at *
  have HRn := Lib.hid hrn
  have HDo := Lib.hid hdo
  have hL := (((HL1.out.step hb).add (keep_rows (ho.rows noteOk))).alloc (.cells #[.string (bs K), .slice ra rn rc] 26)).add (keep_box (box_new w2 _ _))
  clear hrn hdo hb ho HL1
  obtain ⟨W3, hW3⟩ : ∃ W3, W3 = w2.alloc (.cells #[.string (bs K), .slice ra rn rc] 26) := ⟨_, rfl⟩
  rw [← hW3] at hL
  have HL3 := Lib.hid hL
  have HW3 := Lib.hid hW3
  clear hL hW3
  have HQ : Hid (∀ W, W3.grownBy W none → W.cell? ⟨w2.heap.size, 0, none⟩ = some (.string (bs K)) ∧ W.cell? ⟨w2.heap.size, 1, none⟩ = some (.slice ra rn rc)) := fun W hW =>
    have hL := HL3.out.step (grown_below hW)
    ⟨BoxN.cell (show (BoxN w2.heap.size 26 #[.string (bs K), .slice ra rn rc]) _ from hL.get (by simp)) 0 _ rfl, BoxN.cell (show (BoxN w2.heap.size 26 #[.string (bs K), .slice ra rn rc]) _ from hL.get (by simp)) 1 _ rfl⟩
  obtain ⟨S, hS⟩ : ∃ S, S = saltB K u := ⟨_, rfl⟩
  obtain ⟨pl, hpl⟩ : ∃ pl, pl = ofN l u := ⟨_, rfl⟩
  obtain ⟨pf, hpf⟩ : ∃ pf, pf = proofL (sealsL ⟨K, l⟩) u.toNat := ⟨_, rfl⟩
  have HPg : Hid (pageE ⟨K, l⟩ u = (⟨u, pl, S, pf⟩, 0)) := by show _ = _; rw [pageE_ok (by rw [HDo.out]; exact unit_in hub), hS, hpl, hpf]; rfl
  have HPl := Lib.hid hpl
  have hpln : pl.length ≤ 12 := by rw [hpl]; exact Nat.le_trans (ofN_length _ _) (by rw [HRn.out]; exact hln)
  clear hS hpl hpf
  go_wp2
  rw [← HW3.out]
  refine wp_region_calm_late 8 6 ⟨[2, 3, 7], fun q v W => if q = 2 then v = .int .i64 u else if q = 3 then ∃ nv' pv, v = .tuple #[pageV u nv' S pv, .int .i64 0] ∧ OwnK noteK W3.heap.size W nv' pl ∧ OwnS W3.heap.size W pv pf else ∃ b, v = .pointer (some ⟨b, 0, none⟩) ∧ W3.heap.size ≤ b ∧ BoxN b 39 #[.int .i64 0, .slice none 0 0, .string (⟨#[]⟩ : ByteArray), .slice none 0 0] W, fun _ => [], 99, none, 8⟩ (by kernel_rfl) (by kernel_rfl) (by kernel_rfl) (by kernel_rfl) (fun g h => by cases h) (fun q hk v W W' c h hg hc => ?_) ?_
  · cases c with
    | some g => obtain ⟨_, _, i, j, u, hd, _⟩ := hc g rfl; simp at hd
    | none =>
      by_cases h2 : q = 2
      · simp only [h2, if_true] at h ⊢; exact h
      · by_cases h3 : q = 3
        · simp only [h3] at h ⊢
          obtain ⟨nv', pv, h4, h5, h6⟩ := h
          exact ⟨nv', pv, h4, h5.kept hg (fun g h => by cases h), ownS_kept h6 hg (fun g h => by cases h)⟩
        · simp only [h2, h3, if_false] at h ⊢
          obtain ⟨b, h4, h5, h6⟩ := h
          exact ⟨b, h4, h5, BoxN.grown h6 hg (by simp)⟩
  iterate 2 (refine calm_quiet (v := ?_) (by rfl) (by rfl) (fun W hW hD => ?_) ?_; rotate_left; (· (obtain ⟨z0, z1⟩ := HQ.out W hW; clear hD hW; go_simp; try with_reducible rfl)); simp only [Act.put, List.setIfInBounds_toArray, List.set_cons_zero, List.set_cons_succ, Nat.reduceAdd, Nat.zero_add])
  refine calm_makes (by rfl) (by rfl) (fun W hW hD Kc hK => ?_) (fun v30 => ?_)
  · refine wp_of_call (f := 17) ?_ ((HU.out W).mono ?_)
    · clear hD hW hK
      go_simp
    · rintro e w5 ⟨rfl, hb5⟩
      exact ⟨_, rfl, hK _ _ (made_plain rfl hb5 rfl)⟩
  simp only [Act.put, List.setIfInBounds_toArray, List.set_cons_zero, List.set_cons_succ, Nat.reduceAdd, Nat.zero_add]
  refine calm_makes (by rfl) (by rfl) (fun W hW hD Kc hK => ?_) (fun v31 => ?_)
  · obtain rfl : v30 = .int .i64 u := hD [] 2 (by kernel_rfl) (by kernel_rfl) (by kernel_rfl)
    have hL := HL3.out.step (grown_below hW)
    have hz := hW.size
    refine wp_of_call (f := 16) (args := #[dosV K (.slice ra rn rc), .int .i64 u]) ?_ ((vPage_any K (.slice ra rn rc) l u W (show (RowsN noteK (.slice ra rn rc) l) _ from hL.get (by simp)) (by rw [HRn.out]; omega) hL.rounds).mono ?_)
    · clear hD hW hK hL
      go_simp
    · rintro e w5 ⟨nv', pv, rfl, hn5, hp5, hb5⟩
      rw [HPg.out] at hn5 hp5 ⊢
      simp only at hn5 hp5 ⊢
      obtain ⟨xa, xc, rfl, _, _⟩ := hn5.shape
      obtain ⟨pa, pc, rfl, _, _⟩ := ownS_shape hp5
      exact ⟨_, rfl, hK _ _ (made_plain ⟨_, _, rfl, hn5.mono hz, OwnS.mono hp5 hz⟩ hb5 rfl)⟩
  simp only [Act.put, List.setIfInBounds_toArray, List.set_cons_zero, List.set_cons_succ, Nat.reduceAdd, Nat.zero_add]
  iterate 1 (refine calm_quiet (v := ?_) (by rfl) (by rfl) (fun W hW hD => ?_) ?_; rotate_left; (· (clear hD hW; go_simp; try with_reducible rfl)); simp only [Act.put, List.setIfInBounds_toArray, List.set_cons_zero, List.set_cons_succ, Nat.reduceAdd, Nat.zero_add])

  refine calm_quiet (v := vtupAt v31 0) (by rfl) (by rfl) (fun W hW hD => ?_) ?_
  · obtain ⟨nv', pv, rfl, _⟩ : ∃ nv' pv, v31 = .tuple #[pageV u nv' S pv, .int .i64 0] ∧ OwnK noteK W3.heap.size W nv' pl ∧ OwnS W3.heap.size W pv pf := hD [4] 3 (by kernel_rfl) (by kernel_rfl) (by kernel_rfl)
    clear hD hW
    go_simp
    try rfl
  simp only [Act.put, List.setIfInBounds_toArray, List.set_cons_zero, List.set_cons_succ, Nat.reduceAdd, Nat.zero_add]
  refine calm_quiet (v := vtupAt v31 1) (by rfl) (by rfl) (fun W hW hD => ?_) ?_
  · obtain ⟨nv', pv, rfl, _⟩ : ∃ nv' pv, v31 = .tuple #[pageV u nv' S pv, .int .i64 0] ∧ OwnK noteK W3.heap.size W nv' pl ∧ OwnS W3.heap.size W pv pf := hD [4] 3 (by kernel_rfl) (by kernel_rfl) (by kernel_rfl)
    clear hD hW
    go_simp
    try rfl
  simp only [Act.put, List.setIfInBounds_toArray, List.set_cons_zero, List.set_cons_succ, Nat.reduceAdd, Nat.zero_add]
  refine calm_makes (by rfl) (by rfl) (fun W hW hD Kc hK => ?_) (fun v11 => ?_)
  · have hz := hW.size
    refine wp_of_run (v := .pointer (some ⟨W.heap.size, 0, none⟩)) (w' := W.alloc (.cells #[.int .i64 0, .slice none 0 0, .string (⟨#[]⟩ : ByteArray), .slice none 0 0] 39)) ?_ (hK _ _ (made_plain ⟨_, rfl, hz, box_new W _ _⟩ ((Below.refl _ _).alloc (Nat.le_refl _) _) rfl))
    clear hD hW hK
    go_simp
  simp only [Act.put, List.setIfInBounds_toArray, List.set_cons_zero, List.set_cons_succ, Nat.reduceAdd, Nat.zero_add]
  refine calm_tail (by rfl) fun W hW hF => ?_
  obtain ⟨nv', pv, rfl, hown, hpo⟩ : ∃ nv' pv, v31 = .tuple #[pageV u nv' S pv, .int .i64 0] ∧ OwnK noteK W3.heap.size W nv' pl ∧ OwnS W3.heap.size W pv pf := hF 3 (by kernel_rfl) (by kernel_rfl)
  obtain ⟨b, rfl, hbB, hbx⟩ : ∃ b, v11 = .pointer (some ⟨b, 0, none⟩) ∧ W3.heap.size ≤ b ∧ BoxN b 39 #[.int .i64 0, .slice none 0 0, .string (⟨#[]⟩ : ByteArray), .slice none 0 0] W := hF 7 (by kernel_rfl) (by kernel_rfl)
  obtain ⟨xa, xc, hx, hxc1, hxc2⟩ := hown.shape
  obtain ⟨pa, pc, hx2, _, _⟩ := ownS_shape hpo
  subst hx hx2
  generalize hxn : pl.length = xn at *
  have HXn := Lib.hid hxn
  clear hxn
  generalize pf.length = pn at *
  rw [show vtupAt (.tuple #[pageV u (.slice xa xn xc) S (.slice pa pn pc), .int .i64 0]) 0 = pageV u (.slice xa xn xc) S (.slice pa pn pc) from rfl, show vtupAt (.tuple #[pageV u (.slice xa xn xc) S (.slice pa pn pc), .int .i64 0]) 1 = .int .i64 0 from rfl]
  have z0 := BoxN.cell hbx 0 _ rfl
  have z1 := BoxN.cell hbx 1 _ rfl
  have z2 := BoxN.cell hbx 2 _ rfl
  have z3 := BoxN.cell hbx 3 _ rfl
  have zf := BoxN.frozen hbx
  have HWb : Hid (Below W3.heap.size W3 ((((W.setCell ⟨b, 0, none⟩ (.int .i64 u)).setCell ⟨b, 1, none⟩ (.slice xa xn xc)).setCell ⟨b, 2, none⟩ (.string (bs S))).setCell ⟨b, 3, none⟩ (.slice pa pn pc))) := below_set4 (grown_below hW) hbB _ _ _ _
  have HWx : Hid (BoxN b 39 #[.int .i64 u, .slice xa xn xc, .string (bs S), .slice pa pn pc] ((((W.setCell ⟨b, 0, none⟩ (.int .i64 u)).setCell ⟨b, 1, none⟩ (.slice xa xn xc)).setCell ⟨b, 2, none⟩ (.string (bs S))).setCell ⟨b, 3, none⟩ (.slice pa pn pc))) := BoxN.set4 hbx _ _ _ _
  have HWo : Hid (OwnK noteK W3.heap.size ((((W.setCell ⟨b, 0, none⟩ (.int .i64 u)).setCell ⟨b, 1, none⟩ (.slice xa xn xc)).setCell ⟨b, 2, none⟩ (.string (bs S))).setCell ⟨b, 3, none⟩ (.slice pa pn pc)) (.slice xa xn xc) pl) :=
    (((hown.setBox hbx (by decide) 0 _).setBox (hbx.set 0 _) (by decide) 1 _).setBox ((hbx.set 0 _).set 1 _) (by decide) 2 _).setBox (((hbx.set 0 _).set 1 _).set 2 _) (by decide) 3 _
  clear hF hW hbx hown hpo hbB HQ
  go_wp2
  refine NoPanic.normal ?_
  clear z0 z1 z2 z3 zf
  generalize ((((W.setCell ⟨b, 0, none⟩ (.int .i64 u)).setCell ⟨b, 1, none⟩ (.slice xa xn xc)).setCell ⟨b, 2, none⟩ (.string (bs S))).setCell ⟨b, 3, none⟩ (.slice pa pn pc)) = W9 at *
  have hL := ((HL3.out.step HWb.out).add (keep_rows (HWo.out.rows noteOk))).add (keep_box HWx.out)
  clear HWb HWx HWo HL3 HW3
  have y0 := BoxN.cell (show (BoxN w.heap.size 37 #[.int .i64 (g 0), .int .i64 (g 1), .int .i64 (g 2)]) _ from hL.get (by simp)) 0 _ rfl
  have y1 := BoxN.cell (show (BoxN w.heap.size 37 #[.int .i64 (g 0), .int .i64 (g 1), .int .i64 (g 2)]) _ from hL.get (by simp)) 1 _ rfl
  have y2 := BoxN.cell (show (BoxN w.heap.size 37 #[.int .i64 (g 0), .int .i64 (g 1), .int .i64 (g 2)]) _ from hL.get (by simp)) 2 _ rfl
  have HL9 := Lib.hid hL
  clear hL
  have wm := WM.out
  have wt := WT.out
  go_wp2_with fail
  refine (HP0.out _).mono ?_
  rintro e w' ⟨rfl, rfl⟩
  go_wp2_with fail
  refine (HP1.out _).mono ?_
  rintro e w' ⟨rfl, rfl⟩
  go_wp2_with fail
  refine (HP2.out _).mono ?_
  rintro e w' ⟨rfl, rfl⟩
  clear y0 y1 y2
  have hL := HL9.out
  clear HL9
  have p0 := BoxN.cell (show (BoxN b 39 #[.int .i64 u, .slice xa xn xc, .string (bs S), .slice pa pn pc]) _ from hL.get (by simp)) 0 _ rfl
  have p1 := BoxN.cell (show (BoxN b 39 #[.int .i64 u, .slice xa xn xc, .string (bs S), .slice pa pn pc]) _ from hL.get (by simp)) 1 _ rfl
  have p2 := BoxN.cell (show (BoxN b 39 #[.int .i64 u, .slice xa xn xc, .string (bs S), .slice pa pn pc]) _ from hL.get (by simp)) 2 _ rfl
  have p3 := BoxN.cell (show (BoxN b 39 #[.int .i64 u, .slice xa xn xc, .string (bs S), .slice pa pn pc]) _ from hL.get (by simp)) 3 _ rfl
  have HL10 := Lib.hid hL
  clear hL
  go_wp2_with fail
  clear p0 p1 p2 p3
  clear wm wt
  refine (query_any u (.slice xa xn xc) pl S (.slice pa pn pc) fr mi _ (show (RowsN noteK (.slice xa xn xc) pl) _ from HL10.out.get (by simp)) (by rw [HXn.out]; omega) ⟨_, _, _, rfl⟩).mono ?_
  rintro e w11 ⟨vq, rfl, hq, hb⟩
  obtain ⟨aa, ac, hx, ha1, ha2⟩ := hq.shape
  subst hx
  generalize han : (queryL pl fr mi).length = an at *
  have HAn := Lib.hid han
  clear han
  have hL := (HL10.out.step hb).add (keep_rows (hq.rows noteOk))
  clear hb hq HL10
  have p0 := BoxN.cell (show (BoxN b 39 #[.int .i64 u, .slice xa xn xc, .string (bs S), .slice pa pn pc]) _ from hL.get (by simp)) 0 _ rfl
  have p1 := BoxN.cell (show (BoxN b 39 #[.int .i64 u, .slice xa xn xc, .string (bs S), .slice pa pn pc]) _ from hL.get (by simp)) 1 _ rfl
  have p2 := BoxN.cell (show (BoxN b 39 #[.int .i64 u, .slice xa xn xc, .string (bs S), .slice pa pn pc]) _ from hL.get (by simp)) 2 _ rfl
  have p3 := BoxN.cell (show (BoxN b 39 #[.int .i64 u, .slice xa xn xc, .string (bs S), .slice pa pn pc]) _ from hL.get (by simp)) 3 _ rfl
  have HL11 := Lib.hid hL
  clear hL
  go_wp2_with fail
  clear p0 p1 p2 p3
  refine (query_any u (.slice xa xn xc) pl S (.slice pa pn pc) mi to _ (show (RowsN noteK (.slice xa xn xc) pl) _ from HL11.out.get (by simp)) (by rw [HXn.out]; omega) ⟨_, _, _, rfl⟩).mono ?_
  rintro e w12 ⟨vq, rfl, hq, hb⟩
  obtain ⟨ba, bc, hx, hb1, hb2⟩ := hq.shape
  subst hx
  generalize hbn : (queryL pl mi to).length = bn at *
  have HBn := Lib.hid hbn
  clear hbn
  have hL := (HL11.out.step hb).add (keep_rows (hq.rows noteOk))
  clear hb hq HL11
  have p0 := BoxN.cell (show (BoxN b 39 #[.int .i64 u, .slice xa xn xc, .string (bs S), .slice pa pn pc]) _ from hL.get (by simp)) 0 _ rfl
  have p1 := BoxN.cell (show (BoxN b 39 #[.int .i64 u, .slice xa xn xc, .string (bs S), .slice pa pn pc]) _ from hL.get (by simp)) 1 _ rfl
  have p2 := BoxN.cell (show (BoxN b 39 #[.int .i64 u, .slice xa xn xc, .string (bs S), .slice pa pn pc]) _ from hL.get (by simp)) 2 _ rfl
  have p3 := BoxN.cell (show (BoxN b 39 #[.int .i64 u, .slice xa xn xc, .string (bs S), .slice pa pn pc]) _ from hL.get (by simp)) 3 _ rfl
  have HL12 := Lib.hid hL
  clear hL
  go_wp2_with fail
  clear p0 p1 p2 p3
  refine (query_any u (.slice xa xn xc) pl S (.slice pa pn pc) fr to _ (show (RowsN noteK (.slice xa xn xc) pl) _ from HL12.out.get (by simp)) (by rw [HXn.out]; omega) ⟨_, _, _, rfl⟩).mono ?_
  rintro e w13 ⟨vq, rfl, hq, hb⟩
  obtain ⟨ca, cc, hx, hc1, hc2⟩ := hq.shape
  subst hx
  generalize hcn : (queryL pl fr to).length = cn at *
  have HCn := Lib.hid hcn
  clear hcn
  have hL := (HL12.out.step hb).add (keep_rows (hq.rows noteOk))
  clear hb hq HL12
  have HL13 := Lib.hid hL
  clear hL
  go_wp2
  have HF : Hid (queryL pl fr to = l.filter (inS u fr to)) := by show _ = _; rw [HPl.out]; exact query_inS l u fr to
  have HFl : Hid ((l.filter (inS u fr to)).length = cn) := by show _ = _; rw [← HF.out]; exact HCn.out
  unfold maxLen at hrc2 hc2
  go_loopw [19, 20] (fun nn i wr => ∃ k : Nat, k ≤ rn ∧ i = .int .i64 k ∧ nn = .int .i64 (((l.take k).filter (inS u fr to)).length : Nat) ∧ Hid (Below w13.heap.size w13 wr)) (fun _ i _ => rn - (intOf i).toNat)
  case atStart => exact ⟨0, Nat.zero_le _, rfl, rfl, Lib.hid (Below.refl _ _)⟩
  case round =>
    obtain ⟨k, hk, rfl, rfl, HB⟩ := hrel
    have hL := HL13.out.step HB.out
    have hle := filter_le (inS u fr to) l k
    rw [HFl.out] at hle
    have hlt0 : ((l.take k).filter (inS u fr to)).length ≤ 12 := by
      have h1 := List.length_filter_le (inS u fr to) (l.take k)
      rw [List.length_take, HRn.out] at h1
      omega
    by_cases h1 : k < rn
    · have ji : (k : Int) < (rn : Int) := by omega
      have j0 : 0 ≤ (k : Int) := by omega
      obtain ⟨x, hx⟩ : ∃ x, x = l.getD k default := ⟨_, rfl⟩
      have hget : l[k]? = some x := by rw [hx, List.getD_eq_getElem?_getD, List.getElem?_eq_getElem (by rw [HRn.out]; exact h1)]; rfl
      obtain ⟨gb, off, hae, hgb, hat⟩ := notes_at (show RowsAt noteK _ _ _ _ from (show (RowsN noteK (.slice ra rn rc) l) _ from hL.get (by simp))) k x hget
      subst hae
      have HQ : Hid (∀ W, wr.grownBy W none → NoteAt W gb (off + k * 4) x ∧ (W.cell? ⟨w2.heap.size, 0, none⟩ = some (.string (bs K)) ∧ W.cell? ⟨w2.heap.size, 1, none⟩ = some (.slice (some ⟨gb, off, none⟩) rn rc)) ∧ W.cell? ⟨b, 0, none⟩ = some (.int .i64 u)) := fun W hW => by
        have hL2 := hL.step (grown_below hW)
        obtain ⟨p0, p1, p2, p3⟩ := hat
        exact ⟨⟨hW.cell p0 (by simp), hW.cell p1 (by simp), hW.cell p2 (by simp), hW.cell p3 (by simp)⟩, ⟨BoxN.cell (show (BoxN w2.heap.size 26 #[.string (bs K), .slice (some ⟨gb, off, none⟩) rn rc]) _ from hL2.get (by simp)) 0 _ rfl, BoxN.cell (show (BoxN w2.heap.size 26 #[.string (bs K), .slice (some ⟨gb, off, none⟩) rn rc]) _ from hL2.get (by simp)) 1 _ rfl⟩, BoxN.cell (show (BoxN b 39 #[.int .i64 u, .slice xa xn xc, .string (bs S), .slice pa pn pc]) _ from hL2.get (by simp)) 0 _ rfl⟩
      have HS := Lib.hid (filter_at (inS u fr to) l k (by rw [HRn.out]; exact h1))
      have HNx := Lib.hid (filter_next (inS u fr to) l k (by rw [HRn.out]; exact h1))
      rw [← hx] at HS HNx
      have d1' := BoxN.cell (show (BoxN w2.heap.size 26 #[.string (bs K), .slice (some ⟨gb, off, none⟩) rn rc]) _ from hL.get (by simp)) 1 _ rfl
      clear hx hget hat
      obtain ⟨m, hm⟩ : ∃ m, m = ((l.take k).filter (inS u fr to)).length := ⟨_, rfl⟩
      rw [← hm] at hle hlt0 HNx ⊢
      have HM := Lib.hid hm
      clear hm
      have HI : Hid (inS u fr to x = (decide (x.unit = u) && (decide (fr ≤ x.day) && decide (x.day < to)))) := rfl
      by_cases e1 : x.unit = u
      rotate_left
      · have e1' : (x.unit == u) = false := beq_eq_false_iff_ne.2 e1
        have HS1 : Hid (((l.take (k + 1)).filter (inS u fr to)).length = m) := by show _ = _; rw [HS.out, HI.out, decide_eq_false e1, HM.out]; simp
        clear e1 HS HNx HI
        go_wp2
        clear d1'
        refine wp_region_calm ⟨[], fun k v _ => True, fun _ => [], 99, none, 1000⟩ (by kernel_rfl) (by kernel_rfl) (by kernel_rfl) (fun g h => by cases h) (fun k hk v W W' c h hg hc => h) ?_
        iterate 10 (refine calm_quiet (v := ?_) (by rfl) (by rfl) (fun W hW hD => ?_) ?_; rotate_left; (· (obtain ⟨⟨x0, x1, x2, x3⟩, ⟨z0, z1⟩, y0⟩ := HQ.out W hW; clear hD hW; go_simp; try with_reducible rfl)); simp only [Act.put, List.setIfInBounds_toArray, List.set_cons_zero, List.set_cons_succ, Nat.reduceAdd, Nat.zero_add])
        iterate 8 (refine calm_skip (by rfl) (by rfl) ?_; simp only [Act.put, List.setIfInBounds_toArray, List.set_cons_zero, List.set_cons_succ, Nat.reduceAdd, Nat.zero_add])
        iterate 2 (refine calm_quiet (v := ?_) (by rfl) (by rfl) (fun W hW hD => ?_) ?_; rotate_left; (· (clear hD hW; go_simp; try with_reducible rfl)); simp only [Act.put, List.setIfInBounds_toArray, List.set_cons_zero, List.set_cons_succ, Nat.reduceAdd, Nat.zero_add])
        iterate 8 (refine calm_skip (by rfl) (by rfl) ?_; simp only [Act.put, List.setIfInBounds_toArray, List.set_cons_zero, List.set_cons_succ, Nat.reduceAdd, Nat.zero_add])
        iterate 1 (refine calm_quiet (v := ?_) (by rfl) (by rfl) (fun W hW hD => ?_) ?_; rotate_left; (· (clear hD hW; go_simp; try with_reducible rfl)); simp only [Act.put, List.setIfInBounds_toArray, List.set_cons_zero, List.set_cons_succ, Nat.reduceAdd, Nat.zero_add])
        refine calm_nil fun W hW hF => ?_
        have HBf := Lib.hid (HB.out.trans ((grown_below hW).mono HB.out.size))
        clear hF hW HQ hL
        go_wp2
        go_roundw
        case rel => exact ⟨k + 1, by omega, by go_num, by rw [HS1.out], HBf⟩
        case measure => simp [intOf]; omega
      have e1' : (x.unit == u) = true := beq_iff_eq.2 e1
      by_cases e2 : fr ≤ x.day
      rotate_left
      · have e2' : decide (fr ≤ x.day) = false := decide_eq_false e2
        have HS1 : Hid (((l.take (k + 1)).filter (inS u fr to)).length = m) := by show _ = _; rw [HS.out, HI.out, decide_eq_false e2, HM.out]; simp
        clear e1 e2 HS HNx HI
        go_wp2
        clear d1'
        refine wp_region_calm ⟨[], fun k v _ => True, fun _ => [], 99, none, 1000⟩ (by kernel_rfl) (by kernel_rfl) (by kernel_rfl) (fun g h => by cases h) (fun k hk v W W' c h hg hc => h) ?_
        iterate 18 (refine calm_quiet (v := ?_) (by rfl) (by rfl) (fun W hW hD => ?_) ?_; rotate_left; (· (obtain ⟨⟨x0, x1, x2, x3⟩, ⟨z0, z1⟩, y0⟩ := HQ.out W hW; clear hD hW; go_simp; try with_reducible rfl)); simp only [Act.put, List.setIfInBounds_toArray, List.set_cons_zero, List.set_cons_succ, Nat.reduceAdd, Nat.zero_add])
        iterate 2 (refine calm_quiet (v := ?_) (by rfl) (by rfl) (fun W hW hD => ?_) ?_; rotate_left; (· (clear hD hW; go_simp; try with_reducible rfl)); simp only [Act.put, List.setIfInBounds_toArray, List.set_cons_zero, List.set_cons_succ, Nat.reduceAdd, Nat.zero_add])
        iterate 8 (refine calm_skip (by rfl) (by rfl) ?_; simp only [Act.put, List.setIfInBounds_toArray, List.set_cons_zero, List.set_cons_succ, Nat.reduceAdd, Nat.zero_add])
        iterate 1 (refine calm_quiet (v := ?_) (by rfl) (by rfl) (fun W hW hD => ?_) ?_; rotate_left; (· (clear hD hW; go_simp; try with_reducible rfl)); simp only [Act.put, List.setIfInBounds_toArray, List.set_cons_zero, List.set_cons_succ, Nat.reduceAdd, Nat.zero_add])
        refine calm_nil fun W hW hF => ?_
        have HBf := Lib.hid (HB.out.trans ((grown_below hW).mono HB.out.size))
        clear hF hW HQ hL
        go_wp2
        go_roundw
        case rel => exact ⟨k + 1, by omega, by go_num, by rw [HS1.out], HBf⟩
        case measure => simp [intOf]; omega
      have e2' : decide (fr ≤ x.day) = true := decide_eq_true e2
      by_cases e3 : x.day < to
      rotate_left
      · have e3' : decide (x.day < to) = false := decide_eq_false e3
        have HS1 : Hid (((l.take (k + 1)).filter (inS u fr to)).length = m) := by show _ = _; rw [HS.out, HI.out, decide_eq_false e3, HM.out]; simp
        clear e1 e2 e3 HS HNx HI
        go_wp2
        clear d1'
        refine wp_region_calm ⟨[], fun k v _ => True, fun _ => [], 99, none, 1000⟩ (by kernel_rfl) (by kernel_rfl) (by kernel_rfl) (fun g h => by cases h) (fun k hk v W W' c h hg hc => h) ?_
        iterate 29 (refine calm_quiet (v := ?_) (by rfl) (by rfl) (fun W hW hD => ?_) ?_; rotate_left; (· (obtain ⟨⟨x0, x1, x2, x3⟩, ⟨z0, z1⟩, y0⟩ := HQ.out W hW; clear hD hW; go_simp; try with_reducible rfl)); simp only [Act.put, List.setIfInBounds_toArray, List.set_cons_zero, List.set_cons_succ, Nat.reduceAdd, Nat.zero_add])
        refine calm_nil fun W hW hF => ?_
        have HBf := Lib.hid (HB.out.trans ((grown_below hW).mono HB.out.size))
        clear hF hW HQ hL
        go_wp2
        go_roundw
        case rel => exact ⟨k + 1, by omega, by go_num, by rw [HS1.out], HBf⟩
        case measure => simp [intOf]; omega
      have e3' : decide (x.day < to) = true := decide_eq_true e3
      have hin : inS u fr to x = true := by rw [HI.out, decide_eq_true e1, decide_eq_true e2, decide_eq_true e3]; rfl
      have HS1 : Hid (((l.take (k + 1)).filter (inS u fr to)).length = m + 1) := by show _ = _; rw [HS.out, hin, HM.out]; simp
      have hnx := HNx.out hin
      have hmc : m < cn := by
        have := (List.getElem?_eq_some_iff.1 hnx).1
        rw [HFl.out] at this
        exact this
      rw [← HF.out] at hnx
      obtain ⟨gc, offc, hce, hgc, hct⟩ := notes_at (show RowsAt noteK _ _ _ _ from (show (RowsN noteK (.slice ca cn cc) (queryL pl fr to)) _ from hL.get (by simp))) m x hnx
      subst hce
      have HQ2 : Hid (∀ W, wr.grownBy W none → NoteAt W gc (offc + m * 4) x) := fun W hW => by
        obtain ⟨p0, p1, p2, p3⟩ := hct
        exact ⟨hW.cell p0 (by simp), hW.cell p1 (by simp), hW.cell p2 (by simp), hW.cell p3 (by simp)⟩
      clear e1 e2 e3 HS HNx HI hin hnx hct
      go_wp2
      clear d1'
      refine wp_region_calm ⟨[], fun k v _ => True, fun _ => [], 99, none, 1000⟩ (by kernel_rfl) (by kernel_rfl) (by kernel_rfl) (fun g h => by cases h) (fun k hk v W W' c h hg hc => h) ?_
      iterate 29 (refine calm_quiet (v := ?_) (by rfl) (by rfl) (fun W hW hD => ?_) ?_; rotate_left; (· (obtain ⟨⟨x0, x1, x2, x3⟩, ⟨z0, z1⟩, y0⟩ := HQ.out W hW; clear hD hW; go_simp; try with_reducible rfl)); simp only [Act.put, List.setIfInBounds_toArray, List.set_cons_zero, List.set_cons_succ, Nat.reduceAdd, Nat.zero_add])
      refine calm_nil fun W hW hF => ?_
      have HBf := Lib.hid (HB.out.trans ((grown_below hW).mono HB.out.size))
      have HQ3 : Hid (∀ W', W.grownBy W' none → (NoteAt W' gb (off + k * 4) x ∧ (W'.cell? ⟨w2.heap.size, 0, none⟩ = some (.string (bs K)) ∧ W'.cell? ⟨w2.heap.size, 1, none⟩ = some (.slice (some ⟨gb, off, none⟩) rn rc))) ∧ NoteAt W' gc (offc + m * 4) x) := fun W' hW' => by
        have hWW := wr_trans hW hW'
        exact ⟨⟨(HQ.out W' hWW).1, (HQ.out W' hWW).2.1⟩, HQ2.out W' hWW⟩
      clear hF hW HQ HQ2 hL
      have dm : decide ((cn : Int) ≤ (m : Int)) = false := decide_eq_false (by omega)
      have dm' : decide (cn ≤ m) = false := decide_eq_false (by omega)
      have m0 : 0 ≤ (m : Int) := by omega
      have mc : (m : Int) < (cn : Int) := by omega
      have w1 : IntKind.i64.wrap ((m : Int) + 1) = (m : Int) + 1 := IntWalk.i64_in _ (by omega)
      have hnq : ∀ W, (binOp .neq 48 (noteV x) (noteV x)).run Tryz.prog W = .ok (.bool false) W := fun W => by rw [run_neqNote]; simp
      go_wp2
      refine wp_region_calm ⟨[], fun k v _ => True, fun _ => [], 99, none, 1000⟩ (by kernel_rfl) (by kernel_rfl) (by kernel_rfl) (fun g h => by cases h) (fun k hk v W W' c h hg hc => h) ?_
      iterate 16 (refine calm_quiet (v := ?_) (by rfl) (by rfl) (fun W_ hW hD => ?_) ?_; rotate_left; (· (obtain ⟨⟨⟨x0, x1, x2, x3⟩, z0, z1⟩, y0, y1, y2, y3⟩ := HQ3.out W_ hW; clear hD hW; go_simp; try with_reducible rfl)); simp only [Act.put, List.setIfInBounds_toArray, List.set_cons_zero, List.set_cons_succ, Nat.reduceAdd, Nat.zero_add])
      refine calm_nil fun W3' hW3 hF => ?_
      have HBg := Lib.hid (HBf.out.trans ((grown_below hW3).mono HBf.out.size))
      clear hF hW3 HQ3 HBf
      go_wp2
      go_roundw
      case rel => exact ⟨k + 1, by omega, by go_num, by rw [HS1.out]; go_num, HBg⟩
      case measure => simp [intOf]; omega
    · obtain rfl : k = rn := by omega
      have ji : ¬ ((k : Int) < (k : Int)) := by omega
      have d1' := BoxN.cell (show (BoxN w2.heap.size 26 #[.string (bs K), .slice ra k rc]) _ from hL.get (by simp)) 1 _ rfl
      have hE : ((l.take k).filter (inS u fr to)).length = cn := by rw [List.take_of_length_le (by rw [HRn.out]; exact Nat.le_refl _)]; exact HFl.out
      rw [hE]
      have HSp : Hid (queryL pl fr mi ++ queryL pl mi to = queryL pl fr to) := by
        show _ = _
        rw [HPl.out]
        exact query_split (u := u) (ofL_sorted (d := ⟨K, l⟩) HDo.out u) (fun n hn => by simpa using (List.mem_filter.1 hn).2) hfm hmt
      have hb0 : Below wr.heap.size wr (wr.alloc (.cells #[] 48)) := (Below.refl _ _).alloc (Nat.le_refl _) _
      have HO0 := Lib.hid (ownK_lit0 (K := noteK) wr)
      have HBe := Lib.hid hb0
      have HRa := Lib.hid (RowsAt.later (show RowsAt noteK wr.heap.size wr _ _ from (show (RowsN noteK (.slice aa an ac) (queryL pl fr mi)) _ from hL.get (by simp))) hb0 (Nat.le_refl _))
      have HRb := Lib.hid (show RowsAt noteK wr.heap.size wr _ _ from (show (RowsN noteK (.slice ba bn bc) (queryL pl mi to)) _ from hL.get (by simp)))
      have HRc := Lib.hid (show RowsAt noteK wr.heap.size wr _ _ from (show (RowsN noteK (.slice ca cn cc) (queryL pl fr to)) _ from hL.get (by simp)))
      have HBw := Lib.hid hL.below
      have hzz : wr.heap.size ≤ (wr.alloc (.cells #[] 48)).heap.size := by simp
      have hla : an ≤ 12 := by have := queryL_length pl fr mi; rw [HAn.out, HXn.out] at this; omega
      have hlb : bn ≤ 12 := by have := queryL_length pl mi to; rw [HBn.out, HXn.out] at this; omega
      clear hE hle hlt0 h1 hk hL hb0
      go_wp2_with (first
        | (at_builtin; refine append_KG noteOk (by rfl) _ _ rfl wr.heap.size _ _ _ (queryL pl fr mi) (queryL pl mi to) rfl rfl HO1.out (RowsAt.later HRb.out HB1.out (Nat.le_refl _)) (by rw [HAn.out, HBn.out]; omega) HB1.out.size wr HB1.out ?_; intro v2 w15 ho2 hg2 hb2; obtain ⟨sa2, sc2, hsh2, _, _⟩ := ho2.shape; rw [List.length_append, HAn.out, HBn.out] at hsh2; subst hsh2; have HO2 := Lib.hid ho2; have HB2 := Lib.hid hb2; clear ho2 hg2 hb2)
        | (at_builtin; refine append_KG noteOk (by rfl) _ _ rfl wr.heap.size _ _ _ [] (queryL pl fr mi) rfl rfl HO0.out HRa.out (by rw [HAn.out]; simp; omega) hzz wr HBe.out ?_; intro v1 w14 ho1 hg1 hb1; rw [List.nil_append] at ho1; obtain ⟨sa1, sc1, hsh1, _, _⟩ := ho1.shape; rw [HAn.out] at hsh1; subst hsh1; have HO1 := Lib.hid ho1; have HB1 := Lib.hid hb1; clear ho1 hg1 hb1))
      refine (sameNotes_any _ _ (queryL pl fr mi ++ queryL pl mi to) (queryL pl fr to) _ (HO2.out.rows noteOk) (RowsAt.later HRc.out HB2.out (Nat.le_refl _))).mono ?_
      rintro e w16 ⟨rfl, hb⟩
      have HBz := Lib.hid (HBw.out.trans ((HB2.out.trans (hb.mono HB2.out.size)).mono HBw.out.size))
      have hsame : (queryL pl fr mi ++ queryL pl mi to == queryL pl fr to) = true := by rw [HSp.out]; exact beq_self_eq_true _
      rw [hsame]
      clear hb hsame
      go_wp2
      go_ret
      exact ⟨rfl, HBz.out⟩

end Go.Proofs.YteicimmdcdjagaaGreatDoor
