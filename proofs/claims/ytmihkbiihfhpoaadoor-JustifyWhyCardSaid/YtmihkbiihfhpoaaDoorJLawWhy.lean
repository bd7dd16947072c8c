/- JustifyWhy returns true. -/
import Derived.Test.YtmihkbiihfhpoaaDoorJWhyP

import Derived.StillTailTactics
namespace Go.Proofs.YtmihkbiihfhpoaaDoor
open Go.RowKit Go.Shelf

/-- append to a slice of the call's own, as a step of a region that draws. -/
theorem step_append_ints {ops : Array Oper} {o : Oper} {a : Act} {w : World} {K : Act → World → Prop} {Q : Exit → Act → World → Prop} {E : Prop} (hgd : o.guard = none) (s x : Operand)
    (ho : o.op = .call { callee := .builtin .append, args := #[s, x], argTypes := #[26, 26] }) (base : Nat) (v : Value) (l l2 : List Int) (hs : a.eval s = v) (hown : OwnI base w v l)
    (ad : Addr) (m c : Nat) (hx : a.eval x = .slice (some ad) m c) (hm : l2.length = m) (hcells : ∀ j, j < m → w.cell? (ad.add j) = some (.int .i64 (l2.getD j 0))) (hlen : l.length + m < 1000000) (hbase : base ≤ w.heap.size)
    (h : ∀ v' w', OwnI base w' v' (l ++ l2) → w.grownBy w' v.ownBlock → K (a.put o.dst v') w') :
    if Region.wanted o (yielded ops a.tmps) = true then Oper.wp Tryd.prog o a w K Q else E := by
  have hw : Region.wanted o (yielded ops a.tmps) = true := by simp [Region.wanted, hgd]
  rw [if_pos hw]
  obtain ⟨i0, hi, hz0, hz1, hz2⟩ := info_parts info_int
  refine wp_append_own w s x 26 ho base 3 i0 (.int .i64 0) 1 8 Tryd.underlying26 hi hz0 hz1 hz2 rfl (by decide) v l.length _ hs hown ad m c (l2.map (Value.int .i64)) hx (by rw [List.length_map, hm, Nat.mul_one]) ?_ ?_ (by unfold maxLen; omega) (by omega) hbase ?_
  · intro j u hj
    obtain ⟨hj', rfl⟩ := List.getElem?_eq_some_iff.1 hj
    rw [List.length_map] at hj'
    rw [hcells j (by omega)]
    simp [List.getD_eq_getElem?_getD, hj']
  · intro u hu
    obtain ⟨z, _, rfl⟩ := List.mem_map.1 hu
    rfl
  · intro v' w' h1 h2 _
    refine h v' w' ?_ h2
    unfold OwnI
    rw [List.length_append, List.map_append, hm]
    exact h1
theorem usedNeed_lt {n U : Nat} (hU : U < 4294967296) (hn : n ≤ 6) {z : Int} (hz : 0 ≤ z) : usedNeed n U z < 4294967296 := by
  unfold usedNeed
  split
  · exact or_addB U z hU hz (by omega)
  · exact hU
theorem used_lt {n : Nat} (hn : n ≤ 6) : ∀ (l : List Int) (U : Nat), U < 4294967296 → (∀ z ∈ l, 0 ≤ z) → l.foldl (usedNeed n) U < 4294967296
  | [], _, h, _ => h
  | z :: t, U, h, hl => used_lt hn t _ (usedNeed_lt h hn (hl z (by simp))) fun y hy => hl y (by simp [hy])
theorem usedL_step (n : Nat) (rs : List JRule) (U : Nat) (l : List Int) (j : Nat) (h : j < l.length) : usedL n rs U (l.take (j + 1)) = (rs.getD (l.getD j 0).toNat default).needs.foldl (usedNeed n) (usedL n rs U (l.take j)) := foldl_step (fun (U : Nat) (i : Int) => (rs.getD i.toNat default).needs.foldl (usedNeed n) U) 0 U l j h
theorem erase_two (l : List Int) (j : Nat) : l.take j ++ l.drop (j + 1) = l.eraseIdx j := (List.eraseIdx_eq_take_drop_succ l j).symm
theorem why_none {n d : Nat} {rs : List JRule} (G : Good n d rs) {S K : Nat} (hS : S < 2 ^ n) (hK : K < n + d) (hb : (hd rs S).testBit K = false) : whyL ⟨n, d, rs⟩ S K = [] := by
  have hw : whyB ⟨n, d, rs⟩ S K = false := by rw [G.why hS hK]; exact hb
  unfold whyL
  rw [hw]
  rfl
set_option maxRecDepth 100000 in
set_option maxHeartbeats 4000000 in
theorem lawWhy (seen : Int) (drawn : Int) (v : Value) (N : Nat) (f : Nat → Nat → Int) (set : Int) (thing : Int) (w : World) (hseenb : -9223372036854775808 ≤ seen ∧ seen ≤ 9223372036854775807) (hdrawnb : -9223372036854775808 ≤ drawn ∧ drawn ≤ 9223372036854775807) (hsetb : -9223372036854775808 ≤ set ∧ set ≤ 9223372036854775807) (hthingb : -9223372036854775808 ≤ thing ∧ thing ≤ 9223372036854775807) (hF : FourAt w.heap.size w v N f) (hT : Tabs w) :
    Calls Tryd.prog 8 #[.int .i64 seen, .int .i64 drawn, v, .int .i64 set, .int .i64 thing] w fun e w' => e = .returned (.bool true) ∧ Below w.heap.size w w' := by
  obtain ⟨n, m, rs, hme, G⟩ := made_ex seen drawn N f
  have HF := Lib.hid hF
  have HT := Lib.hid hT
  have HMade := Lib.hid (fun (W : World) (h : FourAt W.heap.size W v N f) => made_good hme v W hseenb hdrawnb h)
  have HG := Lib.hid G
  obtain ⟨va, vc, hvs⟩ : ∃ a c, v = .slice a N c := by obtain ⟨⟨a, c, h, _⟩, _⟩ := hF; exact ⟨a, c, h⟩
  subst hvs
  have n1 := G.n1
  have n6 := G.n6
  have d1 := G.d1
  have d8 := G.d8
  have hpw := G.pow
  have hsh := shl_one n (by omega)
  have hp0 := G.p1
  have hp32 := G.p32
  clear hF hT hme
  obtain ⟨S, hS, hS2⟩ := G.pick set
  have HPS := Lib.hid (g_pick hsetb G.p1 G.p32 hS)
  clear hS
  obtain ⟨K, hK, hK2⟩ := pick_nat2 thing (b := m) n1
  have HPK := Lib.hid (g_pick2 (b := m) hthingb n1 (by omega) (by omega) hK)
  clear hK
  have HWhy := Lib.hid (fun (W w0 : World) (T : Nat) (rv : Value) (h : LawI w0 T n m rs rv W) => g_why G h hS2 hK2)
  have HSupp := Lib.hid (fun (W w0 : World) (T : Nat) (rv : Value) (h : LawI w0 T n m rs rv W) => g_supp G h hK2)
  have HChk := Lib.hid (fun (W w0 : World) (T : Nat) (rv v : Value) (l : List Int) (h : LawI w0 T n m rs rv W) (hv : IntsAt W.heap.size W v l) => g_check G h hS2 hK2 hv)
  have HBs := Lib.hid (leastI_bd n (suppP rs K) (by omega))
  have HOk : Hid ((hd rs S).testBit K = true → WhyOk n rs S K (whyL ⟨n, m, rs⟩ S K)) := fun h => why_ok G hS2 hK2 h
  have HNo : Hid ((hd rs S).testBit K = false → whyL ⟨n, m, rs⟩ S K = []) := fun h => why_none G hS2 hK2 h
  have HNeeds := Lib.hid G.needs
  have HUsed : Hid (∀ l, derivesB n rs S K l = true → subB (usedL n rs (if K < n then 2 ^ K else 0) l) S = true ∧ hasOne (usedL n rs (if K < n then 2 ^ K else 0) l) (leastI n (suppP rs K)) = true) := fun l h => by
    obtain ⟨h1, h2⟩ := used_ok G hS2 h
    refine ⟨(subB_iff _ _).2 h1, ?_⟩
    rw [hasOne_least hp32 (supp_mono rs K) (Nat.lt_of_le_of_lt h1.le hS2)]
    exact h2
  have hS4 : S < 4096 := Nat.lt_of_lt_of_le hS2 (Nat.le_trans hpw (by decide))
  have HLen := Lib.hid G.len
  have HU0 : Hid ((if K < n then 2 ^ K else 0) < 4294967296) := by
    show _ < _
    split
    · exact pow_lt32 (by omega)
    · decide
  have HshK : Hid (K < n → wrap64 (2 ^ K) = (((if K < n then 2 ^ K else 0) : Nat) : Int)) := fun h => by rw [if_pos h]; exact shl_one K (by omega)
  have HsK0 : Hid (¬ K < n → (0 : Int) = (((if K < n then 2 ^ K else 0) : Nat) : Int)) := fun h => by rw [if_neg h]; rfl
  clear G
  generalize 2 ^ n = P at *
  generalize hl : leastI n (suppP rs K) = l at *
  clear hl
  generalize (if K < n then 2 ^ K else 0) = U0 at *
  go_enter Tryd.func8, Tryd.ntmps8
  go_wp2_with fail
  refine (sane_any _ HT.out).mono ?_
  rintro e w1 ⟨rfl, hb1⟩
  go_wp2_with fail
  refine (HMade.out _ ((HF.out.below hb1 (Nat.le_refl _)).mono hb1.size)).mono ?_
  rintro e w2 ⟨rv, rfl, hR2, hb2⟩
  obtain ⟨ra, rc, hrv, _, _⟩ := hR2.shape
  have LL := LawI.new (n := n) (d := m) HT.out (hb1.trans (hb2.mono hb1.size)) hR2
  subst hrv
  have hBw12 := hb1.trans (hb2.mono hb1.size)
  have k0 := LL.1.c0
  have k1 := LL.1.c1
  have k2 := LL.1.c2
  clear hR2 hb1 hb2
  go_wp2_with fail
  refine (HPS.out _).mono ?_
  rintro e w' ⟨rfl, rfl⟩
  go_wp2_with fail
  refine (HPK.out _).mono ?_
  rintro e w' ⟨rfl, rfl⟩
  go_wp2_with fail
  refine (HWhy.out _ _ _ _ LL).mono ?_
  rintro e w3 ⟨v3, rfl, hi3, hb3⟩
  obtain ⟨ya, yc, hs3, yc1, yc2⟩ := hi3.shape
  subst hs3
  replace LL := LL.below hb3
  replace k0 := LL.1.c0
  replace k1 := LL.1.c1
  replace k2 := LL.1.c2
  have Iy := Lib.hid hi3
  clear hi3
  clear hb3
  go_wp2_with fail
  refine (HSupp.out _ _ _ _ LL).mono ?_
  rintro e w4 ⟨v4, rfl, hi4, hb4⟩
  obtain ⟨sa, sc, hs4, sc1, sc2⟩ := hi4.shape
  subst hs4
  replace LL := LL.below hb4
  replace k0 := LL.1.c0
  replace k1 := LL.1.c1
  replace k2 := LL.1.c2
  replace Iy := Lib.hid (Iy.out.later hb4 (Nat.le_refl _))
  have Is := Lib.hid hi4
  clear hi4
  clear hb4
  clear hsh
  have HLL := Lib.hid LL
  cases hb : (hd rs S).testBit K
  · have hn := HNo.out hb
    rw [hn]
    rw [hn] at Iy
    clear hb hn
    go_wp2
    go_ret
    exact ⟨rfl, LL.2.2.2⟩
  · have WO := HOk.out hb
    have HD := Lib.hid WO.der
    have HMin := Lib.hid WO.min
    have h40 := WO.len
    have HMem := Lib.hid WO.mem
    have HUs := Lib.hid (HUsed.out _ WO.der)
    clear hb WO
    generalize whyL ⟨n, m, rs⟩ S K = y at *
    unfold maxLen at yc2
    generalize hL : y.length = L at *
    have HL := Lib.hid hL
    clear hL
    by_cases hkn : K < n
    all_goals
      have hkn' : ((K : Int) < (n : Int)) ∨ ((n : Int) ≤ (K : Int)) := by omega
      first | (have hshk := HshK.out hkn; go_wp2; rw [hshk]; clear hshk) | (have HU00 : Hid (U0 = 0) := (by have := HsK0.out hkn; show _ = _; omega); go_wp2)
      clear hkn hkn' HshK HsK0
      clear LL k0 k1 k2
      obtain ⟨w5, hw5⟩ : ∃ w5 : World, w5 = w4 := ⟨_, rfl⟩
      rw [← hw5] at HLL Iy Is ⊢
      clear hw5
      have hR40 := HLen.out
      generalize hR : rs.length = R at *
      have HR := Lib.hid hR
      clear hR
      go_loopw [18, 19] (fun uv i wr => ∃ j : Nat, j ≤ L ∧ i = .int .i64 j ∧ uv = .int .i64 (usedL n rs U0 (y.take j)) ∧ usedL n rs U0 (y.take j) < 4294967296 ∧ Below w5.heap.size w5 wr) (fun _ i _ => L - (intOf i).toNat)
      case atStart => exact ⟨0, Nat.zero_le _, rfl, by first | rfl | (rw [show usedL n rs U0 (y.take 0) = U0 from rfl, HU00.out]; rfl), HU0.out, Below.refl _ _⟩
      case round =>
        obtain ⟨j, hj, rfl, rfl, hUj, hB⟩ := hrel
        by_cases hlt : j < L
        · have L1 := HLL.out.below hB
          have I1 := Iy.out.later hB (Nat.le_refl _)
          obtain ⟨bl, off, hae, hbl, hcl⟩ := I1.at j (by rw [HL.out]; exact hlt)
          subst hae
          have hxm := HMem.out _ (getD_mem y 0 j (by rw [HL.out]; exact hlt))
          obtain ⟨x, hx⟩ := Int.eq_ofNat_of_zero_le hxm.1
          have HSt := Lib.hid (usedL_step n rs U0 y j (by rw [HL.out]; exact hlt))
          rw [hx, Int.toNat_natCast] at HSt
          rw [hx] at hcl hxm
          have hxR : x < R := by omega
          have HMj := Lib.hid (HMin.out j (by first | exact hlt | (rw [HL.out]; exact hlt)))
          have HMemR : Hid (rs.getD x default ∈ rs) := getD_mem _ _ _ (by rw [HR.out]; exact hxR)
          have HNd := Lib.hid (HNeeds.out _ HMemR.out)
          have hlenT : (y.take j).length = j := by rw [List.length_take, HL.out]; omega
          have hlenD : (y.drop (j + 1)).length = L - (j + 1) := by rw [List.length_drop, HL.out]
          have HE := Lib.hid (erase_two y j)
          obtain ⟨A, hA, HSrc⟩ : ∃ A : Addr, (if yc = j + 1 then some (⟨bl, off, none⟩ : Addr) else some ⟨bl, off + (j + 1), none⟩) = some A ∧ Hid (∀ t, t < L - (j + 1) → wr.cell? (A.add t) = some (.int .i64 ((y.drop (j + 1)).getD t 0)) ∧ (A.add t).block = bl) := by
            by_cases h : yc = j + 1
            · refine ⟨⟨bl, off, none⟩, by simp [h], fun t ht => by omega⟩
            · refine ⟨⟨bl, off + (j + 1), none⟩, by simp [h], fun t ht => ?_⟩
              obtain ⟨b2, o2, e2, _, c2⟩ := I1.at (j + 1 + t) (by rw [HL.out]; omega)
              obtain ⟨rfl, rfl⟩ : bl = b2 ∧ off = o2 := by simpa using e2
              rw [Addr.add_lit, show off + (j + 1) + t = off + (j + 1 + t) from by omega, c2, List.getD_eq_getElem?_getD, List.getD_eq_getElem?_getD, List.getElem?_drop]
              exact ⟨rfl, rfl⟩
          have HSrc1 : Hid (∀ t, t < j → wr.cell? ((⟨bl, off, none⟩ : Addr).add t) = some (.int .i64 ((y.take j).getD t 0))) := fun t ht => by
            obtain ⟨b2, o2, e2, _, c2⟩ := I1.at t (by rw [HL.out]; omega)
            obtain ⟨rfl, rfl⟩ : bl = b2 ∧ off = o2 := by simpa using e2
            rw [Addr.add_lit, c2, List.getD_eq_getElem?_getD, List.getD_eq_getElem?_getD, List.getElem?_take, if_pos ht]
          have hown0 : OwnI wr.heap.size (wr.alloc (.cells #[] 3)).drew (.slice (some ⟨wr.heap.size, 0, none⟩) 0 0) [] :=
            ⟨rfl, .inr ⟨wr.heap.size, 0, #[], rfl, Nat.le_refl _, World.alloc_heap_new wr _, Nat.le_refl _, Nat.zero_le _, rfl, rfl⟩⟩
          have HO0 := Lib.hid hown0
          have HB0 : Hid (Below wr.heap.size wr (wr.alloc (.cells #[] 3)).drew) := ((Below.refl _ _).alloc (Nat.le_refl _) _).drew
          have HL1 := Lib.hid L1
          have HI1 := Lib.hid I1
          have Hcl := Lib.hid hcl
          have jj : (j : Int) ≤ (yc : Int) := by omega
          have jj0 : (0 : Int) ≤ (j : Int) := by omega
          have jL : (j : Int) + 1 ≤ (L : Int) := by omega
          have jp : (0 : Int) ≤ (j : Int) + 1 := by omega
          have jt : ((j : Int) + 1).toNat = j + 1 := by omega
          have jc : j ≤ yc := by omega
          have jw : IntKind.i64.wrap ((j : Int) + 1) = (j : Int) + 1 := IntWalk.i64_in _ (by omega)
          have hdl : j + (L - (j + 1)) < 1000000 := by omega
          clear L1 I1 hcl hown0 hx
          go_wp2
          go_region_law (first | (refine step_append_ints rfl (.tmp 73) (.tmp 76) rfl wr.heap.size _ [] (y.take j) (by simp [Act.eval, Act.put]) HO0.out ⟨bl, off, none⟩ j yc (by simp [Act.eval, Act.put]) hlenT (fun t ht => (HB0.out.cell (p := (⟨bl, off, none⟩ : Addr).add t) (by rw [Addr.add_lit]; exact hbl)).trans (HSrc1.out t ht)) (by simp; omega) (by simp) ?_; intro v6 w6 hown6 hg6; have hB6 : Below wr.heap.size wr w6 := HB0.out.grown hg6 (by simp) (fun k hk => by cases hk; exact Nat.le_refl _)) | (refine step_append_ints rfl (.tmp 77) (.tmp 81) rfl wr.heap.size _ (y.take j) (y.drop (j + 1)) (by simp [Act.eval, Act.put]) hown6 A (L - (j + 1)) (yc - (j + 1)) (by simp [Act.eval, Act.put]) hlenD (fun t ht => (hB6.cell (p := A.add t) (by rw [(HSrc.out t ht).2]; exact hbl)).trans (HSrc.out t ht).1) (by rw [hlenT]; exact hdl) hB6.size ?_; intro v7 w7 hown7 hg7))
          change Exit.then _ _ _ (Act.put _ (some 20) _) _
          simp [Act.put]
          have hB7 : Below wr.heap.size wr w7 := hB6.grown hg7 hB6.size (fun k hk => (World.ownsRow.lt hown6 k hk).1)
          have hBd := hB7.drew
          have HLd := Lib.hid (HL1.out.below hBd)
          have hid7 := hown7.ints
          rw [HE.out] at hid7
          obtain ⟨za, zc, hz⟩ := hown7.shape
          subst hz
          have HC := Lib.hid (HChk.out _ _ _ _ _ _ HLd.out (hid7.later ((Below.refl _ _).drew) (Nat.le_refl _)))
          rw [HMj.out] at HC
          have q0 := (HL1.out.below hB7).1.c0
          have q1 := (HL1.out.below hB7).1.c1
          have q2 := (HL1.out.below hB7).1.c2
          have qy := (hB7.cell (p := ⟨bl, off + j, none⟩) hbl).trans Hcl.out
          have hxx : decide ((x : Int) < 0) = false := by simp
          have hxy : decide ((R : Int) ≤ (x : Int)) = false := by simp; omega
          have jj2 : (j : Int) < (L : Int) := by omega
          have Hj := Lib.hid hj
          have HlenT := Lib.hid hlenT
          clear hlenT hlenD hA jt jw jj jj0 jL jp jc hdl hj hlt hxm
          generalize (y.take j ++ y.drop (j + 1)).length = zl at *
          clear hid7 hown7 hown6 hg6 hg7 HO0 HB0 HSrc HSrc1 HE hB6
          go_wp2
          go_still_tail 20, (by kernel_rfl)
          change wpList _ _ _ _ _ w7.drew
          go_wp2_with fail
          refine HC.out.mono ?_
          rintro e w8 ⟨rfl, hb8⟩
          have hB8 := hBd.trans (hb8.mono hBd.size)
          have L8 := HL1.out.below hB8
          have ry := (hB8.cell (p := ⟨bl, off + j, none⟩) hbl).trans Hcl.out
          clear q0 q1 q2 qy
          have r0 := L8.1.c0
          have r1 := L8.1.c1
          have r2 := L8.1.c2
          obtain ⟨b3, off3, nv, hae3, hb3, d1, d2, d3⟩ := L8.2.1.at x (by rw [HR.out]; exact hxR)
          subst hae3
          obtain ⟨na, nc, hnv, hnc1, hnc2⟩ := d3.shape
          subst hnv
          go_wp2
          clear r0 r1 r2
          have HL8 := Lib.hid L8
          have HN := Lib.hid d3
          have Hd1 := Lib.hid d1
          have Hry := Lib.hid ry
          have HbW := hB8.size
          clear L8 d3 d1 d2 ry hb8 hBd hB7
          generalize rs.getD x default = r at *
          unfold maxLen at hnc2
          generalize hM : r.needs.length = M at *
          have HM := Lib.hid hM
          clear hM
          have HUpos : Hid (∀ q, (r.needs.take q).foldl (usedNeed n) (usedL n rs U0 (y.take j)) < 4294967296) := fun q => used_lt (by omega) _ _ hUj (fun z hz => (HNd.out z (List.mem_of_mem_take hz)).1)
          generalize usedL n rs U0 (y.take j) = Uj at *
          clear hxx hxy
          obtain ⟨w9, hw9⟩ : ∃ w9 : World, w9 = w8 := ⟨_, rfl⟩
          rw [← hw9] at HL8 HN Hd1 Hry HbW hB8 hb3 ⊢
          clear hw9
          go_loopw [18, 21] (fun uv i wq => ∃ q : Nat, q ≤ M ∧ i = .int .i64 q ∧ uv = .int .i64 ((r.needs.take q).foldl (usedNeed n) Uj : Nat) ∧ Below w9.heap.size w9 wq) (fun _ i _ => M - (intOf i).toNat)
          case atStart => exact ⟨0, Nat.zero_le _, rfl, rfl, Below.refl _ _⟩
          case round =>
            obtain ⟨q, hq, rfl, rfl, hBq⟩ := hrel
            have hUq := HUpos.out q
            have L9 := HL8.out.below hBq
            have r0 := L9.1.c0
            have r2 := L9.1.c2
            have ry := (hBq.cell (p := ⟨bl, off + j, none⟩) (Nat.lt_of_lt_of_le hbl HbW)).trans Hry.out
            have d1 := (hBq.cell (p := ⟨b3, off3 + x * 2, none⟩) hb3).trans Hd1.out
            clear L9
            have x0 : (0 : Int) ≤ (x : Int) := by omega
            have xR : (x : Int) < (R : Int) := by omega
            by_cases hql : q < M
            · obtain ⟨b4, off4, hae4, hb4, c4⟩ := HN.out.at q (by rw [HM.out]; exact hql)
              subst hae4
              have c5 := (hBq.cell (p := ⟨b4, off4 + q, none⟩) hb4).trans c4
              clear c4
              have HSq := Lib.hid (foldl_step (usedNeed n) 0 Uj r.needs q (by rw [HM.out]; exact hql))
              have hzb := HNd.out _ (getD_mem r.needs 0 q (by rw [HM.out]; exact hql))
              have qq : (q : Int) < (M : Int) := by omega
              have q0 : (0 : Int) ≤ (q : Int) := by omega
              generalize r.needs.getD q 0 = z at *
              obtain ⟨pn, hpn⟩ := Int.eq_ofNat_of_zero_le hzb.1
              subst hpn
              generalize (r.needs.take q).foldl (usedNeed n) Uj = S2 at *
              go_wp2
              go_quiet (fail)
              go_wp2
              go_quiet (fail)
              by_cases hpl : (pn : Int) < (n : Int)
              · have hp32 : pn < 32 := by omega
                have HOr := or_bit S2 pn hUq hp32
                have hor := HOr.1
                have HAdd : Hid (usedNeed n S2 (pn : Int) = S2 ||| 2 ^ pn) := by show _ = _; rw [show usedNeed n S2 (pn : Int) = addB S2 pn from if_pos hpl]; simp [addB]
                rw [HAdd.out] at HSq
                clear HOr
                generalize S2 ||| 2 ^ pn = S3 at *
                go_wp2
                go_roundw
                case rel => exact ⟨q + 1, by omega, by go_num, by rw [HSq.out], by first | exact below_drewN hBq _ | exact below_drewN (below_drewN hBq _) _⟩
                case measure => simp [intOf]; omega
              · have HAdd : Hid (usedNeed n S2 (pn : Int) = S2) := by show _ = _; exact if_neg hpl
                rw [HAdd.out] at HSq
                go_wp2
                go_roundw
                case rel => exact ⟨q + 1, by omega, by go_num, by rw [HSq.out], by first | exact below_drewN hBq _ | exact below_drewN (below_drewN hBq _) _⟩
                case measure => simp [intOf]; omega
            · obtain rfl : q = M := by omega
              go_wp2
              go_quiet (fail)
              have hBl := hB.trans ((hB8.trans (hBq.mono hB8.size)).mono hB.size)
              rw [List.take_of_length_le (by rw [HM.out]; exact Nat.le_refl _)] at hUq ⊢
              rw [← HSt.out] at hUq ⊢
              go_wp2
              go_roundw
              case rel => exact ⟨j + 1, by omega, by go_num, rfl, hUq, by first | exact below_drewN hBl _ | exact below_drewN (below_drewN hBl _) _⟩
              case measure => simp [intOf]; omega
        · obtain rfl : j = L := by omega
          rw [List.take_of_length_le (by rw [HL.out]; exact Nat.le_refl _)] at hUj ⊢
          have HIs := Lib.hid (Is.out.later hB (Nat.le_refl _))
          have HU1 := Lib.hid HUs.out.1
          have HU2 := Lib.hid HUs.out.2
          have LLe := Lib.hid (HLL.out.below hB)
          have Hhb := Lib.hid hB
          generalize usedL n rs U0 y = U at *
          clear hB
          go_wp2_with fail
          refine (within_any U S _ (by omega) (by omega)).mono ?_
          rintro e w' ⟨rfl, rfl⟩
          rw [HU1.out]
          go_wp2_with fail
          refine (lawHas_any U _ l _ HIs.out hUj HBs.out).mono ?_
          rintro e w9 ⟨rfl, hb9⟩
          rw [HU2.out]
          go_wp2
          go_ret
          exact ⟨rfl, (LLe.out.below hb9).2.2.2⟩
end Go.Proofs.YtmihkbiihfhpoaaDoor
