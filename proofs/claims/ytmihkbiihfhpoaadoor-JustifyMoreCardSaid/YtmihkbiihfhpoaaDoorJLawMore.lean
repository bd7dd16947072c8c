/- JustifyMore returns true. -/
import Derived.Test.YtmihkbiihfhpoaaDoorJMoreR
namespace Go.Proofs.YtmihkbiihfhpoaaDoor
open Go.RowKit Go.Shelf

set_option maxRecDepth 100000 in
set_option maxHeartbeats 8000000 in
theorem lawMore (seen drawn : Int) (v : Value) (N : Nat) (f : Nat → Nat → Int) (set more thing : Int) (rf : Nat → Int) (turn : Int) (w : World) (hseenb : -9223372036854775808 ≤ seen ∧ seen ≤ 9223372036854775807) (hdrawnb : -9223372036854775808 ≤ drawn ∧ drawn ≤ 9223372036854775807) (hsetb : -9223372036854775808 ≤ set ∧ set ≤ 9223372036854775807) (hmoreb : -9223372036854775808 ≤ more ∧ more ≤ 9223372036854775807) (hthingb : -9223372036854775808 ≤ thing ∧ thing ≤ 9223372036854775807) (hrfb : ∀ i, i < 4 → -9223372036854775808 ≤ rf i ∧ rf i ≤ 9223372036854775807) (hturnb : -9223372036854775808 ≤ turn ∧ turn ≤ 9223372036854775807) (hF : FourAt w.heap.size w v N f) (hT : Tabs w) :
    Calls Tryd.prog 9 #[.int .i64 seen, .int .i64 drawn, v, .int .i64 set, .int .i64 more, .int .i64 thing, .agg #[.int .i64 (rf 0), .int .i64 (rf 1), .int .i64 (rf 2), .int .i64 (rf 3)], .int .i64 turn] w fun e w' => e = .returned (.bool true) ∧ Below w.heap.size w w' := by
  obtain ⟨n, m, rs, hme, G⟩ := made_ex seen drawn N f
  obtain ⟨n', m', rs1, hme1, G1⟩ := made_ex seen drawn 1 (fun _ => rf)
  obtain rfl : n' = n := by
    have e1 := congrArg JTh.seen hme
    have e2 := congrArg JTh.seen hme1
    have e3 : (madeT seen drawn N f).seen = (madeT seen drawn 1 fun _ => rf).seen := rfl
    have e4 : (n' : Int) = (n : Int) := e2.symm.trans (e3.symm.trans e1)
    omega
  obtain rfl : m' = m := by
    have e1 := congrArg JTh.drawn hme
    have e2 := congrArg JTh.drawn hme1
    have e3 : (madeT seen drawn N f).drawn = (madeT seen drawn 1 fun _ => rf).drawn := rfl
    have e4 : (m' : Int) = (m : Int) := e2.symm.trans (e3.symm.trans e1)
    omega
  obtain ⟨r1, rfl⟩ : ∃ r1, rs1 = [r1] := by
    have e := congrArg (fun t : JTh => t.rules.length) hme1
    have e2 : (madeT seen drawn 1 fun _ => rf).rules.length = 1 := by rw [show (madeT seen drawn 1 fun _ => rf).rules = madeRules (madeSeen seen) (madeDrawn drawn) (fun _ => rf) (min 1 12) from rfl, madeRules_length]; rfl
    simp only at e
    rw [e2] at e
    exact List.length_eq_one_iff.1 e.symm
  have hl12 : rs.length ≤ 12 := by
    have e := congrArg (fun t : JTh => t.rules.length) hme
    have e2 : (madeT seen drawn N f).rules.length = min N 12 := by rw [show (madeT seen drawn N f).rules = madeRules (madeSeen seen) (madeDrawn drawn) f (min N 12) from rfl, madeRules_length]
    simp only at e
    rw [e2] at e
    omega
  have HF := Lib.hid hF
  have HT := Lib.hid hT
  have HMade := Lib.hid (fun (W : World) (h : FourAt W.heap.size W v N f) => made_goodR hme v W hseenb hdrawnb h)
  have HMade1 := Lib.hid (fun (v1 : Value) (W : World) (h : FourAt W.heap.size W v1 1 (fun _ => rf)) => made_goodR hme1 v1 W hseenb hdrawnb h)
  have HG := Lib.hid G
  have HG1 := Lib.hid G1
  have HRf := Lib.hid hrfb
  obtain ⟨va, vc, hvs⟩ : ∃ a c, v = .slice a N c := by obtain ⟨⟨a, c, h, _⟩, _⟩ := hF; exact ⟨a, c, h⟩
  subst hvs
  have n1 := G.n1
  have n6 := G.n6
  have d1 := G.d1
  have d8 := G.d8
  have hpw := G.pow
  have hsh := shl_one n' (by omega)
  have hp0 := G.p1
  have hp32 := G.p32
  have HNl : Hid (∀ r ∈ rs, r.needs.length ≤ 1000) := fun r hr => by
    have := (valid_good G.valid).2.2.2 r hr
    unfold badRule at this
    simp only [Bool.or_eq_false_iff, decide_eq_false_iff_not] at this
    omega
  obtain ⟨S, hS, hS2⟩ := G.pick set
  have HPS := Lib.hid (g_pick hsetb G.p1 G.p32 hS)
  clear hS
  obtain ⟨Pm, hPm, hPm2⟩ := G.pick more
  have HPM := Lib.hid (g_pick hmoreb G.p1 G.p32 hPm)
  clear hPm
  obtain ⟨K, hK, hK2⟩ := pick_nat2 thing (b := m') n1
  have HPK := Lib.hid (g_pick2 (b := m') hthingb n1 (by omega) (by omega) hK)
  have HTurnB := Lib.hid hturnb
  have HS2 := Lib.hid hS2
  have HPm2 := Lib.hid hPm2
  have HK2 := Lib.hid hK2
  have hS4 : S < 4096 := Nat.lt_of_lt_of_le hS2 (Nat.le_trans hpw (by decide))
  have hP4 : Pm < 4096 := Nat.lt_of_lt_of_le hPm2 (Nat.le_trans hpw (by decide))
  clear hF hT hme hme1 hK G G1 hrfb hS2 hPm2 hK2
  have HPw : Hid (∀ x, x < 2 ^ n' ↔ x < 2 ^ n') := fun _ => Iff.rfl
  generalize hP2 : 2 ^ n' = P at *
  have HP2 := Lib.hid hP2
  clear hP2 HPw
  go_enter Tryd.func9, Tryd.ntmps9
  go_wp2_with fail
  have hb0 : Below w.heap.size w (w.alloc (.cells #[.int .i64 (rf 0), .int .i64 (rf 1), .int .i64 (rf 2), .int .i64 (rf 3)] 54)) := (Below.refl _ _).alloc (Nat.le_refl _) _
  have HB0 := Lib.hid hb0
  have HBx : Hid ((w.alloc (.cells #[.int .i64 (rf 0), .int .i64 (rf 1), .int .i64 (rf 2), .int .i64 (rf 3)] 54)).heap[w.heap.size]? = some (.cells #[.int .i64 (rf 0), .int .i64 (rf 1), .int .i64 (rf 2), .int .i64 (rf 3)] 54 (0, 0))) := World.alloc_heap_new w _
  have hsz : w.heap.size + 1 = (w.alloc (.cells #[.int .i64 (rf 0), .int .i64 (rf 1), .int .i64 (rf 2), .int .i64 (rf 3)] 54)).heap.size := by simp
  have HSz := Lib.hid hsz
  clear hb0 hsz
  generalize w.alloc (.cells #[.int .i64 (rf 0), .int .i64 (rf 1), .int .i64 (rf 2), .int .i64 (rf 3)] 54) = Wa at *
  refine (sane_any _ (HT.out.below HB0.out HT.out.2)).mono ?_
  rintro e w1 ⟨rfl, hb1⟩
  have HB1 := Lib.hid (HB0.out.trans (hb1.mono HB0.out.size))
  replace HBx : Hid (w1.heap[w.heap.size]? = _) := (hb1.block _ (by rw [← HSz.out]; omega)).trans HBx.out
  clear hb1 HSz HB0
  go_wp2_with fail
  refine (HMade.out _ ((HF.out.below HB1.out (Nat.le_refl _)).mono HB1.out.size)).mono ?_
  rintro e w2 ⟨rv, cs0, rfl, hR2, hcs0, hb2⟩
  obtain ⟨ra, rc, hrv⟩ := hR2.shape
  subst hrv
  have HB2 := Lib.hid (HB1.out.trans (hb2.mono HB1.out.size))
  replace HBx : Hid (w2.heap[w.heap.size]? = _) := (hb2.block _ (Array.getElem?_eq_some_iff.1 HBx.out).1).trans HBx.out
  have HE1 : Hid (ThE w w2.heap.size n' m' (.slice ra cs0.length rc) cs0 (w2.alloc (.cells #[.int .i64 n', .int .i64 m', .slice ra cs0.length rc] 25))) := ⟨ThBox.new _ _ _ _, (hR2.mono HB1.out.size).below ((Below.refl _ _).alloc (Nat.le_refl _) _) (Nat.le_refl _)⟩
  have HC0 := Lib.hid hcs0
  have hcl : cs0.length ≤ 12 := by have := congrArg List.length hcs0; rw [List.length_map] at this; omega
  clear hR2 hb2 hcs0 HB1
  have hb2b : Below w.heap.size w (w2.alloc (.cells #[.int .i64 n', .int .i64 m', .slice ra cs0.length rc] 25)) := HB2.out.alloc HB2.out.size _
  have HB3 := Lib.hid hb2b
  replace HBx : Hid ((w2.alloc (.cells #[.int .i64 n', .int .i64 m', .slice ra cs0.length rc] 25)).heap[w.heap.size]? = _) := (Below.heap_alloc _ _ _ (Array.getElem?_eq_some_iff.1 HBx.out).1).trans HBx.out
  obtain ⟨T1, hT1⟩ : ∃ T1, T1 = w2.heap.size := ⟨_, rfl⟩
  rw [← hT1] at HE1
  have hT1w : w.heap.size ≤ T1 := by rw [hT1]; exact HB2.out.size
  have hw : ∀ (a : Act) (Q : Exit → Act → World → Prop), True := fun _ _ => trivial
  clear hb2b HB2 hw
  go_wp2_with fail
  rw [← hT1]
  generalize w2.alloc (.cells #[.int .i64 n', .int .i64 m', .slice ra cs0.length rc] 25) = W2 at *
  clear hT1
  have k0 := HE1.out.1.c0
  have k1 := HE1.out.1.c1
  have k2 := HE1.out.1.c2
  obtain ⟨x0, x1, x2, x3⟩ := box4 HBx.out
  refine (HPS.out _).mono ?_
  rintro e w' ⟨rfl, rfl⟩
  go_wp2_with fail
  refine (HPK.out _).mono ?_
  rintro e w' ⟨rfl, rfl⟩
  go_wp2_with fail
  refine (HMade1.out _ _ (four_lit W2 rf HRf.out)).mono ?_
  rintro e w3 ⟨rv1, cs1, rfl, hR3, hcs1, hb3⟩
  obtain ⟨nv1, rfl⟩ : ∃ nv, cs1 = [(nv, r1)] := by
    match cs1, hcs1 with
    | [(nv, r)], h => exact ⟨nv, by simp at h; rw [h]⟩
  obtain ⟨oa, oc, hrv1⟩ := hR3.shape
  subst hrv1
  obtain ⟨g1, hg1, hg2, hg3, nvx, rx, hcx, y0, y1, ho1⟩ := hR3.at 0 (by simp)
  cases hcx
  subst hg1
  have hb3' : Below W2.heap.size W2 w3 := ((Below.refl _ _).alloc (Nat.le_refl _) _).trans (hb3.mono (by simp))
  obtain ⟨na1, nc1, hnv1⟩ := ho1.shape
  subst hnv1
  replace y0 : w3.cell? ⟨g1, 0, none⟩ = _ := y0
  replace y1 : w3.cell? ⟨g1, 1, none⟩ = _ := y1
  have HE1a := Lib.hid (HE1.out.below hb3' (Nat.le_refl _))
  have HB4 := Lib.hid (HB3.out.trans (hb3'.mono HB3.out.size))
  have HO1 := Lib.hid (ho1.mono (show w.heap.size ≤ _ from by simp; exact Nat.le_succ_of_le HB3.out.size))
  replace k0 := HE1a.out.1.c0
  replace k1 := HE1a.out.1.c1
  replace k2 := HE1a.out.1.c2
  clear hR3 hcs1 hb3 hb3' ho1 x0 x1 x2 x3 hg3
  simp only [List.length_cons, List.length_nil, Nat.zero_add]
  unfold thV
  have hfd := field_th2
  have hb4 : Below w3.heap.size w3 (w3.alloc (.cells #[.slice na1 r1.needs.length nc1, .int .i64 r1.gives] 48)) := (Below.refl _ _).alloc (Nat.le_refl _) _
  have HE1b := Lib.hid (HE1a.out.below hb4 (Nat.le_refl _))
  replace k0 := HE1b.out.1.c0
  replace k1 := HE1b.out.1.c1
  replace k2 := HE1b.out.1.c2
  have HB4b := Lib.hid hb4
  clear hb4
  go_wp2_with fail
  clear hfd
  have HRB : Hid (RBox (w3.alloc (.cells #[.slice na1 r1.needs.length nc1, .int .i64 r1.gives] 48)) w3.heap.size (.slice na1 r1.needs.length nc1) r1.gives) := RBox.new _ _ _
  have HO1b := Lib.hid (HO1.out.below HB4b.out (Nat.le_refl _))
  have HB5 := Lib.hid (HB4.out.trans (HB4b.out.mono HB4.out.size))
  clear HB4b
  obtain ⟨T2, hT2⟩ : ∃ T2, T2 = w3.heap.size := ⟨_, rfl⟩
  rw [← hT2] at HRB ⊢
  clear y0 y1 hg2
  generalize w3.alloc (.cells #[.slice na1 r1.needs.length nc1, .int .i64 r1.gives] 48) = W3 at *
  clear hT2
  have hrs : RulesAt W3.heap.size W3 (.slice ra cs0.length rc) rs := by rw [← HC0.out]; exact HE1b.out.2.rules
  refine (copy_any n' m' (.slice ra cs0.length rc) rs W3 hrs (by omega) HNl.out).mono ?_
  rintro e w4 ⟨rvw, csw, rfl, hRw, hcsw, hbw⟩
  obtain ⟨wa, wc, hrvw⟩ := hRw.shape
  subst hrvw
  clear hrs
  unfold thV
  have HRw := Lib.hid hRw
  have HBw := Lib.hid hbw
  have HCw := Lib.hid hcsw
  have hwl : csw.length ≤ 12 := by have := congrArg List.length hcsw; rw [List.length_map] at this; omega
  have hb4 : Below w4.heap.size w4 (w4.alloc (.cells #[.int .i64 n', .int .i64 m', .slice wa csw.length wc] 25)) := (Below.refl _ _).alloc (Nat.le_refl _) _
  have HB34 := Lib.hid (hbw.trans (hb4.mono hbw.size))
  have HRB4 := Lib.hid (HRB.out.below HB34.out HRB.out.lt)
  have HO4 := Lib.hid (HO1b.out.below HB34.out (Nat.le_refl _))
  have HR4 := Lib.hid ((hRw.mono HB5.out.size).below hb4 (Nat.le_refl _))
  have z0 := HRB4.out.c0
  have z1 := HRB4.out.c1
  have hw34 := HB5.out.size
  have HPk := Lib.hid (fun (w8 : World) (v8 : Value) (cs8 : List (Value × JRule)) => with_pack (w := w) (w8 := w8) (n := n') (m := m') (v8 := v8) (cs8 := cs8) hbw hRw hw34)
  have hz4 : w.heap.size ≤ (w4.alloc (.cells #[.int .i64 n', .int .i64 m', .slice wa csw.length wc] 25)).heap.size := by have := hbw.size; simp; omega
  clear hRw hbw hcsw hb4 k0 k1 k2
  go_wp2_with (at_builtin; refine append_rule1 rfl _ _ rfl w.heap.size (.slice wa csw.length wc) csw _ r1 r1.gives rfl rfl (w4.heap.size + 1) (by simp) rfl HR4.out HO4.out (by omega) hz4 _ (Below.refl _ _) ?_; intro v8 w8 hrow8 hbl8 hb8; obtain ⟨xa, xc, hv8⟩ := hrow8.shape; subst hv8; obtain ⟨e1, e2, hbW, hTW, hRW⟩ := HPk.out w8 _ _ hbl8 hb8 hrow8; simp only [List.length_append, List.length_cons, List.length_nil, Nat.zero_add] at e1 e2 hbW hTW hRW ⊢; have HBW := Lib.hid hbW; have HTW := Lib.hid hTW; have HRW := Lib.hid hRW; have HE8 := Lib.hid (HE1b.out.below hbW (Nat.le_refl _)); have k0 := HE8.out.1.c0; have k1 := HE8.out.1.c1; clear hrow8 hbl8 hb8 hbW hTW hRW)
  obtain ⟨W8, hW8⟩ : ∃ W, W = w8.setCell ⟨w4.heap.size, 2, none⟩ (.slice xa (csw.length + 1) xc) := ⟨_, rfl⟩
  have hz8 : w8.heap.size = W8.heap.size := by rw [hW8]; simp
  obtain ⟨T3, hT3⟩ : ∃ T, T = w4.heap.size := ⟨_, rfl⟩
  rw [← hT3] at hW8 HTW HRW HBW HE8 ⊢
  rw [← hW8] at HTW HRW HBW HE8 ⊢
  rw [hz8]
  clear e1 e2 k0 k1 z0 z1 hz8 hW8 hT3 hz4 HR4 HO4 HRB4 HB34 HPk
  have HRB8 := Lib.hid (HRB.out.below HBW.out HRB.out.lt)
  have HO8 := Lib.hid (HO1b.out.below HBW.out (Nat.le_refl _))
  have HB8 := Lib.hid (HB5.out.trans (HBW.out.mono HB5.out.size))
  have HT8 := Lib.hid (HT.out.below HB8.out HT.out.2)
  clear HBW HRB HO1b HB5 HE1b HE1a HE1 HO1 HBx HMade HMade1
  have hTI0 : TurnI W8 n' m' [] (.slice none 0 0) (W8.alloc (.cells #[.int .i64 n', .int .i64 m', .slice none 0 0] 25)) := ⟨RowR.nil _ _, fun g h => (by cases h), ThBox.new _ _ _ _, (Below.refl _ _).alloc (Nat.le_refl _) _⟩
  have HTI0 := Lib.hid hTI0
  clear hTI0
  have hcr : cs0.length = rs.length := by rw [← HC0.out, List.length_map]
  generalize hN' : cs0.length = N' at *
  have HN' := Lib.hid hN'
  have HCr := Lib.hid hcr
  clear hN' hcr
  obtain ⟨pp, hpp⟩ : ∃ pp : Nat, 1 ≤ N' → pickZ turn (N' : Int) = pp ∧ pp < N' := by
    by_cases h1 : 1 ≤ N'
    · obtain ⟨S, hS1, hS2⟩ := pick_nat turn h1
      exact ⟨S, fun _ => ⟨hS1, hS2⟩⟩
    · exact ⟨0, fun h => absurd h h1⟩
  have HPp := Lib.hid hpp
  clear hpp
  go_loopw [23] (fun i wr => ∃ (j : Nat) (v : Value) (cs : List (Value × JRule)), j ≤ N' ∧ i = .int .i64 j ∧ TurnI W8 n' m' cs v wr ∧ Hid (cs.map (·.2) = rotL rs pp j)) (fun i _ => N' - (intOf i).toNat)
  case atStart => exact ⟨0, _, [], Nat.zero_le _, rfl, HTI0.out, rfl⟩
  case round =>
    obtain ⟨j, tv, tcs, hj, rfl, hTI, HTc⟩ := hrel
    have hE := HE8.out.below hTI.2.2.2 (Nat.le_refl _)
    have k2 := hE.1.c2
    have HTI := Lib.hid hTI
    have HE := Lib.hid hE
    obtain ⟨ta, tc, htv⟩ := hTI.1.shape
    subst htv
    clear hTI hE HTI0
    by_cases hlt : j < N'
    · obtain ⟨hpp1, hpp2⟩ := HPp.out (by omega)
      obtain ⟨q, hq⟩ : ∃ q, q = (j + pp) % N' := ⟨_, rfl⟩
      have hqN : q < N' := by rw [hq]; exact Nat.mod_lt _ (by omega)
      have HRl : Hid (rotL rs pp (j + 1) = rotL rs pp j ++ [rs.getD q default]) := by
        show _ = _
        rw [rotL_succ, ← HCr.out, ← hq]
      have hq1 : ((j : Int) + (pp : Int)) % (N' : Int) = (q : Int) := by rw [hq]; push_cast; rfl
      have Hq1 := Lib.hid hq1
      obtain ⟨g1, hg1, hg2, hg3, nv, r, hcq, y0, y1, hon⟩ := HE.out.2.at q (by rw [HN'.out]; exact hqN)
      subst hg1
      have hrq : rs.getD q default = r := by rw [← HC0.out]; simp [List.getD_eq_getElem?_getD, hcq]
      rw [hrq] at HRl
      obtain ⟨na, nc, hnv⟩ := hon.shape
      subst hnv
      have HPick := Lib.hid (fun (W : World) => g_pick HTurnB.out (show 1 ≤ N' by omega) (show N' ≤ 4294967296 by omega) hpp1 W)
      have HOn := Lib.hid (hon.mono (Nat.zero_le _))
      have htl : tcs.length < 1000 := by have := congrArg List.length HTc.out; rw [List.length_map, rotL_length] at this; omega
      have HLt : Hid (∀ g, (Value.slice ta tcs.length tc).ownBlock = some g → W8.heap.size < g ∧ g < wr.heap.size) := fun g hg => ⟨HTI.out.2.1 g hg, (World.ownsRow.lt HTI.out.1.1 g hg).2⟩
      have hTl := HTI.out.2.2.1.c2
      have HQ1 := Lib.hid hTl
      have h8 := HTI.out.2.2.2.size
      have hTI8l := HTI.out.2.2.1.lt
      have hT1l := HE8.out.1.lt
      have hg1l : g1 < W8.heap.size := by
        obtain ⟨g', hg', hg2', _⟩ := HE8.out.2.at q (by rw [HN'.out]; exact hqN)
        cases hg'
        exact hg2'
      have hne0 : some W8.heap.size ≠ (Value.slice ta tcs.length tc).ownBlock := fun h => by have := HLt.out _ h.symm; omega
      have hne1 : some T1 ≠ (Value.slice ta tcs.length tc).ownBlock := fun h => by have := HLt.out _ h.symm; omega
      have hne2 : some g1 ≠ (Value.slice ta tcs.length tc).ownBlock := fun h => by have := HLt.out _ h.symm; omega
      have HQ : Hid (∀ W, wr.grownBy W (Value.slice ta tcs.length tc).ownBlock → W.cell? ⟨W8.heap.size, 2, none⟩ = some (.slice ta tcs.length tc) ∧ W.cell? ⟨T1, 2, none⟩ = some (.slice (some ⟨g1, 0, none⟩) N' rc) ∧ W.cell? ⟨g1, q * 2, none⟩ = some (.slice na r.needs.length nc) ∧ W.cell? ⟨g1, q * 2 + 1, none⟩ = some (.int .i64 r.gives)) := fun W hW => ⟨hW.cell hTl hne0, hW.cell k2 hne1, hW.cell y0 hne2, hW.cell y1 hne2⟩
      have HOw : Hid (∀ W, wr.grownBy W (Value.slice ta tcs.length tc).ownBlock → OwnI 0 W (.slice na r.needs.length nc) r.needs) := fun W hW => HOn.out.kept HTI.out.1.1 (by decide) hW
      have jj : (j : Int) < (N' : Int) := by omega
      have j0 : 0 ≤ (j : Int) := by omega
      have qq : (q : Int) < (N' : Int) := by omega
      have q0 : 0 ≤ (q : Int) := by omega
      have pq : (pp : Int) < (N' : Int) := by omega
      clear hne0 hne1 hne2 y0 y1 hTl hpp1 hq1 hq hrq hcq hon hg2
      go_wp2
      clear k2
      refine wp_region_calm ⟨[1, 9, 17, 18], TurnF wr.heap.size (.slice ta tcs.length tc) tcs (.slice na r.needs.length nc) r pp, fun k => if k = 18 then [1] else [], 1, (Value.slice ta tcs.length tc).ownBlock, 20⟩ (by kernel_rfl) (by kernel_rfl) (by kernel_rfl) (fun g h => (HLt.out g h).2) (fun k hk v W W' c h hg hc => turnF_kept hk h hg hc) ?_
      iterate 1 (refine calm_quiet (v := ?_) (by rfl) (by rfl) (fun W hW hD => ?_) ?_; rotate_left; (· (obtain ⟨z0, z1, z2, z3⟩ := HQ.out W hW; clear hD hW; go_simp; try with_reducible rfl)); simp only [Act.put, List.setIfInBounds_toArray, List.set_cons_zero, List.set_cons_succ, Nat.reduceAdd, Nat.zero_add])
      refine calm_makes (by rfl) (by rfl) (fun W hW hD K hK => ?_) (fun v90 => ?_)
      · have hWn : wr.grownBy W none := hW
        have z1 := grown_cell0 hWn HQ1.out
        refine wp_of_run (v := .slice ta tcs.length tc) (w' := W) ?_ (hK _ _ ⟨⟨rfl, HTI.out.1.below (grown_below hWn) (Nat.le_refl _)⟩, ⟨none, ⟨rfl, rfl, rfl, Nat.le_refl _, fun _ _ _ => rfl⟩, .inl rfl⟩, fun g hg => ⟨Nat.lt_of_lt_of_le (HLt.out g hg).2 hWn.size, .inr (.inr ⟨rfl, hg⟩)⟩⟩)
        clear hD hW hK hWn
        go_simp
      simp only [Act.put, List.setIfInBounds_toArray, List.set_cons_zero, List.set_cons_succ, Nat.reduceAdd, Nat.zero_add]
      iterate 7 (refine calm_quiet (v := ?_) (by rfl) (by rfl) (fun W hW hD => ?_) ?_; rotate_left; (· (obtain ⟨z0, z1, z2, z3⟩ := HQ.out W hW; clear hD hW; go_simp; try with_reducible rfl)); simp only [Act.put, List.setIfInBounds_toArray, List.set_cons_zero, List.set_cons_succ, Nat.reduceAdd, Nat.zero_add])
      refine calm_makes (by rfl) (by rfl) (fun W hW hD K hK => ?_) (fun v98 => ?_)
      · refine wp_of_call ?_ ((HPick.out W).mono ?_)
        · clear hD hW hK
          go_simp
        · rintro e w' ⟨he, rfl⟩
          exact ⟨_, he, hK _ _ (made_plain rfl (Below.refl _ _) rfl)⟩
      simp only [Act.put, List.setIfInBounds_toArray, List.set_cons_zero, List.set_cons_succ, Nat.reduceAdd, Nat.zero_add]
      refine calm_quiet (v := .int .i64 ((j : Int) + (pp : Int))) (by rfl) (by rfl) (fun W hW hD => ?_) ?_
      · obtain rfl : v98 = .int .i64 pp := hD [] 9 (by kernel_rfl) (by kernel_rfl) (by kernel_rfl)
        clear hD hW
        go_simp
        clear hsh
        exact IntWalk.i64_in _ (by omega)
      simp only [Act.put, List.setIfInBounds_toArray, List.set_cons_zero, List.set_cons_succ, Nat.reduceAdd, Nat.zero_add]
      iterate 3 (refine calm_quiet (v := ?_) (by rfl) (by rfl) (fun W hW hD => ?_) ?_; rotate_left; (· (obtain ⟨z0, z1, z2, z3⟩ := HQ.out W hW; clear hD hW; go_simp; try with_reducible rfl)); simp only [Act.put, List.setIfInBounds_toArray, List.set_cons_zero, List.set_cons_succ, Nat.reduceAdd, Nat.zero_add])
      refine calm_quiet (v := .int .i64 (q : Int)) (by rfl) (by rfl) (fun W hW hD => ?_) ?_
      · clear hD hW
        go_simp
        rw [if_neg (by omega), Int.tmod_eq_emod_of_nonneg (by omega), Hq1.out]
      simp only [Act.put, List.setIfInBounds_toArray, List.set_cons_zero, List.set_cons_succ, Nat.reduceAdd, Nat.zero_add]
      iterate 2 (refine calm_quiet (v := ?_) (by rfl) (by rfl) (fun W hW hD => ?_) ?_; rotate_left; (· (obtain ⟨z0, z1, z2, z3⟩ := HQ.out W hW; clear hD hW; go_simp; try with_reducible rfl)); simp only [Act.put, List.setIfInBounds_toArray, List.set_cons_zero, List.set_cons_succ, Nat.reduceAdd, Nat.zero_add])
      refine calm_makes (by rfl) (by rfl) (fun W hW hD K hK => ?_) (fun v106 => ?_)
      · have hOw := HOw.out W hW
        refine wp_of_run (v := .slice (some ⟨W.heap.size, 0, none⟩) 1 1) (w' := W.alloc (.cells #[.slice na r.needs.length nc, .int .i64 r.gives] 48)) ?_ (hK _ _ (made_below ⟨W.heap.size, rfl, World.alloc_heap_new W _, hOw.below ((Below.refl _ _).alloc (Nat.le_refl _) _) (Nat.le_refl _)⟩ ((Below.refl _ _).alloc (Nat.le_refl _) _) (fun g hg => ?_)))
        · clear hD hW hK hOw
          go_simp
        · have hg' : some W.heap.size = some g := hg
          injection hg' with hg'
          subst hg'
          exact ⟨Nat.le_refl _, by simp⟩
      simp only [Act.put, List.setIfInBounds_toArray, List.set_cons_zero, List.set_cons_succ, Nat.reduceAdd, Nat.zero_add]
      refine calm_makes (by rfl) (by rfl) (fun W hW hD K hK => ?_) (fun v107 => ?_)
      · obtain ⟨hv90, hrow⟩ := show v90 = .slice ta tcs.length tc ∧ RowR 0 W (.slice ta tcs.length tc) tcs from hD [] 1 (by kernel_rfl) (by kernel_rfl) (by kernel_rfl)
        subst hv90
        obtain ⟨g', rfl, hblk, hnv⟩ : ∃ g, v106 = .slice (some ⟨g, 0, none⟩) 1 1 ∧ W.heap[g]? = some (.cells #[.slice na r.needs.length nc, .int .i64 r.gives] 48 (0, 0)) ∧ OwnI 0 W (.slice na r.needs.length nc) r.needs := hD [] 17 (by kernel_rfl) (by kernel_rfl) (by kernel_rfl)
        exact wp_append_R (.tmp 90) (.tmp 106) rfl 0 (.slice ta tcs.length tc) tcs (.slice na r.needs.length nc) r g' rfl rfl hblk hrow hnv htl (Nat.zero_le _) (fun v' w' h1 h2 h3 => hK _ _ (made_grown (j := 1) (u := .slice ta tcs.length tc) (by kernel_rfl) rfl ⟨h1, fun g hg => (grown_own h3 hg).symm.imp id fun h => Nat.le_trans hW.size h⟩ h2 (fun g hg => ⟨(World.ownsRow.lt h1.1 g hg).2, grown_own h3 hg⟩)))
      simp only [Act.put, List.setIfInBounds_toArray, List.set_cons_zero, List.set_cons_succ, Nat.reduceAdd, Nat.zero_add]
      iterate 1 (refine calm_quiet (v := ?_) (by rfl) (by rfl) (fun W hW hD => ?_) ?_; rotate_left; (· (obtain ⟨z0, z1, z2, z3⟩ := HQ.out W hW; clear hD hW; go_simp; try with_reducible rfl)); simp only [Act.put, List.setIfInBounds_toArray, List.set_cons_zero, List.set_cons_succ, Nat.reduceAdd, Nat.zero_add])
      refine calm_tail (by rfl) fun W hW hF => ?_
      have h18c : TurnF wr.heap.size (.slice ta tcs.length tc) tcs (.slice na r.needs.length nc) r pp 18 v107 W := hF 18 (by kernel_rfl) (by kernel_rfl)
      have h18 := h18c.1
      have h18b := h18c.2
      clear h18c
      obtain ⟨e1, e2, HP⟩ := turn_pack HTI.out hW h18 (fun g hg => by
        rcases h18b g hg with h | h
        · exact (HLt.out g h).1
        · have := hTI8l; omega)
      obtain ⟨ya, yc, hv107⟩ := h18.shape
      subst hv107
      clear hF hW h18 h18b
      simp only [List.length_append, List.length_cons, List.length_nil, Nat.zero_add] at HP ⊢
      go_wp2
      go_roundw
      case rel => exact ⟨j + 1, _, tcs ++ [(.slice na r.needs.length nc, r)], by omega, by go_num, HP.out, by show _ = _; rw [HRl.out, List.map_append, HTc.out]; rfl⟩
      case measure => simp [intOf]; omega
    · obtain rfl : j = N' := by omega
      have hTb := HTI.out.2.2.2
      have hB0 := HB8.out.trans (hTb.mono HB8.out.size)
      have hT0 := HT8.out.below hTb HT8.out.2
      have hmap : (csw ++ [(Value.slice na1 r1.needs.length nc1, r1)]).map (·.2) = rs ++ [r1] := by rw [List.map_append, HCw.out]; rfl
      have hru := HTI.out.1.rules
      rw [HTc.out, HCr.out] at hru
      have hrw := (HRW.out.below hTb (Nat.le_refl _)).rules
      rw [hmap] at hrw
      have hMA : MoreA w T1 T2 T3 W8.heap.size n' m' rs (rotL rs pp rs.length) (rs ++ [r1]) (.slice ra j rc) (.slice ta tcs.length tc) (.slice xa (csw.length + 1) xc) (.slice na1 r1.needs.length nc1) r1 wr :=
        ⟨HE.out.law HC0.out hT0 hB0, ⟨HTI.out.2.2.1, hru, hT0, hB0⟩, ⟨HTW.out.below hTb HTW.out.lt, hrw, hT0, hB0⟩, HRB8.out.below hTb HRB8.out.lt, (HO8.out.below hTb (Nat.le_refl _)).ints⟩
      have MA := Lib.hid hMA
      have HGw : Hid (Good n' m' (rs ++ [r1])) := HG.out.of_mem HG1.out (fun r hr => by rcases List.mem_append.1 hr with h | h; exact .inl h; exact .inr h) (by simp; omega)
      have HGu : Hid (Good n' m' (rotL rs pp rs.length)) := HG.out.of_mem HG1.out (fun r hr => .inl ((rotL_mem rs pp r).1 hr)) (by rw [rotL_length]; omega)
      have hSn : S < 2 ^ n' := by rw [HP2.out]; exact HS2.out
      have hPn : Pm < 2 ^ n' := by rw [HP2.out]; exact HPm2.out
      have hSPn : S ||| Pm < 2 ^ n' := or_lt2 hSn hPn
      have HSn := Lib.hid hSn
      have HSPn := Lib.hid hSPn
      have H1lt := HG.out.hd32 hSn
      have H2lt := HG.out.hd32 hSPn
      have H3lt := HGw.out.hd32 hSn
      have Hb1 := Lib.hid (hasZ_sub H1lt H2lt (hd_mono (sub_or S Pm)))
      have Hc1 := Lib.hid (hasZ_sub H1lt H3lt (hd_more (fun r hr => List.mem_append_left _ hr) S))
      have HAdd : Hid ((allZ (listB (hd rs S)) r1.needs = false ∨ hasZ (listB (hd rs S)) r1.gives = true) → listB (hd rs S) = listB (hd (rs ++ [r1]) S)) := fun h => by
        rw [hd_add fun hm => ?_]
        have hnn : ∀ z ∈ r1.needs, 0 ≤ z := fun z hz => (HG1.out.needs r1 (List.mem_singleton.2 rfl) z hz).1
        rcases h with h | h
        · rw [allZ_meets H1lt hnn, hm] at h; cases h
        · have hg0 := (HG1.out.rules.2 r1 (List.mem_singleton.2 rfl)).2.1
          obtain ⟨gk, hgk⟩ := Int.eq_ofNat_of_zero_le hg0
          rw [hgk, hasZ_list _ _ H1lt] at h
          rw [hgk]
          simpa [bitB] using h
      have hor := (i64_or_nat S Pm (by omega) (by omega)).1
      have hl1 := listB_length (hd rs S)
      have HRot := Lib.hid (fun S => hd_rot rs pp S)
      have HSR := Lib.hid (fun k => supp_rot rs pp k)
      have HCR := Lib.hid (fun k => cut_rot rs pp n' k)
      have hnl1 : r1.needs.length ≤ 1000 := by
        have := (valid_good HG1.out.valid).2.2.2 r1 (List.mem_singleton.2 rfl)
        unfold badRule at this
        simp only [Bool.or_eq_false_iff, decide_eq_false_iff_not] at this
        omega
      have HHolds := Lib.hid (fun (W : World) (rv : Value) (T : Nat) (S : Nat) (h : LawI w T n' m' rs rv W) (hS : S < 2 ^ n') => g_holds HG.out h hS)
      have HHolds2 := Lib.hid (fun (W : World) (rv : Value) (T : Nat) (S : Nat) (h : LawI w T n' m' (rotL rs pp rs.length) rv W) (hS : S < 2 ^ n') => g_holds HGu.out h hS)
      have HHolds3 := Lib.hid (fun (W : World) (rv : Value) (T : Nat) (S : Nat) (h : LawI w T n' m' (rs ++ [r1]) rv W) (hS : S < 2 ^ n') => g_holds HGw.out h hS)
      have HSup := Lib.hid (fun (W : World) (rv : Value) (T : Nat) (h : LawI w T n' m' rs rv W) => g_supp HG.out h HK2.out)
      have HSup2 := Lib.hid (fun (W : World) (rv : Value) (T : Nat) (h : LawI w T n' m' (rotL rs pp rs.length) rv W) => g_supp HGu.out h HK2.out)
      have HCut := Lib.hid (fun (W : World) (rv : Value) (T : Nat) (h : LawI w T n' m' rs rv W) => g_cuts HG.out h HK2.out)
      have HCut2 := Lib.hid (fun (W : World) (rv : Value) (T : Nat) (h : LawI w T n' m' (rotL rs pp rs.length) rv W) => g_cuts HGu.out h HK2.out)
      clear hTb hB0 hT0 hmap hru hrw hMA hSn hPn hSPn H1lt H2lt H3lt k2
      simp only [HRot.out] at HHolds2
      simp only [HSR.out] at HSup2
      simp only [HCR.out] at HCut2
      generalize leastI n' (suppP rs K) = ls at *
      generalize leastI n' (cutP rs n' K) = lu at *
      have k0 := MA.out.1.1.c0
      have k1 := MA.out.1.1.c1
      have k2 := MA.out.1.1.c2
      have u0 := MA.out.2.1.1.c0
      have u1 := MA.out.2.1.1.c1
      have u2 := MA.out.2.1.1.c2
      have p0 := MA.out.2.2.1.1.c0
      have p1 := MA.out.2.2.1.1.c1
      have p2 := MA.out.2.2.1.1.c2
      have o0 := MA.out.2.2.2.1.c0
      have o1 := MA.out.2.2.2.1.c1
      go_wp2_with fail
      refine (HHolds.out _ _ _ S MA.out.1 HSn.out).mono ?_
      clear k0 k1 k2 u0 u1 u2 p0 p1 p2 o0 o1
      rintro e X1 ⟨va1, rfl, hi1, hb1⟩
      obtain ⟨Aa, Ac, hs1, Ah1, Ah2⟩ := hi1.shape
      subst hs1
      unfold maxLen at Ah2
      replace MA := Lib.hid (MA.out.below hb1)
      have IA := Lib.hid hi1
      clear hi1 hb1
      have k0 := MA.out.1.1.c0
      have k1 := MA.out.1.1.c1
      have k2 := MA.out.1.1.c2
      have u0 := MA.out.2.1.1.c0
      have u1 := MA.out.2.1.1.c1
      have u2 := MA.out.2.1.1.c2
      have p0 := MA.out.2.2.1.1.c0
      have p1 := MA.out.2.2.1.1.c1
      have p2 := MA.out.2.2.1.1.c2
      have o0 := MA.out.2.2.2.1.c0
      have o1 := MA.out.2.2.2.1.c1
      go_wp2
      have HK0 := Lib.hid k0
      have HK1 := Lib.hid k1
      have HKk2 := Lib.hid k2
      clear k0 k1 k2 u0 u1 u2 p0 p1 p2 o0 o1
      refine wp_region_calm ⟨[6, 8], MoreF Pm (listB (hd rs (S ||| Pm))), fun _ => [], 99, none, 1000⟩ (by kernel_rfl) (by kernel_rfl) (by kernel_rfl) (fun g h => by cases h) (fun k _ v W W' c h hg hc => moreF_kept h (by
        cases c with
        | none => exact hg
        | some g => obtain ⟨_, _, i, j, u, hh, _⟩ := hc g rfl; cases hh)) ?_
      iterate 5 (refine calm_quiet (v := ?_) (by rfl) (by rfl) (fun W hW hD => ?_) ?_; rotate_left; (· (have z0 := grown_cell0 hW HK0.out; have z1 := grown_cell0 hW HK1.out; have z2 := grown_cell0 hW HKk2.out; clear hD hW; go_simp; try with_reducible rfl)); simp only [Act.put, List.setIfInBounds_toArray, List.set_cons_zero, List.set_cons_succ, Nat.reduceAdd, Nat.zero_add])
      refine calm_quiet (v := .int .i64 (P : Int)) (by rfl) (by rfl) (fun W hW hD => ?_) ?_
      · clear hD hW
        go_simp
        rw [show (2 : Int) ^ n' = (P : Int) from by rw [← HP2.out]; push_cast; rfl]
        clear hsh hor
        exact IntWalk.i64_in _ (by omega)
      simp only [Act.put, List.setIfInBounds_toArray, List.set_cons_zero, List.set_cons_succ, Nat.reduceAdd, Nat.zero_add]
      refine calm_makes (by rfl) (by rfl) (fun W hW hD K hK => ?_) (fun v122 => ?_)
      · refine wp_of_call ?_ ((HPM.out W).mono ?_)
        · clear hD hW hK
          go_simp
        · rintro e w' ⟨he, rfl⟩
          exact ⟨_, he, hK _ _ (made_plain rfl (Below.refl _ _) rfl)⟩
      simp only [Act.put, List.setIfInBounds_toArray, List.set_cons_zero, List.set_cons_succ, Nat.reduceAdd, Nat.zero_add]
      refine calm_quiet (v := .int .i64 ((S ||| Pm : Nat) : Int)) (by rfl) (by rfl) (fun W hW hD => ?_) ?_
      · obtain rfl : v122 = .int .i64 Pm := hD [] 6 (by kernel_rfl) (by kernel_rfl) (by kernel_rfl)
        clear hD hW
        go_simp
      simp only [Act.put, List.setIfInBounds_toArray, List.set_cons_zero, List.set_cons_succ, Nat.reduceAdd, Nat.zero_add]
      refine calm_makes (by rfl) (by rfl) (fun W hW hD K hK => ?_) (fun v124 => ?_)
      · have hbW := grown_below hW
        refine wp_of_call ?_ ((HHolds.out W _ _ (S ||| Pm) (MA.out.1.below hbW) HSPn.out).mono ?_)
        · clear hD hW hK hbW
          go_simp
          try rfl
        · rintro e w' ⟨sv, he, hi, hb⟩
          exact ⟨_, he, hK _ _ (made_plain ⟨sv, rfl, hi⟩ hb rfl)⟩
      simp only [Act.put, List.setIfInBounds_toArray, List.set_cons_zero, List.set_cons_succ, Nat.reduceAdd, Nat.zero_add]
      iterate 1 (refine calm_quiet (v := ?_) (by rfl) (by rfl) (fun W hW hD => ?_) ?_; rotate_left; (· (clear hD hW; go_simp; try with_reducible rfl)); simp only [Act.put, List.setIfInBounds_toArray, List.set_cons_zero, List.set_cons_succ, Nat.reduceAdd, Nat.zero_add])
      refine calm_quiet (v := tupAt v124 0) (by rfl) (by rfl) (fun W hW hD => ?_) ?_
      · obtain ⟨sv, rfl, _⟩ : ∃ sv, v124 = .tuple #[sv, .int .i64 0] ∧ IntsAt W.heap.size W sv (listB (hd rs (S ||| Pm))) := hD [9] 8 (by kernel_rfl) (by kernel_rfl) (by kernel_rfl)
        clear hD hW
        go_simp
        try rfl
      simp only [Act.put, List.setIfInBounds_toArray, List.set_cons_zero, List.set_cons_succ, Nat.reduceAdd, Nat.zero_add]
      refine calm_quiet (v := tupAt v124 1) (by rfl) (by rfl) (fun W hW hD => ?_) ?_
      · obtain ⟨sv, rfl, _⟩ : ∃ sv, v124 = .tuple #[sv, .int .i64 0] ∧ IntsAt W.heap.size W sv (listB (hd rs (S ||| Pm))) := hD [9] 8 (by kernel_rfl) (by kernel_rfl) (by kernel_rfl)
        clear hD hW
        go_simp
        try rfl
      simp only [Act.put, List.setIfInBounds_toArray, List.set_cons_zero, List.set_cons_succ, Nat.reduceAdd, Nat.zero_add]
      iterate 2 (refine calm_quiet (v := ?_) (by rfl) (by rfl) (fun W hW hD => ?_) ?_; rotate_left; (· (clear hD hW; go_simp; try with_reducible rfl)); simp only [Act.put, List.setIfInBounds_toArray, List.set_cons_zero, List.set_cons_succ, Nat.reduceAdd, Nat.zero_add])
      refine calm_nil fun X2 hX2 hF => ?_
      obtain ⟨vb2, rfl, hi2⟩ : ∃ sv, v124 = .tuple #[sv, .int .i64 0] ∧ IntsAt X2.heap.size X2 sv (listB (hd rs (S ||| Pm))) := hF 8 (by kernel_rfl) (by kernel_rfl)
      rw [show tupAt (.tuple #[vb2, .int .i64 0]) 0 = vb2 from rfl, show tupAt (.tuple #[vb2, .int .i64 0]) 1 = .int .i64 0 from rfl]
      obtain ⟨Ba, Bc, hs2, Bh1, Bh2⟩ := hi2.shape
      subst hs2
      unfold maxLen at Bh2
      have hbX2 := grown_below hX2
      replace MA := Lib.hid (MA.out.below hbX2)
      replace IA := Lib.hid (IA.out.later hbX2 (Nat.le_refl _))
      have IB := Lib.hid hi2
      clear hX2 hbX2 hi2 hF HK0 HK1 HKk2
      generalize listB (hd rs (S ||| Pm)) = lb at *
      have k0 := MA.out.1.1.c0
      have k1 := MA.out.1.1.c1
      have k2 := MA.out.1.1.c2
      have u0 := MA.out.2.1.1.c0
      have u1 := MA.out.2.1.1.c1
      have u2 := MA.out.2.1.1.c2
      have p0 := MA.out.2.2.1.1.c0
      have p1 := MA.out.2.2.1.1.c1
      have p2 := MA.out.2.2.1.1.c2
      have o0 := MA.out.2.2.2.1.c0
      have o1 := MA.out.2.2.2.1.c1
      go_wp2_with fail
      refine (HHolds3.out _ _ _ S MA.out.2.2.1 HSn.out).mono ?_
      clear k0 k1 k2 u0 u1 u2 p0 p1 p2 o0 o1
      rintro e X3 ⟨va3, rfl, hi3, hb3⟩
      obtain ⟨Ca, Cc, hs3, Ch1, Ch2⟩ := hi3.shape
      subst hs3
      unfold maxLen at Ch2
      replace MA := Lib.hid (MA.out.below hb3)
      replace IA := Lib.hid (IA.out.later hb3 (Nat.le_refl _))
      replace IB := Lib.hid (IB.out.later hb3 (Nat.le_refl _))
      have IC := Lib.hid hi3
      clear hi3 hb3
      have k0 := MA.out.1.1.c0
      have k1 := MA.out.1.1.c1
      have k2 := MA.out.1.1.c2
      have u0 := MA.out.2.1.1.c0
      have u1 := MA.out.2.1.1.c1
      have u2 := MA.out.2.1.1.c2
      have p0 := MA.out.2.2.1.1.c0
      have p1 := MA.out.2.2.1.1.c1
      have p2 := MA.out.2.2.1.1.c2
      have o0 := MA.out.2.2.2.1.c0
      have o1 := MA.out.2.2.2.1.c1
      go_wp2_with fail
      refine (HHolds2.out _ _ _ S MA.out.2.1 HSn.out).mono ?_
      clear k0 k1 k2 u0 u1 u2 p0 p1 p2 o0 o1
      rintro e X4 ⟨va4, rfl, hi4, hb4⟩
      obtain ⟨Da, Dc, hs4, Dh1, Dh2⟩ := hi4.shape
      subst hs4
      unfold maxLen at Dh2
      replace MA := Lib.hid (MA.out.below hb4)
      replace IA := Lib.hid (IA.out.later hb4 (Nat.le_refl _))
      replace IB := Lib.hid (IB.out.later hb4 (Nat.le_refl _))
      replace IC := Lib.hid (IC.out.later hb4 (Nat.le_refl _))
      have ID := Lib.hid hi4
      clear hi4 hb4
      have k0 := MA.out.1.1.c0
      have k1 := MA.out.1.1.c1
      have k2 := MA.out.1.1.c2
      have u0 := MA.out.2.1.1.c0
      have u1 := MA.out.2.1.1.c1
      have u2 := MA.out.2.1.1.c2
      have p0 := MA.out.2.2.1.1.c0
      have p1 := MA.out.2.2.1.1.c1
      have p2 := MA.out.2.2.1.1.c2
      have o0 := MA.out.2.2.2.1.c0
      have o1 := MA.out.2.2.2.1.c1
      go_wp2_with fail
      generalize listB (hd rs S) = la at *
      generalize listB (hd (rs ++ [r1]) S) = lc at *
      refine (ints_any _ _ la la _ IA.out ID.out).mono ?_
      rintro e X5 ⟨rfl, hb5⟩
      rw [beq_self_eq_true]
      replace MA := Lib.hid (MA.out.below hb5)
      replace IA := Lib.hid (IA.out.later hb5 (Nat.le_refl _))
      replace IB := Lib.hid (IB.out.later hb5 (Nat.le_refl _))
      replace IC := Lib.hid (IC.out.later hb5 (Nat.le_refl _))
      replace ID := Lib.hid (ID.out.later hb5 (Nat.le_refl _))
      clear hb5
      clear k0 k1 k2 u0 u1 u2 p0 p1 p2 o0 o1
      have k0 := MA.out.1.1.c0
      have k1 := MA.out.1.1.c1
      have k2 := MA.out.1.1.c2
      have u0 := MA.out.2.1.1.c0
      have u1 := MA.out.2.1.1.c1
      have u2 := MA.out.2.1.1.c2
      have p0 := MA.out.2.2.1.1.c0
      have p1 := MA.out.2.2.1.1.c1
      have p2 := MA.out.2.2.1.1.c2
      have o0 := MA.out.2.2.2.1.c0
      have o1 := MA.out.2.2.2.1.c1
      clear HHolds HHolds2 HHolds3 HRot HSR HCR hor
      generalize hnl : r1.needs.length = nl at *
      have HNl1 := Lib.hid hnl
      clear hnl
      go_wp2
      go_loop [32, 33] (fun av i => ∃ kk : Nat, kk ≤ nl ∧ i = .int .i64 kk ∧ av = .bool (allZ la (r1.needs.take kk))) (fun _ i => nl - (intOf i).toNat)
      case atStart => exact ⟨0, Nat.zero_le _, rfl, rfl⟩
      case round =>
        obtain ⟨kk, hkk, rfl, rfl⟩ := hrel
        by_cases hkl : kk < nl
        · obtain ⟨bn, on, hae2, _, q2⟩ := MA.out.2.2.2.2.at kk (by rw [HNl1.out]; exact hkl)
          subst hae2
          have HAk := Lib.hid (all_take (fun z => hasZ la z) 0 r1.needs kk (by rw [HNl1.out]; exact hkl))
          have kk2 : (kk : Int) < (nl : Int) := by omega
          generalize r1.needs.getD kk 0 = z at *
          cases hb : allZ la (r1.needs.take kk)
          · have HAk2 : Hid (allZ la (r1.needs.take (kk + 1)) = false) := by
              show _ = _
              have h1 := HAk.out
              unfold allZ at hb ⊢
              rw [h1, hb]; rfl
            go_wp2
            go_round
            case rel => exact ⟨kk + 1, by omega, by go_num, by rw [HAk2.out]⟩
            case measure => simp [intOf]; omega
          · have HAk2 : Hid (allZ la (r1.needs.take (kk + 1)) = hasZ la z) := by
              show _ = _
              have h1 := HAk.out
              unfold allZ at hb ⊢
              rw [h1, hb]; rfl
            go_wp2_with fail
            refine (contains_any _ la z _ IA.out).mono ?_
            rintro e w' ⟨rfl, rfl⟩
            go_wp2
            go_round
            case rel => exact ⟨kk + 1, by omega, by go_num, by rw [HAk2.out]⟩
            case measure => simp [intOf]; omega
        · obtain rfl : kk = nl := by omega
          have hall : allZ la (r1.needs.take kk) = allZ la r1.needs := by rw [List.take_of_length_le (by rw [HNl1.out]; exact Nat.le_refl _)]
          rw [hall]
          clear hall
          cases hAB : allZ la r1.needs
          · have HAC : Hid (la = lc) := HAdd.out (.inl hAB)
            clear hAB
            go_wp2_with fail
            refine (ints_any _ _ la lc _ IA.out IC.out).mono ?_
            clear k0 k1 k2 u0 u1 u2 p0 p1 p2 o0 o1
            rintro e X6 ⟨rfl, hb6⟩
            rw [show (la == lc) = true from by rw [HAC.out]; exact beq_self_eq_true _]
            replace MA := Lib.hid (MA.out.below hb6)
            replace IA := Lib.hid (IA.out.later hb6 (Nat.le_refl _))
            replace IB := Lib.hid (IB.out.later hb6 (Nat.le_refl _))
            replace IC := Lib.hid (IC.out.later hb6 (Nat.le_refl _))
            clear hb6
            have k0 := MA.out.1.1.c0
            have k1 := MA.out.1.1.c1
            have k2 := MA.out.1.1.c2
            have u0 := MA.out.2.1.1.c0
            have u1 := MA.out.2.1.1.c1
            have u2 := MA.out.2.1.1.c2
            have p0 := MA.out.2.2.1.1.c0
            have p1 := MA.out.2.2.1.1.c1
            have p2 := MA.out.2.2.1.1.c2
            have o0 := MA.out.2.2.2.1.c0
            have o1 := MA.out.2.2.2.1.c1
            go_wp2
            generalize hln : la.length = ln at *
            have HLn := Lib.hid hln
            clear hln
            go_loop [34] (fun i => ∃ kz : Nat, kz ≤ ln ∧ i = .int .i64 kz) (fun i => ln - (intOf i).toNat)
            case atStart => exact ⟨0, Nat.zero_le _, rfl⟩
            case round =>
              obtain ⟨kz, hkz, rfl⟩ := hrel
              by_cases hkl3 : kz < ln
              · obtain ⟨ba, oa3, hae3, _, q3⟩ := IA.out.at kz (by rw [HLn.out]; exact hkl3)
                subst hae3
                have hm3 := getD_mem la 0 kz (by rw [HLn.out]; exact hkl3)
                have HB3 := Lib.hid (Hb1.out _ hm3)
                have HC3 := Lib.hid (Hc1.out _ hm3)
                have kk3 : (kz : Int) < (ln : Int) := by omega
                clear hm3
                generalize la.getD kz 0 = z3 at *
                go_wp2_with fail
                refine (contains_any _ lb z3 _ IB.out).mono ?_
                rintro e w' ⟨rfl, rfl⟩
                rw [HB3.out]
                go_wp2_with fail
                refine (contains_any _ lc z3 _ IC.out).mono ?_
                rintro e w' ⟨rfl, rfl⟩
                rw [HC3.out]
                go_wp2
                go_round
                case rel => exact ⟨kz + 1, by omega, by go_num⟩
                case measure => simp [intOf]; omega
              · obtain rfl : kz = ln := by omega
                go_wp2_with fail
                refine (HSup.out _ _ _ MA.out.1).mono ?_
                clear k0 k1 k2 u0 u1 u2 p0 p1 p2 o0 o1
                rintro e Y1 ⟨vP, rfl, hi11, hb11⟩
                obtain ⟨Pa, Pc, hs11, Ph1, Ph2⟩ := hi11.shape
                subst hs11
                unfold maxLen at Ph2
                replace MA := Lib.hid (MA.out.below hb11)
                have IP := Lib.hid hi11
                clear hi11 hb11
                have k0 := MA.out.1.1.c0
                have k1 := MA.out.1.1.c1
                have k2 := MA.out.1.1.c2
                have u0 := MA.out.2.1.1.c0
                have u1 := MA.out.2.1.1.c1
                have u2 := MA.out.2.1.1.c2
                have p0 := MA.out.2.2.1.1.c0
                have p1 := MA.out.2.2.1.1.c1
                have p2 := MA.out.2.2.1.1.c2
                have o0 := MA.out.2.2.2.1.c0
                have o1 := MA.out.2.2.2.1.c1
                go_wp2_with fail
                refine (HSup2.out _ _ _ MA.out.2.1).mono ?_
                clear k0 k1 k2 u0 u1 u2 p0 p1 p2 o0 o1
                rintro e Y2 ⟨vQ, rfl, hi12, hb12⟩
                obtain ⟨Qa, Qc, hs12, Qh1, Qh2⟩ := hi12.shape
                subst hs12
                unfold maxLen at Qh2
                replace MA := Lib.hid (MA.out.below hb12)
                replace IP := Lib.hid (IP.out.later hb12 (Nat.le_refl _))
                have IQ := Lib.hid hi12
                clear hi12 hb12
                have k0 := MA.out.1.1.c0
                have k1 := MA.out.1.1.c1
                have k2 := MA.out.1.1.c2
                have u0 := MA.out.2.1.1.c0
                have u1 := MA.out.2.1.1.c1
                have u2 := MA.out.2.1.1.c2
                have p0 := MA.out.2.2.1.1.c0
                have p1 := MA.out.2.2.1.1.c1
                have p2 := MA.out.2.2.1.1.c2
                have o0 := MA.out.2.2.2.1.c0
                have o1 := MA.out.2.2.2.1.c1
                go_wp2_with fail
                refine (HCut.out _ _ _ MA.out.1).mono ?_
                clear k0 k1 k2 u0 u1 u2 p0 p1 p2 o0 o1
                rintro e Y3 ⟨vR, rfl, hi13, hb13⟩
                obtain ⟨Ra, Rc, hs13, Rh1, Rh2⟩ := hi13.shape
                subst hs13
                unfold maxLen at Rh2
                replace MA := Lib.hid (MA.out.below hb13)
                replace IP := Lib.hid (IP.out.later hb13 (Nat.le_refl _))
                replace IQ := Lib.hid (IQ.out.later hb13 (Nat.le_refl _))
                have IR := Lib.hid hi13
                clear hi13 hb13
                have k0 := MA.out.1.1.c0
                have k1 := MA.out.1.1.c1
                have k2 := MA.out.1.1.c2
                have u0 := MA.out.2.1.1.c0
                have u1 := MA.out.2.1.1.c1
                have u2 := MA.out.2.1.1.c2
                have p0 := MA.out.2.2.1.1.c0
                have p1 := MA.out.2.2.1.1.c1
                have p2 := MA.out.2.2.1.1.c2
                have o0 := MA.out.2.2.2.1.c0
                have o1 := MA.out.2.2.2.1.c1
                go_wp2_with fail
                refine (HCut2.out _ _ _ MA.out.2.1).mono ?_
                clear k0 k1 k2 u0 u1 u2 p0 p1 p2 o0 o1
                rintro e Y4 ⟨vS, rfl, hi14, hb14⟩
                obtain ⟨Sa, Sc, hs14, Sh1, Sh2⟩ := hi14.shape
                subst hs14
                unfold maxLen at Sh2
                replace MA := Lib.hid (MA.out.below hb14)
                replace IP := Lib.hid (IP.out.later hb14 (Nat.le_refl _))
                replace IQ := Lib.hid (IQ.out.later hb14 (Nat.le_refl _))
                replace IR := Lib.hid (IR.out.later hb14 (Nat.le_refl _))
                have IS := Lib.hid hi14
                clear hi14 hb14
                have k0 := MA.out.1.1.c0
                have k1 := MA.out.1.1.c1
                have k2 := MA.out.1.1.c2
                have u0 := MA.out.2.1.1.c0
                have u1 := MA.out.2.1.1.c1
                have u2 := MA.out.2.1.1.c2
                have p0 := MA.out.2.2.1.1.c0
                have p1 := MA.out.2.2.1.1.c1
                have p2 := MA.out.2.2.1.1.c2
                have o0 := MA.out.2.2.2.1.c0
                have o1 := MA.out.2.2.2.1.c1
                go_wp2_with fail
                refine (ints_any _ _ ls ls _ IP.out IQ.out).mono ?_
                rintro e Y5 ⟨rfl, hb15⟩
                rw [beq_self_eq_true]
                replace MA := Lib.hid (MA.out.below hb15)
                replace IR := Lib.hid (IR.out.later hb15 (Nat.le_refl _))
                replace IS := Lib.hid (IS.out.later hb15 (Nat.le_refl _))
                clear hb15 k0 k1 k2 u0 u1 u2 p0 p1 p2 o0 o1
                go_wp2_with fail
                refine (ints_any _ _ lu lu _ IR.out IS.out).mono ?_
                rintro e Y6 ⟨rfl, hb16⟩
                rw [beq_self_eq_true]
                replace MA := Lib.hid (MA.out.below hb16)
                clear hb16
                go_wp2
                go_ret
                exact ⟨rfl, MA.out.1.2.2.2⟩
          · cases hGV : hasZ la r1.gives
            · have HGV := Lib.hid hGV
              clear hAB hGV
              go_wp2_with fail
              refine (contains_any _ la r1.gives _ IA.out).mono ?_
              rintro e w' ⟨rfl, rfl⟩
              rw [HGV.out]
              go_wp2
              generalize hln : la.length = ln at *
              have HLn := Lib.hid hln
              clear hln
              go_loop [34] (fun i => ∃ kz : Nat, kz ≤ ln ∧ i = .int .i64 kz) (fun i => ln - (intOf i).toNat)
              case atStart => exact ⟨0, Nat.zero_le _, rfl⟩
              case round =>
                obtain ⟨kz, hkz, rfl⟩ := hrel
                by_cases hkl3 : kz < ln
                · obtain ⟨ba, oa3, hae3, _, q3⟩ := IA.out.at kz (by rw [HLn.out]; exact hkl3)
                  subst hae3
                  have hm3 := getD_mem la 0 kz (by rw [HLn.out]; exact hkl3)
                  have HB3 := Lib.hid (Hb1.out _ hm3)
                  have HC3 := Lib.hid (Hc1.out _ hm3)
                  have kk3 : (kz : Int) < (ln : Int) := by omega
                  clear hm3
                  generalize la.getD kz 0 = z3 at *
                  go_wp2_with fail
                  refine (contains_any _ lb z3 _ IB.out).mono ?_
                  rintro e w' ⟨rfl, rfl⟩
                  rw [HB3.out]
                  go_wp2_with fail
                  refine (contains_any _ lc z3 _ IC.out).mono ?_
                  rintro e w' ⟨rfl, rfl⟩
                  rw [HC3.out]
                  go_wp2
                  go_round
                  case rel => exact ⟨kz + 1, by omega, by go_num⟩
                  case measure => simp [intOf]; omega
                · obtain rfl : kz = ln := by omega
                  go_wp2_with fail
                  refine (HSup.out _ _ _ MA.out.1).mono ?_
                  clear k0 k1 k2 u0 u1 u2 p0 p1 p2 o0 o1
                  rintro e Y1 ⟨vP, rfl, hi11, hb11⟩
                  obtain ⟨Pa, Pc, hs11, Ph1, Ph2⟩ := hi11.shape
                  subst hs11
                  unfold maxLen at Ph2
                  replace MA := Lib.hid (MA.out.below hb11)
                  have IP := Lib.hid hi11
                  clear hi11 hb11
                  have k0 := MA.out.1.1.c0
                  have k1 := MA.out.1.1.c1
                  have k2 := MA.out.1.1.c2
                  have u0 := MA.out.2.1.1.c0
                  have u1 := MA.out.2.1.1.c1
                  have u2 := MA.out.2.1.1.c2
                  have p0 := MA.out.2.2.1.1.c0
                  have p1 := MA.out.2.2.1.1.c1
                  have p2 := MA.out.2.2.1.1.c2
                  have o0 := MA.out.2.2.2.1.c0
                  have o1 := MA.out.2.2.2.1.c1
                  go_wp2_with fail
                  refine (HSup2.out _ _ _ MA.out.2.1).mono ?_
                  clear k0 k1 k2 u0 u1 u2 p0 p1 p2 o0 o1
                  rintro e Y2 ⟨vQ, rfl, hi12, hb12⟩
                  obtain ⟨Qa, Qc, hs12, Qh1, Qh2⟩ := hi12.shape
                  subst hs12
                  unfold maxLen at Qh2
                  replace MA := Lib.hid (MA.out.below hb12)
                  replace IP := Lib.hid (IP.out.later hb12 (Nat.le_refl _))
                  have IQ := Lib.hid hi12
                  clear hi12 hb12
                  have k0 := MA.out.1.1.c0
                  have k1 := MA.out.1.1.c1
                  have k2 := MA.out.1.1.c2
                  have u0 := MA.out.2.1.1.c0
                  have u1 := MA.out.2.1.1.c1
                  have u2 := MA.out.2.1.1.c2
                  have p0 := MA.out.2.2.1.1.c0
                  have p1 := MA.out.2.2.1.1.c1
                  have p2 := MA.out.2.2.1.1.c2
                  have o0 := MA.out.2.2.2.1.c0
                  have o1 := MA.out.2.2.2.1.c1
                  go_wp2_with fail
                  refine (HCut.out _ _ _ MA.out.1).mono ?_
                  clear k0 k1 k2 u0 u1 u2 p0 p1 p2 o0 o1
                  rintro e Y3 ⟨vR, rfl, hi13, hb13⟩
                  obtain ⟨Ra, Rc, hs13, Rh1, Rh2⟩ := hi13.shape
                  subst hs13
                  unfold maxLen at Rh2
                  replace MA := Lib.hid (MA.out.below hb13)
                  replace IP := Lib.hid (IP.out.later hb13 (Nat.le_refl _))
                  replace IQ := Lib.hid (IQ.out.later hb13 (Nat.le_refl _))
                  have IR := Lib.hid hi13
                  clear hi13 hb13
                  have k0 := MA.out.1.1.c0
                  have k1 := MA.out.1.1.c1
                  have k2 := MA.out.1.1.c2
                  have u0 := MA.out.2.1.1.c0
                  have u1 := MA.out.2.1.1.c1
                  have u2 := MA.out.2.1.1.c2
                  have p0 := MA.out.2.2.1.1.c0
                  have p1 := MA.out.2.2.1.1.c1
                  have p2 := MA.out.2.2.1.1.c2
                  have o0 := MA.out.2.2.2.1.c0
                  have o1 := MA.out.2.2.2.1.c1
                  go_wp2_with fail
                  refine (HCut2.out _ _ _ MA.out.2.1).mono ?_
                  clear k0 k1 k2 u0 u1 u2 p0 p1 p2 o0 o1
                  rintro e Y4 ⟨vS, rfl, hi14, hb14⟩
                  obtain ⟨Sa, Sc, hs14, Sh1, Sh2⟩ := hi14.shape
                  subst hs14
                  unfold maxLen at Sh2
                  replace MA := Lib.hid (MA.out.below hb14)
                  replace IP := Lib.hid (IP.out.later hb14 (Nat.le_refl _))
                  replace IQ := Lib.hid (IQ.out.later hb14 (Nat.le_refl _))
                  replace IR := Lib.hid (IR.out.later hb14 (Nat.le_refl _))
                  have IS := Lib.hid hi14
                  clear hi14 hb14
                  have k0 := MA.out.1.1.c0
                  have k1 := MA.out.1.1.c1
                  have k2 := MA.out.1.1.c2
                  have u0 := MA.out.2.1.1.c0
                  have u1 := MA.out.2.1.1.c1
                  have u2 := MA.out.2.1.1.c2
                  have p0 := MA.out.2.2.1.1.c0
                  have p1 := MA.out.2.2.1.1.c1
                  have p2 := MA.out.2.2.1.1.c2
                  have o0 := MA.out.2.2.2.1.c0
                  have o1 := MA.out.2.2.2.1.c1
                  go_wp2_with fail
                  refine (ints_any _ _ ls ls _ IP.out IQ.out).mono ?_
                  rintro e Y5 ⟨rfl, hb15⟩
                  rw [beq_self_eq_true]
                  replace MA := Lib.hid (MA.out.below hb15)
                  replace IR := Lib.hid (IR.out.later hb15 (Nat.le_refl _))
                  replace IS := Lib.hid (IS.out.later hb15 (Nat.le_refl _))
                  clear hb15 k0 k1 k2 u0 u1 u2 p0 p1 p2 o0 o1
                  go_wp2_with fail
                  refine (ints_any _ _ lu lu _ IR.out IS.out).mono ?_
                  rintro e Y6 ⟨rfl, hb16⟩
                  rw [beq_self_eq_true]
                  replace MA := Lib.hid (MA.out.below hb16)
                  clear hb16
                  go_wp2
                  go_ret
                  exact ⟨rfl, MA.out.1.2.2.2⟩
            · have HAC : Hid (la = lc) := HAdd.out (.inr hGV)
              have HGV := Lib.hid hGV
              clear hAB hGV
              go_wp2_with fail
              refine (contains_any _ la r1.gives _ IA.out).mono ?_
              rintro e w' ⟨rfl, rfl⟩
              rw [HGV.out]
              go_wp2_with fail
              refine (ints_any _ _ la lc _ IA.out IC.out).mono ?_
              clear k0 k1 k2 u0 u1 u2 p0 p1 p2 o0 o1
              rintro e X6 ⟨rfl, hb6⟩
              rw [show (la == lc) = true from by rw [HAC.out]; exact beq_self_eq_true _]
              replace MA := Lib.hid (MA.out.below hb6)
              replace IA := Lib.hid (IA.out.later hb6 (Nat.le_refl _))
              replace IB := Lib.hid (IB.out.later hb6 (Nat.le_refl _))
              replace IC := Lib.hid (IC.out.later hb6 (Nat.le_refl _))
              clear hb6
              have k0 := MA.out.1.1.c0
              have k1 := MA.out.1.1.c1
              have k2 := MA.out.1.1.c2
              have u0 := MA.out.2.1.1.c0
              have u1 := MA.out.2.1.1.c1
              have u2 := MA.out.2.1.1.c2
              have p0 := MA.out.2.2.1.1.c0
              have p1 := MA.out.2.2.1.1.c1
              have p2 := MA.out.2.2.1.1.c2
              have o0 := MA.out.2.2.2.1.c0
              have o1 := MA.out.2.2.2.1.c1
              go_wp2
              generalize hln : la.length = ln at *
              have HLn := Lib.hid hln
              clear hln
              go_loop [34] (fun i => ∃ kz : Nat, kz ≤ ln ∧ i = .int .i64 kz) (fun i => ln - (intOf i).toNat)
              case atStart => exact ⟨0, Nat.zero_le _, rfl⟩
              case round =>
                obtain ⟨kz, hkz, rfl⟩ := hrel
                by_cases hkl3 : kz < ln
                · obtain ⟨ba, oa3, hae3, _, q3⟩ := IA.out.at kz (by rw [HLn.out]; exact hkl3)
                  subst hae3
                  have hm3 := getD_mem la 0 kz (by rw [HLn.out]; exact hkl3)
                  have HB3 := Lib.hid (Hb1.out _ hm3)
                  have HC3 := Lib.hid (Hc1.out _ hm3)
                  have kk3 : (kz : Int) < (ln : Int) := by omega
                  clear hm3
                  generalize la.getD kz 0 = z3 at *
                  go_wp2_with fail
                  refine (contains_any _ lb z3 _ IB.out).mono ?_
                  rintro e w' ⟨rfl, rfl⟩
                  rw [HB3.out]
                  go_wp2_with fail
                  refine (contains_any _ lc z3 _ IC.out).mono ?_
                  rintro e w' ⟨rfl, rfl⟩
                  rw [HC3.out]
                  go_wp2
                  go_round
                  case rel => exact ⟨kz + 1, by omega, by go_num⟩
                  case measure => simp [intOf]; omega
                · obtain rfl : kz = ln := by omega
                  go_wp2_with fail
                  refine (HSup.out _ _ _ MA.out.1).mono ?_
                  clear k0 k1 k2 u0 u1 u2 p0 p1 p2 o0 o1
                  rintro e Y1 ⟨vP, rfl, hi11, hb11⟩
                  obtain ⟨Pa, Pc, hs11, Ph1, Ph2⟩ := hi11.shape
                  subst hs11
                  unfold maxLen at Ph2
                  replace MA := Lib.hid (MA.out.below hb11)
                  have IP := Lib.hid hi11
                  clear hi11 hb11
                  have k0 := MA.out.1.1.c0
                  have k1 := MA.out.1.1.c1
                  have k2 := MA.out.1.1.c2
                  have u0 := MA.out.2.1.1.c0
                  have u1 := MA.out.2.1.1.c1
                  have u2 := MA.out.2.1.1.c2
                  have p0 := MA.out.2.2.1.1.c0
                  have p1 := MA.out.2.2.1.1.c1
                  have p2 := MA.out.2.2.1.1.c2
                  have o0 := MA.out.2.2.2.1.c0
                  have o1 := MA.out.2.2.2.1.c1
                  go_wp2_with fail
                  refine (HSup2.out _ _ _ MA.out.2.1).mono ?_
                  clear k0 k1 k2 u0 u1 u2 p0 p1 p2 o0 o1
                  rintro e Y2 ⟨vQ, rfl, hi12, hb12⟩
                  obtain ⟨Qa, Qc, hs12, Qh1, Qh2⟩ := hi12.shape
                  subst hs12
                  unfold maxLen at Qh2
                  replace MA := Lib.hid (MA.out.below hb12)
                  replace IP := Lib.hid (IP.out.later hb12 (Nat.le_refl _))
                  have IQ := Lib.hid hi12
                  clear hi12 hb12
                  have k0 := MA.out.1.1.c0
                  have k1 := MA.out.1.1.c1
                  have k2 := MA.out.1.1.c2
                  have u0 := MA.out.2.1.1.c0
                  have u1 := MA.out.2.1.1.c1
                  have u2 := MA.out.2.1.1.c2
                  have p0 := MA.out.2.2.1.1.c0
                  have p1 := MA.out.2.2.1.1.c1
                  have p2 := MA.out.2.2.1.1.c2
                  have o0 := MA.out.2.2.2.1.c0
                  have o1 := MA.out.2.2.2.1.c1
                  go_wp2_with fail
                  refine (HCut.out _ _ _ MA.out.1).mono ?_
                  clear k0 k1 k2 u0 u1 u2 p0 p1 p2 o0 o1
                  rintro e Y3 ⟨vR, rfl, hi13, hb13⟩
                  obtain ⟨Ra, Rc, hs13, Rh1, Rh2⟩ := hi13.shape
                  subst hs13
                  unfold maxLen at Rh2
                  replace MA := Lib.hid (MA.out.below hb13)
                  replace IP := Lib.hid (IP.out.later hb13 (Nat.le_refl _))
                  replace IQ := Lib.hid (IQ.out.later hb13 (Nat.le_refl _))
                  have IR := Lib.hid hi13
                  clear hi13 hb13
                  have k0 := MA.out.1.1.c0
                  have k1 := MA.out.1.1.c1
                  have k2 := MA.out.1.1.c2
                  have u0 := MA.out.2.1.1.c0
                  have u1 := MA.out.2.1.1.c1
                  have u2 := MA.out.2.1.1.c2
                  have p0 := MA.out.2.2.1.1.c0
                  have p1 := MA.out.2.2.1.1.c1
                  have p2 := MA.out.2.2.1.1.c2
                  have o0 := MA.out.2.2.2.1.c0
                  have o1 := MA.out.2.2.2.1.c1
                  go_wp2_with fail
                  refine (HCut2.out _ _ _ MA.out.2.1).mono ?_
                  clear k0 k1 k2 u0 u1 u2 p0 p1 p2 o0 o1
                  rintro e Y4 ⟨vS, rfl, hi14, hb14⟩
                  obtain ⟨Sa, Sc, hs14, Sh1, Sh2⟩ := hi14.shape
                  subst hs14
                  unfold maxLen at Sh2
                  replace MA := Lib.hid (MA.out.below hb14)
                  replace IP := Lib.hid (IP.out.later hb14 (Nat.le_refl _))
                  replace IQ := Lib.hid (IQ.out.later hb14 (Nat.le_refl _))
                  replace IR := Lib.hid (IR.out.later hb14 (Nat.le_refl _))
                  have IS := Lib.hid hi14
                  clear hi14 hb14
                  have k0 := MA.out.1.1.c0
                  have k1 := MA.out.1.1.c1
                  have k2 := MA.out.1.1.c2
                  have u0 := MA.out.2.1.1.c0
                  have u1 := MA.out.2.1.1.c1
                  have u2 := MA.out.2.1.1.c2
                  have p0 := MA.out.2.2.1.1.c0
                  have p1 := MA.out.2.2.1.1.c1
                  have p2 := MA.out.2.2.1.1.c2
                  have o0 := MA.out.2.2.2.1.c0
                  have o1 := MA.out.2.2.2.1.c1
                  go_wp2_with fail
                  refine (ints_any _ _ ls ls _ IP.out IQ.out).mono ?_
                  rintro e Y5 ⟨rfl, hb15⟩
                  rw [beq_self_eq_true]
                  replace MA := Lib.hid (MA.out.below hb15)
                  replace IR := Lib.hid (IR.out.later hb15 (Nat.le_refl _))
                  replace IS := Lib.hid (IS.out.later hb15 (Nat.le_refl _))
                  clear hb15 k0 k1 k2 u0 u1 u2 p0 p1 p2 o0 o1
                  go_wp2_with fail
                  refine (ints_any _ _ lu lu _ IR.out IS.out).mono ?_
                  rintro e Y6 ⟨rfl, hb16⟩
                  rw [beq_self_eq_true]
                  replace MA := Lib.hid (MA.out.below hb16)
                  clear hb16
                  go_wp2
                  go_ret
                  exact ⟨rfl, MA.out.1.2.2.2⟩
end Go.Proofs.YtmihkbiihfhpoaaDoor
