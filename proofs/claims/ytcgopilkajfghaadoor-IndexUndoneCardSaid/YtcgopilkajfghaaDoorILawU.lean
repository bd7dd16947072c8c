/- IndexUndone. -/
import Derived.Test.YtcgopilkajfghaaDoorILaw0
set_option linter.unusedVariables false
set_option linter.unusedSimpArgs false
namespace Go.Proofs.YtcgopilkajfghaaDoor
open Go.RowKit Go.Shelf

set_option maxRecDepth 100000 in
set_option maxHeartbeats 16000000 in
theorem lawU (v : Value) (N : Nat) (f : Nat → Nat → Int) (g : Nat → Int) (fz lz uz : Int) (w : World) (hX : SixAt w.heap.size w v N f) (hg : inAll 5 g) (hfz : inI fz) (hlz : inI lz) (huz : inI uz) (hT : Rounds w) :
    Calls Tryd.prog 5 #[v, .agg #[.int .i64 (g 0), .int .i64 (g 1), .int .i64 (g 2), .int .i64 (g 3), .int .i64 (g 4)], .int .i64 fz, .int .i64 lz, .int .i64 uz] w fun e w' => e = .returned (.bool true) ∧ Below w.heap.size w w' := by
  have hL := ((LiveP.start hT).alloc (.cells #[.int .i64 (g 0), .int .i64 (g 1), .int .i64 (g 2), .int .i64 (g 3), .int .i64 (g 4)] 23)).add (keep_box (box_new w _ _))
  have HX := Lib.hid hX
  have HG := Lib.hid hg
  have hfr := pickZ_bd fz 2100 (by omega)
  have HPf := Lib.hid (fun W => ipick_any fz 2100 W hfz.1 hfz.2 (by omega) (by omega))
  have HPu := Lib.hid (fun W => ipick_any uz 4 W huz.1 huz.2 (by omega) (by omega))
  generalize pickZ fz 2100 = fr at *
  generalize pickZ uz 4 = un at *
  have hpl := pickZ_bd lz (2100 - fr) (by omega)
  have HPl := Lib.hid (fun W => ipick_any lz (2100 - fr) W hlz.1 hlz.2 (by omega) (by omega))
  generalize pickZ lz (2100 - fr) = pl at *
  have HL0 := Lib.hid hL
  have HT0 := Lib.hid hT
  have HZ0 : Hid (w.heap.size ≤ (w.alloc (.cells #[.int .i64 (g 0), .int .i64 (g 1), .int .i64 (g 2), .int .i64 (g 3), .int .i64 (g 4)] 23)).heap.size) := by show _ ≤ _; rw [World.size_alloc]; omega
  clear hL hX hg hfz hlz huz hT
  go_enter Tryd.func5, Tryd.ntmps5
  go_wp2_with fail
  refine (isane_any _ HL0.out.rounds).mono ?_
  rintro e w1 ⟨rfl, hb⟩
  have HZ1 := Lib.hid hb.size
  have HL1 := Lib.hid (HL0.out.step hb)
  clear hb HL0
  go_wp2_with fail
  refine (run_any _ N f _ ((HX.out.below HL1.out.below (Nat.le_refl _)).mono HL1.out.below.size)).mono ?_
  rintro e w2 ⟨S, X, rfl, hi, hb, hS⟩
  have HS := Lib.hid hS
  have HSl := Lib.hid hi.lt
  have HZ2 := Lib.hid hb.size
  have HL2 := Lib.hid ((HL1.out.step hb).add (keep_idx hi))
  clear hb hi hS HL1
  go_wp2_with fail
  refine (run_any _ N f _ ((HX.out.below HL2.out.below (Nat.le_refl _)).mono HL2.out.below.size)).mono ?_
  rintro e w3 ⟨R, Y, rfl, hi, hb, hR⟩
  have HR := Lib.hid hR
  have HRl := Lib.hid hi.lt
  have HZ3 := Lib.hid hb.size
  have HL3 := Lib.hid ((HL2.out.step hb).add (keep_idx hi))
  clear hb hi hR HL2
  have HId : Hid (∀ c ∈ runL f (min N 40), 0 ≤ c.id ∧ c.id < 20) := run_id f _
  have HNo : Hid (∀ z, 20 ≤ z → findC (runL f (min N 40)) z = none) := fun z hz => run_no f _ hz
  have HLn : Hid ((runL f (min N 40)).length ≤ 40) := Nat.le_trans (runL_length f _) (Nat.min_le_right _ _)
  generalize runL f (min N 40) = l at *
  obtain ⟨g0, g1, g2, g3, g4⟩ : w3.cell? ⟨w.heap.size, 0, none⟩ = some (.int .i64 (g 0)) ∧ w3.cell? ⟨w.heap.size, 1, none⟩ = some (.int .i64 (g 1)) ∧ w3.cell? ⟨w.heap.size, 2, none⟩ = some (.int .i64 (g 2)) ∧ w3.cell? ⟨w.heap.size, 3, none⟩ = some (.int .i64 (g 3)) ∧ w3.cell? ⟨w.heap.size, 4, none⟩ = some (.int .i64 (g 4)) := by
    have h := (show (BoxN w.heap.size 23 #[.int .i64 (g 0), .int .i64 (g 1), .int .i64 (g 2), .int .i64 (g 3), .int .i64 (g 4)]) _ from HL3.out.get (by simp))
    exact ⟨BoxN.cell h 0 _ rfl, BoxN.cell h 1 _ rfl, BoxN.cell h 2 _ rfl, BoxN.cell h 3 _ rfl, BoxN.cell h 4 _ rfl⟩
  go_wp2_with fail
  clear g0 g1 g2 g3 g4
  refine (card_any g _ HG.out).mono ?_
  rintro e w4 ⟨rfl, hb⟩
  have HZ4 := Lib.hid hb.size
  have HL4 := Lib.hid (HL3.out.step hb)
  clear hb HL3
  have hok := cardG_ok g
  have HV : Hid (validC ⟨(cardG g).id + 20, (cardG g).unit, (cardG g).kind, (cardG g).beg, (cardG g).fin⟩ = true) := by
    have h := validC_ok hok.1
    show _ = _
    unfold validC inC spellB
    simp only [Bool.and_eq_true, decide_eq_true_eq]
    omega
  have hidb := hok.2
  clear hok
  generalize cardG g = c at *
  have wz : IntKind.i64.wrap (c.id + 20) = c.id + 20 := IntWalk.i64_in _ (by omega)
  have hb6 : Below w4.heap.size w4 (w4.alloc (.cells #[.int .i64 (c.id + 20), .int .i64 c.unit, .int .i64 c.kind, .int .i64 c.beg, .int .i64 c.fin] 31)) := (Below.refl _ _).alloc (Nat.le_refl _) _
  obtain ⟨d, hd⟩ : ∃ d : ICard, d = ⟨c.id + 20, c.unit, c.kind, c.beg, c.fin⟩ := ⟨_, rfl⟩
  rw [← hd] at HV
  have HDi : Hid (20 ≤ d.id ∧ inI d.id) := by subst hd; exact ⟨by show _ ≤ c.id + 20; omega, by unfold inI; show _ ≤ c.id + 20 ∧ c.id + 20 ≤ _; omega⟩
  have hcd : (#[.int .i64 (c.id + 20), .int .i64 c.unit, .int .i64 c.kind, .int .i64 c.beg, .int .i64 c.fin] : Array Value) = cardR d := by rw [hd]
  have hc6 : BoxN w4.heap.size 31 (cardR d) (w4.alloc (.cells #[.int .i64 (c.id + 20), .int .i64 c.unit, .int .i64 c.kind, .int .i64 c.beg, .int .i64 c.fin] 31)) := by rw [← hcd]; exact box_new w4 _ _
  have HL6 := Lib.hid ((HL4.out.step hb6).add (keep_box hc6))
  have HZ6 : Hid (w4.heap.size < (w4.alloc (.cells #[.int .i64 (c.id + 20), .int .i64 c.unit, .int .i64 c.kind, .int .i64 c.beg, .int .i64 c.fin] 31)).heap.size) := hc6.lt
  clear hb6 hc6 HL4 hd hcd
  go_wp2_with fail
  clear wz hidb
  generalize (w4.alloc (.cells #[.int .i64 (c.id + 20), .int .i64 c.unit, .int .i64 c.kind, .int .i64 c.beg, .int .i64 c.fin] 31)) = w6 at *
  refine (HPf.out _).mono ?_
  rintro e w' ⟨rfl, rfl⟩
  obtain ⟨V, hV⟩ : ∃ V, V = w6.alloc (.cells #[.int .i64 fr, .int .i64 0] 29) := ⟨_, rfl⟩
  have hb7 : Below w6.heap.size w6 V := by rw [hV]; exact (Below.refl _ _).alloc (Nat.le_refl _) _
  have hx7 : BoxN w6.heap.size 29 #[.int .i64 fr, .int .i64 0] V := by rw [hV]; exact box_new w6 _ _
  have HL7 := Lib.hid ((HL6.out.step hb7).add (keep_box hx7))
  have HS7 : Hid (w6.heap.size < V.heap.size) := hx7.lt
  have HVe := Lib.hid hV
  have HBs := Lib.hid hb7
  clear hb7 hx7 hV
  have w1_ : IntKind.i64.wrap (fr + 1) = fr + 1 := IntWalk.i64_in _ (by omega)
  have w2_ : IntKind.i64.wrap (2100 - fr) = 2100 - fr := IntWalk.i64_in _ (by omega)
  have w3_ : IntKind.i64.wrap (fr + 1 + pl) = fr + 1 + pl := IntWalk.i64_in _ (by omega)
  go_wp2
  rw [← HVe.out]
  have HQ : Hid (∀ W, V.grownBy W none → W.cell? ⟨w6.heap.size, 0, none⟩ = some (.int .i64 fr) ∧ W.cell? ⟨w6.heap.size, 1, none⟩ = some (.int .i64 0)) := fun W hW => by
    have hL := HL7.out.step (grown_below hW)
    exact ⟨BoxN.cell (show (BoxN w6.heap.size 29 #[.int .i64 fr, .int .i64 0]) _ from hL.get (by simp)) 0 _ rfl, BoxN.cell (show (BoxN w6.heap.size 29 #[.int .i64 fr, .int .i64 0]) _ from hL.get (by simp)) 1 _ rfl⟩
  refine wp_region_calm (tagPl [7] [(7, .val (.int .i64 pl))] 10) (by kernel_rfl) (by kernel_rfl) (by kernel_rfl) tag_c0 tag_hst ?_
  iterate 3 (refine calm_quiet (v := ?_) (by rfl) (by rfl) (fun W hW hD => ?_) ?_; rotate_left; (· (obtain ⟨y0, y1⟩ := HQ.out W hW; clear hD hW; go_simp; try with_reducible rfl)); simp only [Act.put, List.setIfInBounds_toArray, List.set_cons_zero, List.set_cons_succ, Nat.reduceAdd, Nat.zero_add])
  iterate 1 (refine calm_quiet (v := ?_) (by rfl) (by rfl) (fun W hW hD => ?_) ?_; rotate_left; (· (clear hD hW; go_simp; try with_reducible rfl)); simp only [Act.put, List.setIfInBounds_toArray, List.set_cons_zero, List.set_cons_succ, Nat.reduceAdd, Nat.zero_add])
  iterate 3 (refine calm_quiet (v := ?_) (by rfl) (by rfl) (fun W hW hD => ?_) ?_; rotate_left; (· (obtain ⟨y0, y1⟩ := HQ.out W hW; clear hD hW; go_simp; try with_reducible rfl)); simp only [Act.put, List.setIfInBounds_toArray, List.set_cons_zero, List.set_cons_succ, Nat.reduceAdd, Nat.zero_add])
  refine calm_fixed (.int .i64 pl) ⟨(default : World), rfl⟩ (fun v W h => h) rfl (by rfl) (by rfl) (fun W hW hD Kc hK => ?_) ?_
  · refine wp_of_call (f := 16) ?_ ((HPl.out W).mono ?_)
    · clear hD hW hK
      go_simp
    · rintro e w5 ⟨rfl, rfl⟩
      exact ⟨_, rfl, hK _ _ (made_plain rfl (Below.refl _ _) rfl)⟩
  simp only [Act.put, List.setIfInBounds_toArray, List.set_cons_zero, List.set_cons_succ, Nat.reduceAdd, Nat.zero_add]
  iterate 2 (refine calm_quiet (v := ?_) (by rfl) (by rfl) (fun W hW hD => ?_) ?_; rotate_left; (· (clear hD hW; go_simp; try with_reducible rfl)); simp only [Act.put, List.setIfInBounds_toArray, List.set_cons_zero, List.set_cons_succ, Nat.reduceAdd, Nat.zero_add])
  refine calm_tail (by rfl) fun W hW hF => ?_
  have hc : BoxN w6.heap.size 29 #[.int .i64 fr, .int .i64 0] W := BoxN.grown (show (BoxN w6.heap.size 29 #[.int .i64 fr, .int .i64 0]) _ from HL7.out.get (by simp)) hW (by simp)
  have z0 := BoxN.cell hc 1 _ rfl
  have zf := BoxN.frozen hc
  obtain ⟨W8, hW8⟩ : ∃ W8, W8 = W.setCell ⟨w6.heap.size, 1, none⟩ (.int .i64 (fr + 1 + pl)) := ⟨_, rfl⟩
  have hb8 : Below w6.heap.size w6 W8 := by rw [hW8]; exact (HBs.out.trans ((grown_below hW).mono HBs.out.size)).setCell (p := ⟨w6.heap.size, 1, none⟩) (Nat.le_refl _) _
  have hx8 : BoxN w6.heap.size 29 #[.int .i64 fr, .int .i64 (fr + 1 + pl)] W8 := by rw [hW8]; exact hc.set 1 _
  have HL8 := Lib.hid ((HL6.out.step hb8).add (keep_box hx8))
  have HZ8 := Lib.hid hb8.size
  have HWe := Lib.hid hW8
  clear hF hW hc HL7 HL6 HBs HS7 HVe hb8 hx8 hW8 HQ
  go_wp2_with fail
  rw [← HWe.out]
  refine (HPu.out _).mono ?_
  rintro e w' ⟨rfl, rfl⟩
  clear HWe
  have hs := (show (BoxN w6.heap.size 29 #[.int .i64 fr, .int .i64 (fr + 1 + pl)]) _ from HL8.out.get (by simp))
  have s0 := BoxN.cell hs 0 _ rfl
  have s1 := BoxN.cell hs 1 _ rfl
  clear hs
  go_wp2_with fail
  clear s0 s1
  refine (alike_any fr (fr + 1 + pl) un _ (show (IdxN S X l) _ from HL8.out.get (by simp)) (show (IdxN R Y l) _ from HL8.out.get (by simp)) HL8.out.rounds).mono ?_
  rintro e w9 ⟨rfl, hb⟩
  have HZ9 := Lib.hid hb.size
  have HL9 := Lib.hid (HL8.out.step hb)
  clear hb HL8
  have HZ4 : Hid (w3.heap.size ≤ w4.heap.size) := HZ4
  have HZ6 : Hid (w4.heap.size < w6.heap.size) := HZ6
  have HLT : Hid (LiveT (fun k => S k ∨ R k) w [BoxN w4.heap.size 31 (cardR d), BoxN w6.heap.size 29 #[.int .i64 fr, .int .i64 (fr + 1 + pl)]] w9) := by
    have h := HL9.out
    have a0 := HZ0.out; have a1 := HZ1.out; have a2 := HZ2.out; have a3 := HZ3.out; have a4 := HZ4.out; have a6 := HZ6.out; have a9 := HZ9.out; have a8 := HZ8.out
    refine ⟨h.below, HT0.out, fun k hk => ?_, fun P hP => ?_⟩
    · rcases hk with hk | hk
      · have h1 := HS.out k hk; have h2 := HSl.out k hk; omega
      · have h1 := HR.out k hk; have h2 := HRl.out k hk; omega
    · simp only [List.mem_cons, List.not_mem_nil, or_false] at hP
      rcases hP with rfl | rfl
      · refine keepT_box (show (BoxN w4.heap.size 31 (cardR d)) w9 from h.get (by simp)) ?_
        rintro (hk | hk)
        · have h2 := HSl.out _ hk; omega
        · have h2 := HRl.out _ hk; omega
      · refine keepT_box (show (BoxN w6.heap.size 29 #[.int .i64 fr, .int .i64 (fr + 1 + pl)]) w9 from h.get (by simp)) ?_
        rintro (hk | hk)
        · have h2 := HSl.out _ hk; omega
        · have h2 := HRl.out _ hk; omega
  have HD : Hid (∀ k, S k → ¬ R k) := fun k hk hr => by have h1 := HSl.out k hk; have h2 := HR.out k hr; omega
  have HI : Hid (IdxN S X l w9) := (show (IdxN S X l) _ from HL9.out.get (by simp))
  have HJ : Hid (IdxN R Y l w9) := (show (IdxN R Y l) _ from HL9.out.get (by simp))
  obtain ⟨hp1, hp2, hp3, hp4⟩ := put_drop (HNo.out d.id HDi.out.1) HV.out (Nat.lt_of_le_of_lt HLn.out (by decide))
  have HP1 := Lib.hid hp1; have HP2 := Lib.hid hp2; have HP3 := Lib.hid hp3; have HP4 := Lib.hid hp4
  clear hp1 hp2 hp3 hp4 HZ0 HZ1 HZ2 HZ3 HZ4 HZ6 HZ8 HZ9 HS HSl HR HRl HL9
  have hcc : CardN w4.heap.size d _ := (show (BoxN w4.heap.size 31 (cardR d)) _ from HLT.out.get (by simp))
  obtain ⟨c0, c1, c2, c3, c4⟩ := CardN.cells hcc
  clear hcc
  go_wp2_with fail
  clear c0 c1 c2 c3 c4
  refine (put_any d _ HI.out HDi.out.2).mono ?_
  rintro e w10 ⟨rfl, S10, hi, ht, hs⟩
  rw [HP1.out] at hi ⊢
  simp only at hi ⊢
  have HLT10 := Lib.hid (HLT.out.turnX ht hs hi.lt)
  obtain ⟨hj, hd⟩ := two_idx HJ.out HD.out ht hs
  have HI10 := Lib.hid hi; have HJ10 := Lib.hid hj; have HD10 := Lib.hid hd
  clear hi ht hs hj hd HLT HI HJ HD
  go_wp2_with fail
  refine (cards_any _ HI10.out).mono ?_
  rintro e w11 ⟨cv, rfl, ho, hb⟩
  obtain ⟨sa, sc, hsh, _, _⟩ := ho.shape
  subst hsh
  rw [insC_length]
  clear ho
  have HLT11 := Lib.hid (HLT10.out.step hb); have HI11 := Lib.hid (HI10.out.below hb); have HJ11 := Lib.hid (HJ10.out.below hb); have HD11 := HD10
  clear hb HLT10 HI10 HJ10 HD10
  go_wp2_with fail
  refine (cards_any _ HJ11.out).mono ?_
  rintro e w12 ⟨cv, rfl, ho, hb⟩
  obtain ⟨sb, sd, hsh, _, _⟩ := ho.shape
  subst hsh
  clear ho
  have HLT12 := Lib.hid (HLT11.out.step hb); have HI12 := Lib.hid (HI11.out.below hb); have HJ12 := Lib.hid (HJ11.out.below hb); have HD12 := HD11
  clear hb HLT11 HI11 HJ11 HD11
  have hln := HLn.out
  have wl : IntKind.i64.wrap ((l.length : Int) + 1) = (l.length : Int) + 1 := IntWalk.i64_in _ (by omega)
  generalize l.length = ln at *
  have hcc : CardN w4.heap.size d _ := (show (BoxN w4.heap.size 31 (cardR d)) _ from HLT12.out.get (by simp))
  obtain ⟨c0, c1, c2, c3, c4⟩ := CardN.cells hcc
  clear hcc
  go_wp2_with fail
  clear c0 c1 c2 c3 c4 wl hln
  refine (put_any d _ HI12.out HDi.out.2).mono ?_
  rintro e w13 ⟨rfl, S13, hi, ht, hs⟩
  rw [HP2.out] at hi ⊢
  simp only at hi ⊢
  have HLT13 := Lib.hid (HLT12.out.turnX ht hs hi.lt)
  obtain ⟨hj, hd⟩ := two_idx HJ12.out HD12.out ht hs
  have HI13 := Lib.hid hi; have HJ13 := Lib.hid hj; have HD13 := Lib.hid hd
  clear hi ht hs hj hd HLT12 HI12 HJ12 HD12
  have hcc : CardN w4.heap.size d _ := (show (BoxN w4.heap.size 31 (cardR d)) _ from HLT13.out.get (by simp))
  obtain ⟨c0, c1, c2, c3, c4⟩ := CardN.cells hcc
  clear hcc
  go_wp2_with fail
  clear c0 c1 c2 c3 c4
  refine (drop_any d.id _ HJ13.out HDi.out.2).mono ?_
  rintro e w14 ⟨rfl, R14, hi, ht, hs⟩
  rw [HP3.out] at hi ⊢
  simp only at hi ⊢
  have HLT14 := Lib.hid (HLT13.out.turnY ht hs hi.lt)
  obtain ⟨hj, hd⟩ := two_idx HI13.out (fun k hr hk => HD13.out k hk hr) ht hs
  have HJ14 := Lib.hid hi; have HI14 := Lib.hid hj; have HD14 : Hid (∀ k, S13 k → ¬ R14 k) := fun k hk hr => hd k hr hk
  clear hi ht hs hj hd HLT13 HI13 HJ13 HD13
  have hcc : CardN w4.heap.size d _ := (show (BoxN w4.heap.size 31 (cardR d)) _ from HLT14.out.get (by simp))
  obtain ⟨c0, c1, c2, c3, c4⟩ := CardN.cells hcc
  clear hcc
  go_wp2_with fail
  clear c0 c1 c2 c3 c4
  refine (drop_any d.id _ HI14.out HDi.out.2).mono ?_
  rintro e w15 ⟨rfl, S15, hi, ht, hs⟩
  rw [HP4.out] at hi ⊢
  simp only at hi ⊢
  have HLT15 := Lib.hid (HLT14.out.turnX ht hs hi.lt)
  obtain ⟨hj, hd⟩ := two_idx HJ14.out HD14.out ht hs
  have HI15 := Lib.hid hi; have HJ15 := Lib.hid hj; have HD15 := Lib.hid hd
  clear hi ht hs hj hd HLT14 HI14 HJ14 HD14
  have hs := (show (BoxN w6.heap.size 29 #[.int .i64 fr, .int .i64 (fr + 1 + pl)]) _ from HLT15.out.get (by simp))
  have s0 := BoxN.cell hs 0 _ rfl
  have s1 := BoxN.cell hs 1 _ rfl
  clear hs
  go_wp2_with fail
  clear s0 s1
  refine (alike_any fr (fr + 1 + pl) un _ HI15.out HJ15.out HLT15.out.rounds).mono ?_
  rintro e wz ⟨rfl, hb⟩
  have HBz := Lib.hid (HLT15.out.step hb).below
  clear hb
  go_wp2
  go_ret
  exact ⟨rfl, HBz.out⟩
end Go.Proofs.YtcgopilkajfghaaDoor
