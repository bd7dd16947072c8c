/- IndexRecomputes. -/
import Derived.Test.YtcgopilkajfghaaDoorIRecP
import Derived.Deep.RegionHeld3
import Derived.Deep.CutRange
set_option linter.unusedVariables false
set_option linter.unusedSimpArgs false
namespace Go.Proofs.YtcgopilkajfghaaDoor
open Go.RowKit Go.Shelf

abbrev recF (S : Nat → Prop) (hb ab : Nat) : Nat → Prop := fun k => S k ∨ k = hb ∨ k = ab
set_option maxRecDepth 100000 in
set_option maxHeartbeats 32000000 in
theorem lawC (v : Value) (N : Nat) (f : Nat → Nat → Int) (g : Nat → Int) (fz lz yz : Int) (w : World) (hX : SixAt w.heap.size w v N f) (hg : inAll 5 g) (hfz : inI fz) (hlz : inI lz) (hyz : inI yz) (hT : Rounds w) :
    Calls Tryd.prog 3 #[v, .agg #[.int .i64 (g 0), .int .i64 (g 1), .int .i64 (g 2), .int .i64 (g 3), .int .i64 (g 4)], .int .i64 fz, .int .i64 lz, .int .i64 yz] w fun e w' => e = .returned (.bool true) ∧ Below w.heap.size w w' := by
  have hL := ((LiveP.start hT).alloc (.cells #[.int .i64 (g 0), .int .i64 (g 1), .int .i64 (g 2), .int .i64 (g 3), .int .i64 (g 4)] 23)).add (keep_box (box_new w _ _))
  have HX := Lib.hid hX
  obtain ⟨⟨a, oc, rfl, hac, hcm, hz1⟩, hz2⟩ := hX
  unfold maxLen at hcm
  clear hz1 hz2
  have HG := Lib.hid hg
  have hfr := pickZ_bd fz 2100 (by omega)
  have HPf := Lib.hid (fun W => ipick_any fz 2100 W hfz.1 hfz.2 (by omega) (by omega))
  have hyb := pickZ_bd yz 2100 (by omega)
  have HPy := Lib.hid (fun W => ipick_any yz 2100 W hyz.1 hyz.2 (by omega) (by omega))
  generalize pickZ fz 2100 = fr at *
  generalize pickZ yz 2100 = y at *
  have hpl := pickZ_bd lz (2100 - fr) (by omega)
  have HPl := Lib.hid (fun W => ipick_any lz (2100 - fr) W hlz.1 hlz.2 (by omega) (by omega))
  generalize pickZ lz (2100 - fr) = pl at *
  have w1_ : IntKind.i64.wrap (fr + 1) = fr + 1 := IntWalk.i64_in _ (by omega)
  have w2_ : IntKind.i64.wrap (2100 - fr) = 2100 - fr := IntWalk.i64_in _ (by omega)
  obtain ⟨te, hto⟩ : ∃ te, te = fr + 1 + pl := ⟨_, rfl⟩
  have w3_ : IntKind.i64.wrap (fr + 1 + pl) = te := by rw [hto]; exact IntWalk.i64_in _ (by omega)
  have HW := Lib.hid (⟨w1_, w2_, w3_⟩ : _ ∧ _ ∧ _)
  have HSp : Hid (0 ≤ fr ∧ fr < te ∧ te ≤ 2100) := by show _ ∧ _ ∧ _; omega
  have HYb := Lib.hid hyb
  have HT0 := Lib.hid hT
  have HL0 := Lib.hid hL
  have HZ0 : Hid (w.heap.size < (w.alloc (.cells #[.int .i64 (g 0), .int .i64 (g 1), .int .i64 (g 2), .int .i64 (g 3), .int .i64 (g 4)] 23)).heap.size) := by show _ < _; rw [World.size_alloc]; omega
  clear hL hfz hlz hyz hT hg hfr hpl hyb w1_ w2_ w3_ hto
  go_enter Tryd.func3, Tryd.ntmps3
  go_wp2_with fail
  refine (isane_any _ HL0.out.rounds).mono ?_
  rintro e w1 ⟨rfl, hb⟩
  have HZ1 := Lib.hid hb.size
  have HL1 := Lib.hid (HL0.out.step hb)
  clear hb HL0
  go_wp2_with fail
  refine (new_any _).mono ?_
  rintro e w2 ⟨S0, X, rfl, hi, hb, hS⟩
  obtain ⟨w3, hw3⟩ : ∃ w3, w3 = (w2.alloc (.cells #[.bool false, .bool false, .bool false, .bool false, .bool false, .bool false, .bool false, .bool false, .bool false, .bool false, .bool false, .bool false, .bool false, .bool false, .bool false, .bool false, .bool false, .bool false, .bool false, .bool false] 27)).alloc (.cells Tryd.zeroCells32 32) := ⟨_, rfl⟩
  have hb3 : Below w2.heap.size w2 w3 := by rw [hw3]; exact ((Below.refl _ _).alloc (Nat.le_refl _) _).alloc (by simp) _
  have hh3 : BoxN w2.heap.size 27 (hereC []) w3 := by rw [hw3, hereC_nil]; exact (box_new w2 _ _).alloc _
  have ha3 : BoxN (w2.heap.size + 1) 32 (allC (List.replicate 20 cardZ)) w3 := by
    have h := box_new (w2.alloc (.cells #[.bool false, .bool false, .bool false, .bool false, .bool false, .bool false, .bool false, .bool false, .bool false, .bool false, .bool false, .bool false, .bool false, .bool false, .bool false, .bool false, .bool false, .bool false, .bool false, .bool false] 27)) 32 Tryd.zeroCells32
    rw [World.size_alloc] at h
    rw [hw3, allC_zero]; exact h
  have HZ2 := Lib.hid hb.size
  have HSl := Lib.hid hi.lt; have HS := Lib.hid hS
  have HI3 := Lib.hid (hi.below hb3)
  have HL3 := Lib.hid ((HL1.out.step hb).step hb3)
  have HH3 := Lib.hid hh3; have HA3 := Lib.hid ha3; have HW3 := Lib.hid hw3
  clear hi hb hS hb3 hh3 ha3 hw3
  have HLT3 : Hid (LiveT (recF S0 w2.heap.size (w2.heap.size + 1)) w [BoxN w.heap.size 23 #[.int .i64 (g 0), .int .i64 (g 1), .int .i64 (g 2), .int .i64 (g 3), .int .i64 (g 4)]] w3) := by
    have h := HL3.out
    have a1 := HZ0.out; have a2 := HZ1.out; have a3 := HZ2.out; have a4 := HI3.out.lt
    have a5 := HH3.out.lt; have a6 := HA3.out.lt
    refine ⟨h.below, HT0.out, fun k hk => ?_, fun P hP => ?_⟩
    · rcases hk with hk | hk | hk
      · exact ⟨by have := HS.out k hk; omega, a4 k hk⟩
      · subst hk; exact ⟨by omega, a5⟩
      · subst hk; exact ⟨by omega, a6⟩
    simp only [List.mem_cons, List.not_mem_nil, or_false] at hP
    subst hP
    refine keepT_box (show (BoxN w.heap.size 23 #[.int .i64 (g 0), .int .i64 (g 1), .int .i64 (g 2), .int .i64 (g 3), .int .i64 (g 4)]) _ from h.get (by simp)) ?_
    rintro (hk | hk | hk)
    · have := HS.out _ hk; omega
    · omega
    · omega
  have HD3 : Hid (¬ S0 w2.heap.size ∧ ¬ S0 (w2.heap.size + 1)) := ⟨fun hk => by have := HSl.out _ hk; omega, fun hk => by have := HSl.out _ hk; omega⟩
  clear HL1 HL3 HSl HS
  go_wp2
  rw [← HW3.out]
  obtain ⟨hb_, hhb⟩ : ∃ b, b = w2.heap.size := ⟨_, rfl⟩
  obtain ⟨ab, hab⟩ : ∃ b, b = w2.heap.size + 1 := ⟨_, rfl⟩
  have HNe : Hid (hb_ ≠ ab) := by show _ ≠ _; omega
  rw [← hab] at HA3 HD3 HLT3 ⊢
  rw [← hhb] at HH3 HD3 HLT3 ⊢
  clear hhb hab HW3
  go_loopw [14] (fun i wr => ∃ (k : Nat) (S : Nat → Prop) (A : List ICard), k ≤ N ∧ k ≤ 40 ∧ i = .int .i64 k ∧ Hid (LiveT (recF S hb_ ab) w [BoxN w.heap.size 23 #[.int .i64 (g 0), .int .i64 (g 1), .int .i64 (g 2), .int .i64 (g 3), .int .i64 (g 4)]] wr) ∧ Hid (IdxN S X (runL f k) wr) ∧ Hid (BoxN hb_ 27 (hereC (runL f k)) wr) ∧ Hid (BoxN ab 32 (allC A) wr) ∧ Hid (AllOk (runL f k) A) ∧ Hid (¬ S hb_ ∧ ¬ S ab)) (fun i _ => 40 - (intOf i).toNat)
  case atStart => exact ⟨0, S0, _, Nat.zero_le _, Nat.zero_le _, rfl, HLT3, HI3, HH3, HA3, allOk_zero, HD3⟩
  case round =>
    obtain ⟨k, S, A, hkN, hk40, rfl, HLT, HI, HH, HA, HAk, HD⟩ := hrel
    have k0 : 0 ≤ (k : Int) := by omega
    go_upto_region 7 with fail
    go_cut [42] from 35 to 88 (fun s wx => s = .bool (decide (k < N) && decide (k < 40)) ∧ wx = wr)
    case first =>
      as_aux_lemma =>
        by_cases h1 : k < N
        · have k1 : (k : Int) < (N : Int) := by omega
          by_cases h2 : k < 40
          · have k2 : (k : Int) < 40 := by omega
            go_wp2_with fail
            go_meet
            exact ⟨by rw [decide_eq_true (show k < N by omega), decide_eq_true (show k < 40 by omega)]; rfl, rfl⟩
          · have k2 : ¬ (k : Int) < 40 := by omega
            go_wp2_with fail
            go_meet
            exact ⟨by rw [decide_eq_true (show k < N by omega), decide_eq_false (show ¬ k < 40 by omega)]; rfl, rfl⟩
        · have k1 : ¬ (k : Int) < (N : Int) := by omega
          go_wp2_with fail
          go_meet
          exact ⟨by rw [decide_eq_false (show ¬ k < N by omega)]; rfl, rfl⟩
    case rest =>
      obtain ⟨rfl, hw⟩ := hcut
      subst hw
      cases hbb : (decide (k < N) && decide (k < 40))
      rotate_left
      · obtain ⟨h1, h2⟩ : k < N ∧ k < 40 := by simpa using hbb
        clear hbb
        have k1 : (k : Int) < (N : Int) := by omega
        as_aux_lemma =>
          obtain ⟨gb, off, hae, hgb, ⟨x0, x1, x2, x3, x4, x5⟩, hall⟩ := SixAt.row (HX.out.below HLT.out.below (Nat.le_refl _)) h1
          subst hae
          have HAl := Lib.hid hall
          clear hall
          go_wp2_with fail
          refine (step_any (f k) _ HAl.out).mono ?_
          rintro e w4 ⟨rfl, hb⟩
          have hsz := hb.size
          have HLT4 := Lib.hid (HLT.out.step hb); have HI4 := Lib.hid (HI.out.below hb); have HH4 := Lib.hid (BoxN.below HH.out hb HH.out.lt); have HA4 := Lib.hid (BoxN.below HA.out hb HA.out.lt)
          have hiok := HI.out.iok
          have HOk := Lib.hid hiok
          have HSt : Hid (runL f (k + 1) = if dropsB (f k) then (dropL (runL f k) (cardG (f k)).id).1 else (putL (runL f k) (cardG (f k))).1) := rfl
          have HLe : Hid ((runL f k).length ≤ k) := runL_length f k
          have HVc : Hid (validC (cardG (f k)) = true) := (cardG_ok _).1
          have HIc := Lib.hid (cardG_in (f k))
          obtain ⟨d, hd⟩ : ∃ d : Nat, (cardG (f k)).id = (d : Int) := ⟨(cardG (f k)).id.toNat, by have := (cardG_ok (f k)).2; omega⟩
          have hd20 : d < 20 := by have := (cardG_ok (f k)).2; omega
          generalize cardG (f k) = c at *
          have HDd := Lib.hid hd
          clear hd
          clear HLT HI HH HA hiok hb hsz x0 x1 x2 x3 x4 x5
          obtain ⟨w5, hw5⟩ : ∃ w5, w5 = w4.alloc (.cells #[.int .i64 c.id, .int .i64 c.unit, .int .i64 c.kind, .int .i64 c.beg, .int .i64 c.fin] 31) := ⟨_, rfl⟩
          have hb5 : Below w4.heap.size w4 w5 := by rw [hw5]; exact (Below.refl _ _).alloc (Nat.le_refl _) _
          have hc5 : BoxN w4.heap.size 31 (cardR c) w5 := by rw [hw5]; exact box_new w4 _ _
          have HLT5 := Lib.hid (HLT4.out.step hb5); have HI5 := Lib.hid (HI4.out.below hb5); have HH5 := Lib.hid (HH4.out.alloc (.cells #[.int .i64 c.id, .int .i64 c.unit, .int .i64 c.kind, .int .i64 c.beg, .int .i64 c.fin] 31)); have HA5 := Lib.hid (HA4.out.alloc (.cells #[.int .i64 c.id, .int .i64 c.unit, .int .i64 c.kind, .int .i64 c.beg, .int .i64 c.fin] 31))
          rw [← hw5] at HH5 HA5
          have HC5 := Lib.hid hc5
          have HDc : Hid (¬ S w4.heap.size ∧ w4.heap.size ≠ hb_ ∧ w4.heap.size ≠ ab) := ⟨fun hk => Nat.lt_irrefl _ (HI4.out.lt _ hk), fun e => by have := HH4.out.lt; omega, fun e => by have := HA4.out.lt; omega⟩
          obtain ⟨gb', off', hae', hz1, ⟨y0, y1, y2, y3, y4, y5⟩, hz2⟩ := SixAt.row (HX.out.below HLT5.out.below (Nat.le_refl _)) h1
          cases hae'
          rw [hw5] at y0 y1 y2 y3 y4 y5
          have HW5 := Lib.hid hw5
          clear hz1 hz2 hb5 hc5 hw5 HLT4 HI4 HH4 HA4 hgb
          go_wp2_with fail
          clear y0 y1 y2 y3 y4 y5
          rw [← HW5.out]
          clear HW5
          generalize w4.heap.size = cb at *
          refine (drops_any (f k) w5 HAl.out).mono ?_
          rintro e w6 ⟨rfl, hb⟩
          rw [show decide (pickZ (f k 5) 4 = 0) = dropsB (f k) from rfl]
          have HLT6 := Lib.hid (HLT5.out.step hb); have HI6 := Lib.hid (HI5.out.below hb); have HH6 := Lib.hid (BoxN.below HH5.out hb HH5.out.lt); have HA6 := Lib.hid (BoxN.below HA5.out hb HA5.out.lt); have HC6 : Hid (CardN cb c w6) := BoxN.below HC5.out hb HC5.out.lt
          clear hb HLT5 HI5 HH5 HA5 HC5
          generalize runL f k = l at *
          have HBt := Lib.hid (hereC_get (l := l) hd20)
          cases hdr : dropsB (f k)
          · have HSt2 : Hid (runL f (k + 1) = (putL l c).1) := by show _ = _; rw [HSt.out, hdr]; rfl
            clear hdr HSt
            cases hf : findC l c.id with
            | none =>
              have hfd : findC l (d : Int) = none := by rw [← HDd.out]; exact hf
              have HFd := Lib.hid hfd
              have hbit := HBt.out
              rw [hfd] at hbit
              have HBit := Lib.hid hbit
              have hx6 : w6.cell? ⟨hb_, d, none⟩ = some (.bool false) := BoxN.cell HH6.out d _ HBit.out
              obtain ⟨c0, c1, c2, c3, c4⟩ := CardN.cells HC6.out
              rw [HDd.out] at c0
              have hfz := BoxN.frozen HH6.out
              have HEq : Hid (putL l c = (insC l c, 0)) := by show _ = _; exact putL_in hf HVc.out (by have := HLe.out; omega)
              have HCall : Hid (∀ W, IdxN S X l W → Calls Tryd.prog 14 #[.pointer (some ⟨X, 0, none⟩), .agg #[.int .i64 (d : Int), .int .i64 c.unit, .int .i64 c.kind, .int .i64 c.beg, .int .i64 c.fin]] W fun e w' => e = .returned (.int .i64 0) ∧ ∃ S', IdxN S' X (insC l c) w' ∧ Turn S W w' ∧ ∀ k, S' k → S k ∨ W.heap.size ≤ k) := fun W h => by
                have h1 := put_any c W h HIc.out
                rw [HEq.out] at h1
                rw [← HDd.out]
                exact h1
              have d0 : 0 ≤ (d : Int) := by omega
              have d20 : (d : Int) < 20 := by omega
              clear hf hfd hbit
              go_wp2
              trace_state
              go_region_held3 (fun W => W.cell? ⟨cb, 0, none⟩ = some (.int .i64 (d : Int)) ∧ W.cell? ⟨cb, 1, none⟩ = some (.int .i64 c.unit) ∧ W.cell? ⟨cb, 2, none⟩ = some (.int .i64 c.kind) ∧ W.cell? ⟨cb, 3, none⟩ = some (.int .i64 c.beg) ∧ W.cell? ⟨cb, 4, none⟩ = some (.int .i64 c.fin) ∧ W.cell? ⟨hb_, d, none⟩ = some (.bool false)) (first | exact ⟨r0, r1, r2, r3, r4, hx7⟩ | exact ⟨c0, c1, c2, c3, c4, hx6⟩) (first | (go_at_call 14; refine (HCall.out _ (HI6.out.below ((Below.refl _ _).drew))).mono ?_; rintro e w7 ⟨rfl, S', hi, ht0, hs⟩; have ht : Turn S w6 w7 := (Turn.of_below (S := S) ((Below.refl w6.heap.size w6).drew)).trans ht0 (fun j hj => .inl hj); have HC7 : Hid (CardN cb c w7) := BoxN.turn (W := w6) HC6.out ht HDc.out.1; obtain ⟨r0, r1, r2, r3, r4⟩ := CardN.cells HC7.out; rw [HDd.out] at r0; have HH7 := Lib.hid (BoxN.turn (W := w6) HH6.out ht HD.out.1); have hx7 := BoxN.cell HH7.out d _ HBit.out; have HA7 := Lib.hid (BoxN.turn (W := w6) HA6.out ht HD.out.2); have HLT7 : Hid (LiveT (recF S' hb_ ab) w [BoxN w.heap.size 23 #[.int .i64 (g 0), .int .i64 (g 1), .int .i64 (g 2), .int .i64 (g 3), .int .i64 (g 4)]] w7) := HLT6.out.turn ht (fun k hk => .inl hk) (fun k hk => by rcases hk with hk | hk | hk; exact ⟨(hs k hk).imp (fun h => .inl h) id, hi.lt k hk⟩; exact ⟨.inl (.inr (.inl hk)), by rw [hk]; exact HH7.out.lt⟩; exact ⟨.inl (.inr (.inr hk)), by rw [hk]; exact HA7.out.lt⟩); have HD7 : Hid (¬ S' hb_ ∧ ¬ S' ab) := ⟨fun hk => (hs _ hk).elim HD.out.1 (fun h => Nat.lt_irrefl _ (Nat.lt_of_lt_of_le HH6.out.lt h)), fun hk => (hs _ hk).elim HD.out.2 (fun h => Nat.lt_irrefl _ (Nat.lt_of_lt_of_le HA6.out.lt h))⟩; have HI7 := Lib.hid hi; clear hi hs ht ht0))
              have HSt3 : Hid (runL f (k + 1) = insC l c) := by show _ = _; rw [HSt2.out, HEq.out]
              have hfz := BoxN.frozen HH7.out
              have HAk2 : Hid (AllOk (insC l c) (A.set d c)) := allOk_put HAk.out (by rw [HDd.out]; exact HFd.out) HDd.out hd20
              have HFn : Hid (∀ j : Nat, findC (insC l c) (j : Int) = if (j : Int) = c.id then some c else findC l (j : Int)) := fun j => find_ins (by rw [HDd.out]; exact HFd.out) _
              have hal : d < A.length := by rw [HAk.out.1]; exact hd20
              obtain ⟨ax, hax⟩ : ∃ ax, A[d]? = some ax := ⟨_, List.getElem?_eq_getElem hal⟩
              have a0 := BoxN.cell HA7.out (d * 5 + 0) _ (allC_get hax (show 0 < 5 by omega))
              have a1 := BoxN.cell HA7.out (d * 5 + 1) _ (allC_get hax (show 1 < 5 by omega))
              have a2 := BoxN.cell HA7.out (d * 5 + 2) _ (allC_get hax (show 2 < 5 by omega))
              have a3 := BoxN.cell HA7.out (d * 5 + 3) _ (allC_get hax (show 3 < 5 by omega))
              have a4 := BoxN.cell HA7.out (d * 5 + 4) _ (allC_get hax (show 4 < 5 by omega))
              rw [Nat.add_zero] at a0
              have haz := BoxN.frozen HA7.out
              have ha8 : BoxN ab 32 (allC (A.set d c)) (((((w7.setCell ⟨ab, d * 5, none⟩ (.int .i64 (d : Int))).setCell ⟨ab, d * 5 + 1, none⟩ (.int .i64 c.unit)).setCell ⟨ab, d * 5 + 2, none⟩ (.int .i64 c.kind)).setCell ⟨ab, d * 5 + 3, none⟩ (.int .i64 c.beg)).setCell ⟨ab, d * 5 + 4, none⟩ (.int .i64 c.fin)) := by
                have h := box_card (c := c) HA7.out hal
                rwa [HDd.out] at h
              have hc8 : CardN cb c (((((w7.setCell ⟨ab, d * 5, none⟩ (.int .i64 (d : Int))).setCell ⟨ab, d * 5 + 1, none⟩ (.int .i64 c.unit)).setCell ⟨ab, d * 5 + 2, none⟩ (.int .i64 c.kind)).setCell ⟨ab, d * 5 + 3, none⟩ (.int .i64 c.beg)).setCell ⟨ab, d * 5 + 4, none⟩ (.int .i64 c.fin)) := (((((BoxN.other HC7.out HDc.out.2.2).other HDc.out.2.2).other HDc.out.2.2).other HDc.out.2.2).other HDc.out.2.2)
              have hh8 : BoxN hb_ 27 (hereC l) (((((w7.setCell ⟨ab, d * 5, none⟩ (.int .i64 (d : Int))).setCell ⟨ab, d * 5 + 1, none⟩ (.int .i64 c.unit)).setCell ⟨ab, d * 5 + 2, none⟩ (.int .i64 c.kind)).setCell ⟨ab, d * 5 + 3, none⟩ (.int .i64 c.beg)).setCell ⟨ab, d * 5 + 4, none⟩ (.int .i64 c.fin)) := (((((BoxN.other HH7.out HNe.out).other HNe.out).other HNe.out).other HNe.out).other HNe.out)
              have q0 := (CardN.cells hc8).1
              rw [HDd.out] at q0
              have q1 := BoxN.cell hh8 d _ HBit.out
              have q2 := BoxN.frozen hh8
              have HH9 : Hid (BoxN hb_ 27 (hereC (insC l c)) ((((((w7.setCell ⟨ab, d * 5, none⟩ (.int .i64 (d : Int))).setCell ⟨ab, d * 5 + 1, none⟩ (.int .i64 c.unit)).setCell ⟨ab, d * 5 + 2, none⟩ (.int .i64 c.kind)).setCell ⟨ab, d * 5 + 3, none⟩ (.int .i64 c.beg)).setCell ⟨ab, d * 5 + 4, none⟩ (.int .i64 c.fin)).setCell ⟨hb_, d, none⟩ (.bool true))) := by
                have h := BoxN.set hh8 d (.bool true)
                rwa [hereC_set (l := l) (l' := insC l c) hd20 (by rw [HFn.out, if_pos HDd.out.symm]; rfl) (fun j hj => by rw [HFn.out, if_neg (fun h => hj (by have := HDd.out; omega))])] at h
              have HA9 : Hid (BoxN ab 32 (allC (A.set d c)) ((((((w7.setCell ⟨ab, d * 5, none⟩ (.int .i64 (d : Int))).setCell ⟨ab, d * 5 + 1, none⟩ (.int .i64 c.unit)).setCell ⟨ab, d * 5 + 2, none⟩ (.int .i64 c.kind)).setCell ⟨ab, d * 5 + 3, none⟩ (.int .i64 c.beg)).setCell ⟨ab, d * 5 + 4, none⟩ (.int .i64 c.fin)).setCell ⟨hb_, d, none⟩ (.bool true))) := BoxN.other ha8 (fun e => HNe.out e.symm)
              have HT9 : Hid (Turn (fun k => k = hb_ ∨ k = ab) w7 ((((((w7.setCell ⟨ab, d * 5, none⟩ (.int .i64 (d : Int))).setCell ⟨ab, d * 5 + 1, none⟩ (.int .i64 c.unit)).setCell ⟨ab, d * 5 + 2, none⟩ (.int .i64 c.kind)).setCell ⟨ab, d * 5 + 3, none⟩ (.int .i64 c.beg)).setCell ⟨ab, d * 5 + 4, none⟩ (.int .i64 c.fin)).setCell ⟨hb_, d, none⟩ (.bool true))) := (((((Turn.refl (fun k => k = hb_ ∨ k = ab) w7).setCell (.inl (.inr rfl)) _ _).setCell (.inl (.inr rfl)) _ _).setCell (.inl (.inr rfl)) _ _).setCell (.inl (.inr rfl)) _ _).setCell (.inl (.inr rfl)) _ _ |>.setCell (.inl (.inl rfl)) _ _
              have HI9 := Lib.hid (HI7.out.turn HT9.out (fun k hk e => by rcases e with e | e; exact HD7.out.1 (by rw [← e]; exact hk); exact HD7.out.2 (by rw [← e]; exact hk)))
              have HLT9 : Hid (LiveT (recF S' hb_ ab) w [BoxN w.heap.size 23 #[.int .i64 (g 0), .int .i64 (g 1), .int .i64 (g 2), .int .i64 (g 3), .int .i64 (g 4)]] ((((((w7.setCell ⟨ab, d * 5, none⟩ (.int .i64 (d : Int))).setCell ⟨ab, d * 5 + 1, none⟩ (.int .i64 c.unit)).setCell ⟨ab, d * 5 + 2, none⟩ (.int .i64 c.kind)).setCell ⟨ab, d * 5 + 3, none⟩ (.int .i64 c.beg)).setCell ⟨ab, d * 5 + 4, none⟩ (.int .i64 c.fin)).setCell ⟨hb_, d, none⟩ (.bool true))) := HLT7.out.turn HT9.out (fun k hk => .inr hk) (fun k hk => ⟨.inl hk, Nat.lt_of_lt_of_le (HLT7.out.2.2.1 k hk).2 HT9.out.size⟩)
              clear hax ha8 hc8 hh8 hal
              go_wp2
              go_roundw
              case rel => exact ⟨k + 1, S', A.set d c, by omega, by omega, by go_num, HLT9, by rw [HSt3.out]; exact HI9, by rw [HSt3.out]; exact HH9, HA9, by rw [HSt3.out]; exact HAk2, HD7⟩
              case measure => simp [intOf]; omega
            | some cx =>
              have hfd : findC l (d : Int) = some cx := by rw [← HDd.out]; exact hf
              have HFd := Lib.hid hfd
              have hbit := HBt.out
              rw [hfd] at hbit
              have HBit := Lib.hid hbit
              have hx6 : w6.cell? ⟨hb_, d, none⟩ = some (.bool true) := BoxN.cell HH6.out d _ HBit.out
              obtain ⟨c0, c1, c2, c3, c4⟩ := CardN.cells HC6.out
              rw [HDd.out] at c0
              have hfz := BoxN.frozen HH6.out
              have HEq : Hid (putL l c = (l, 420)) := by show _ = _; exact putL_out (.inl (by rw [hf]; rfl))
              have HCall : Hid (∀ W, IdxN S X l W → Calls Tryd.prog 14 #[.pointer (some ⟨X, 0, none⟩), .agg #[.int .i64 (d : Int), .int .i64 c.unit, .int .i64 c.kind, .int .i64 c.beg, .int .i64 c.fin]] W fun e w' => e = .returned (.int .i64 420) ∧ ∃ S', IdxN S' X (l) w' ∧ Turn S W w' ∧ ∀ k, S' k → S k ∨ W.heap.size ≤ k) := fun W h => by
                have h1 := put_any c W h HIc.out
                rw [HEq.out] at h1
                rw [← HDd.out]
                exact h1
              have d0 : 0 ≤ (d : Int) := by omega
              have d20 : (d : Int) < 20 := by omega
              clear hf hfd hbit
              go_wp2
              trace_state
              go_region_held3 (fun W => W.cell? ⟨cb, 0, none⟩ = some (.int .i64 (d : Int)) ∧ W.cell? ⟨cb, 1, none⟩ = some (.int .i64 c.unit) ∧ W.cell? ⟨cb, 2, none⟩ = some (.int .i64 c.kind) ∧ W.cell? ⟨cb, 3, none⟩ = some (.int .i64 c.beg) ∧ W.cell? ⟨cb, 4, none⟩ = some (.int .i64 c.fin) ∧ W.cell? ⟨hb_, d, none⟩ = some (.bool true)) (first | exact ⟨r0, r1, r2, r3, r4, hx7⟩ | exact ⟨c0, c1, c2, c3, c4, hx6⟩) (first | (go_at_call 14; refine (HCall.out _ (HI6.out.below ((Below.refl _ _).drew))).mono ?_; rintro e w7 ⟨rfl, S', hi, ht0, hs⟩; have ht : Turn S w6 w7 := (Turn.of_below (S := S) ((Below.refl w6.heap.size w6).drew)).trans ht0 (fun j hj => .inl hj); have HC7 : Hid (CardN cb c w7) := BoxN.turn (W := w6) HC6.out ht HDc.out.1; obtain ⟨r0, r1, r2, r3, r4⟩ := CardN.cells HC7.out; rw [HDd.out] at r0; have HH7 := Lib.hid (BoxN.turn (W := w6) HH6.out ht HD.out.1); have hx7 := BoxN.cell HH7.out d _ HBit.out; have HA7 := Lib.hid (BoxN.turn (W := w6) HA6.out ht HD.out.2); have HLT7 : Hid (LiveT (recF S' hb_ ab) w [BoxN w.heap.size 23 #[.int .i64 (g 0), .int .i64 (g 1), .int .i64 (g 2), .int .i64 (g 3), .int .i64 (g 4)]] w7) := HLT6.out.turn ht (fun k hk => .inl hk) (fun k hk => by rcases hk with hk | hk | hk; exact ⟨(hs k hk).imp (fun h => .inl h) id, hi.lt k hk⟩; exact ⟨.inl (.inr (.inl hk)), by rw [hk]; exact HH7.out.lt⟩; exact ⟨.inl (.inr (.inr hk)), by rw [hk]; exact HA7.out.lt⟩); have HD7 : Hid (¬ S' hb_ ∧ ¬ S' ab) := ⟨fun hk => (hs _ hk).elim HD.out.1 (fun h => Nat.lt_irrefl _ (Nat.lt_of_lt_of_le HH6.out.lt h)), fun hk => (hs _ hk).elim HD.out.2 (fun h => Nat.lt_irrefl _ (Nat.lt_of_lt_of_le HA6.out.lt h))⟩; have HI7 := Lib.hid hi; clear hi hs ht ht0))
              have HSt3 : Hid (runL f (k + 1) = l) := by show _ = _; rw [HSt2.out, HEq.out]
              have hfz := BoxN.frozen HH7.out
              have HAk2 : Hid (AllOk l A) := HAk
              have HH8 : Hid (BoxN hb_ 27 (hereC (l)) (w7.setCell ⟨hb_, d, none⟩ (.bool true))) := by
                have h := BoxN.set HH7.out d (.bool true)
                rwa [hereC_set (l := l) (l' := l) hd20 (by rw [HFd.out]; rfl) (fun j hj => rfl)] at h
              have HA8 : Hid (BoxN ab 32 (allC A) (w7.setCell ⟨hb_, d, none⟩ (.bool true))) := BoxN.other HA7.out (fun e => HNe.out e.symm)
              have HI8 : Hid (IdxN S' X (l) (w7.setCell ⟨hb_, d, none⟩ (.bool true))) := HI7.out.turn (R := fun k => k = hb_) (Turn.of_grown (grown_cell1 w7 hb_ d _) (fun g' e => (Option.some.inj e).symm)) (fun k hk e => HD7.out.1 (by rw [← e]; exact hk))
              have HLT8 : Hid (LiveT (recF S' hb_ ab) w [BoxN w.heap.size 23 #[.int .i64 (g 0), .int .i64 (g 1), .int .i64 (g 2), .int .i64 (g 3), .int .i64 (g 4)]] (w7.setCell ⟨hb_, d, none⟩ (.bool true))) := HLT7.out.turn (S := fun k => k = hb_) (Turn.of_grown (grown_cell1 w7 hb_ d _) (fun g' e => (Option.some.inj e).symm)) (fun k hk => .inr (.inl hk)) (fun k hk => ⟨.inl hk, by rw [World.size_setCell]; exact (HLT7.out.2.2.1 k hk).2⟩)
              go_wp2
              go_roundw
              case rel => exact ⟨k + 1, S', A, by omega, by omega, by go_num, HLT8, by rw [HSt3.out]; exact HI8, by rw [HSt3.out]; exact HH8, HA8, by rw [HSt3.out]; exact HAk2, HD7⟩
              case measure => simp [intOf]; omega
          · have HSt2 : Hid (runL f (k + 1) = (dropL l c.id).1) := by show _ = _; rw [HSt.out, hdr]; rfl
            clear hdr HSt
            cases hf : findC l c.id with
            | none =>
              have hfd : findC l (d : Int) = none := by rw [← HDd.out]; exact hf
              have HFd := Lib.hid hfd
              have hbit := HBt.out
              rw [hfd] at hbit
              have HBit := Lib.hid hbit
              have hx6 : w6.cell? ⟨hb_, d, none⟩ = some (.bool false) := BoxN.cell HH6.out d _ HBit.out
              obtain ⟨c0, c1, c2, c3, c4⟩ := CardN.cells HC6.out
              rw [HDd.out] at c0
              have hfz := BoxN.frozen HH6.out
              have HEq : Hid (dropL l c.id = (l, 420)) := by show _ = _; unfold dropL; rw [hf]
              have HCall : Hid (∀ W, IdxN S X l W → Calls Tryd.prog 13 #[.pointer (some ⟨X, 0, none⟩), .int .i64 (d : Int)] W fun e w' => e = .returned (.int .i64 420) ∧ ∃ S', IdxN S' X (l) w' ∧ Turn S W w' ∧ ∀ k, S' k → S k ∨ W.heap.size ≤ k) := fun W h => by
                have h1 := drop_any c.id W h HIc.out
                rw [HEq.out] at h1
                rw [← HDd.out]
                exact h1
              have d0 : 0 ≤ (d : Int) := by omega
              have d20 : (d : Int) < 20 := by omega
              clear hf hfd hbit
              go_wp2
              trace_state
              go_region_held3 (fun W => W.cell? ⟨cb, 0, none⟩ = some (.int .i64 (d : Int)) ∧ W.cell? ⟨hb_, d, none⟩ = some (.bool false)) (first | exact ⟨r0, hx7⟩ | exact ⟨c0, hx6⟩) (first | (go_at_call 13; refine (HCall.out _ (HI6.out.below ((Below.refl _ _).drew))).mono ?_; rintro e w7 ⟨rfl, S', hi, ht0, hs⟩; have ht : Turn S w6 w7 := (Turn.of_below (S := S) ((Below.refl w6.heap.size w6).drew)).trans ht0 (fun j hj => .inl hj); have HC7 : Hid (CardN cb c w7) := BoxN.turn (W := w6) HC6.out ht HDc.out.1; obtain ⟨r0, r1, r2, r3, r4⟩ := CardN.cells HC7.out; rw [HDd.out] at r0; have HH7 := Lib.hid (BoxN.turn (W := w6) HH6.out ht HD.out.1); have hx7 := BoxN.cell HH7.out d _ HBit.out; have HA7 := Lib.hid (BoxN.turn (W := w6) HA6.out ht HD.out.2); have HLT7 : Hid (LiveT (recF S' hb_ ab) w [BoxN w.heap.size 23 #[.int .i64 (g 0), .int .i64 (g 1), .int .i64 (g 2), .int .i64 (g 3), .int .i64 (g 4)]] w7) := HLT6.out.turn ht (fun k hk => .inl hk) (fun k hk => by rcases hk with hk | hk | hk; exact ⟨(hs k hk).imp (fun h => .inl h) id, hi.lt k hk⟩; exact ⟨.inl (.inr (.inl hk)), by rw [hk]; exact HH7.out.lt⟩; exact ⟨.inl (.inr (.inr hk)), by rw [hk]; exact HA7.out.lt⟩); have HD7 : Hid (¬ S' hb_ ∧ ¬ S' ab) := ⟨fun hk => (hs _ hk).elim HD.out.1 (fun h => Nat.lt_irrefl _ (Nat.lt_of_lt_of_le HH6.out.lt h)), fun hk => (hs _ hk).elim HD.out.2 (fun h => Nat.lt_irrefl _ (Nat.lt_of_lt_of_le HA6.out.lt h))⟩; have HI7 := Lib.hid hi; clear hi hs ht ht0))
              have HSt3 : Hid (runL f (k + 1) = l) := by show _ = _; rw [HSt2.out, HEq.out]
              have hfz := BoxN.frozen HH7.out
              have HAk2 : Hid (AllOk l A) := HAk
              have HH8 : Hid (BoxN hb_ 27 (hereC (l)) (w7.setCell ⟨hb_, d, none⟩ (.bool false))) := by
                have h := BoxN.set HH7.out d (.bool false)
                rwa [hereC_set (l := l) (l' := l) hd20 (by rw [HFd.out]; rfl) (fun j hj => rfl)] at h
              have HA8 : Hid (BoxN ab 32 (allC A) (w7.setCell ⟨hb_, d, none⟩ (.bool false))) := BoxN.other HA7.out (fun e => HNe.out e.symm)
              have HI8 : Hid (IdxN S' X (l) (w7.setCell ⟨hb_, d, none⟩ (.bool false))) := HI7.out.turn (R := fun k => k = hb_) (Turn.of_grown (grown_cell1 w7 hb_ d _) (fun g' e => (Option.some.inj e).symm)) (fun k hk e => HD7.out.1 (by rw [← e]; exact hk))
              have HLT8 : Hid (LiveT (recF S' hb_ ab) w [BoxN w.heap.size 23 #[.int .i64 (g 0), .int .i64 (g 1), .int .i64 (g 2), .int .i64 (g 3), .int .i64 (g 4)]] (w7.setCell ⟨hb_, d, none⟩ (.bool false))) := HLT7.out.turn (S := fun k => k = hb_) (Turn.of_grown (grown_cell1 w7 hb_ d _) (fun g' e => (Option.some.inj e).symm)) (fun k hk => .inr (.inl hk)) (fun k hk => ⟨.inl hk, by rw [World.size_setCell]; exact (HLT7.out.2.2.1 k hk).2⟩)
              go_wp2
              go_roundw
              case rel => exact ⟨k + 1, S', A, by omega, by omega, by go_num, HLT8, by rw [HSt3.out]; exact HI8, by rw [HSt3.out]; exact HH8, HA8, by rw [HSt3.out]; exact HAk2, HD7⟩
              case measure => simp [intOf]; omega
            | some cx =>
              have hfd : findC l (d : Int) = some cx := by rw [← HDd.out]; exact hf
              have HFd := Lib.hid hfd
              have hbit := HBt.out
              rw [hfd] at hbit
              have HBit := Lib.hid hbit
              have hx6 : w6.cell? ⟨hb_, d, none⟩ = some (.bool true) := BoxN.cell HH6.out d _ HBit.out
              obtain ⟨c0, c1, c2, c3, c4⟩ := CardN.cells HC6.out
              rw [HDd.out] at c0
              have hfz := BoxN.frozen HH6.out
              have HEq : Hid (dropL l c.id = (delC l cx, 0)) := by show _ = _; unfold dropL; rw [hf]
              have HCall : Hid (∀ W, IdxN S X l W → Calls Tryd.prog 13 #[.pointer (some ⟨X, 0, none⟩), .int .i64 (d : Int)] W fun e w' => e = .returned (.int .i64 0) ∧ ∃ S', IdxN S' X (delC l cx) w' ∧ Turn S W w' ∧ ∀ k, S' k → S k ∨ W.heap.size ≤ k) := fun W h => by
                have h1 := drop_any c.id W h HIc.out
                rw [HEq.out] at h1
                rw [← HDd.out]
                exact h1
              have d0 : 0 ≤ (d : Int) := by omega
              have d20 : (d : Int) < 20 := by omega
              clear hf hfd hbit
              go_wp2
              trace_state
              go_region_held3 (fun W => W.cell? ⟨cb, 0, none⟩ = some (.int .i64 (d : Int)) ∧ W.cell? ⟨hb_, d, none⟩ = some (.bool true)) (first | exact ⟨r0, hx7⟩ | exact ⟨c0, hx6⟩) (first | (go_at_call 13; refine (HCall.out _ (HI6.out.below ((Below.refl _ _).drew))).mono ?_; rintro e w7 ⟨rfl, S', hi, ht0, hs⟩; have ht : Turn S w6 w7 := (Turn.of_below (S := S) ((Below.refl w6.heap.size w6).drew)).trans ht0 (fun j hj => .inl hj); have HC7 : Hid (CardN cb c w7) := BoxN.turn (W := w6) HC6.out ht HDc.out.1; obtain ⟨r0, r1, r2, r3, r4⟩ := CardN.cells HC7.out; rw [HDd.out] at r0; have HH7 := Lib.hid (BoxN.turn (W := w6) HH6.out ht HD.out.1); have hx7 := BoxN.cell HH7.out d _ HBit.out; have HA7 := Lib.hid (BoxN.turn (W := w6) HA6.out ht HD.out.2); have HLT7 : Hid (LiveT (recF S' hb_ ab) w [BoxN w.heap.size 23 #[.int .i64 (g 0), .int .i64 (g 1), .int .i64 (g 2), .int .i64 (g 3), .int .i64 (g 4)]] w7) := HLT6.out.turn ht (fun k hk => .inl hk) (fun k hk => by rcases hk with hk | hk | hk; exact ⟨(hs k hk).imp (fun h => .inl h) id, hi.lt k hk⟩; exact ⟨.inl (.inr (.inl hk)), by rw [hk]; exact HH7.out.lt⟩; exact ⟨.inl (.inr (.inr hk)), by rw [hk]; exact HA7.out.lt⟩); have HD7 : Hid (¬ S' hb_ ∧ ¬ S' ab) := ⟨fun hk => (hs _ hk).elim HD.out.1 (fun h => Nat.lt_irrefl _ (Nat.lt_of_lt_of_le HH6.out.lt h)), fun hk => (hs _ hk).elim HD.out.2 (fun h => Nat.lt_irrefl _ (Nat.lt_of_lt_of_le HA6.out.lt h))⟩; have HI7 := Lib.hid hi; clear hi hs ht ht0))
              have HSt3 : Hid (runL f (k + 1) = delC l cx) := by show _ = _; rw [HSt2.out, HEq.out]
              have hfz := BoxN.frozen HH7.out
              have hcx := findC_some (show findC l c.id = some cx by rw [HDd.out]; exact HFd.out)
              have hcxd : cx.id = (d : Int) := by rw [hcx.2, HDd.out]
              have HAk2 : Hid (AllOk (delC l cx) A) := allOk_drop HAk.out HOk.out hcx.1
              have HFn : Hid (∀ j : Nat, findC (delC l cx) (j : Int) = if (j : Int) = cx.id then none else findC l (j : Int)) := fun j => find_del HOk.out hcx.1 _
              have HCx := Lib.hid hcxd
              clear hcx hcxd
              have HH8 : Hid (BoxN hb_ 27 (hereC (delC l cx)) (w7.setCell ⟨hb_, d, none⟩ (.bool false))) := by
                have h := BoxN.set HH7.out d (.bool false)
                rwa [hereC_set (l := l) (l' := delC l cx) hd20 (by rw [HFn.out, if_pos HCx.out.symm]; rfl) (fun j hj => by rw [HFn.out, if_neg (fun h => hj (by have := HCx.out; omega))])] at h
              have HA8 : Hid (BoxN ab 32 (allC A) (w7.setCell ⟨hb_, d, none⟩ (.bool false))) := BoxN.other HA7.out (fun e => HNe.out e.symm)
              have HI8 : Hid (IdxN S' X (delC l cx) (w7.setCell ⟨hb_, d, none⟩ (.bool false))) := HI7.out.turn (R := fun k => k = hb_) (Turn.of_grown (grown_cell1 w7 hb_ d _) (fun g' e => (Option.some.inj e).symm)) (fun k hk e => HD7.out.1 (by rw [← e]; exact hk))
              have HLT8 : Hid (LiveT (recF S' hb_ ab) w [BoxN w.heap.size 23 #[.int .i64 (g 0), .int .i64 (g 1), .int .i64 (g 2), .int .i64 (g 3), .int .i64 (g 4)]] (w7.setCell ⟨hb_, d, none⟩ (.bool false))) := HLT7.out.turn (S := fun k => k = hb_) (Turn.of_grown (grown_cell1 w7 hb_ d _) (fun g' e => (Option.some.inj e).symm)) (fun k hk => .inr (.inl hk)) (fun k hk => ⟨.inl hk, by rw [World.size_setCell]; exact (HLT7.out.2.2.1 k hk).2⟩)
              go_wp2
              go_roundw
              case rel => exact ⟨k + 1, S', A, by omega, by omega, by go_num, HLT8, by rw [HSt3.out]; exact HI8, by rw [HSt3.out]; exact HH8, HA8, by rw [HSt3.out]; exact HAk2, HD7⟩
              case measure => simp [intOf]; omega
      · clear hbb
        have HOk := Lib.hid (runL_ok f k)
        have HId : Hid (∀ c ∈ runL f k, 0 ≤ c.id ∧ c.id < 20) := run_id f k
        have HLn : Hid ((runL f k).length ≤ 40) := Nat.le_trans (runL_length f _) (by omega)
        generalize runL f k = l at *
        have HL20 := Lib.hid (((HLT.out.live.add (keep_idx HI.out)).add (keep_box HH.out)).add (keep_box HA.out))
        clear HLT HI HH HA HD HLT3 HI3 HH3 HA3 HD3
        go_wp2_with fail
        refine (cards_any _ (show (IdxN S X l) _ from HL20.out.get (by simp))).mono ?_
        rintro e w21 ⟨lv, rfl, ho, hb⟩
        obtain ⟨oa, lc, hov, hlc, hlm⟩ := ho.shape
        subst hov
        unfold maxLen at hlm
        obtain ⟨n, hn⟩ : ∃ n, n = l.length := ⟨_, rfl⟩
        have HN : Hid (l.length = n) := hn.symm
        rw [← hn] at hlc ho ⊢
        have hn40 : n ≤ 40 := by rw [hn]; exact HLn.out
        have HL21 := Lib.hid ((HL20.out.step hb).add (keep_rows (ho.rows cardOk)))
        clear ho hb hn HL20
        go_wp2
        go_loopw [17, 18] (fun m i wr => ∃ j : Nat, j ≤ 20 ∧ i = .int .i64 j ∧ m = .int .i64 (cntH l j : Nat) ∧ Hid (Below w21.heap.size w21 wr)) (fun _ i _ => 20 - (intOf i).toNat)
        case atStart => exact ⟨0, by omega, rfl, rfl, Lib.hid (Below.refl _ _)⟩
        case round =>
          obtain ⟨j, hj, rfl, rfl, HB⟩ := hrel
          have HLj := Lib.hid (HL21.out.step HB.out)
          have j0 : 0 ≤ (j : Int) := by omega
          by_cases hj2 : j < 20
          · have j1 : (j : Int) < 20 := by omega
            have x0 := BoxN.cell (show (BoxN hb_ 27 (hereC l)) _ from HLj.out.get (by simp)) j _ (hereC_get hj2)
            have hcl := cntH_le l j
            have HCn : Hid (cntH l (j + 1) = cntH l j + if (findC l (j : Int)).isSome then 1 else 0) := rfl
            generalize cntH l j = m at *
            have wm : IntKind.i64.wrap ((m : Int) + 1) = ((m + 1 : Nat) : Int) := IntWalk.i64_in _ (by omega)
            cases hbb : (findC l (j : Int)).isSome
            · rw [hbb] at x0 HCn
              clear hbb
              go_wp2
              go_roundw
              case rel => exact ⟨j + 1, by omega, by go_num, by rw [HCn.out]; first | rfl | go_num, HB⟩
              case measure => simp [intOf]; omega
            · rw [hbb] at x0 HCn
              clear hbb
              go_wp2
              go_roundw
              case rel => exact ⟨j + 1, by omega, by go_num, by rw [HCn.out]; first | rfl | go_num, HB⟩
              case measure => simp [intOf]; omega
          · obtain rfl : j = 20 := by omega
            rw [show cntH l 20 = n by rw [← HN.out]; exact cntH_all l HId.out HOk.out.ids]
            go_wp2_with fail
            refine (HPf.out _).mono ?_
            rintro e w' ⟨rfl, rfl⟩
            obtain ⟨V, hV⟩ : ∃ V, V = wr.alloc (.cells #[.int .i64 fr, .int .i64 0] 29) := ⟨_, rfl⟩
            have hb7 : Below wr.heap.size wr V := by rw [hV]; exact (Below.refl _ _).alloc (Nat.le_refl _) _
            have hx7 : BoxN wr.heap.size 29 #[.int .i64 fr, .int .i64 0] V := by rw [hV]; exact box_new wr _ _
            have HL22 := Lib.hid ((HLj.out.step hb7).add (keep_box hx7))
            have HVe := Lib.hid hV; have HBs := Lib.hid hb7
            clear hb7 hx7 hV
            obtain ⟨w1_, w2_, w3_⟩ := HW.out
            go_wp2
            rw [← HVe.out]
            have HQ : Hid (∀ W, V.grownBy W none → W.cell? ⟨wr.heap.size, 0, none⟩ = some (.int .i64 fr) ∧ W.cell? ⟨wr.heap.size, 1, none⟩ = some (.int .i64 0)) := fun W hW => by
              have hL := HL22.out.step (grown_below hW)
              exact ⟨BoxN.cell (show (BoxN wr.heap.size 29 #[.int .i64 fr, .int .i64 0]) _ from hL.get (by simp)) 0 _ rfl, BoxN.cell (show (BoxN wr.heap.size 29 #[.int .i64 fr, .int .i64 0]) _ from hL.get (by simp)) 1 _ rfl⟩
            refine wp_region_calm (tagPl [7] [(7, .val (.int .i64 pl))] 10) (by kernel_rfl) (by kernel_rfl) (by kernel_rfl) tag_c0 tag_hst ?_
            iterate 3 (refine calm_quiet (v := ?_) (by rfl) (by rfl) (fun W hW hD => ?_) ?_; rotate_left; (· (obtain ⟨y0, y1⟩ := HQ.out W hW; clear hD hW; go_simp; try with_reducible rfl)); simp only [Act.put, List.setIfInBounds_toArray, List.set_cons_zero, List.set_cons_succ, Nat.reduceAdd, Nat.zero_add])
            iterate 1 (refine calm_quiet (v := ?_) (by rfl) (by rfl) (fun W hW hD => ?_) ?_; rotate_left; (· (clear hD hW; go_simp; try with_reducible rfl)); simp only [Act.put, List.setIfInBounds_toArray, List.set_cons_zero, List.set_cons_succ, Nat.reduceAdd, Nat.zero_add])
            iterate 3 (refine calm_quiet (v := ?_) (by rfl) (by rfl) (fun W hW hD => ?_) ?_; rotate_left; (· (obtain ⟨y0, y1⟩ := HQ.out W hW; clear hD hW; go_simp; try with_reducible rfl)); simp only [Act.put, List.setIfInBounds_toArray, List.set_cons_zero, List.set_cons_succ, Nat.reduceAdd, Nat.zero_add])
            refine calm_fixed (.int .i64 pl) ⟨(default : World), rfl⟩ (fun v W h => h) rfl (by rfl) (by rfl) (fun W hW hD Kc hK => ?_) ?_
            · refine wp_of_call (f := 16) ?_ ((HPl.out W).mono ?_)
              · clear hD hW hK
                go_simp
              · rintro e w5 ⟨rfl, rfl⟩
                exact ⟨_, rfl, hK _ _ (made_plain rfl (Below.refl _ _) rfl)⟩
            simp only [Act.put, List.setIfInBounds_toArray, List.set_cons_zero, List.set_cons_succ, Nat.reduceAdd, Nat.zero_add]
            iterate 2 (refine calm_quiet (v := ?_) (by rfl) (by rfl) (fun W hW hD => ?_) ?_; rotate_left; (· (clear hD hW; go_simp; try with_reducible rfl)); simp only [Act.put, List.setIfInBounds_toArray, List.set_cons_zero, List.set_cons_succ, Nat.reduceAdd, Nat.zero_add])
            refine calm_tail (by rfl) fun W hW hF => ?_
            have hc : BoxN wr.heap.size 29 #[.int .i64 fr, .int .i64 0] W := BoxN.grown (show (BoxN wr.heap.size 29 #[.int .i64 fr, .int .i64 0]) _ from HL22.out.get (by simp)) hW (by simp)
            have z0 := BoxN.cell hc 1 _ rfl
            have zf := BoxN.frozen hc
            obtain ⟨V3, hV3⟩ : ∃ W8, W8 = W.setCell ⟨wr.heap.size, 1, none⟩ (.int .i64 te) := ⟨_, rfl⟩
            have hb8 : Below wr.heap.size wr V3 := by rw [hV3]; exact (HBs.out.trans ((grown_below hW).mono HBs.out.size)).setCell (p := ⟨wr.heap.size, 1, none⟩) (Nat.le_refl _) _
            have hx8 : BoxN wr.heap.size 29 #[.int .i64 fr, .int .i64 te] V3 := by rw [hV3]; exact hc.set 1 _
            have HL23 := Lib.hid ((HLj.out.step hb8).add (keep_box hx8))
            have HWe := Lib.hid hV3
            have hgb : BoxN w.heap.size 23 #[.int .i64 (g 0), .int .i64 (g 1), .int .i64 (g 2), .int .i64 (g 3), .int .i64 (g 4)] V3 := (show (BoxN w.heap.size 23 #[.int .i64 (g 0), .int .i64 (g 1), .int .i64 (g 2), .int .i64 (g 3), .int .i64 (g 4)]) _ from HL23.out.get (by simp))
            have g0 := BoxN.cell hgb 0 _ rfl
            have g1 := BoxN.cell hgb 1 _ rfl
            have g2 := BoxN.cell hgb 2 _ rfl
            have g3 := BoxN.cell hgb 3 _ rfl
            have g4 := BoxN.cell hgb 4 _ rfl
            rw [hV3] at g0 g1 g2 g3 g4
            clear hF hW hc HL22 HLj HBs HVe hb8 hx8 hV3 HQ hgb
            go_wp2_with fail
            clear z0 zf w1_ w2_ w3_ g0 g1 g2 g3 g4
            rw [← HWe.out]
            clear HWe
            generalize wr.heap.size = sb at *
            refine (card_any g _ HG.out).mono ?_
            rintro e w24 ⟨rfl, hb⟩
            have hgok := cardG_ok g
            have HGi := Lib.hid (cardG_in g)
            generalize cardG g = c at *
            obtain ⟨d, hd⟩ : ∃ d : Nat, c.id = (d : Int) := ⟨c.id.toNat, by omega⟩
            have hd20 : d < 20 := by omega
            have HDd := Lib.hid hd
            obtain ⟨w25, hw25⟩ : ∃ w25, w25 = w24.alloc (.cells #[.int .i64 c.id, .int .i64 c.unit, .int .i64 c.kind, .int .i64 c.beg, .int .i64 c.fin] 31) := ⟨_, rfl⟩
            have hb5 : Below w24.heap.size w24 w25 := by rw [hw25]; exact (Below.refl _ _).alloc (Nat.le_refl _) _
            have hc5 : BoxN w24.heap.size 31 (cardR c) w25 := by rw [hw25]; exact box_new w24 _ _
            have HL25 := Lib.hid (((HL23.out.step hb).step hb5).add (keep_box hc5))
            have HW25 := Lib.hid hw25
            clear hb hb5 hc5 hw25 hd hgok HL23
            go_wp2_with fail
            rw [← HW25.out]
            clear HW25
            generalize w24.heap.size = cb at *
            refine (HPy.out _).mono ?_
            rintro e w' ⟨rfl, rfl⟩
            go_wp2
            go_loopw [22, 23, 24, 25] (fun ct du ab_ i wr => ∃ k : Nat, k ≤ n ∧ i = .int .i64 k ∧ ct = .int .i64 (cntY (l.take k) y : Nat) ∧ (∃ a m c, du = Value.slice a m c) ∧ (∃ a m c, ab_ = Value.slice a m c) ∧ Hid (OwnK intK w25.heap.size wr du (partE l fr te (fun _ => true) k)) ∧ Hid (OwnK intK w25.heap.size wr ab_ (partE l fr te (fun x : ICard => decide (x.unit = c.unit)) k)) ∧ Hid (∀ g, du.ownBlock = some g → ab_.ownBlock ≠ some g) ∧ Hid (Below w25.heap.size w25 wr)) (fun _ _ _ i _ => n - (intOf i).toNat)
            case atStart => exact ⟨0, Nat.zero_le _, rfl, rfl, ⟨_, _, _, rfl⟩, ⟨_, _, _, rfl⟩, Lib.hid (OwnK.nil _ _), Lib.hid (OwnK.nil _ _), Lib.hid (fun g h => by cases h), Lib.hid (Below.refl _ _)⟩
            case round =>
              obtain ⟨k, hk, rfl, rfl, ⟨da, dn, dc, rfl⟩, ⟨ea, en, ec, rfl⟩, HDu, HAb, HDj, HB⟩ := hrel
              have k0 : 0 ≤ (k : Int) := by omega
              have HLr := Lib.hid (HL25.out.step HB.out)
              by_cases hkn : k < n
              · have k1 : (k : Int) < (n : Int) := by omega
                have hkl : k < l.length := by rw [HN.out]; exact hkn
                obtain ⟨x, hx⟩ : ∃ x, x = l.getD k default := ⟨_, rfl⟩
                have hget : l[k]? = some x := by rw [hx, List.getD_eq_getElem?_getD, List.getElem?_eq_getElem hkl]; rfl
                obtain ⟨t1, t2, t3⟩ := at_facts HOk.out hget
                have hxm := List.mem_of_getElem? hget
                obtain ⟨e, he⟩ : ∃ e : Nat, x.id = (e : Int) := ⟨x.id.toNat, by have := HId.out x hxm; omega⟩
                have he20 : e < 20 := by have := HId.out x hxm; omega
                have hea := HAk.out.2 e x he20 (by rw [← he]; exact t3)
                have HEe := Lib.hid he; have HGet := Lib.hid hget; have HEa := Lib.hid hea
                have HXi : Hid (inI x.id) := iok_in HOk.out hxm
                have HRk : Hid (∀ W, IdxN S X l W → Calls Tryd.prog 19 #[.pointer (some ⟨X, 0, none⟩), .int .i64 (e : Int)] W fun e' w' => e' = .returned (.tuple #[.int .i64 (k : Int), .int .i64 0]) ∧ Below W.heap.size W w') := fun W h => by
                  have h1 := rank_any x.id W h HXi.out
                  rw [t1, he] at h1; exact h1
                have HKt : Hid (∀ W, IdxN S X l W → Calls Tryd.prog 20 #[.pointer (some ⟨X, 0, none⟩), .int .i64 (k : Int)] W fun e' w' => e' = .returned (.tuple #[.int .i64 (e : Int), .int .i64 0]) ∧ w' = W) := fun W h => by
                  have h1 := kth_any (k : Int) W h
                  rw [t2, he] at h1; exact h1
                have hhe : (hereC l)[e]? = some (.bool true) := by rw [hereC_get he20, ← he, t3]; rfl
                have HHe := Lib.hid hhe
                have HNy : Hid (cntY (l.take (k + 1)) y = cntY (l.take k) y + if hasY y x then 1 else 0) := cntY_next l y hget
                have HN1 : Hid (partE l fr te (fun _ => true) (k + 1) = partE l fr te (fun _ => true) k ++ (if meetC fr te (fun _ => true) x then [x.id] else [])) := by have h := partE_next (f := fr) (t := te) (q := (fun _ => true)) hkl; rw [← hx] at h; exact h
                have HN2 : Hid (partE l fr te (fun x : ICard => decide (x.unit = c.unit)) (k + 1) = partE l fr te (fun x : ICard => decide (x.unit = c.unit)) k ++ (if meetC fr te (fun x : ICard => decide (x.unit = c.unit)) x then [x.id] else [])) := by have h := partE_next (f := fr) (t := te) (q := (fun x : ICard => decide (x.unit = c.unit))) hkl; rw [← hx] at h; exact h
                have hl1 : (partE l fr te (fun _ => true) k).length ≤ 40 := Nat.le_trans partE_le HLn.out
                have hl2 : (partE l fr te (fun x : ICard => decide (x.unit = c.unit)) k).length ≤ 40 := Nat.le_trans partE_le HLn.out
                have hcy : cntY (l.take k) y ≤ 40 := Nat.le_trans List.countP_le_length (by rw [List.length_take]; omega)
                have HMe : Hid (∀ q : ICard → Bool, meetC fr te q x = (decide (x.beg < te) && (decide (fr < x.fin) && q x))) := fun q => rfl
                have HYx : Hid (hasY y x = (decide (x.beg ≤ y) && decide (y < x.fin))) := rfl
                generalize partE l fr te (fun _ => true) k = D1 at *
                generalize partE l fr te (fun x : ICard => decide (x.unit = c.unit)) k = D2 at *
                generalize cntY (l.take k) y = cn at *
                have hvx : cardV x = .agg #[.int .i64 (e : Int), .int .i64 x.unit, .int .i64 x.kind, .int .i64 x.beg, .int .i64 x.fin] := by rw [← he]
                have hqn : ∀ W, (binOp .neq 31 (.agg #[.int .i64 (e : Int), .int .i64 x.unit, .int .i64 x.kind, .int .i64 x.beg, .int .i64 x.fin]) (.agg #[.int .i64 (e : Int), .int .i64 x.unit, .int .i64 x.kind, .int .i64 x.beg, .int .i64 x.fin])).run Tryd.prog W = .ok (.bool false) W := fun W => by have h := run_neqCard x x W; rw [hvx] at h; rw [h]; simp
                have HXc : Hid (∀ W, RowsAt cardK W.heap.size W (.slice oa n lc) l → ∃ b off, oa = some ⟨b, off, none⟩ ∧ W.cell? ⟨b, off + k * 5, none⟩ = some (.int .i64 (e : Int)) ∧ W.cell? ⟨b, off + k * 5 + 1, none⟩ = some (.int .i64 x.unit) ∧ W.cell? ⟨b, off + k * 5 + 2, none⟩ = some (.int .i64 x.kind) ∧ W.cell? ⟨b, off + k * 5 + 3, none⟩ = some (.int .i64 x.beg) ∧ W.cell? ⟨b, off + k * 5 + 4, none⟩ = some (.int .i64 x.fin)) := fun W hr => by
                  obtain ⟨b, off, h1, _, r0, r1, r2, r3, r4⟩ := cards_at hr k x hget
                  rw [he] at r0
                  exact ⟨b, off, h1, r0, r1, r2, r3, r4⟩
                obtain ⟨lb, lo, hoa, _⟩ := HXc.out _ (show RowsAt cardK _ _ _ _ from (show (RowsN cardK (.slice oa n lc) l) _ from HLr.out.get (by simp)))
                subst hoa
                have HQ0 : Hid (∀ W, LiveP w [BoxN cb 31 (cardR c), BoxN sb 29 #[.int .i64 fr, .int .i64 te], RowsN cardK (.slice (some ⟨lb, lo, none⟩) n lc) l, BoxN ab 32 (allC A), BoxN hb_ 27 (hereC l), IdxN S X l, BoxN w.heap.size 23 #[.int .i64 (g 0), .int .i64 (g 1), .int .i64 (g 2), .int .i64 (g 3), .int .i64 (g 4)]] W → (W.cell? ⟨lb, lo + k * 5, none⟩ = some (.int .i64 (e : Int)) ∧ W.cell? ⟨lb, lo + k * 5 + 1, none⟩ = some (.int .i64 x.unit) ∧ W.cell? ⟨lb, lo + k * 5 + 2, none⟩ = some (.int .i64 x.kind) ∧ W.cell? ⟨lb, lo + k * 5 + 3, none⟩ = some (.int .i64 x.beg) ∧ W.cell? ⟨lb, lo + k * 5 + 4, none⟩ = some (.int .i64 x.fin) ∧ W.cell? ⟨lb, lo + k * 5 + 3 + 1, none⟩ = some (.int .i64 x.fin)) ∧ (W.cell? ⟨hb_, e, none⟩ = some (.bool true)) ∧ (W.cell? ⟨ab, e * 5, none⟩ = some (.int .i64 (e : Int)) ∧ W.cell? ⟨ab, e * 5 + 1, none⟩ = some (.int .i64 x.unit) ∧ W.cell? ⟨ab, e * 5 + 2, none⟩ = some (.int .i64 x.kind) ∧ W.cell? ⟨ab, e * 5 + 3, none⟩ = some (.int .i64 x.beg) ∧ W.cell? ⟨ab, e * 5 + 4, none⟩ = some (.int .i64 x.fin)) ∧ (W.cell? ⟨sb, 0, none⟩ = some (.int .i64 fr) ∧ W.cell? ⟨sb, 1, none⟩ = some (.int .i64 te)) ∧ W.cell? ⟨cb, 1, none⟩ = some (.int .i64 c.unit)) := fun W hL => by
                  obtain ⟨b, off, h1, r0, r1, r2, r3, r4⟩ := HXc.out W (show RowsAt cardK _ _ _ _ from (show (RowsN cardK (.slice (some ⟨lb, lo, none⟩) n lc) l) _ from hL.get (by simp)))
                  cases h1
                  have ha := show (BoxN ab 32 (allC A)) W from hL.get (by simp)
                  have a0 := BoxN.cell ha (e * 5 + 0) _ (allC_get HEa.out (show 0 < 5 by omega))
                  rw [Nat.add_zero] at a0
                  have a1 := BoxN.cell ha (e * 5 + 1) _ (allC_get HEa.out (show 1 < 5 by omega))
                  have a2 := BoxN.cell ha (e * 5 + 2) _ (allC_get HEa.out (show 2 < 5 by omega))
                  have a3 := BoxN.cell ha (e * 5 + 3) _ (allC_get HEa.out (show 3 < 5 by omega))
                  have a4 := BoxN.cell ha (e * 5 + 4) _ (allC_get HEa.out (show 4 < 5 by omega))
                  have a0 : W.cell? ⟨ab, e * 5, none⟩ = some (.int .i64 x.id) := a0
                  rw [HEe.out] at a0
                  have hs := show (BoxN sb 29 #[.int .i64 fr, .int .i64 te]) W from hL.get (by simp)
                  exact ⟨⟨r0, r1, r2, r3, r4, r4⟩, BoxN.cell (show (BoxN hb_ 27 (hereC l)) W from hL.get (by simp)) e _ HHe.out, ⟨a0, a1, a2, a3, a4⟩, ⟨BoxN.cell hs 0 _ rfl, BoxN.cell hs 1 _ rfl⟩, BoxN.cell (show (BoxN cb 31 (cardR c)) W from hL.get (by simp)) 1 _ rfl⟩
                have e0 : 0 ≤ (e : Int) := by omega
                have e20 : (e : Int) < 20 := by omega
                have n1_ : decide ((e : Int) < 0) = false := decide_eq_false (by omega)
                have n2_ : decide ((20 : Int) ≤ (e : Int)) = false := decide_eq_false (by omega)
                clear t1 t2 t3 hxm he hea hhe hget hx hn40 hvx
                go_wp2
                go_cut [181] from 121 to 281 (fun s wx => s = .bool false ∧ Hid (Below wr.heap.size wr wx))
                case first =>
                  as_aux_lemma =>
                    by_cases hgt : 0 < k
                    · have g1 : decide ((0 : Int) < (k : Int)) = true := decide_eq_true (by omega)
                      obtain ⟨j, hj⟩ : ∃ j, k = j + 1 := ⟨k - 1, by omega⟩
                      obtain ⟨pv, hpv⟩ : ∃ pv, pv = l.getD j default := ⟨_, rfl⟩
                      have hgj : l[j]? = some pv := by rw [hpv, List.getD_eq_getElem?_getD, List.getElem?_eq_getElem (by omega)]; rfl
                      have HGj := Lib.hid hgj
                      have HBf : Hid (befC pv x) := by
                        obtain ⟨h1, h2⟩ := List.getElem?_eq_some_iff.1 hgj
                        obtain ⟨h3, h4⟩ := List.getElem?_eq_some_iff.1 HGet.out
                        have h5 := List.pairwise_iff_getElem.1 HOk.out.sorted j k h1 h3 (by omega)
                        rwa [h2, h4] at h5
                      have HBc : Hid (∀ W, Calls Tryd.prog 18 #[.agg #[.int .i64 pv.id, .int .i64 pv.unit, .int .i64 pv.kind, .int .i64 pv.beg, .int .i64 pv.fin], .agg #[.int .i64 (e : Int), .int .i64 x.unit, .int .i64 x.kind, .int .i64 x.beg, .int .i64 x.fin]] W fun e' w' => e' = .returned (.bool true) ∧ Below W.heap.size W w') := fun W => by
                        have h := before_any pv x W
                        rw [decide_eq_true HBf.out] at h
                        rw [← HEe.out]; exact h
                      have wj : IntKind.i64.wrap ((k : Int) - 1) = (j : Int) := by rw [hj]; exact (IntWalk.i64_in _ (by omega)).trans (by omega)
                      have j0 : 0 ≤ (j : Int) := by omega
                      have j1 : (j : Int) < (n : Int) := by omega
                      have HQ := Lib.hid (fun W' (hW' : wr.grownBy W' none) => (⟨HQ0.out W' (HLr.out.step (grown_below hW')), (by
                        obtain ⟨b', o', e', _, p⟩ := cards_at (show RowsAt cardK _ _ _ _ from (show (RowsN cardK (.slice (some ⟨lb, lo, none⟩) n lc) l) W' from (HLr.out.step (grown_below hW')).get (by simp))) j pv HGj.out
                        cases e'
                        exact p)⟩ : _ ∧ (W'.cell? ⟨lb, lo + j * 5, none⟩ = some (.int .i64 pv.id) ∧ W'.cell? ⟨lb, lo + j * 5 + 1, none⟩ = some (.int .i64 pv.unit) ∧ W'.cell? ⟨lb, lo + j * 5 + 2, none⟩ = some (.int .i64 pv.kind) ∧ W'.cell? ⟨lb, lo + j * 5 + 3, none⟩ = some (.int .i64 pv.beg) ∧ W'.cell? ⟨lb, lo + j * 5 + 4, none⟩ = some (.int .i64 pv.fin))))
                      clear hpv hgj hj
                      refine wp_region_calm (tagPl [51] [(51, .val (.bool true))] 1000) (by kernel_rfl) (by kernel_rfl) (by kernel_rfl) tag_c0 tag_hst ?_
                      iterate 12 (refine calm_quiet (v := ?_) (by rfl) (by rfl) (fun W_ hW hD => ?_) ?_; rotate_left; (· (obtain ⟨⟨⟨r0, r1, r2, r3, r4, r5⟩, h0, ⟨a0, a1, a2, a3, a4⟩, _, _⟩, hpv⟩ := HQ.out W_ hW; clear hD hW; go_simp; try with_reducible rfl)); simp only [Act.put, List.setIfInBounds_toArray, List.set_cons_zero, List.set_cons_succ, Nat.reduceAdd, Nat.zero_add])
                      iterate 3 (refine calm_quiet (v := ?_) (by rfl) (by rfl) (fun W_ hW hD => ?_) ?_; rotate_left; (· (clear hD hW; go_simp; try with_reducible rfl)); simp only [Act.put, List.setIfInBounds_toArray, List.set_cons_zero, List.set_cons_succ, Nat.reduceAdd, Nat.zero_add])
                      iterate 9 (refine calm_quiet (v := ?_) (by rfl) (by rfl) (fun W_ hW hD => ?_) ?_; rotate_left; (· (obtain ⟨⟨⟨r0, r1, r2, r3, r4, r5⟩, h0, ⟨a0, a1, a2, a3, a4⟩, _, _⟩, hpv⟩ := HQ.out W_ hW; clear hD hW; go_simp; try with_reducible rfl)); simp only [Act.put, List.setIfInBounds_toArray, List.set_cons_zero, List.set_cons_succ, Nat.reduceAdd, Nat.zero_add])
                      iterate 1 (refine calm_quiet (v := ?_) (by rfl) (by rfl) (fun W_ hW hD => ?_) ?_; rotate_left; (· (clear hD hW; go_simp; try with_reducible rfl)); simp only [Act.put, List.setIfInBounds_toArray, List.set_cons_zero, List.set_cons_succ, Nat.reduceAdd, Nat.zero_add])
                      iterate 12 (refine calm_quiet (v := ?_) (by rfl) (by rfl) (fun W_ hW hD => ?_) ?_; rotate_left; (· (obtain ⟨⟨⟨r0, r1, r2, r3, r4, r5⟩, h0, ⟨a0, a1, a2, a3, a4⟩, _, _⟩, hpv⟩ := HQ.out W_ hW; clear hD hW; go_simp; try with_reducible rfl)); simp only [Act.put, List.setIfInBounds_toArray, List.set_cons_zero, List.set_cons_succ, Nat.reduceAdd, Nat.zero_add])
                      iterate 2 (refine calm_quiet (v := ?_) (by rfl) (by rfl) (fun W_ hW hD => ?_) ?_; rotate_left; (· (clear hD hW; go_simp; try with_reducible rfl)); simp only [Act.put, List.setIfInBounds_toArray, List.set_cons_zero, List.set_cons_succ, Nat.reduceAdd, Nat.zero_add])
                      iterate 3 (refine calm_quiet (v := ?_) (by rfl) (by rfl) (fun W_ hW hD => ?_) ?_; rotate_left; (· (clear hD hW; go_simp; try with_reducible rfl)); simp only [Act.put, List.setIfInBounds_toArray, List.set_cons_zero, List.set_cons_succ, Nat.reduceAdd, Nat.zero_add])
                      iterate 9 (refine calm_quiet (v := ?_) (by rfl) (by rfl) (fun W_ hW hD => ?_) ?_; rotate_left; (· (obtain ⟨⟨⟨r0, r1, r2, r3, r4, r5⟩, h0, ⟨a0, a1, a2, a3, a4⟩, _, _⟩, ⟨p0, p1, p2, p3, p4⟩⟩ := HQ.out W_ hW; clear hD hW; go_simp; try with_reducible rfl)); simp only [Act.put, List.setIfInBounds_toArray, List.set_cons_zero, List.set_cons_succ, Nat.reduceAdd, Nat.zero_add])
                      refine calm_fixed (.bool true) ⟨(default : World), rfl⟩ (fun v W h => h) rfl (by rfl) (by rfl) (fun W_ hW hD Kc hK => ?_) ?_
                      · refine wp_of_call (f := 18) ?_ ((HBc.out W_).mono ?_)
                        · clear hD hW hK
                          go_simp
                        · rintro e w5 ⟨rfl, hb5⟩
                          exact ⟨_, rfl, hK _ _ (made_plain rfl hb5 rfl)⟩
                      simp only [Act.put, List.setIfInBounds_toArray, List.set_cons_zero, List.set_cons_succ, Nat.reduceAdd, Nat.zero_add]
                      iterate 1 (refine calm_quiet (v := ?_) (by rfl) (by rfl) (fun W_ hW hD => ?_) ?_; rotate_left; (· (clear hD hW; go_simp; try with_reducible rfl)); simp only [Act.put, List.setIfInBounds_toArray, List.set_cons_zero, List.set_cons_succ, Nat.reduceAdd, Nat.zero_add])
                      iterate 2 (refine calm_quiet (v := ?_) (by rfl) (by rfl) (fun W_ hW hD => ?_) ?_; rotate_left; (· (clear hD hW; go_simp; try with_reducible rfl)); simp only [Act.put, List.setIfInBounds_toArray, List.set_cons_zero, List.set_cons_succ, Nat.reduceAdd, Nat.zero_add])
                      refine calm_nil fun W1 hW hF => ?_
                      have HB1 : Hid (Below wr.heap.size wr W1) := grown_below hW
                      clear hF hW HQ
                      go_wp2_with fail
                      go_meet
                      exact ⟨rfl, HB1⟩
                    · have g1 : decide ((0 : Int) < (k : Int)) = false := decide_eq_false (by omega)
                      have HQ := Lib.hid (fun W' (hW' : wr.grownBy W' none) => (⟨HQ0.out W' (HLr.out.step (grown_below hW')), trivial⟩ : _ ∧ True))
                      refine wp_region_calm (tagPl [] [] 1000) (by kernel_rfl) (by kernel_rfl) (by kernel_rfl) tag_c0 tag_hst ?_
                      iterate 12 (refine calm_quiet (v := ?_) (by rfl) (by rfl) (fun W_ hW hD => ?_) ?_; rotate_left; (· (obtain ⟨⟨⟨r0, r1, r2, r3, r4, r5⟩, h0, ⟨a0, a1, a2, a3, a4⟩, _, _⟩, hpv⟩ := HQ.out W_ hW; clear hD hW; go_simp; try with_reducible rfl)); simp only [Act.put, List.setIfInBounds_toArray, List.set_cons_zero, List.set_cons_succ, Nat.reduceAdd, Nat.zero_add])
                      iterate 3 (refine calm_quiet (v := ?_) (by rfl) (by rfl) (fun W_ hW hD => ?_) ?_; rotate_left; (· (clear hD hW; go_simp; try with_reducible rfl)); simp only [Act.put, List.setIfInBounds_toArray, List.set_cons_zero, List.set_cons_succ, Nat.reduceAdd, Nat.zero_add])
                      iterate 9 (refine calm_quiet (v := ?_) (by rfl) (by rfl) (fun W_ hW hD => ?_) ?_; rotate_left; (· (obtain ⟨⟨⟨r0, r1, r2, r3, r4, r5⟩, h0, ⟨a0, a1, a2, a3, a4⟩, _, _⟩, hpv⟩ := HQ.out W_ hW; clear hD hW; go_simp; try with_reducible rfl)); simp only [Act.put, List.setIfInBounds_toArray, List.set_cons_zero, List.set_cons_succ, Nat.reduceAdd, Nat.zero_add])
                      iterate 1 (refine calm_quiet (v := ?_) (by rfl) (by rfl) (fun W_ hW hD => ?_) ?_; rotate_left; (· (clear hD hW; go_simp; try with_reducible rfl)); simp only [Act.put, List.setIfInBounds_toArray, List.set_cons_zero, List.set_cons_succ, Nat.reduceAdd, Nat.zero_add])
                      iterate 12 (refine calm_quiet (v := ?_) (by rfl) (by rfl) (fun W_ hW hD => ?_) ?_; rotate_left; (· (obtain ⟨⟨⟨r0, r1, r2, r3, r4, r5⟩, h0, ⟨a0, a1, a2, a3, a4⟩, _, _⟩, hpv⟩ := HQ.out W_ hW; clear hD hW; go_simp; try with_reducible rfl)); simp only [Act.put, List.setIfInBounds_toArray, List.set_cons_zero, List.set_cons_succ, Nat.reduceAdd, Nat.zero_add])
                      iterate 2 (refine calm_quiet (v := ?_) (by rfl) (by rfl) (fun W_ hW hD => ?_) ?_; rotate_left; (· (clear hD hW; go_simp; try with_reducible rfl)); simp only [Act.put, List.setIfInBounds_toArray, List.set_cons_zero, List.set_cons_succ, Nat.reduceAdd, Nat.zero_add])
                      iterate 3 (refine calm_quiet (v := ?_) (by rfl) (by rfl) (fun W_ hW hD => ?_) ?_; rotate_left; (· (clear hD hW; go_simp; try with_reducible rfl)); simp only [Act.put, List.setIfInBounds_toArray, List.set_cons_zero, List.set_cons_succ, Nat.reduceAdd, Nat.zero_add])
                      iterate 11 (refine calm_skip (by rfl) (by rfl) ?_; simp only [Act.put, List.setIfInBounds_toArray, List.set_cons_zero, List.set_cons_succ, Nat.reduceAdd, Nat.zero_add])
                      iterate 2 (refine calm_quiet (v := ?_) (by rfl) (by rfl) (fun W_ hW hD => ?_) ?_; rotate_left; (· (clear hD hW; go_simp; try with_reducible rfl)); simp only [Act.put, List.setIfInBounds_toArray, List.set_cons_zero, List.set_cons_succ, Nat.reduceAdd, Nat.zero_add])
                      refine calm_nil fun W1 hW hF => ?_
                      have HB1 : Hid (Below wr.heap.size wr W1) := grown_below hW
                      clear hF hW HQ
                      go_wp2_with fail
                      go_meet
                      exact ⟨rfl, HB1⟩
                case rest =>
                  obtain ⟨rfl, HBc⟩ := hcut
                  have HLs := Lib.hid (HLr.out.step HBc.out)
                  have HBs2 : Hid (Below w25.heap.size w25 wc) := HB.out.trans (HBc.out.mono HB.out.size)
                  have HDu2 := Lib.hid (HDu.out.below HBc.out (Nat.le_refl _)); have HAb2 := Lib.hid (HAb.out.below HBc.out (Nat.le_refl _))
                  clear HLr HB HDu HAb HBc hqn n1_ n2_
                  have HDj2 := HDj
                  go_upto_region 40 with fail
                  go_cut [199] from 121 to 281 (fun s wx => s = .bool (hasY y x) ∧ wx = wc)
                  case first =>
                    as_aux_lemma =>
                      obtain ⟨⟨r0, r1, r2, r3, r4, r5⟩, h0, ⟨a0, a1, a2, a3, a4⟩, ⟨s0, s1⟩, c1⟩ := HQ0.out wc (HL25.out.step HBs2.out)
                      by_cases y1 : x.beg ≤ y
                      · by_cases y2 : y < x.fin
                        · go_wp2_with fail
                          go_meet
                          exact ⟨by rw [HYx.out, decide_eq_true y1, decide_eq_true (by omega)]; rfl, rfl⟩
                        · go_wp2_with fail
                          go_meet
                          exact ⟨by rw [HYx.out, decide_eq_true y1, decide_eq_false (by omega)]; rfl, rfl⟩
                      · go_wp2_with fail
                        go_meet
                        exact ⟨by rw [HYx.out, decide_eq_false (by omega)]; rfl, rfl⟩
                  case rest =>
                    obtain ⟨rfl, hw⟩ := hcut
                    subst hw
                    generalize hasY y x = bh at *
                    have wc1 : IntKind.i64.wrap ((cn : Int) + 1) = ((cn + 1 : Nat) : Int) := IntWalk.i64_in _ (by omega)
                    go_upto_if 199 with fail
                    go_cut [22] from 121 to 281 (fun s wx => s = .int .i64 ((cn + if bh then 1 else 0 : Nat) : Int) ∧ wx = wc)
                    case first =>
                      as_aux_lemma =>
                        cases bh
                        · go_wp2_with fail
                          go_meet
                          exact ⟨by first | rfl | go_num, rfl⟩
                        · go_wp2_with fail
                          go_meet
                          exact ⟨by first | rfl | go_num, rfl⟩
                    case rest =>
                      obtain ⟨rfl, hw⟩ := hcut
                      subst hw
                      rw [← HNy.out]
                      obtain ⟨cn2, hcn2⟩ : ∃ z, z = cntY (l.take (k + 1)) y := ⟨_, rfl⟩
                      rw [← hcn2]
                      have HCn2 : Hid (cntY (l.take (k + 1)) y = cn2) := hcn2.symm
                      clear hcn2
                      clear wc1 hcy HNy HYx
                      go_upto_region 42 with fail
                      go_cut [221] from 121 to 281 (fun s wx => s = .bool (decide (x.beg < te) && decide (fr < x.fin)) ∧ Hid (Below w25.heap.size w25 wx) ∧ Hid (OwnK intK w25.heap.size wx (.slice da dn dc) D1 ∧ OwnK intK w25.heap.size wx (.slice ea en ec) D2))
                      case first =>
                        as_aux_lemma =>
                          have HQ := Lib.hid (fun W' (hW' : wc.grownBy W' none) => HQ0.out W' (HL25.out.step (HBs2.out.trans ((grown_below hW').mono HBs2.out.size))))
                          by_cases m1 : x.beg < te
                          · have m1_ : decide (x.beg < te) = true := decide_eq_true m1
                            by_cases m2 : fr < x.fin
                            · have m2_ : decide (fr < x.fin) = true := decide_eq_true m2
                              refine wp_region_calm (tagPl [] [] 1000) (by kernel_rfl) (by kernel_rfl) (by kernel_rfl) tag_c0 tag_hst ?_
                              iterate 9 (refine calm_quiet (v := ?_) (by rfl) (by rfl) (fun W_ hW hD => ?_) ?_; rotate_left; (· (obtain ⟨⟨r0, r1, r2, r3, r4, r5⟩, h0, ⟨a0, a1, a2, a3, a4⟩, ⟨s0, s1⟩, c1⟩ := HQ.out W_ hW; clear hD hW; go_simp; try with_reducible rfl)); simp only [Act.put, List.setIfInBounds_toArray, List.set_cons_zero, List.set_cons_succ, Nat.reduceAdd, Nat.zero_add])
                              iterate 1 (refine calm_quiet (v := ?_) (by rfl) (by rfl) (fun W_ hW hD => ?_) ?_; rotate_left; (· (clear hD hW; go_simp; try with_reducible rfl)); simp only [Act.put, List.setIfInBounds_toArray, List.set_cons_zero, List.set_cons_succ, Nat.reduceAdd, Nat.zero_add])
                              iterate 9 (refine calm_quiet (v := ?_) (by rfl) (by rfl) (fun W_ hW hD => ?_) ?_; rotate_left; (· (obtain ⟨⟨r0, r1, r2, r3, r4, r5⟩, h0, ⟨a0, a1, a2, a3, a4⟩, ⟨s0, s1⟩, c1⟩ := HQ.out W_ hW; clear hD hW; go_simp; try with_reducible rfl)); simp only [Act.put, List.setIfInBounds_toArray, List.set_cons_zero, List.set_cons_succ, Nat.reduceAdd, Nat.zero_add])
                              iterate 1 (refine calm_quiet (v := ?_) (by rfl) (by rfl) (fun W_ hW hD => ?_) ?_; rotate_left; (· (clear hD hW; go_simp; try with_reducible rfl)); simp only [Act.put, List.setIfInBounds_toArray, List.set_cons_zero, List.set_cons_succ, Nat.reduceAdd, Nat.zero_add])
                              refine calm_nil fun W1 hW hF => ?_
                              have HB1 : Hid (Below w25.heap.size w25 W1) := HBs2.out.trans ((grown_below hW).mono HBs2.out.size)
                              have HO1 : Hid (OwnK intK w25.heap.size W1 (.slice da dn dc) D1 ∧ OwnK intK w25.heap.size W1 (.slice ea en ec) D2) := ⟨HDu2.out.below (grown_below hW) (Nat.le_refl _), HAb2.out.below (grown_below hW) (Nat.le_refl _)⟩
                              clear hF hW HQ
                              go_wp2_with fail
                              go_meet
                              exact ⟨by rw [decide_eq_true (show x.beg < te by omega), decide_eq_true (show fr < x.fin by omega)]; rfl, HB1, HO1⟩
                            · have m2_ : decide (fr < x.fin) = false := decide_eq_false m2
                              refine wp_region_calm (tagPl [] [] 1000) (by kernel_rfl) (by kernel_rfl) (by kernel_rfl) tag_c0 tag_hst ?_
                              iterate 9 (refine calm_quiet (v := ?_) (by rfl) (by rfl) (fun W_ hW hD => ?_) ?_; rotate_left; (· (obtain ⟨⟨r0, r1, r2, r3, r4, r5⟩, h0, ⟨a0, a1, a2, a3, a4⟩, ⟨s0, s1⟩, c1⟩ := HQ.out W_ hW; clear hD hW; go_simp; try with_reducible rfl)); simp only [Act.put, List.setIfInBounds_toArray, List.set_cons_zero, List.set_cons_succ, Nat.reduceAdd, Nat.zero_add])
                              iterate 1 (refine calm_quiet (v := ?_) (by rfl) (by rfl) (fun W_ hW hD => ?_) ?_; rotate_left; (· (clear hD hW; go_simp; try with_reducible rfl)); simp only [Act.put, List.setIfInBounds_toArray, List.set_cons_zero, List.set_cons_succ, Nat.reduceAdd, Nat.zero_add])
                              iterate 9 (refine calm_quiet (v := ?_) (by rfl) (by rfl) (fun W_ hW hD => ?_) ?_; rotate_left; (· (obtain ⟨⟨r0, r1, r2, r3, r4, r5⟩, h0, ⟨a0, a1, a2, a3, a4⟩, ⟨s0, s1⟩, c1⟩ := HQ.out W_ hW; clear hD hW; go_simp; try with_reducible rfl)); simp only [Act.put, List.setIfInBounds_toArray, List.set_cons_zero, List.set_cons_succ, Nat.reduceAdd, Nat.zero_add])
                              iterate 1 (refine calm_quiet (v := ?_) (by rfl) (by rfl) (fun W_ hW hD => ?_) ?_; rotate_left; (· (clear hD hW; go_simp; try with_reducible rfl)); simp only [Act.put, List.setIfInBounds_toArray, List.set_cons_zero, List.set_cons_succ, Nat.reduceAdd, Nat.zero_add])
                              refine calm_nil fun W1 hW hF => ?_
                              have HB1 : Hid (Below w25.heap.size w25 W1) := HBs2.out.trans ((grown_below hW).mono HBs2.out.size)
                              have HO1 : Hid (OwnK intK w25.heap.size W1 (.slice da dn dc) D1 ∧ OwnK intK w25.heap.size W1 (.slice ea en ec) D2) := ⟨HDu2.out.below (grown_below hW) (Nat.le_refl _), HAb2.out.below (grown_below hW) (Nat.le_refl _)⟩
                              clear hF hW HQ
                              go_wp2_with fail
                              go_meet
                              exact ⟨by rw [decide_eq_true (show x.beg < te by omega), decide_eq_false (show ¬ fr < x.fin by omega)]; rfl, HB1, HO1⟩
                          · have m1_ : decide (x.beg < te) = false := decide_eq_false m1
                            refine wp_region_calm (tagPl [] [] 1000) (by kernel_rfl) (by kernel_rfl) (by kernel_rfl) tag_c0 tag_hst ?_
                            iterate 9 (refine calm_quiet (v := ?_) (by rfl) (by rfl) (fun W_ hW hD => ?_) ?_; rotate_left; (· (obtain ⟨⟨r0, r1, r2, r3, r4, r5⟩, h0, ⟨a0, a1, a2, a3, a4⟩, ⟨s0, s1⟩, c1⟩ := HQ.out W_ hW; clear hD hW; go_simp; try with_reducible rfl)); simp only [Act.put, List.setIfInBounds_toArray, List.set_cons_zero, List.set_cons_succ, Nat.reduceAdd, Nat.zero_add])
                            iterate 1 (refine calm_quiet (v := ?_) (by rfl) (by rfl) (fun W_ hW hD => ?_) ?_; rotate_left; (· (clear hD hW; go_simp; try with_reducible rfl)); simp only [Act.put, List.setIfInBounds_toArray, List.set_cons_zero, List.set_cons_succ, Nat.reduceAdd, Nat.zero_add])
                            iterate 9 (refine calm_skip (by rfl) (by rfl) ?_; simp only [Act.put, List.setIfInBounds_toArray, List.set_cons_zero, List.set_cons_succ, Nat.reduceAdd, Nat.zero_add])
                            iterate 1 (refine calm_quiet (v := ?_) (by rfl) (by rfl) (fun W_ hW hD => ?_) ?_; rotate_left; (· (clear hD hW; go_simp; try with_reducible rfl)); simp only [Act.put, List.setIfInBounds_toArray, List.set_cons_zero, List.set_cons_succ, Nat.reduceAdd, Nat.zero_add])
                            refine calm_nil fun W1 hW hF => ?_
                            have HB1 : Hid (Below w25.heap.size w25 W1) := HBs2.out.trans ((grown_below hW).mono HBs2.out.size)
                            have HO1 : Hid (OwnK intK w25.heap.size W1 (.slice da dn dc) D1 ∧ OwnK intK w25.heap.size W1 (.slice ea en ec) D2) := ⟨HDu2.out.below (grown_below hW) (Nat.le_refl _), HAb2.out.below (grown_below hW) (Nat.le_refl _)⟩
                            clear hF hW HQ
                            go_wp2_with fail
                            go_meet
                            exact ⟨by rw [decide_eq_false (show ¬ x.beg < te by omega)]; rfl, HB1, HO1⟩
                      case rest =>
                        obtain ⟨rfl, HBd, HDx⟩ := hcut
                        clear HDu2 HAb2 HBs2 HLs
                        have HM1 : Hid (meetC fr te (fun _ => true) x = (decide (x.beg < te) && decide (fr < x.fin))) := by show _ = _; rw [HMe.out]; simp
                        have HM2 : Hid (meetC fr te (fun x : ICard => decide (x.unit = c.unit)) x = ((decide (x.beg < te) && decide (fr < x.fin)) && decide (x.unit = c.unit))) := by show _ = _; rw [HMe.out, Bool.and_assoc]
                        generalize (decide (x.beg < te) && decide (fr < x.fin)) = bm at *
                        rw [HM1.out] at HN1
                        rw [HM2.out] at HN2
                        clear HM1 HM2 HMe
                        generalize hbu : decide (x.unit = c.unit) = bu at *
                        have HBu := Lib.hid hbu
                        clear hbu
                        obtain ⟨E1, hE1⟩ : ∃ z, z = partE l fr te (fun _ => true) (k + 1) := ⟨_, rfl⟩
                        rw [← hE1] at HN1
                        have HE1k : Hid (partE l fr te (fun _ => true) (k + 1) = E1) := hE1.symm
                        clear hE1
                        obtain ⟨E2, hE2⟩ : ∃ z, z = partE l fr te (fun x : ICard => decide (x.unit = c.unit)) (k + 1) := ⟨_, rfl⟩
                        rw [← hE2] at HN2
                        have HE2k : Hid (partE l fr te (fun x : ICard => decide (x.unit = c.unit)) (k + 1) = E2) := hE2.symm
                        clear hE2
                        go_upto_if 221 with fail
                        go_cut [23, 24] from 121 to 281 (fun du ab_ wx => (∃ a m c, du = Value.slice a m c) ∧ (∃ a m c, ab_ = Value.slice a m c) ∧ Hid (OwnK intK w25.heap.size wx du E1) ∧ Hid (OwnK intK w25.heap.size wx ab_ E2) ∧ Hid (∀ g, du.ownBlock = some g → ab_.ownBlock ≠ some g) ∧ Hid (Below w25.heap.size w25 wx))
                        case first =>
                          as_aux_lemma =>
                            cases bm
                            · have HE1 : Hid (E1 = D1) := by show _ = _; rw [HN1.out]; simp
                              have HE2 : Hid (E2 = D2) := by show _ = _; rw [HN2.out]; simp
                              go_wp2_with fail
                              go_meet
                              exact ⟨⟨_, _, _, rfl⟩, ⟨_, _, _, rfl⟩, by rw [HE1.out]; exact HDx.out.1, by rw [HE2.out]; exact HDx.out.2, HDj, HBd⟩
                            · have HE1 : Hid (E1 = D1 ++ [(e : Int)]) := by show _ = _; rw [HN1.out, if_pos rfl, HEe.out]
                              have HE2 : Hid (E2 = D2 ++ if bu then [(e : Int)] else []) := by show _ = _; rw [HN2.out, Bool.true_and, HEe.out]
                              clear HN1 HN2
                              obtain ⟨⟨r0, r1, r2, r3, r4, r5⟩, h0, ⟨a0, a1, a2, a3, a4⟩, ⟨s0, s1⟩, c1⟩ := HQ0.out wc (HL25.out.step HBd.out)
                              have HA1 : Hid (OwnK intK w25.heap.size (wc.alloc (.cells #[.int .i64 (e : Int)] 3)) (.slice da dn dc) D1) := (HDx.out.1).kept (World.grownBy_alloc _ _ none) (fun g h => by cases h)
                              have HA2 : Hid (RowsAt intK (wc.heap.size + 1) (wc.alloc (.cells #[.int .i64 (e : Int)] 3)) (.slice (some ⟨wc.heap.size, 0, none⟩) 1 1) [(e : Int)]) := by
                                have h := (ownK_lit intOk wc [(e : Int)] #[.int .i64 (e : Int)] rfl (by simp)).rows intOk
                                rw [World.size_alloc] at h
                                exact h
                              have HA3 : Hid (w25.heap.size ≤ (wc.alloc (.cells #[.int .i64 (e : Int)] 3)).heap.size) := by show _ ≤ _; rw [World.size_alloc]; have := HBd.out.size; omega
                              have HA4 : Hid (OwnK intK w25.heap.size (wc.alloc (.cells #[.int .i64 (e : Int)] 3)) (.slice ea en ec) D2) := (HDx.out.2).kept (World.grownBy_alloc _ _ none) (fun g h => by cases h)
                              clear r1 r2 r3 r4 r5 h0 a0 a1 a2 a3 a4 s0 s1 c1
                              go_wp2_with (at_builtin; refine append_K3 intOk rfl _ _ rfl w25.heap.size _ _ _ D1 [(e : Int)] rfl rfl HA1.out HA2.out (by simp; omega) HA3.out ?_; intro v' w7 ho7 hg7 hr7)
                              clear r0
                              have HB7 : Hid (Below w25.heap.size w25 w7) := (HBd.out.alloc HBd.out.size _).grown hg7 HA3.out (fun j hj => (World.ownsRow.lt HA1.out j hj).1)
                              have HA7 : Hid (OwnK intK w25.heap.size w7 (.slice ea en ec) D2) := HA4.out.kept hg7 (fun g hg h => HDj.out g hg h)
                              have HJ7 : Hid (∀ g, v'.ownBlock = some g → (Value.slice ea en ec).ownBlock ≠ some g) := fun g hg h => by
                                have hlt := (World.ownsRow.lt HDx.out.2 g h).2
                                rcases hr7 with hr | hr
                                · rw [hr] at hg; exact HDj.out g hg h
                                · rw [hr] at hg; injection hg with hg; rw [World.size_alloc] at hg; omega
                              obtain ⟨va, vc, hsh, _, _⟩ := ho7.shape
                              subst hsh
                              rw [← HE1.out] at ho7 HJ7 ⊢
                              generalize E1.length = vn at *
                              have HD7 := Lib.hid ho7
                              clear ho7 hg7 hr7 HA1 HA2 HA3 HA4 HE1
                              have HQ := Lib.hid (fun W' (hW' : w7.grownBy W' none) => HQ0.out W' (HL25.out.step (HB7.out.trans ((grown_below hW').mono HB7.out.size))))
                              have hdu : (x.unit == c.unit) = bu := by rw [← HBu.out]; by_cases h : x.unit = c.unit <;> simp [h]
                              cases bu
                              · skip
                                go_wp2
                                refine wp_region_calm (tagPl [] [] 1000) (by kernel_rfl) (by kernel_rfl) (by kernel_rfl) tag_c0 tag_hst ?_
                                iterate 8 (refine calm_quiet (v := ?_) (by rfl) (by rfl) (fun W_ hW hD => ?_) ?_; rotate_left; (· (obtain ⟨⟨r0, r1, r2, r3, r4, r5⟩, h0, ⟨a0, a1, a2, a3, a4⟩, ⟨s0, s1⟩, c1⟩ := HQ.out W_ hW; clear hD hW; go_simp; try with_reducible rfl)); simp only [Act.put, List.setIfInBounds_toArray, List.set_cons_zero, List.set_cons_succ, Nat.reduceAdd, Nat.zero_add])
                                refine calm_nil fun W1 hW hF => ?_
                                have HB8 : Hid (Below w25.heap.size w25 W1) := HB7.out.trans ((grown_below hW).mono HB7.out.size)
                                have HD8 : Hid (OwnK intK w25.heap.size W1 (.slice va vn vc) E1) := HD7.out.below (grown_below hW) (Nat.le_refl _)
                                have HA8 : Hid (OwnK intK w25.heap.size W1 (.slice ea en ec) D2) := HA7.out.below (grown_below hW) (Nat.le_refl _)
                                clear hF hW HQ hdu
                                have HE3 : Hid (E2 = D2) := by show _ = _; rw [HE2.out]; simp
                                go_wp2_with fail
                                go_meet
                                exact ⟨⟨_, _, _, rfl⟩, ⟨_, _, _, rfl⟩, HD8, by rw [HE3.out]; exact HA8, HJ7, HB8⟩
                              · skip
                                go_wp2
                                refine wp_region_calm (tagPl [] [] 1000) (by kernel_rfl) (by kernel_rfl) (by kernel_rfl) tag_c0 tag_hst ?_
                                iterate 8 (refine calm_quiet (v := ?_) (by rfl) (by rfl) (fun W_ hW hD => ?_) ?_; rotate_left; (· (obtain ⟨⟨r0, r1, r2, r3, r4, r5⟩, h0, ⟨a0, a1, a2, a3, a4⟩, ⟨s0, s1⟩, c1⟩ := HQ.out W_ hW; clear hD hW; go_simp; try with_reducible rfl)); simp only [Act.put, List.setIfInBounds_toArray, List.set_cons_zero, List.set_cons_succ, Nat.reduceAdd, Nat.zero_add])
                                refine calm_nil fun W1 hW hF => ?_
                                have HB8 : Hid (Below w25.heap.size w25 W1) := HB7.out.trans ((grown_below hW).mono HB7.out.size)
                                have HD8 : Hid (OwnK intK w25.heap.size W1 (.slice va vn vc) E1) := HD7.out.below (grown_below hW) (Nat.le_refl _)
                                have HA8 : Hid (OwnK intK w25.heap.size W1 (.slice ea en ec) D2) := HA7.out.below (grown_below hW) (Nat.le_refl _)
                                clear hF hW HQ hdu
                                have HE3 : Hid (E2 = D2 ++ [(e : Int)]) := by show _ = _; rw [HE2.out]; rfl
                                obtain ⟨⟨r0, r1, r2, r3, r4, r5⟩, h0, ⟨a0, a1, a2, a3, a4⟩, ⟨s0, s1⟩, c1⟩ := HQ0.out W1 (HL25.out.step HB8.out)
                                have HA1 : Hid (OwnK intK w25.heap.size (W1.alloc (.cells #[.int .i64 (e : Int)] 3)) (.slice ea en ec) D2) := (HA8.out).kept (World.grownBy_alloc _ _ none) (fun g h => by cases h)
                                have HA2 : Hid (RowsAt intK (W1.heap.size + 1) (W1.alloc (.cells #[.int .i64 (e : Int)] 3)) (.slice (some ⟨W1.heap.size, 0, none⟩) 1 1) [(e : Int)]) := by
                                  have h := (ownK_lit intOk W1 [(e : Int)] #[.int .i64 (e : Int)] rfl (by simp)).rows intOk
                                  rw [World.size_alloc] at h
                                  exact h
                                have HA3 : Hid (w25.heap.size ≤ (W1.alloc (.cells #[.int .i64 (e : Int)] 3)).heap.size) := by show _ ≤ _; rw [World.size_alloc]; have := HB8.out.size; omega
                                have HA4 : Hid (OwnK intK w25.heap.size (W1.alloc (.cells #[.int .i64 (e : Int)] 3)) (.slice va vn vc) E1) := (HD8.out).kept (World.grownBy_alloc _ _ none) (fun g h => by cases h)
                                clear r1 r2 r3 r4 r5 h0 a0 a1 a2 a3 a4 s0 s1 c1
                                go_wp2_with (at_builtin; refine append_K3 intOk rfl _ _ rfl w25.heap.size _ _ _ D2 [(e : Int)] rfl rfl HA1.out HA2.out (by simp; omega) HA3.out ?_; intro v' w9 ho7 hg7 hr7)
                                clear r0
                                have HB9 : Hid (Below w25.heap.size w25 w9) := (HB8.out.alloc HB8.out.size _).grown hg7 HA3.out (fun j hj => (World.ownsRow.lt HA1.out j hj).1)
                                have HD9 : Hid (OwnK intK w25.heap.size w9 (.slice va vn vc) E1) := HA4.out.kept hg7 (fun g hg h => HJ7.out g h hg)
                                have HJ9 : Hid (∀ g, (Value.slice va vn vc).ownBlock = some g → v'.ownBlock ≠ some g) := fun g hg h => by
                                  have hlt := (World.ownsRow.lt HD8.out g hg).2
                                  rcases hr7 with hr | hr
                                  · rw [hr] at h; exact HJ7.out g hg h
                                  · rw [hr] at h; injection h with h; rw [World.size_alloc] at h; omega
                                obtain ⟨ua, uc, hsh, _, _⟩ := ho7.shape
                                subst hsh
                                rw [← HE3.out] at ho7 HJ9 ⊢
                                have HA9 := Lib.hid ho7
                                clear ho7 hg7 hr7
                                go_meet
                                exact ⟨⟨_, _, _, rfl⟩, ⟨_, _, _, rfl⟩, HD9, HA9, HJ9, HB9⟩
                        case rest =>
                          obtain ⟨⟨da2, dn2, dc2, rfl⟩, ⟨ea2, en2, ec2, rfl⟩, HD5, HA5, HJ5, HB5⟩ := hcut
                          clear HDx HBd HN1 HN2 HDj HDj2
                          have HL5 := Lib.hid (HL25.out.step HB5.out)
                          obtain ⟨⟨r0, r1, r2, r3, r4, r5⟩, h0, ⟨a0, a1, a2, a3, a4⟩, ⟨s0, s1⟩, c1⟩ := HQ0.out wc (HL25.out.step HB5.out)
                          clear r1 r2 r3 r4 r5 h0 a0 a1 a2 a3 a4 s0 s1 c1
                          go_wp2_with fail
                          clear r0
                          refine (HRk.out _ (show (IdxN S X l) _ from HL5.out.get (by simp))).mono ?_
                          rintro e_ w31 ⟨rfl, hb⟩
                          have HB6 : Hid (Below w25.heap.size w25 w31) := HB5.out.trans (hb.mono HB5.out.size)
                          have HL6 := Lib.hid (HL5.out.step hb)
                          have HD6 := Lib.hid (HD5.out.below hb (Nat.le_refl _)); have HA6 := Lib.hid (HA5.out.below hb (Nat.le_refl _))
                          clear hb HB5 HL5 HD5 HA5
                          go_wp2_with fail
                          refine (HKt.out _ (show (IdxN S X l) _ from HL6.out.get (by simp))).mono ?_
                          rintro e_ w' ⟨rfl, rfl⟩
                          obtain ⟨⟨r0, r1, r2, r3, r4, r5⟩, h0, ⟨a0, a1, a2, a3, a4⟩, ⟨s0, s1⟩, c1⟩ := HQ0.out _ (HL25.out.step HB6.out)
                          clear r1 r2 r3 r4 r5 h0 a0 a1 a2 a3 a4 s0 s1 c1
                          go_wp2
                          go_roundw
                          case rel => exact ⟨k + 1, by omega, by go_num, by first | rfl | rw [HCn2.out], ⟨_, _, _, rfl⟩, ⟨_, _, _, rfl⟩, by first | exact HD6 | (rw [HE1k.out]; exact HD6), by first | exact HA6 | (rw [HE2k.out]; exact HA6), HJ5, HB6⟩
                          case measure => simp [intOf]; omega
              · obtain rfl : k = n := by omega
                have hspB : spellB fr te = true := by have h := HSp.out; unfold spellB; simp; omega
                have HE1 : Hid (partE l fr te (fun _ => true) k = durE l fr te) := by show _ = _; rw [← HN.out]; exact partE_all hspB
                have HE2 : Hid (partE l fr te (fun x : ICard => decide (x.unit = c.unit)) k = aboutE l c.unit fr te) := by show _ = _; rw [← HN.out]; exact partE_all hspB
                have HCt : Hid (cntY (l.take k) y = cntY l y) := by show _ = _; rw [List.take_of_length_le (by rw [HN.out]; exact Nat.le_refl _)]
                have HCe : Hid (countE l y = (cntY l y : Int)) := by
                  show _ = _
                  obtain ⟨m, hm⟩ : ∃ m : Nat, y = (m : Int) := ⟨y.toNat, by have := HYb.out; omega⟩
                  have h := countE_at l m (by have := HYb.out; omega)
                  rw [hm]; exact h
                rw [HCt.out]
                have h1 := HDu.out; have h2 := HAb.out
                rw [HE1.out] at h1
                rw [HE2.out] at h2
                have HLz := Lib.hid (((HL25.out.step HB.out).add (keep_rows (h1.rows intOk))).add (keep_rows (h2.rows intOk)))
                have HRk2 := Lib.hid (rank_ok l c.id)
                have HRc := Lib.hid (fun W (h : IdxN S X l W) => rank_any c.id W h HGi.out)
                obtain ⟨r1_, hr1⟩ : ∃ r, r = (rankE l c.id).1 := ⟨_, rfl⟩
                obtain ⟨r2_, hr2⟩ : ∃ r, r = (rankE l c.id).2 := ⟨_, rfl⟩
                rw [← hr1, ← hr2, HDd.out] at HRc
                rw [← hr2, HDd.out] at HRk2
                have HHd : Hid ((hereC l)[d]? = some (.bool (findC l (d : Int)).isSome)) := hereC_get hd20
                generalize (findC l (d : Int)).isSome = bit at *
                have d0 : 0 ≤ (d : Int) := by omega
                have d20 : (d : Int) < 20 := by omega
                clear hr1 hr2 h1 h2 hspB HE1 HE2 HCt HDu HAb HDj HB
                have hcb := (show (BoxN cb 31 (cardR c)) _ from HLz.out.get (by simp)); have hsb := (show (BoxN sb 29 #[.int .i64 fr, .int .i64 te]) _ from HLz.out.get (by simp))
                have c0 := BoxN.cell hcb 0 (.int .i64 (d : Int)) (by show some (Value.int .i64 c.id) = _; rw [HDd.out])
                clear hcb hsb
                go_wp2_with fail
                clear c0
                refine (HRc.out _ (show (IdxN S X l) _ from HLz.out.get (by simp))).mono ?_
                rintro e_ w31 ⟨rfl, hb⟩
                have HLy := Lib.hid (HLz.out.step hb)
                clear hb HLz
                go_wp2_with fail
                refine (count_any y _ (show (IdxN S X l) _ from HLy.out.get (by simp))).mono ?_
                rintro e_ w' ⟨rfl, rfl⟩
                rw [HCe.out]
                have hcb := (show (BoxN cb 31 (cardR c)) _ from HLy.out.get (by simp)); have hsb := (show (BoxN sb 29 #[.int .i64 fr, .int .i64 te]) _ from HLy.out.get (by simp))
                have s0 := BoxN.cell hsb 0 _ rfl
                have s1 := BoxN.cell hsb 1 _ rfl
                clear hcb hsb
                go_wp2_with fail
                clear s0 s1
                refine (during_any fr te _ (show (IdxN S X l) _ from HLy.out.get (by simp))).mono ?_
                rintro e_ w32 ⟨v5, rfl, ho, hb⟩
                have HLx := Lib.hid ((HLy.out.step hb).add (keep_rows (ho.rows intOk)))
                clear ho hb HLy
                go_wp2_with fail
                refine (sameI_any v5 _ (durE l fr te) (durE l fr te) _ (show (RowsN intK v5 (durE l fr te)) _ from HLx.out.get (by simp)) (show (RowsN intK (.slice da dn dc) (durE l fr te)) _ from HLx.out.get (by simp))).mono ?_
                rintro e_ w33 ⟨rfl, hb⟩
                rw [beq_self_eq_true]
                have HLw := Lib.hid (HLx.out.step hb)
                clear hb HLx
                have hcb := (show (BoxN cb 31 (cardR c)) _ from HLw.out.get (by simp)); have hsb := (show (BoxN sb 29 #[.int .i64 fr, .int .i64 te]) _ from HLw.out.get (by simp))
                have c1 := BoxN.cell hcb 1 _ rfl
                have s0 := BoxN.cell hsb 0 _ rfl
                have s1 := BoxN.cell hsb 1 _ rfl
                clear hcb hsb
                go_wp2_with fail
                clear c1 s0 s1
                refine (about_any c.unit fr te _ (show (IdxN S X l) _ from HLw.out.get (by simp))).mono ?_
                rintro e_ w34 ⟨v6, rfl, ho, hb⟩
                have HLv := Lib.hid ((HLw.out.step hb).add (keep_rows (ho.rows intOk)))
                clear ho hb HLw
                go_wp2_with fail
                refine (sameI_any v6 _ (aboutE l c.unit fr te) (aboutE l c.unit fr te) _ (show (RowsN intK v6 (aboutE l c.unit fr te)) _ from HLv.out.get (by simp)) (show (RowsN intK (.slice ea en ec) (aboutE l c.unit fr te)) _ from HLv.out.get (by simp))).mono ?_
                rintro e_ w35 ⟨rfl, hb⟩
                rw [beq_self_eq_true]
                have HLu := Lib.hid (HLv.out.step hb)
                clear hb HLv
                have hcb := (show (BoxN cb 31 (cardR c)) _ from HLu.out.get (by simp)); have hsb := (show (BoxN sb 29 #[.int .i64 fr, .int .i64 te]) _ from HLu.out.get (by simp))
                have c0 := BoxN.cell hcb 0 (.int .i64 (d : Int)) (by show some (Value.int .i64 c.id) = _; rw [HDd.out])
                clear hcb hsb
                have h0 := BoxN.cell (show (BoxN hb_ 27 (hereC l)) _ from HLu.out.get (by simp)) d _ HHd.out
                have hrb := HRk2.out
                cases bit
                · go_wp2
                  go_ret
                  exact ⟨rfl, HLu.out.below⟩
                · go_wp2
                  go_ret
                  exact ⟨rfl, HLu.out.below⟩
end Go.Proofs.YtcgopilkajfghaaDoor
