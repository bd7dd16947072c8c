/- IndexAnyWay. -/
import Derived.Test.YtcgopilkajfghaaDoorIAnyP
set_option linter.unusedVariables false
set_option linter.unusedSimpArgs false
namespace Go.Proofs.YtcgopilkajfghaaDoor
open Go.RowKit Go.Shelf

theorem keepT_rows {α : Type} {K : SK α} (ok : K.Ok) {F : Nat → Prop} {B : Nat} {W : World} {v : Value} {l : List α} (h : OwnK K B W v l) (hF : ∀ k, F k → k < B) : ∀ W', Turn F W W' → RowsN K v l W' := fun W' ht =>
  (h.turn ht fun g hg hf => by have h1 := (World.ownsRow.lt h g hg).1; have h2 := hF g hf; omega).rows ok
set_option maxRecDepth 100000 in
set_option maxHeartbeats 16000000 in
theorem lawA (v : Value) (N : Nat) (f : Nat → Nat → Int) (tz : Int) (mv : Value) (nm : Nat) (q : Nat → Nat → Int) (fz lz uz : Int) (w : World) (hX : SixAt w.heap.size w v N f) (htz : inI tz) (hM : FiveAt w.heap.size w mv nm q) (hfz : inI fz) (hlz : inI lz) (huz : inI uz) (hT : Rounds w) :
    Calls Tryd.prog 4 #[v, .int .i64 tz, mv, .int .i64 fz, .int .i64 lz, .int .i64 uz] w fun e w' => e = .returned (.bool true) ∧ Below w.heap.size w w' := by
  have hL := LiveP.start hT
  have HX := Lib.hid hX
  have HMq := Lib.hid hM
  obtain ⟨⟨ma, mc, rfl, hmc1, hmc2, hz1⟩, hz2⟩ := hM
  clear hz1 hz2
  unfold maxLen at hmc2
  have hfr := pickZ_bd fz 2100 (by omega)
  have HPf := Lib.hid (fun W => ipick_any fz 2100 W hfz.1 hfz.2 (by omega) (by omega))
  have HPu := Lib.hid (fun W => ipick_any uz 4 W huz.1 huz.2 (by omega) (by omega))
  generalize pickZ fz 2100 = fr at *
  generalize pickZ uz 4 = un at *
  have hpl := pickZ_bd lz (2100 - fr) (by omega)
  have HPl := Lib.hid (fun W => ipick_any lz (2100 - fr) W hlz.1 hlz.2 (by omega) (by omega))
  generalize pickZ lz (2100 - fr) = pl at *
  have w1_ : IntKind.i64.wrap (fr + 1) = fr + 1 := IntWalk.i64_in _ (by omega)
  have w2_ : IntKind.i64.wrap (2100 - fr) = 2100 - fr := IntWalk.i64_in _ (by omega)
  have w3_ : IntKind.i64.wrap (fr + 1 + pl) = fr + 1 + pl := IntWalk.i64_in _ (by omega)
  have HW := Lib.hid (⟨w1_, w2_, w3_⟩ : _ ∧ _ ∧ _)
  have HTz := Lib.hid htz
  have HT0 := Lib.hid hT
  have HL0 := Lib.hid hL
  clear hL hX hfz hlz huz htz hT hfr hpl w1_ w2_ w3_
  go_enter Tryd.func4, Tryd.ntmps4
  go_wp2_with fail
  refine (isane_any _ HL0.out.rounds).mono ?_
  rintro e w1 ⟨rfl, hb⟩
  have HZ1 := Lib.hid hb.size
  have HL1 := Lib.hid (HL0.out.step hb)
  clear hb HL0
  go_wp2_with fail
  refine (run_any _ N f _ ((HX.out.below HL1.out.below (Nat.le_refl _)).mono HL1.out.below.size)).mono ?_
  rintro e w2 ⟨S, X, rfl, hi, hb, hS⟩
  have HS := Lib.hid hS
  have HSl := Lib.hid hi.lt
  have HZ2 := Lib.hid hb.size
  have HL2 := Lib.hid ((HL1.out.step hb).add (keep_idx hi))
  clear hb hi hS HL1
  have HId : Hid (∀ c ∈ runL f (min N 40), 0 ≤ c.id ∧ c.id < 20) := run_id f _
  have HLn : Hid ((runL f (min N 40)).length ≤ 40) := Nat.le_trans (runL_length f _) (Nat.min_le_right _ _)
  have HOk : Hid (IOk (runL f (min N 40))) := runL_ok f _
  generalize runL f (min N 40) = l at *
  go_wp2_with fail
  refine (cards_any _ (show (IdxN S X l) _ from HL2.out.get (by simp))).mono ?_
  rintro e w3 ⟨lv, rfl, ho, hb⟩
  obtain ⟨oa, oc, hov, hlc, hcm⟩ := ho.shape
  subst hov
  unfold maxLen at hcm
  generalize hn : l.length = n at *
  have HN := Lib.hid hn
  have hln := HLn.out
  have HZ3 := Lib.hid hb.size
  have HLT3 : Hid (LiveT S w [RowsN cardK (.slice oa n oc) l] w3) := by
    have h := (HL2.out.step hb).below
    have a1 := HZ1.out; have a2 := HZ2.out; have a3 := HZ3.out
    refine ⟨h, HT0.out, fun k hk => ?_, fun P hP => ?_⟩
    · have h1 := HS.out k hk; have h2 := HSl.out k hk; omega
    · simp only [List.mem_cons, List.not_mem_nil, or_false] at hP
      subst hP
      exact keepT_rows cardOk ho HSl.out
  have HI3 : Hid (IdxN S X l w3) := (show (IdxN S X l) _ from HL2.out.get (by simp)).below hb
  clear ho hb hn HL2
  go_wp2_with fail
  refine (new_any _).mono ?_
  rintro e w4 ⟨R0, Y, rfl, hj, hb, hR⟩
  have HI4 := Lib.hid (HI3.out.below hb)
  have HJ4 : Hid (IdxN R0 Y (rotL l 0 0) w4) := hj
  have HD4 : Hid (∀ k, S k → ¬ R0 k) := fun k hk hr => by have h1 := HSl.out k hk; have h2 := hR k hr; have h3 := HZ3.out; omega
  have HLT4 : Hid (LiveT (fun k => S k ∨ R0 k) w [RowsN cardK (.slice oa n oc) l] w4) := HLT3.out.turn (Turn.of_below (S := S) hb) (fun k hk => hk) (fun k hk => by
    rcases hk with hk | hk
    · exact ⟨.inl hk, Nat.lt_of_lt_of_le (HLT3.out.2.2.1 k hk).2 hb.size⟩
    · exact ⟨.inr (hR k hk), hj.lt k hk⟩)
  clear hb hj hR HLT3 HI3
  have hpt : 0 < n → 0 ≤ pickZ tz n ∧ pickZ tz n < n := fun h => pickZ_bd tz n (by omega)
  obtain ⟨pt, hpte⟩ : ∃ pt : Nat, pt = (pickZ tz n).toNat := ⟨_, rfl⟩
  have HPt : Hid (0 < n → ∀ W, Calls Tryd.prog 16 #[.int .i64 tz, .int .i64 n] W fun e w' => e = .returned (.int .i64 (pt : Nat)) ∧ W = w') := fun h W => by
    have h1 := ipick_any tz n W HTz.out.1 HTz.out.2 (by omega) (by omega)
    have h2 := hpt h
    rwa [show pickZ tz n = ((pt : Nat) : Int) by rw [hpte]; omega] at h1
  have hptn : 0 < n → pt < n := fun h => by have := hpt h; omega
  clear hpt hpte
  rw [show rotL l 0 0 = rotL l pt 0 from rfl] at HJ4
  have HRd : Hid (∀ k, k < n → putL (rotL l pt k) (rotC l pt k) = (rotL l pt (k + 1), 0) ∧ ∀ e : ICard, validC e = true → 20 ≤ e.id → putL (rotL l pt k) e = (insC (rotL l pt k) e, 0) ∧ putL (insC (rotL l pt k) e) (rotC l pt k) = (insC (insC (rotL l pt k) e) (rotC l pt k), 0) ∧ dropL (insC (insC (rotL l pt k) e) (rotC l pt k)) e.id = (rotL l pt (k + 1), 0)) := fun k hk => rot_round HId.out HOk.out (by rw [HN.out]; exact hln) pt k (by rw [HN.out]; exact hk)
  have HRa : Hid (rotL l pt n = l) := by show _ = _; rw [← HN.out]; exact rotL_all HOk.out (by rw [HN.out]; exact hln) pt
  have HRm : Hid (∀ k, k < n → rotC l pt k ∈ l) := fun k hk => rotC_mem pt k (by rw [HN.out]; omega)
  go_wp2
  go_loopw [17] (fun i wr => ∃ (k : Nat) (R : Nat → Prop), k ≤ n ∧ i = .int .i64 k ∧ Hid (LiveT (fun k => S k ∨ R k) w [RowsN cardK (.slice oa n oc) l] wr) ∧ Hid (IdxN S X l wr) ∧ Hid (IdxN R Y (rotL l pt k) wr) ∧ Hid (∀ k, S k → ¬ R k)) (fun i _ => n - (intOf i).toNat)
  case atStart => exact ⟨0, R0, Nat.zero_le _, rfl, HLT4, HI4, HJ4, HD4⟩
  case round =>
    obtain ⟨k, R, hk, rfl, HLT, HI, HJ, HD⟩ := hrel
    have k0 : 0 ≤ (k : Int) := by omega
    by_cases h1 : k < n
    · have k1 : (k : Int) < (n : Int) := by omega
      have hpn := hptn (by omega)
      have HP := Lib.hid (HPt.out (by omega))
      have hqn := Nat.mod_lt (k + pt) (show 0 < n by omega)
      have hget : l[(k + pt) % n]? = some (rotC l pt k) := by
        have e : rotC l pt k = l.getD ((k + pt) % n) default := by unfold rotC; rw [HN.out]
        rw [e, List.getD_eq_getElem?_getD, List.getElem?_eq_getElem (by rw [HN.out]; exact hqn)]; rfl
      have hmm : ((k : Int) + (pt : Int)) % (n : Int) = (((k + pt) % n : Nat) : Int) := by rw [Int.natCast_emod]; rfl
      have hmt : ((k : Int) + (pt : Int)).tmod (n : Int) = (((k + pt) % n : Nat) : Int) := by rw [Int.tmod_eq_emod_of_nonneg (by omega), hmm]
      have wk : IntKind.i64.wrap ((k : Int) + (pt : Int)) = (k : Int) + (pt : Int) := IntWalk.i64_in _ (by omega)
      have nz : ¬ ((n : Int) = 0) := by omega
      generalize (k + pt) % n = j at *
      have wj : IntKind.i64.wrap ((j : Nat) : Int) = (j : Int) := IntWalk.i64_in _ (by omega)
      have j1 : (j : Int) < (n : Int) := by omega
      have j0 : 0 ≤ (j : Int) := by omega
      have hrd := HRd.out k h1
      obtain ⟨c, hc⟩ : ∃ c, c = rotC l pt k := ⟨_, rfl⟩
      rw [← hc] at hrd hget
      have HPc := Lib.hid hrd.1; have HPe := Lib.hid hrd.2
      have HIc : Hid (inI c.id) := by rw [hc]; exact iok_in HOk.out (HRm.out k h1)
      have HCid : Hid (c.id < 20) := by rw [hc]; exact (HId.out _ (HRm.out k h1)).2
      obtain ⟨gb, off, hae, hgb, p0, p1, p2, p3, p4⟩ := cards_at (show RowsAt cardK _ _ _ _ from (show (RowsN cardK (.slice oa n oc) l) _ from HLT.out.get (by simp))) j c hget
      subst hae
      clear hget hrd hc
      obtain ⟨w5, hw5⟩ : ∃ w5, w5 = wr.alloc (.cells #[.int .i64 c.id, .int .i64 c.unit, .int .i64 c.kind, .int .i64 c.beg, .int .i64 c.fin] 31) := ⟨_, rfl⟩
      have hb5 : Below wr.heap.size wr w5 := by rw [hw5]; exact (Below.refl _ _).alloc (Nat.le_refl _) _
      have hc5 : BoxN wr.heap.size 31 (cardR c) w5 := by rw [hw5]; exact box_new wr _ _
      have HLT5 : Hid (LiveT (fun k => S k ∨ R k) w [BoxN wr.heap.size 31 (cardR c), RowsN cardK (.slice (some ⟨gb, off, none⟩) n oc) l] w5) := (HLT.out.step hb5).add (keepT_box hc5 (fun hk => Nat.lt_irrefl _ (HLT.out.2.2.1 _ hk).2))
      have HI5 := Lib.hid (HI.out.below hb5); have HJ5 := Lib.hid (HJ.out.below hb5)
      have HWl : Hid (wr.heap.size < w5.heap.size) := hc5.lt
      clear hb5 hgb HLT HI HJ
      by_cases h3 : k < nm
      · have k3 : (k : Int) < (nm : Int) := by omega
        obtain ⟨mb, mo, hme, hmb, ⟨m0, m1, m2, m3, m4⟩, hall⟩ := FiveAt.row (HMq.out.below HLT5.out.below (Nat.le_refl _)) h3
        subst hme
        rw [hw5] at m0 m1 m2 m3 m4
        have HAl := Lib.hid hall
        have HW5 := Lib.hid hw5
        clear hall hmb hw5 hc5
        go_wp2_with (first | (go_at_call 16; refine (HP.out _).mono ?_; rintro e w' ⟨rfl, rfl⟩) | fail)
        rw [← HW5.out]
        clear p0 p1 p2 p3 p4 m0 m1 m2 m3 m4 HW5 hmm hmt wk wj j1 j0 nz
        refine (card_any (q k) _ HAl.out).mono ?_
        rintro e w6 ⟨rfl, hb⟩
        have HLT6 := Lib.hid (HLT5.out.step hb); have HI6 := Lib.hid (HI5.out.below hb); have HJ6 := Lib.hid (HJ5.out.below hb)
        have hok := cardG_ok (q k)
        have HV : Hid (validC ⟨(cardG (q k)).id + 100, (cardG (q k)).unit, (cardG (q k)).kind, (cardG (q k)).beg, (cardG (q k)).fin⟩ = true) := by
          have h := validC_ok hok.1
          show _ = _
          unfold validC inC spellB
          simp only [Bool.and_eq_true, decide_eq_true_eq]
          omega
        have hidb := hok.2
        clear hok hb HLT5 HI5 HJ5
        generalize cardG (q k) = d0 at *
        have wz : IntKind.i64.wrap (d0.id + 100) = d0.id + 100 := IntWalk.i64_in _ (by omega)
        obtain ⟨d, hd⟩ : ∃ d : ICard, d = ⟨d0.id + 100, d0.unit, d0.kind, d0.beg, d0.fin⟩ := ⟨_, rfl⟩
        rw [← hd] at HV
        have HDi : Hid (20 ≤ d.id ∧ inI d.id) := by subst hd; exact ⟨by show _ ≤ d0.id + 100; omega, by unfold inI; show _ ≤ d0.id + 100 ∧ d0.id + 100 ≤ _; omega⟩
        have hdr : (#[.int .i64 (d0.id + 100), .int .i64 d0.unit, .int .i64 d0.kind, .int .i64 d0.beg, .int .i64 d0.fin] : Array Value) = cardR d := by rw [hd]
        have hda : (Value.agg #[.int .i64 (d0.id + 100), .int .i64 d0.unit, .int .i64 d0.kind, .int .i64 d0.beg, .int .i64 d0.fin]) = cardV d := by rw [hd]
        obtain ⟨w7, hw7⟩ : ∃ w7, w7 = w6.alloc (.cells #[.int .i64 (d0.id + 100), .int .i64 d0.unit, .int .i64 d0.kind, .int .i64 d0.beg, .int .i64 d0.fin] 31) := ⟨_, rfl⟩
        have hb7 : Below w6.heap.size w6 w7 := by rw [hw7]; exact (Below.refl _ _).alloc (Nat.le_refl _) _
        have hd7 : BoxN w6.heap.size 31 (cardR d) w7 := by rw [hw7, ← hdr]; exact box_new w6 _ _
        have HLT7 := Lib.hid ((HLT6.out.step hb7).add (keepT_box hd7 (fun hk => Nat.lt_irrefl _ (HLT6.out.2.2.1 _ hk).2)))
        have HI7 := Lib.hid (HI6.out.below hb7); have HJ7 := Lib.hid (HJ6.out.below hb7)
        have hd7e : CardN w6.heap.size ⟨d0.id + 100, d0.unit, d0.kind, d0.beg, d0.fin⟩ w7 := by rw [← hd]; exact hd7
        obtain ⟨c0, c1, c2, c3, c4⟩ := CardN.cells hd7e
        rw [hw7] at c0 c1 c2 c3 c4
        have HW7 := Lib.hid hw7; have HDa := Lib.hid hda
        clear hb7 hd7 hd7e hw7 hdr hda hd HLT6 HI6 HJ6 hidb
        go_wp2_with fail
        clear c0 c1 c2 c3 c4 wz
        rw [← HW7.out, HDa.out]
        clear HW7 HDa
        obtain ⟨e1, e2, e3⟩ := HPe.out d HV.out HDi.out.1
        have E1 := Lib.hid e1; have E2 := Lib.hid e2; have E3 := Lib.hid e3
        clear e1 e2 e3
        refine (put_any d _ HJ7.out HDi.out.2).mono ?_
        rintro e w8 ⟨rfl, R8, hi, ht, hs⟩
        rw [E1.out] at hi ⊢
        simp only at hi ⊢
        have HLT8 := Lib.hid (HLT7.out.turnY ht hs hi.lt)
        obtain ⟨hj, hd⟩ := two_idx HI7.out (fun k hr hk => HD.out k hk hr) ht hs
        have HJ8 := Lib.hid hi; have HI8 := Lib.hid hj; have HD8 : Hid (∀ k, S k → ¬ R8 k) := fun k hk hr => hd k hr hk
        clear hi ht hs hj hd HLT7 HI7 HJ7 HD
        have hcc : BoxN wr.heap.size 31 (cardR c) _ := (show (BoxN wr.heap.size 31 (cardR c)) _ from HLT8.out.get (by simp))
        obtain ⟨c0, c1, c2, c3, c4⟩ := CardN.cells (show CardN _ c _ from hcc)
        clear hcc
        go_wp2_with fail
        clear c0 c1 c2 c3 c4
        refine (put_any c _ HJ8.out HIc.out).mono ?_
        rintro e w9 ⟨rfl, R9, hi, ht, hs⟩
        rw [E2.out] at hi ⊢
        simp only at hi ⊢
        have HLT9 := Lib.hid (HLT8.out.turnY ht hs hi.lt)
        obtain ⟨hj, hd⟩ := two_idx HI8.out (fun k hr hk => HD8.out k hk hr) ht hs
        have HJ9 := Lib.hid hi; have HI9 := Lib.hid hj; have HD9 : Hid (∀ k, S k → ¬ R9 k) := fun k hk hr => hd k hr hk
        clear hi ht hs hj hd HLT8 HI8 HJ8 HD8
        have hcc : BoxN w6.heap.size 31 (cardR d) _ := (show (BoxN w6.heap.size 31 (cardR d)) _ from HLT9.out.get (by simp))
        obtain ⟨c0, c1, c2, c3, c4⟩ := CardN.cells (show CardN _ d _ from hcc)
        clear hcc
        go_wp2_with fail
        clear c0 c1 c2 c3 c4
        refine (drop_any d.id _ HJ9.out HDi.out.2).mono ?_
        rintro e w10 ⟨rfl, R10, hi, ht, hs⟩
        rw [E3.out] at hi ⊢
        simp only at hi ⊢
        have HLT10 := Lib.hid (HLT9.out.turnY ht hs hi.lt)
        obtain ⟨hj, hd⟩ := two_idx HI9.out (fun k hr hk => HD9.out k hk hr) ht hs
        have HJ10 := Lib.hid hi; have HI10 := Lib.hid hj; have HD10 : Hid (∀ k, S k → ¬ R10 k) := fun k hk hr => hd k hr hk
        clear hi ht hs hj hd HLT9 HI9 HJ9 HD9
        go_wp2
        go_roundw
        case rel => exact ⟨k + 1, R10, by omega, by go_num, HLT10.out.sub (by simp), HI10, HJ10, HD10⟩
        case measure => simp [intOf]; omega
      · have k3 : ¬ (k : Int) < (nm : Int) := by omega
        obtain ⟨c0, c1, c2, c3, c4⟩ := CardN.cells (show CardN _ c _ from hc5)
        rw [hw5] at c0 c1 c2 c3 c4
        have HW5 := Lib.hid hw5
        clear hc5 hw5
        go_wp2_with (first | (go_at_call 16; refine (HP.out _).mono ?_; rintro e w' ⟨rfl, rfl⟩) | fail)
        clear p0 p1 p2 p3 p4 c0 c1 c2 c3 c4 hmm hmt wk wj j1 j0 nz
        rw [← HW5.out]
        clear HW5
        refine (put_any c _ HJ5.out HIc.out).mono ?_
        rintro e w6 ⟨rfl, R6, hi, ht, hs⟩
        rw [HPc.out] at hi ⊢
        simp only at hi ⊢
        have HLT6 := Lib.hid (HLT5.out.turnY ht hs hi.lt)
        obtain ⟨hj, hd⟩ := two_idx HI5.out (fun k hr hk => HD.out k hk hr) ht hs
        have HJ6 := Lib.hid hi; have HI6 := Lib.hid hj; have HD6 : Hid (∀ k, S k → ¬ R6 k) := fun k hk hr => hd k hr hk
        clear hi ht hs hj hd HLT5 HI5 HJ5 HD
        go_wp2
        go_roundw
        case rel => exact ⟨k + 1, R6, by omega, by go_num, HLT6.out.sub (by simp), HI6, HJ6, HD6⟩
        case measure => simp [intOf]; omega
    · obtain rfl : k = n := by omega
      rw [HRa.out] at HJ
      have HLx := Lib.hid ((HLT.out.live.add (keep_idx HI.out)).add (keep_idx HJ.out))
      have HZx := HLx.out.below.size
      clear HLT HI HJ HD HRd HRm HLT4 HI4 HJ4 HD4 HZx
      go_wp2_with fail
      refine (HPf.out _).mono ?_
      rintro e w' ⟨rfl, rfl⟩
      obtain ⟨V, hV⟩ : ∃ V, V = wr.alloc (.cells #[.int .i64 fr, .int .i64 0] 29) := ⟨_, rfl⟩
      have hb7 : Below wr.heap.size wr V := by rw [hV]; exact (Below.refl _ _).alloc (Nat.le_refl _) _
      have hx7 : BoxN wr.heap.size 29 #[.int .i64 fr, .int .i64 0] V := by rw [hV]; exact box_new wr _ _
      have HL7 := Lib.hid ((HLx.out.step hb7).add (keep_box hx7))
      have HVe := Lib.hid hV
      have HBs := Lib.hid hb7
      clear hb7 hx7 hV
      obtain ⟨w1_, w2_, w3_⟩ := HW.out
      go_wp2
      rw [← HVe.out]
      have HQ : Hid (∀ W, V.grownBy W none → W.cell? ⟨wr.heap.size, 0, none⟩ = some (.int .i64 fr) ∧ W.cell? ⟨wr.heap.size, 1, none⟩ = some (.int .i64 0)) := fun W hW => by
        have hL := HL7.out.step (grown_below hW)
        exact ⟨BoxN.cell (show (BoxN wr.heap.size 29 #[.int .i64 fr, .int .i64 0]) _ from hL.get (by simp)) 0 _ rfl, BoxN.cell (show (BoxN wr.heap.size 29 #[.int .i64 fr, .int .i64 0]) _ from hL.get (by simp)) 1 _ rfl⟩
      refine wp_region_calm (tagPl [7] [(7, .val (.int .i64 pl))] 10) (by kernel_rfl) (by kernel_rfl) (by kernel_rfl) tag_c0 tag_hst ?_
      iterate 3 (refine calm_quiet (v := ?_) (by rfl) (by rfl) (fun W hW hD => ?_) ?_; rotate_left; (· (obtain ⟨y0, y1⟩ := HQ.out W hW; clear hD hW; go_simp; try with_reducible rfl)); simp only [Act.put, List.setIfInBounds_toArray, List.set_cons_zero, List.set_cons_succ, Nat.reduceAdd, Nat.zero_add])
      iterate 1 (refine calm_quiet (v := ?_) (by rfl) (by rfl) (fun W hW hD => ?_) ?_; rotate_left; (· (clear hD hW; go_simp; try with_reducible rfl)); simp only [Act.put, List.setIfInBounds_toArray, List.set_cons_zero, List.set_cons_succ, Nat.reduceAdd, Nat.zero_add])
      iterate 3 (refine calm_quiet (v := ?_) (by rfl) (by rfl) (fun W hW hD => ?_) ?_; rotate_left; (· (obtain ⟨y0, y1⟩ := HQ.out W hW; clear hD hW; go_simp; try with_reducible rfl)); simp only [Act.put, List.setIfInBounds_toArray, List.set_cons_zero, List.set_cons_succ, Nat.reduceAdd, Nat.zero_add])
      refine calm_fixed (.int .i64 pl) ⟨(default : World), rfl⟩ (fun v W h => h) rfl (by rfl) (by rfl) (fun W hW hD Kc hK => ?_) ?_
      · refine wp_of_call (f := 16) ?_ ((HPl.out W).mono ?_)
        · clear hD hW hK
          go_simp
        · rintro e w5 ⟨rfl, rfl⟩
          exact ⟨_, rfl, hK _ _ (made_plain rfl (Below.refl _ _) rfl)⟩
      simp only [Act.put, List.setIfInBounds_toArray, List.set_cons_zero, List.set_cons_succ, Nat.reduceAdd, Nat.zero_add]
      iterate 2 (refine calm_quiet (v := ?_) (by rfl) (by rfl) (fun W hW hD => ?_) ?_; rotate_left; (· (clear hD hW; go_simp; try with_reducible rfl)); simp only [Act.put, List.setIfInBounds_toArray, List.set_cons_zero, List.set_cons_succ, Nat.reduceAdd, Nat.zero_add])
      refine calm_tail (by rfl) fun W hW hF => ?_
      have hc : BoxN wr.heap.size 29 #[.int .i64 fr, .int .i64 0] W := BoxN.grown (show (BoxN wr.heap.size 29 #[.int .i64 fr, .int .i64 0]) _ from HL7.out.get (by simp)) hW (by simp)
      have z0 := BoxN.cell hc 1 _ rfl
      have zf := BoxN.frozen hc
      obtain ⟨V8, hV8⟩ : ∃ W8, W8 = W.setCell ⟨wr.heap.size, 1, none⟩ (.int .i64 (fr + 1 + pl)) := ⟨_, rfl⟩
      have hb8 : Below wr.heap.size wr V8 := by rw [hV8]; exact (HBs.out.trans ((grown_below hW).mono HBs.out.size)).setCell (p := ⟨wr.heap.size, 1, none⟩) (Nat.le_refl _) _
      have hx8 : BoxN wr.heap.size 29 #[.int .i64 fr, .int .i64 (fr + 1 + pl)] V8 := by rw [hV8]; exact hc.set 1 _
      have HL8 := Lib.hid ((HLx.out.step hb8).add (keep_box hx8))
      have HWe := Lib.hid hV8
      clear hF hW hc HL7 HLx HBs HVe hb8 hx8 hV8 HQ
      go_wp2
      try refine NoPanic.normal ?_
      clear z0 zf w1_ w2_ w3_
      rw [← HWe.out]
      clear HWe
      have HQ : Hid (∀ W, V8.grownBy W none → (W.cell? ⟨wr.heap.size, 0, none⟩ = some (.int .i64 fr) ∧ W.cell? ⟨wr.heap.size, 1, none⟩ = some (.int .i64 (fr + 1 + pl))) ∧ IdxN S X l W ∧ IdxN R Y l W ∧ Rounds W) := fun W hW => by
        have hL := HL8.out.step (grown_below hW)
        exact ⟨⟨BoxN.cell (show (BoxN wr.heap.size 29 #[.int .i64 fr, .int .i64 (fr + 1 + pl)]) _ from hL.get (by simp)) 0 _ rfl, BoxN.cell (show (BoxN wr.heap.size 29 #[.int .i64 fr, .int .i64 (fr + 1 + pl)]) _ from hL.get (by simp)) 1 _ rfl⟩, (show (IdxN S X l) _ from hL.get (by simp)), (show (IdxN R Y l) _ from hL.get (by simp)), hL.rounds⟩
      refine wp_region_calm (tagPl [6, 7] [(6, .val (.int .i64 un)), (7, .val (.bool true))] 1000) (by kernel_rfl) (by kernel_rfl) (by kernel_rfl) tag_c0 tag_hst ?_
      iterate 6 (refine calm_quiet (v := ?_) (by rfl) (by rfl) (fun W hW hD => ?_) ?_; rotate_left; (· (obtain ⟨⟨y0, y1⟩, _, _, _⟩ := HQ.out W hW; clear hD hW; go_simp; try with_reducible rfl)); simp only [Act.put, List.setIfInBounds_toArray, List.set_cons_zero, List.set_cons_succ, Nat.reduceAdd, Nat.zero_add])
      refine calm_fixed (.int .i64 un) ⟨(default : World), rfl⟩ (fun v W h => h) rfl (by rfl) (by rfl) (fun W hW hD Kc hK => ?_) ?_
      · refine wp_of_call (f := 16) ?_ ((HPu.out W).mono ?_)
        · clear hD hW hK
          go_simp
        · rintro e w5 ⟨rfl, rfl⟩
          exact ⟨_, rfl, hK _ _ (made_plain rfl (Below.refl _ _) rfl)⟩
      simp only [Act.put, List.setIfInBounds_toArray, List.set_cons_zero, List.set_cons_succ, Nat.reduceAdd, Nat.zero_add]
      refine calm_fixed (.bool true) ⟨(default : World), rfl⟩ (fun v W h => h) rfl (by rfl) (by rfl) (fun W hW hD Kc hK => ?_) ?_
      · obtain ⟨_, hX, hY, hR⟩ := HQ.out W hW
        refine wp_of_call (f := 26) ?_ ((alike_any fr (fr + 1 + pl) un W hX hY hR).mono ?_)
        · clear hD hW hK hX hY hR
          go_simp
        · rintro e w5 ⟨rfl, hb5⟩
          exact ⟨_, rfl, hK _ _ (made_plain rfl hb5 rfl)⟩
      simp only [Act.put, List.setIfInBounds_toArray, List.set_cons_zero, List.set_cons_succ, Nat.reduceAdd, Nat.zero_add]
      iterate 2 (refine calm_quiet (v := ?_) (by rfl) (by rfl) (fun W hW hD => ?_) ?_; rotate_left; (· (clear hD hW; go_simp; try with_reducible rfl)); simp only [Act.put, List.setIfInBounds_toArray, List.set_cons_zero, List.set_cons_succ, Nat.reduceAdd, Nat.zero_add])
      refine calm_nil fun W hW hF => ?_
      have HBz := Lib.hid (HL8.out.step (grown_below hW)).below
      clear hF hW
      go_wp2
      go_ret
      exact ⟨rfl, HBz.out⟩
end Go.Proofs.YtcgopilkajfghaaDoor
