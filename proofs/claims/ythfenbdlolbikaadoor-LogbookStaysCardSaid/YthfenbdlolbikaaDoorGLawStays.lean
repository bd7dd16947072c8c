/- LogbookStays: the walk. -/
import Derived.Test.YthfenbdlolbikaaDoorGCom
set_option linter.unusedVariables false
set_option linter.unusedSimpArgs false
namespace Go.Proofs.YthfenbdlolbikaaDoor
open Go.RowKit Go.Shelf

/-- The last second of a logbook that integers determine. -/
theorem made_last (o : Int) (N : Nat) (f : Nat → Nat → Int) (h : 0 < (madeBook o N f).recs.length) : 0 ≤ ((madeBook o N f).recs.getD ((madeBook o N f).recs.length - 1) default).sec ∧ ((madeBook o N f).recs.getD ((madeBook o N f).recs.length - 1) default).sec ≤ 400 ∧ lastSec 0 (madeBook o N f).recs = ((madeBook o N f).recs.getD ((madeBook o N f).recs.length - 1) default).sec := by
  have e : lastSec 0 (madeBook o N f).recs = ((madeBook o N f).recs.getD ((madeBook o N f).recs.length - 1) default).sec := by
    generalize (madeBook o N f).recs = l at *
    unfold lastSec
    rw [List.getLast?_eq_getElem?, List.getD_eq_getElem?_getD, List.getElem?_eq_getElem (by omega)]
    rfl
  have h1 : lastSec 0 (madeBook o N f).recs = secTo f (min N 12) := lastSec_made f (min N 12) (by omega)
  have h2 := secTo_bd f (min N 12)
  rw [← e, h1]
  omega
theorem stays_ok (o : Int) (N : Nat) (f : Nat → Nat → Int) (now : Int) (g : Nat → Int) (h0 : 0 ≤ now) (h1 : now ≤ 1000) (h2 : 0 < (madeBook o N f).recs.length → ((madeBook o N f).recs.getD ((madeBook o N f).recs.length - 1) default).sec ≤ now) :
    bookB (addBook (madeBook o N f) (entryZ now g)) = true := by
  have hs : (entryZ now g).sec = now := pickZ_id h0 (by omega)
  have hb := made_ok o N f
  have hr := entry_rec now g
  have hl : lastSec 0 (madeBook o N f).recs ≤ (entryZ now g).sec := by
    rw [hs]
    by_cases hp : 0 < (madeBook o N f).recs.length
    · rw [(made_last o N f hp).2.2]; exact h2 hp
    · rw [List.eq_nil_of_length_eq_zero (Nat.le_zero.1 (Nat.not_lt.1 hp))]
      exact h0
  have hlen := madeB_len o N f
  rw [add_ok]
  unfold bookB at hb
  rw [Bool.and_eq_true, Bool.and_eq_true] at hb
  rw [hb.1.1, hb.1.2, hr, decide_eq_true hl, decide_eq_true (by omega : (madeBook o N f).recs.length + 1 ≤ 60)]
  rfl
theorem stays_add (o : Int) (N : Nat) (f : Nat → Nat → Int) (now : Int) (g : Nat → Int) (h0 : 0 ≤ now) (h1 : now ≤ 1000) (h2 : 0 < (madeBook o N f).recs.length → ((madeBook o N f).recs.getD ((madeBook o N f).recs.length - 1) default).sec ≤ now) :
    addE (madeBook o N f) (entryZ now g) = (⟨(madeBook o N f).office, (madeBook o N f).recs ++ [entryZ now g]⟩, 0) ∧ (entryZ now g).sec = now ∧ ∀ k s, findB ⟨(madeBook o N f).office, (madeBook o N f).recs ++ [entryZ now g]⟩ k s = if (entryZ now g).kind = k ∧ (entryZ now g).sec ≤ s then ((madeBook o N f).recs.length : Int) else findDn (madeBook o N f).recs k s (madeBook o N f).recs.length := by
  have hs : (entryZ now g).sec = now := pickZ_id h0 (by omega)
  refine ⟨?_, hs, ?_⟩
  rotate_left
  · intro k s
    rw [← findDn_more]
    exact if_pos (stays_ok o N f now g h0 h1 h2)
  have hb := made_ok o N f
  have hb' := stays_ok o N f now g h0 h1 h2
  unfold addE
  rw [hb, hb']
  rfl
set_option maxRecDepth 100000 in
set_option maxHeartbeats 8000000 in
theorem lawStays (o : Int) (xv : Value) (N : Nat) (f : Nat → Nat → Int) (lt : Int) (g : Nat → Int) (kd sc : Int) (w : World) (ho : I64 o) (hlt : I64 lt) (hg : ∀ i, i < 4 → -9223372036854775808 ≤ g i ∧ g i ≤ 9223372036854775807) (hk : I64 kd) (hs : I64 sc) (hX : FiveAt w.heap.size w xv N f) (hT : Rounds w) :
    Calls Tryd.prog 4 #[.int .i64 o, xv, .int .i64 lt, fourV g, .int .i64 kd, .int .i64 sc] w fun e w' => e = .returned (.bool true) ∧ Below w.heap.size w w' := by
  have hp1 := pickZ_bd kd 3 (by omega)
  have hp2 := pickZ_bd sc 450 (by omega)
  have hp0 := pickZ_bd lt 50 (by omega)
  have HP0 := Lib.hid (fun W => gpick_any lt 50 W hlt.1 hlt.2 (by omega) (by omega))
  have HP1 := Lib.hid (fun W => gpick_any kd 3 W hk.1 hk.2 (by omega) (by omega))
  have HP2 := Lib.hid (fun W => gpick_any sc 450 W hs.1 hs.2 (by omega) (by omega))
  have HG := Lib.hid hg
  have hL0 := (((LiveP.start hT).add (P := FiveN xv N f) (keep_five hX)).alloc (.cells #[.int .i64 (g 0), .int .i64 (g 1), .int .i64 (g 2), .int .i64 (g 3)] 37)).add (P := FourN w.heap.size g) (keep_four (four_new w g))
  have HL0 := Lib.hid hL0
  obtain ⟨⟨xa, xc, rfl, _, _, _⟩, _⟩ := hX
  generalize pickZ kd 3 = K at *
  generalize pickZ sc 450 = S at *
  generalize pickZ lt 50 = L at *
  have wk : IntKind.i64.wrap (1 + K) = 1 + K := IntWalk.i64_in _ (by omega)
  have HMl := Lib.hid (made_last o N f)
  have HSt := Lib.hid (stays_add o N f)
  have hv := made_ok o N f
  have hml := madeB_len o N f
  clear hT hL0 hg
  go_enter Tryd.func4, Tryd.ntmps4
  go_wp2_with fail
  refine (gsane_any _ HL0.out.rounds).mono ?_
  rintro e w1 ⟨rfl, hb⟩
  have HL1 := Lib.hid (HL0.out.step hb)
  clear hb HL0
  go_wp2_with fail
  refine (made_any o _ N f w1 ho (show FiveN _ N f w1 from HL1.out.get (by simp))).mono ?_
  rintro e w2 ⟨rv, rfl, hO, hb⟩
  generalize madeBook o N f = bk at *
  obtain ⟨O, l⟩ := bk
  simp only at hO hml HMl HSt ⊢
  obtain ⟨ra, rc, hrv, hrc1, hrc2⟩ := hO.shape
  subst hrv
  unfold maxLen at hrc2
  have hL := (((HL1.out.step hb).add (keep_recs hO.recs)).alloc (.cells #[.int .i64 O, .slice ra l.length rc] 25)).add (keep_book (logBox_new w2 O (.slice ra l.length rc)))
  obtain ⟨B, hB⟩ : ∃ B, B = w2.heap.size := ⟨_, rfl⟩
  rw [← hB] at hL
  have HFa : Hid (∀ k s, findB ⟨O, l⟩ k s = findDn l k s l.length) := fun k s => if_pos hv
  have HMr := Lib.hid (fun x : LRec => findDn_more l x (1 + K) S)
  have HApl : Hid (∀ x : LRec, (l ++ [x]).length = l.length + 1) := fun x => by simp
  have HApt : Hid (∀ x : LRec, (l ++ [x]).take l.length = l) := fun x => by simp
  have HApg : Hid (∀ x : LRec, (l ++ [x]).getD l.length default = x) := fun x => by simp
  generalize hm : l.length = m at *
  have HM := Lib.hid hm
  have hbk := show BookN B O (.slice ra m rc) _ from hL.get (by simp)
  have hrecs := show RecsN (.slice ra m rc) l _ from hL.get (by simp)
  rw [hB] at hbk
  have q0 := hbk.c0
  have q1 := hbk.c1
  have HL2 := Lib.hid hL
  clear hL hb hO hbk hv HL1
  clear hm
  have hex : ∃ now : Int, 0 ≤ now ∧ now ≤ 1000 ∧ (0 < m → (l.getD (m - 1) default).sec ≤ now) ∧ now = (if m = 0 then L else L + (l.getD (m - 1) default).sec) := by
    refine ⟨if m = 0 then L else L + (l.getD (m - 1) default).sec, ?_⟩
    by_cases h0 : m = 0
    · rw [if_pos h0]; exact ⟨by omega, by omega, fun h => by omega, rfl⟩
    · rw [if_neg h0]
      have := HMl.out (by omega)
      exact ⟨by omega, by omega, fun h => by omega, rfl⟩
  obtain ⟨now, hn0, hn1, hn2, hn⟩ := hex
  have HN2 := Lib.hid hn2
  have HNow := Lib.hid hn
  clear hn2 hn
  have hcase : (m = 0 ∧ now = L) ∨ (0 < m ∧ now = L + (l.getD (m - 1) default).sec) := by
    have := HNow.out
    by_cases h0 : m = 0
    · rw [if_pos h0] at this; exact .inl ⟨h0, this⟩
    · rw [if_neg h0] at this; exact .inr ⟨by omega, this⟩
  have hLast : 0 < m → 0 ≤ (l.getD (m - 1) default).sec ∧ (l.getD (m - 1) default).sec ≤ 400 := fun h => ⟨(HMl.out h).1, (HMl.out h).2.1⟩
  have HStA := Lib.hid (HSt.out now g hn0 hn1 HN2.out)
  have hent := entry_rec now g
  have HEn : Hid (∀ W, Calls Tryd.prog 15 #[.int .i64 now, fourV g] W fun e w' => e = .returned (recV (entryZ now g)) ∧ Below W.heap.size W w') := fun W => entry_any now g W (by omega) HG.out
  generalize entryZ now g = r at *
  clear HNow HSt HMl HN2
  rcases hcase with ⟨hm0, hnow⟩ | ⟨hm0, hnow⟩
  · subst hnow
    have mz : ¬ ((0 : Int) < (m : Int)) := by omega
    clear hLast hm0
    go_wp2_with fail
    refine (HP0.out _).mono ?_
    rintro e w' ⟨rfl, rfl⟩
    obtain ⟨f0, f1, f2, f3⟩ := (show FourBox _ w.heap.size g from (show FourN w.heap.size g _ from HL2.out.get (by simp))).cells
    go_wp2_with fail
    clear mz
    refine (HEn.out _).mono ?_
    rintro e w3 ⟨rfl, hb3⟩
    have hL := ((HL2.out.step hb3).alloc (.cells #[.int .i64 r.sec, .int .i64 r.kind, .int .i64 r.a, .int .i64 r.b, .string (bs r.text)] 27)).add (keep_rec (recBox_new w3 r))
    have hbk := show BookN B O (.slice ra m rc) _ from hL.get (by simp)
    have hrx := (show RecBox _ w3.heap.size r from (show RecN w3.heap.size r _ from hL.get (by simp))).cells
    rw [hB] at hbk
    clear q0 q1 f0 f1 f2 f3 hb3 hbk
    have hbk := show BookN B O (.slice ra m rc) _ from hL.get (by simp)
    rw [hB] at hbk
    have q0 := hbk.c0
    have q1 := hbk.c1
    obtain ⟨d0, d1, d2, d3, d4⟩ := hrx
    have HL3 := Lib.hid hL
    clear hL hbk HL2
    go_wp2_with fail
    refine (gadd_any O _ l r _ (show RecsN (.slice ra m rc) _ _ from HL3.out.get (by simp)) (by rw [HM.out]; omega)).mono ?_
    rintro e w4 ⟨rv4, rfl, hO4, hb4⟩
    rw [HStA.out.1] at hO4 ⊢
    simp only at hO4 ⊢
    obtain ⟨ma, mc, hrv4, hmc1, hmc2⟩ := hO4.shape
    subst hrv4
    rw [HApl.out r] at hO4 hmc1 ⊢
    unfold maxLen at hmc2
    obtain ⟨mb, mo, hma, _, _⟩ := hO4.recs.at m (by rw [HApl.out r]; omega)
    subst hma
    have hL := (((HL3.out.step hb4).add (keep_recs hO4.recs)).alloc (.cells #[.int .i64 O, .slice (some ⟨mb, mo, none⟩) (m + 1) mc] 25)).add (keep_book (logBox_new w4 O (.slice (some ⟨mb, mo, none⟩) (m + 1) mc)))
    obtain ⟨M, hMM⟩ : ∃ M, M = w4.heap.size := ⟨_, rfl⟩
    rw [← hMM] at hL
    have HL4 := Lib.hid hL
    clear q0 q1 d0 d1 d2 d3 d4 hL hO4 hb4
    have HQ : Hid (∀ W, (w4.alloc (.cells #[.int .i64 O, .slice (some ⟨mb, mo, none⟩) (m + 1) mc] 25)).grownBy W none → W.cell? ⟨w2.heap.size, 0, none⟩ = some (.int .i64 O) ∧ W.cell? ⟨w2.heap.size, 1, none⟩ = some (.slice ra m rc) ∧ W.cell? ⟨w4.heap.size, 0, none⟩ = some (.int .i64 O) ∧ W.cell? ⟨w4.heap.size, 1, none⟩ = some (.slice (some ⟨mb, mo, none⟩) (m + 1) mc) ∧ W.cell? ⟨mb, mo + m * 5, none⟩ = some (.int .i64 r.sec) ∧ W.cell? ⟨mb, mo + m * 5 + 1, none⟩ = some (.int .i64 r.kind) ∧ W.cell? ⟨mb, mo + m * 5 + 2, none⟩ = some (.int .i64 r.a) ∧ W.cell? ⟨mb, mo + m * 5 + 3, none⟩ = some (.int .i64 r.b) ∧ W.cell? ⟨mb, mo + m * 5 + 4, none⟩ = some (.string (bs r.text)) ∧ W.cell? ⟨w3.heap.size, 0, none⟩ = some (.int .i64 r.sec) ∧ W.cell? ⟨w3.heap.size, 1, none⟩ = some (.int .i64 r.kind) ∧ W.cell? ⟨w3.heap.size, 2, none⟩ = some (.int .i64 r.a) ∧ W.cell? ⟨w3.heap.size, 3, none⟩ = some (.int .i64 r.b) ∧ W.cell? ⟨w3.heap.size, 4, none⟩ = some (.string (bs r.text))) := fun W hW => by
      have hL := HL4.out.step (grown_below hW)
      have hb1 := show BookN B O (.slice ra m rc) W from hL.get (by simp)
      have hb2 := show BookN M O (.slice (some ⟨mb, mo, none⟩) (m + 1) mc) W from hL.get (by simp)
      have hrx := (show RecBox W w3.heap.size r from (show RecN w3.heap.size r W from hL.get (by simp))).cells
      have hc := (show RecsN (.slice (some ⟨mb, mo, none⟩) (m + 1) mc) (l ++ [r]) W from hL.get (by simp)).cells m (by rw [HApl.out r]; omega)
      rw [HApg.out r] at hc
      rw [hB] at hb1
      rw [hMM] at hb2
      obtain ⟨c0, c1, c2, c3, c4⟩ := hc
      obtain ⟨d0, d1, d2, d3, d4⟩ := hrx
      exact ⟨hb1.c0, hb1.c1, hb2.c0, hb2.c1, c0, c1, c2, c3, c4, d0, d1, d2, d3, d4⟩
    have wm : IntKind.i64.wrap ((m : Int) + 1) = (m : Int) + 1 := IntWalk.i64_in _ (by omega)
    have m1 : (m : Int) < (m : Int) + 1 := by omega
    have m2 : (m : Int) ≤ (m : Int) + 1 := by omega
    have m3 : (m : Int) ≤ (mc : Int) := by omega
    have m4 : 0 ≤ (m : Int) := by omega
    have m5 : m ≤ mc := by omega
    have m6 : m ≤ m + 1 := by omega
    have hne : ∀ W : World, (binOp .neq 27 (recV r) (recV r)).run Tryd.prog W = .ok (.bool false) W := fun W => by rw [run_neqRec]; simp
    have ho : LiveP w _ _ := HL4.out
    clear ho
    go_wp2
    refine wp_region_calm ⟨[28], fun k v _ => v = .bool true, fun _ => [], 99, none, 1000⟩ (by kernel_rfl) (by kernel_rfl) (by kernel_rfl) (fun g h => by cases h) (fun k hk v W W' c h hg hc => h) ?_
    iterate 28 (refine calm_quiet (v := ?_) (by rfl) (by rfl) (fun W hW hD => ?_) ?_; rotate_left; (· (obtain ⟨z0, z1, z2, z3, z4, z5, z6, z7, z8, z9, z10, z11, z12, z13⟩ := HQ.out W hW; clear hD hW; go_simp; try with_reducible rfl)); simp only [Act.put, List.setIfInBounds_toArray, List.set_cons_zero, List.set_cons_succ, Nat.reduceAdd, Nat.zero_add])
    refine calm_makes (by rfl) (by rfl) (fun W hW hD Kc hK => ?_) (fun v81 => ?_)
    · have hL := HL4.out.step (grown_below hW)
      refine wp_of_call (f := 26) ?_ ((sameRecs_any (.slice (some ⟨mb, mo, none⟩) m mc) (.slice ra m rc) l l W ?_ (show RecsN (.slice ra m rc) l W from hL.get (by simp))).mono ?_)
      · clear hD hW hK hL
        go_simp
      · have ht := (show RecsAt W.heap.size W (.slice (some ⟨mb, mo, none⟩) (m + 1) mc) (l ++ [r]) from (show RecsN _ _ W from hL.get (by simp))).take m mc (by rw [HApl.out r]; omega) (by omega) (by unfold maxLen; omega)
        rw [HApt.out r] at ht
        exact ht
      · rintro e w5 ⟨rfl, hb5⟩
        exact ⟨_, rfl, hK _ _ (made_plain (by show _ = _; rw [beq_self_eq_true]; rfl) hb5 rfl)⟩
    simp only [Act.put, List.setIfInBounds_toArray, List.set_cons_zero, List.set_cons_succ, Nat.reduceAdd, Nat.zero_add]
    refine calm_quiet (v := .bool false) (by rfl) (by rfl) (fun W hW hD => ?_) ?_
    · obtain rfl : v81 = .bool true := hD [] 28 (by kernel_rfl) (by kernel_rfl) (by kernel_rfl)
      clear hD hW
      go_simp
    simp only [Act.put, List.setIfInBounds_toArray, List.set_cons_zero, List.set_cons_succ, Nat.reduceAdd, Nat.zero_add]
    iterate 12 (refine calm_quiet (v := ?_) (by rfl) (by rfl) (fun W hW hD => ?_) ?_; rotate_left; (· (obtain ⟨z0, z1, z2, z3, z4, z5, z6, z7, z8, z9, z10, z11, z12, z13⟩ := HQ.out W hW; clear hD hW; go_simp; try with_reducible rfl)); simp only [Act.put, List.setIfInBounds_toArray, List.set_cons_zero, List.set_cons_succ, Nat.reduceAdd, Nat.zero_add])
    refine calm_nil fun W hW hF => ?_
    have hLW := HL4.out.step (grown_below hW)
    obtain ⟨q0, q1, s0, s1, _, _, _, _, _, d0, d1, d2, d3, d4⟩ := HQ.out W hW
    clear hF hW HQ
    have hfc : (r.kind = 1 + K ∧ r.sec ≤ S ∧ findB ⟨O, l ++ [r]⟩ (1 + K) S = (m : Int)) ∨ (¬ (r.kind = 1 + K ∧ r.sec ≤ S) ∧ findB ⟨O, l ++ [r]⟩ (1 + K) S = findDn l (1 + K) S m) := by
      have := HStA.out.2.2 (1 + K) S
      by_cases hx : r.kind = 1 + K ∧ r.sec ≤ S
      · rw [if_pos hx] at this; exact .inl ⟨hx.1, hx.2, this⟩
      · rw [if_neg hx] at this; exact .inr ⟨hx, this⟩
    have HFC := Lib.hid hfc
    have HLW := Lib.hid hLW
    clear hfc hne m1 m2 m3 m5 m6 wm hLW
    go_wp2_with fail
    refine (HP1.out _).mono ?_
    rintro e w' ⟨rfl, rfl⟩
    go_wp2_with fail
    refine (HP2.out _).mono ?_
    rintro e w' ⟨rfl, rfl⟩
    go_wp2_with fail
    refine (find_any O _ l (1 + K) S _ (show RecsN (.slice ra m rc) l _ from HLW.out.get (by simp)) (by rw [HM.out]; omega) HLW.out.rounds.lt).mono ?_
    rintro e w5 ⟨rfl, hb5⟩
    rw [HFa.out]
    have hL5 := HLW.out.step hb5
    have hb1 := show BookN B O (.slice ra m rc) w5 from hL5.get (by simp)
    have hb2 := show BookN M O (.slice (some ⟨mb, mo, none⟩) (m + 1) mc) w5 from hL5.get (by simp)
    have hrx := (show RecBox w5 w3.heap.size r from (show RecN w3.heap.size r w5 from hL5.get (by simp))).cells
    rw [hB] at hb1
    rw [hMM] at hb2
    clear q0 q1 s0 s1 d0 d1 d2 d3 d4 hb5
    have q0 := hb1.c0
    have q1 := hb1.c1
    have s0 := hb2.c0
    have s1 := hb2.c1
    have HL5 := Lib.hid hL5
    clear hL5 hb1 hb2 hrx HLW
    go_wp2_with fail
    refine (find_any O _ (l ++ [r]) (1 + K) S _ (show RecsN (.slice (some ⟨mb, mo, none⟩) (m + 1) mc) (l ++ [r]) _ from HL5.out.get (by simp)) (by rw [HApl.out r]; omega) HL5.out.rounds.lt).mono ?_
    rintro e w6 ⟨rfl, hb6⟩
    have hL6 := HL5.out.step hb6
    have hb1 := show BookN B O (.slice ra m rc) w6 from hL6.get (by simp)
    have hrx := (show RecBox w6 w3.heap.size r from (show RecN w3.heap.size r w6 from hL6.get (by simp))).cells
    rw [hB] at hb1
    clear q0 q1 s0 s1 hb6
    have q0 := hb1.c0
    have q1 := hb1.c1
    obtain ⟨d0, d1, d2, d3, d4⟩ := hrx
    have HBl := Lib.hid hL6.below
    clear hL6 hb1 HL5
    rcases HFC.out with ⟨hx1, hx2, hx3⟩ | ⟨hx1, hx3⟩
    · rw [hx3]
      rw [hx1] at d1
      have dd1 : decide (S < r.sec) = false := by simp; omega
      have dd2 : (1 + K != 1 + K) = false := by simp
      clear hx1 hx2 hx3
      go_wp2
      go_ret
      exact ⟨rfl, HBl.out⟩
    · rw [hx3]
      generalize findDn l (1 + K) S m = FV at *
      by_cases hy : S < r.sec
      · have dd1 : decide (S < r.sec) = true := by simp [hy]
        clear hx1 hx3
        go_wp2
        go_ret
        exact ⟨rfl, HBl.out⟩
      · have dd1 : decide (S < r.sec) = false := by simp; omega
        have hk1 : ¬ (1 + K = r.kind) := fun e => hx1 ⟨e.symm, by omega⟩
        have dd2 : ((1 + K) != r.kind) = true := by simp [hk1]
        have dd3 : ((1 + K) == r.kind) = false := by simp [hk1]
        clear hx1 hx3
        go_wp2
        go_ret
        exact ⟨rfl, HBl.out⟩
  · have hLs := hLast hm0
    clear hLast
    obtain ⟨b, off, hae, hb, hat⟩ := (show RecsAt _ _ (.slice ra m rc) l from hrecs).at (m - 1) (by rw [HM.out]; omega)
    subst hae
    obtain ⟨c0, _, _, _, _⟩ := hat
    generalize (l.getD (m - 1) default).sec = LS at *
    have wl : IntKind.i64.wrap (L + LS) = L + LS := IntWalk.i64_in _ (by omega)
    have mm : (0 : Int) < (m : Int) := by omega
    obtain ⟨j, hj⟩ : ∃ j, m - 1 = j := ⟨_, rfl⟩
    rw [hj] at c0
    have wj : IntKind.i64.wrap ((m : Int) - 1) = (j : Int) := by rw [IntWalk.i64_in _ (by omega)]; omega
    have wj2 : (m : Int) - 1 = (j : Int) := by omega
    have jlt : (j : Int) < (m : Int) := by omega
    have j0 : 0 ≤ (j : Int) := by omega
    have HNw := Lib.hid hnow
    clear hj hnow
    go_wp2_with fail
    refine (HP0.out _).mono ?_
    rintro e w' ⟨rfl, rfl⟩
    obtain ⟨f0, f1, f2, f3⟩ := (show FourBox _ w.heap.size g from (show FourN w.heap.size g _ from HL2.out.get (by simp))).cells
    go_wp2_with fail
    rw [← HNw.out]
    clear mm wj wj2 jlt j0 c0 wl hLs hb
    refine (HEn.out _).mono ?_
    rintro e w3 ⟨rfl, hb3⟩
    have hL := ((HL2.out.step hb3).alloc (.cells #[.int .i64 r.sec, .int .i64 r.kind, .int .i64 r.a, .int .i64 r.b, .string (bs r.text)] 27)).add (keep_rec (recBox_new w3 r))
    have hbk := show BookN B O (.slice (some ⟨b, off, none⟩) m rc) _ from hL.get (by simp)
    have hrx := (show RecBox _ w3.heap.size r from (show RecN w3.heap.size r _ from hL.get (by simp))).cells
    rw [hB] at hbk
    clear q0 q1 f0 f1 f2 f3 hb3 hbk
    have hbk := show BookN B O (.slice (some ⟨b, off, none⟩) m rc) _ from hL.get (by simp)
    rw [hB] at hbk
    have q0 := hbk.c0
    have q1 := hbk.c1
    obtain ⟨d0, d1, d2, d3, d4⟩ := hrx
    have HL3 := Lib.hid hL
    clear hL hbk HL2
    go_wp2_with fail
    refine (gadd_any O _ l r _ (show RecsN (.slice (some ⟨b, off, none⟩) m rc) _ _ from HL3.out.get (by simp)) (by rw [HM.out]; omega)).mono ?_
    rintro e w4 ⟨rv4, rfl, hO4, hb4⟩
    rw [HStA.out.1] at hO4 ⊢
    simp only at hO4 ⊢
    obtain ⟨ma, mc, hrv4, hmc1, hmc2⟩ := hO4.shape
    subst hrv4
    rw [HApl.out r] at hO4 hmc1 ⊢
    unfold maxLen at hmc2
    obtain ⟨mb, mo, hma, _, _⟩ := hO4.recs.at m (by rw [HApl.out r]; omega)
    subst hma
    have hL := (((HL3.out.step hb4).add (keep_recs hO4.recs)).alloc (.cells #[.int .i64 O, .slice (some ⟨mb, mo, none⟩) (m + 1) mc] 25)).add (keep_book (logBox_new w4 O (.slice (some ⟨mb, mo, none⟩) (m + 1) mc)))
    obtain ⟨M, hMM⟩ : ∃ M, M = w4.heap.size := ⟨_, rfl⟩
    rw [← hMM] at hL
    have HL4 := Lib.hid hL
    clear q0 q1 d0 d1 d2 d3 d4 hL hO4 hb4
    have HQ : Hid (∀ W, (w4.alloc (.cells #[.int .i64 O, .slice (some ⟨mb, mo, none⟩) (m + 1) mc] 25)).grownBy W none → W.cell? ⟨w2.heap.size, 0, none⟩ = some (.int .i64 O) ∧ W.cell? ⟨w2.heap.size, 1, none⟩ = some (.slice (some ⟨b, off, none⟩) m rc) ∧ W.cell? ⟨w4.heap.size, 0, none⟩ = some (.int .i64 O) ∧ W.cell? ⟨w4.heap.size, 1, none⟩ = some (.slice (some ⟨mb, mo, none⟩) (m + 1) mc) ∧ W.cell? ⟨mb, mo + m * 5, none⟩ = some (.int .i64 r.sec) ∧ W.cell? ⟨mb, mo + m * 5 + 1, none⟩ = some (.int .i64 r.kind) ∧ W.cell? ⟨mb, mo + m * 5 + 2, none⟩ = some (.int .i64 r.a) ∧ W.cell? ⟨mb, mo + m * 5 + 3, none⟩ = some (.int .i64 r.b) ∧ W.cell? ⟨mb, mo + m * 5 + 4, none⟩ = some (.string (bs r.text)) ∧ W.cell? ⟨w3.heap.size, 0, none⟩ = some (.int .i64 r.sec) ∧ W.cell? ⟨w3.heap.size, 1, none⟩ = some (.int .i64 r.kind) ∧ W.cell? ⟨w3.heap.size, 2, none⟩ = some (.int .i64 r.a) ∧ W.cell? ⟨w3.heap.size, 3, none⟩ = some (.int .i64 r.b) ∧ W.cell? ⟨w3.heap.size, 4, none⟩ = some (.string (bs r.text))) := fun W hW => by
      have hL := HL4.out.step (grown_below hW)
      have hb1 := show BookN B O (.slice (some ⟨b, off, none⟩) m rc) W from hL.get (by simp)
      have hb2 := show BookN M O (.slice (some ⟨mb, mo, none⟩) (m + 1) mc) W from hL.get (by simp)
      have hrx := (show RecBox W w3.heap.size r from (show RecN w3.heap.size r W from hL.get (by simp))).cells
      have hc := (show RecsN (.slice (some ⟨mb, mo, none⟩) (m + 1) mc) (l ++ [r]) W from hL.get (by simp)).cells m (by rw [HApl.out r]; omega)
      rw [HApg.out r] at hc
      rw [hB] at hb1
      rw [hMM] at hb2
      obtain ⟨c0, c1, c2, c3, c4⟩ := hc
      obtain ⟨d0, d1, d2, d3, d4⟩ := hrx
      exact ⟨hb1.c0, hb1.c1, hb2.c0, hb2.c1, c0, c1, c2, c3, c4, d0, d1, d2, d3, d4⟩
    have wm : IntKind.i64.wrap ((m : Int) + 1) = (m : Int) + 1 := IntWalk.i64_in _ (by omega)
    have m1 : (m : Int) < (m : Int) + 1 := by omega
    have m2 : (m : Int) ≤ (m : Int) + 1 := by omega
    have m3 : (m : Int) ≤ (mc : Int) := by omega
    have m4 : 0 ≤ (m : Int) := by omega
    have m5 : m ≤ mc := by omega
    have m6 : m ≤ m + 1 := by omega
    have hne : ∀ W : World, (binOp .neq 27 (recV r) (recV r)).run Tryd.prog W = .ok (.bool false) W := fun W => by rw [run_neqRec]; simp
    have ho : LiveP w _ _ := HL4.out
    clear ho
    go_wp2
    refine wp_region_calm ⟨[28], fun k v _ => v = .bool true, fun _ => [], 99, none, 1000⟩ (by kernel_rfl) (by kernel_rfl) (by kernel_rfl) (fun g h => by cases h) (fun k hk v W W' c h hg hc => h) ?_
    iterate 28 (refine calm_quiet (v := ?_) (by rfl) (by rfl) (fun W hW hD => ?_) ?_; rotate_left; (· (obtain ⟨z0, z1, z2, z3, z4, z5, z6, z7, z8, z9, z10, z11, z12, z13⟩ := HQ.out W hW; clear hD hW; go_simp; try with_reducible rfl)); simp only [Act.put, List.setIfInBounds_toArray, List.set_cons_zero, List.set_cons_succ, Nat.reduceAdd, Nat.zero_add])
    refine calm_makes (by rfl) (by rfl) (fun W hW hD Kc hK => ?_) (fun v81 => ?_)
    · have hL := HL4.out.step (grown_below hW)
      refine wp_of_call (f := 26) ?_ ((sameRecs_any (.slice (some ⟨mb, mo, none⟩) m mc) (.slice (some ⟨b, off, none⟩) m rc) l l W ?_ (show RecsN (.slice (some ⟨b, off, none⟩) m rc) l W from hL.get (by simp))).mono ?_)
      · clear hD hW hK hL
        go_simp
      · have ht := (show RecsAt W.heap.size W (.slice (some ⟨mb, mo, none⟩) (m + 1) mc) (l ++ [r]) from (show RecsN _ _ W from hL.get (by simp))).take m mc (by rw [HApl.out r]; omega) (by omega) (by unfold maxLen; omega)
        rw [HApt.out r] at ht
        exact ht
      · rintro e w5 ⟨rfl, hb5⟩
        exact ⟨_, rfl, hK _ _ (made_plain (by show _ = _; rw [beq_self_eq_true]; rfl) hb5 rfl)⟩
    simp only [Act.put, List.setIfInBounds_toArray, List.set_cons_zero, List.set_cons_succ, Nat.reduceAdd, Nat.zero_add]
    refine calm_quiet (v := .bool false) (by rfl) (by rfl) (fun W hW hD => ?_) ?_
    · obtain rfl : v81 = .bool true := hD [] 28 (by kernel_rfl) (by kernel_rfl) (by kernel_rfl)
      clear hD hW
      go_simp
    simp only [Act.put, List.setIfInBounds_toArray, List.set_cons_zero, List.set_cons_succ, Nat.reduceAdd, Nat.zero_add]
    iterate 12 (refine calm_quiet (v := ?_) (by rfl) (by rfl) (fun W hW hD => ?_) ?_; rotate_left; (· (obtain ⟨z0, z1, z2, z3, z4, z5, z6, z7, z8, z9, z10, z11, z12, z13⟩ := HQ.out W hW; clear hD hW; go_simp; try with_reducible rfl)); simp only [Act.put, List.setIfInBounds_toArray, List.set_cons_zero, List.set_cons_succ, Nat.reduceAdd, Nat.zero_add])
    refine calm_nil fun W hW hF => ?_
    have hLW := HL4.out.step (grown_below hW)
    obtain ⟨q0, q1, s0, s1, _, _, _, _, _, d0, d1, d2, d3, d4⟩ := HQ.out W hW
    clear hF hW HQ
    have hfc : (r.kind = 1 + K ∧ r.sec ≤ S ∧ findB ⟨O, l ++ [r]⟩ (1 + K) S = (m : Int)) ∨ (¬ (r.kind = 1 + K ∧ r.sec ≤ S) ∧ findB ⟨O, l ++ [r]⟩ (1 + K) S = findDn l (1 + K) S m) := by
      have := HStA.out.2.2 (1 + K) S
      by_cases hx : r.kind = 1 + K ∧ r.sec ≤ S
      · rw [if_pos hx] at this; exact .inl ⟨hx.1, hx.2, this⟩
      · rw [if_neg hx] at this; exact .inr ⟨hx, this⟩
    have HFC := Lib.hid hfc
    have HLW := Lib.hid hLW
    clear hfc hne m1 m2 m3 m5 m6 wm hLW
    go_wp2_with fail
    refine (HP1.out _).mono ?_
    rintro e w' ⟨rfl, rfl⟩
    go_wp2_with fail
    refine (HP2.out _).mono ?_
    rintro e w' ⟨rfl, rfl⟩
    go_wp2_with fail
    refine (find_any O _ l (1 + K) S _ (show RecsN (.slice (some ⟨b, off, none⟩) m rc) l _ from HLW.out.get (by simp)) (by rw [HM.out]; omega) HLW.out.rounds.lt).mono ?_
    rintro e w5 ⟨rfl, hb5⟩
    rw [HFa.out]
    have hL5 := HLW.out.step hb5
    have hb1 := show BookN B O (.slice (some ⟨b, off, none⟩) m rc) w5 from hL5.get (by simp)
    have hb2 := show BookN M O (.slice (some ⟨mb, mo, none⟩) (m + 1) mc) w5 from hL5.get (by simp)
    have hrx := (show RecBox w5 w3.heap.size r from (show RecN w3.heap.size r w5 from hL5.get (by simp))).cells
    rw [hB] at hb1
    rw [hMM] at hb2
    clear q0 q1 s0 s1 d0 d1 d2 d3 d4 hb5
    have q0 := hb1.c0
    have q1 := hb1.c1
    have s0 := hb2.c0
    have s1 := hb2.c1
    have HL5 := Lib.hid hL5
    clear hL5 hb1 hb2 hrx HLW
    go_wp2_with fail
    refine (find_any O _ (l ++ [r]) (1 + K) S _ (show RecsN (.slice (some ⟨mb, mo, none⟩) (m + 1) mc) (l ++ [r]) _ from HL5.out.get (by simp)) (by rw [HApl.out r]; omega) HL5.out.rounds.lt).mono ?_
    rintro e w6 ⟨rfl, hb6⟩
    have hL6 := HL5.out.step hb6
    have hb1 := show BookN B O (.slice (some ⟨b, off, none⟩) m rc) w6 from hL6.get (by simp)
    have hrx := (show RecBox w6 w3.heap.size r from (show RecN w3.heap.size r w6 from hL6.get (by simp))).cells
    rw [hB] at hb1
    clear q0 q1 s0 s1 hb6
    have q0 := hb1.c0
    have q1 := hb1.c1
    obtain ⟨d0, d1, d2, d3, d4⟩ := hrx
    have HBl := Lib.hid hL6.below
    clear hL6 hb1 HL5
    rcases HFC.out with ⟨hx1, hx2, hx3⟩ | ⟨hx1, hx3⟩
    · rw [hx3]
      rw [hx1] at d1
      have dd1 : decide (S < r.sec) = false := by simp; omega
      have dd2 : (1 + K != 1 + K) = false := by simp
      clear hx1 hx2 hx3
      go_wp2
      go_ret
      exact ⟨rfl, HBl.out⟩
    · rw [hx3]
      generalize findDn l (1 + K) S m = FV at *
      by_cases hy : S < r.sec
      · have dd1 : decide (S < r.sec) = true := by simp [hy]
        clear hx1 hx3
        go_wp2
        go_ret
        exact ⟨rfl, HBl.out⟩
      · have dd1 : decide (S < r.sec) = false := by simp; omega
        have hk1 : ¬ (1 + K = r.kind) := fun e => hx1 ⟨e.symm, by omega⟩
        have dd2 : ((1 + K) != r.kind) = true := by simp [hk1]
        have dd3 : ((1 + K) == r.kind) = false := by simp [hk1]
        clear hx1 hx3
        go_wp2
        go_ret
        exact ⟨rfl, HBl.out⟩
end Go.Proofs.YthfenbdlolbikaaDoor
