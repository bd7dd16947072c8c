/- JustifyMatchesReference, the walk. -/
import Derived.Test.YtmihkbiihfhpoaaDoorJFew
import Derived.Test.YtmihkbiihfhpoaaDoorJRefCheck
import Derived.Test.YtmihkbiihfhpoaaDoorJRefCuts
import Derived.Test.YtmihkbiihfhpoaaDoorJRefCore
import Derived.Test.YtmihkbiihfhpoaaDoorJSaneW
namespace Go.Proofs.YtmihkbiihfhpoaaDoor
open Go.RowKit Go.Shelf

/-- A theory in a box. -/
def JT (T : Nat) (t : JTh) (tv : Value) (W : World) : Prop := ThBox W T t.seen t.drawn tv ∧ RulesAt W.heap.size W tv t.rules
theorem JT.later {T : Nat} {t : JTh} {tv : Value} {W W' : World} (h : JT T t tv W) (hb : Below W.heap.size W W') : JT T t tv W' := ⟨h.1.below hb h.1.lt, h.2.later hb (Nat.le_refl _)⟩
/-- What the world of the law bears: the made theory in its box, the list, the three theories, the table. -/
structure JM (T : Nat) (n m : Nat) (rv lv : Value) (l : List Int) (L : Nat) (th : Nat → JTh) (vs : Nat → Value) (W : World) : Prop where
  box : ThBox W T n m rv
  list : IntsAt W.heap.size W lv l
  row : ∀ i, i < 3 → W.cell? ⟨L, i * 3, none⟩ = some (.int .i64 (th i).seen) ∧ W.cell? ⟨L, i * 3 + 1, none⟩ = some (.int .i64 (th i).drawn) ∧ W.cell? ⟨L, i * 3 + 2, none⟩ = some (vs i) ∧ RulesAt W.heap.size W (vs i) (th i).rules
  lt : L < W.heap.size
  tabs : Tabs W
theorem JM.later {T : Nat} {n m : Nat} {rv lv : Value} {l : List Int} {L : Nat} {th : Nat → JTh} {vs : Nat → Value} {W W' : World} (h : JM T n m rv lv l L th vs W) (hb : Below W.heap.size W W') : JM T n m rv lv l L th vs W' :=
  ⟨h.box.below hb h.box.lt, h.list.later hb (Nat.le_refl _), fun i hi => by
    obtain ⟨h1, h2, h3, h4⟩ := h.row i hi
    exact ⟨(hb.cell (p := ⟨L, _, none⟩) h.lt).trans h1, (hb.cell (p := ⟨L, _, none⟩) h.lt).trans h2, (hb.cell (p := ⟨L, _, none⟩) h.lt).trans h3, h4.later hb (Nat.le_refl _)⟩, Nat.lt_of_lt_of_le h.lt hb.size, h.tabs.below hb h.tabs.2⟩
theorem hd_bd {t : JTh} (hv : validB t = true) {S k : Nat} (hS : S < 2 ^ t.seen.toNat) (hb : (hd t.rules S).testBit k = true) : k < t.seen.toNat + t.drawn.toNat := by
  rcases Nat.lt_or_ge k (t.seen.toNat + t.drawn.toNat) with h | h
  · exact h
  · rw [hd_seen S k (fun r hr => by have := valid_gives hv r hr; omega), Nat.testBit_lt_two_pow (Nat.lt_of_lt_of_le hS (Nat.pow_le_pow_right (by decide) (by omega)))] at hb
    cases hb
/-- Why finds a derivation just if the thing holds. -/
theorem why_holds (t : JTh) (z k : Int) (hs : setB t z = true) : whyB t z k = hasZ (holdsL t z) k := by
  obtain ⟨hv, hz0, hz1, hz2⟩ := set_facts hs
  have hG := (valid_good hv).2.2.1
  have h12 := valid_good hv
  obtain ⟨S, rfl⟩ := Int.eq_ofNat_of_zero_le hz0
  have hlt : hd t.rules S < 4294967296 := held_lt hG (by omega)
  have hL : holdsL t (S : Int) = listB (hd t.rules S) := by unfold holdsL; rw [hs, if_pos rfl, Int.toNat_natCast]; rfl
  rw [hL, Bool.eq_iff_iff, hasZ_iff, mem_listB _ hlt]
  unfold whyB thingB bitB inB
  rw [hs, Int.toNat_natCast, Bool.true_and, Bool.and_eq_true, Bool.and_eq_true, decide_eq_true_eq, decide_eq_true_eq]
  constructor
  · rintro ⟨⟨h0, _⟩, hb⟩
    exact ⟨h0, hb⟩
  · rintro ⟨h0, hb⟩
    have hS : S < 2 ^ t.seen.toNat := by
      have e : (2 : Int) ^ t.seen.toNat = ((2 ^ t.seen.toNat : Nat) : Int) := by push_cast; rfl
      rw [e] at hz1
      omega
    have := hd_bd hv hS hb
    have := h12.1
    have := h12.2.1
    exact ⟨⟨h0, by omega⟩, hb⟩
theorem why_not {t : JTh} {z k : Int} (h : whyB t z k = false) : whyL t z k = [] := by unfold whyL; rw [h]; rfl
theorem why_set {t : JTh} {z k : Int} (h : setB t z = false) : whyB t z k = false := by unfold whyB; rw [h]; rfl
/-- What the operations of the list of theories leave. -/
def JmF (n m : Int) (mv : Value) (k : Nat) (v : Value) (W : World) : Prop :=
  if k = 8 then ∃ (g : Nat) (t1 t2 : JTh) (v1 v2 : Value), v = .slice (some ⟨g, 0, none⟩) 3 3 ∧ W.heap[g]? = some (.cells #[.int .i64 n, .int .i64 m, mv, .int .i64 t1.seen, .int .i64 t1.drawn, v1, .int .i64 t2.seen, .int .i64 t2.drawn, v2] 25 (0, 0)) ∧ RulesAt W.heap.size W v1 t1.rules ∧ RulesAt W.heap.size W v2 t2.rules
  else ∃ (t1 : JTh) (v1 : Value), v = thV t1.seen t1.drawn v1 ∧ RulesAt W.heap.size W v1 t1.rules
theorem JmF.kept {n m : Int} {mv : Value} {k : Nat} {v : Value} {W W' : World} (h : JmF n m mv k v W) (hg : W.grownBy W' none) : JmF n m mv k v W' := by
  have hb := grown_below hg
  unfold JmF at *
  by_cases h8 : k = 8
  · rw [if_pos h8] at h ⊢
    obtain ⟨g, t1, t2, v1, v2, e, hgg, h1, h2⟩ := h
    exact ⟨g, t1, t2, v1, v2, e, (hb.block g (Array.getElem?_eq_some_iff.1 hgg).1).trans hgg, h1.later hb (Nat.le_refl _), h2.later hb (Nat.le_refl _)⟩
  · rw [if_neg h8] at h ⊢
    obtain ⟨t1, v1, e, h1⟩ := h
    exact ⟨t1, v1, e, h1.later hb (Nat.le_refl _)⟩
theorem jm_start {T n m : Nat} {rs : List JRule} {mv lv : Value} {l : List Int} {g : Nat} {t1 t2 : JTh} {v1 v2 : Value} {W : World} (hT : JT T ⟨n, m, rs⟩ mv W) (hl : IntsAt W.heap.size W lv l) (hTb : Tabs W)
    (hg : W.heap[g]? = some (.cells #[.int .i64 n, .int .i64 m, mv, .int .i64 t1.seen, .int .i64 t1.drawn, v1, .int .i64 t2.seen, .int .i64 t2.drawn, v2] 25 (0, 0))) (h1 : RulesAt W.heap.size W v1 t1.rules) (h2 : RulesAt W.heap.size W v2 t2.rules) :
    ∃ (th : Nat → JTh) (vs : Nat → Value), JM T n m mv lv l g th vs W := by
  refine ⟨fun i => [⟨n, m, rs⟩, t1, t2].getD i default, fun i => [mv, v1, v2].getD i undef, hT.1, hl, fun i hi => ?_, (Array.getElem?_eq_some_iff.1 hg).1, hTb⟩
  match i, hi with
  | 0, _ => exact ⟨by simp [World.cell?, hg], by simp [World.cell?, hg], by simp [World.cell?, hg], hT.2⟩
  | 1, _ => exact ⟨by simp [World.cell?, hg], by simp [World.cell?, hg], by simp [World.cell?, hg], h1⟩
  | 2, _ => exact ⟨by simp [World.cell?, hg], by simp [World.cell?, hg], by simp [World.cell?, hg], h2⟩
theorem pair_lit (W : World) (x y : Int) : ∃ sv : Nat → Int, ∀ a, a < 2 → (W.alloc (.cells #[.int .i64 x, .int .i64 y] 3)).cell? ⟨W.heap.size, a, none⟩ = some (.int .i64 (sv a)) :=
  ⟨fun a => [x, y].getD a 0, fun a ha => by
    match a, ha with
    | 0, _ => simp
    | 1, _ => simp⟩
theorem trip_lit (W : World) (x y : Value) (lx ly : List Int) (hx : IntsAt W.heap.size W x lx) (hy : IntsAt W.heap.size W y ly) : ∃ (zv : Nat → Value) (zl : Nat → List Int), ∀ c, c < 3 → (W.alloc (.cells #[x, y, .slice none 0 0] 26)).cell? ⟨W.heap.size, c, none⟩ = some (zv c) ∧ IntsAt (W.alloc (.cells #[x, y, .slice none 0 0] 26)).heap.size (W.alloc (.cells #[x, y, .slice none 0 0] 26)) (zv c) (zl c) :=
  ⟨fun c => [x, y, .slice none 0 0].getD c undef, fun c => [lx, ly, []].getD c [], fun c hc => by
    have hb : Below W.heap.size W (W.alloc (.cells #[x, y, .slice none 0 0] 26)) := (Below.refl _ _).alloc (Nat.le_refl _) _
    match c, hc with
    | 0, _ => exact ⟨by simp, hx.later hb (Nat.le_refl _)⟩
    | 1, _ => exact ⟨by simp, hy.later hb (Nat.le_refl _)⟩
    | 2, _ => exact ⟨by simp, IntsAt.nil _ _⟩⟩
theorem errOf_same (b : Bool) : (errOf b == errOf b) = true := beq_self_eq_true _
set_option maxRecDepth 100000 in
set_option maxHeartbeats 8000000 in
theorem lawJM (s0 d0 : Int) (v : Value) (N : Nat) (f : Nat → Nat → Int) (rs0 dd0 : Int) (rrv : Value) (rrs : List JRule) (how nn at_ set thing : Int) (lv : Value) (l0 : List Int) (w : World)
    (hs0 : -9223372036854775808 ≤ s0 ∧ s0 ≤ 9223372036854775807) (hd0 : -9223372036854775808 ≤ d0 ∧ d0 ≤ 9223372036854775807) (hhow : -9223372036854775808 ≤ how ∧ how ≤ 9223372036854775807) (hat : -9223372036854775808 ≤ at_ ∧ at_ ≤ 9223372036854775807)
    (hset : -9223372036854775808 ≤ set ∧ set ≤ 9223372036854775807) (hthing : -9223372036854775808 ≤ thing ∧ thing ≤ 9223372036854775807)
    (hF : FourAt w.heap.size w v N f) (hRaw : RulesAt w.heap.size w rrv rrs) (hl : IntsAt w.heap.size w lv l0) (hT : Tabs w) :
    Calls Tryd.prog 3 #[.int .i64 s0, .int .i64 d0, v, thV rs0 dd0 rrv, .int .i64 how, .int .i64 nn, .int .i64 at_, .int .i64 set, .int .i64 thing, lv] w fun e w' => e = .returned (.bool true) ∧ Below w.heap.size w w' := by
  obtain ⟨n, m, rs, hme, G⟩ := made_ex s0 d0 N f
  have hb0 : Below w.heap.size w (w.alloc (.cells #[.int .i64 rs0, .int .i64 dd0, rrv] 25)) := (Below.refl _ _).alloc (Nat.le_refl _) _
  have HF := Lib.hid (fun (W : World) (hb : Below w.heap.size w W) => (hF.below hb (Nat.le_refl _)).mono hb.size)
  have HT := Lib.hid (fun (W : World) (hb : Below w.heap.size w W) => hT.below hb hT.2)
  have HMade := Lib.hid (fun (W : World) (h : FourAt W.heap.size W v N f) => made_good hme v W hs0 hd0 h)
  obtain ⟨va, vc, hvs⟩ : ∃ a c, v = .slice a N c := by obtain ⟨⟨a, c, h, _⟩, _⟩ := hF; exact ⟨a, c, h⟩
  subst hvs
  have n1 := G.n1
  have n6 := G.n6
  have d1 := G.d1
  have d8 := G.d8
  have hsh := shl_one n (by omega)
  have hp0 := G.p1
  have hp32 := G.p32
  have hlen40 : rs.length ≤ 40 := (valid_good G.valid).2.2.1.1
  have HNl : Hid (∀ r ∈ rs, r.needs.length ≤ 1000) := fun r hr => by
    have := (valid_good G.valid).2.2.2 r hr
    unfold badRule at this
    simp only [Bool.or_eq_false_iff, decide_eq_false_iff_not] at this
    omega
  have HPS := Lib.hid (fun W => pick_any set (2 ^ n : Nat) W hset.1 hset.2 (by omega) (by omega))
  have HPK := Lib.hid (fun W => pick_any thing ((n : Int) + m) W hthing.1 hthing.2 (by omega) (by omega))
  have HBent := Lib.hid (fun (rv : Value) (W : World) (h : RulesAt W.heap.size W rv rs) => refBent_any n m rv rs how nn at_ W h (by omega) HNl.out hhow.1 hhow.2 hat.1 hat.2)
  have HFew := Lib.hid (fun (W : World) (hb : Below w.heap.size w W) => few_any rs0 dd0 rrv rrs W (hRaw.later hb (Nat.le_refl _)))
  obtain ⟨ra, rc, hrv, _, hrm⟩ := hRaw.shape
  subst hrv
  obtain ⟨la, lc, hlv, hlc, hlm⟩ := hl.shape
  subst hlv
  unfold maxLen at hlm
  have HRb := Lib.hid (ThBox.new w rs0 dd0 (.slice ra rrs.length rc))
  have HB0 := Lib.hid hb0
  obtain ⟨kz, hkz⟩ : ∃ kz : Nat, kz = min l0.length 41 := ⟨_, rfl⟩
  have m1 : (if (41 : Int) < (l0.length : Int) then (41 : Int) else (l0.length : Int)) = (kz : Int) := by split <;> omega
  have m2 : min (l0.length : Int) 41 = (kz : Int) := by omega
  have kl : (kz : Int) ≤ (lc : Int) := by omega
  have HLt := Lib.hid (fun (W : World) (hb : Below w.heap.size w W) => (hl.take kz (by omega)).later hb (Nat.le_refl _))
  generalize l0.take kz = l at *
  have szT : w.heap.size < (w.alloc (.cells #[.int .i64 rs0, .int .i64 dd0, .slice ra rrs.length rc] 25)).heap.size := by simp
  clear hF hT hRaw hl hme G hs0 hd0 hhow hat hset hthing hb0 hkz hrm
  generalize hP2 : 2 ^ n = P at *
  clear hP2
  generalize rrs.length = m0 at *
  generalize l0.length = ln0 at *
  have HSh := Lib.hid hsh
  clear hsh
  go_enter Tryd.func3, Tryd.ntmps3
  go_wp2_with fail
  refine (sane_any _ (HT.out _ HB0.out)).mono ?_
  rintro e w1 ⟨rfl, hb1⟩
  have hB1 : Below w.heap.size w w1 := HB0.out.trans (hb1.mono HB0.out.size)
  have HR1 := Lib.hid (HRb.out.below hb1 szT)
  go_wp2_with fail
  clear m1 m2 kl
  refine (HMade.out _ (HF.out _ hB1)).mono ?_
  rintro e w2 ⟨rv, rfl, hR2, hb2⟩
  obtain ⟨ma, mc, hrv, _, _⟩ := hR2.shape
  subst hrv
  have hB2 : Below w.heap.size w w2 := hB1.trans (hb2.mono hB1.size)
  have HB3 : Hid (Below w.heap.size w (w2.alloc (.cells #[.int .i64 n, .int .i64 m, .slice ma rs.length mc] 25))) := hB2.alloc hB2.size _
  have hb3 : Below w2.heap.size w2 (w2.alloc (.cells #[.int .i64 n, .int .i64 m, .slice ma rs.length mc] 25)) := (Below.refl _ _).alloc (Nat.le_refl _) _
  have HT3 : Hid (JT w2.heap.size ⟨n, m, rs⟩ (.slice ma rs.length mc) (w2.alloc (.cells #[.int .i64 n, .int .i64 m, .slice ma rs.length mc] 25))) := ⟨ThBox.new _ _ _ _, hR2.later hb3 (Nat.le_refl _)⟩
  have HR3 : Hid (ThBox (w2.alloc (.cells #[.int .i64 n, .int .i64 m, .slice ma rs.length mc] 25)) w.heap.size rs0 dd0 (.slice ra m0 rc)) := (HR1.out.below hb2 (Nat.lt_of_lt_of_le szT hb1.size)).below hb3 (Nat.lt_of_lt_of_le (Nat.lt_of_lt_of_le szT hb1.size) hb2.size)
  clear hb1 hB1 HR1 hR2 hb2 hB2 hb3 HRb HB0 szT
  generalize rs.length = q0 at *
  obtain ⟨T, hT⟩ : ∃ T, T = w2.heap.size := ⟨_, rfl⟩
  rw [← hT] at HT3
  go_wp2
  rw [← hT]
  generalize w2.alloc (.cells #[.int .i64 n, .int .i64 m, .slice ma q0 mc] 25) = W3 at *
  clear hT
  have k0 := HT3.out.1.c0
  have k1 := HT3.out.1.c1
  have k2 := HT3.out.1.c2
  have r0 := HR3.out.c0
  have r1 := HR3.out.c1
  have r2 := HR3.out.c2
  refine wp_region_calm ⟨[5, 7, 8], JmF n m (.slice ma q0 mc), fun _ => [], 99, none, 1000⟩ (by kernel_rfl) (by kernel_rfl) (by kernel_rfl) (fun g h => by cases h) (fun k hk v W W' c h hg hc => by
    cases c with
    | none => exact h.kept hg
    | some g => obtain ⟨_, _, i, j, u, hd, _⟩ := hc g rfl; simp at hd) ?_
  iterate 5 (refine calm_quiet (v := ?_) (by rfl) (by rfl) (fun W hW hD => ?_) ?_; rotate_left; (· (have q0 := grown_cell0 hW k0; have q1 := grown_cell0 hW k1; have q2 := grown_cell0 hW k2; clear hD hW; go_simp; try with_reducible rfl)); simp only [Act.put, List.setIfInBounds_toArray, List.set_cons_zero, List.set_cons_succ, Nat.reduceAdd, Nat.zero_add])
  refine calm_makes (by rfl) (by rfl) (fun W hW hD K hK => ?_) (fun v70 => ?_)
  · refine wp_of_call ?_ ((HBent.out (.slice ma q0 mc) W (HT3.out.2.later (grown_below hW) (Nat.le_refl _))).mono ?_)
    · clear hD hW hK
      go_simp
      try rfl
    · rintro e w' ⟨t1, v1, he, hr, hb⟩
      refine ⟨_, he, hK _ _ (made_plain (show JmF n m (.slice ma q0 mc) 5 (thV t1.seen t1.drawn v1) w' from by unfold JmF; rw [if_neg (by decide)]; exact ⟨t1, v1, rfl, hr⟩) hb rfl)⟩
  simp only [Act.put, List.setIfInBounds_toArray, List.set_cons_zero, List.set_cons_succ, Nat.reduceAdd, Nat.zero_add]
  iterate 1 (refine calm_quiet (v := ?_) (by rfl) (by rfl) (fun W hW hD => ?_) ?_; rotate_left; (· (have q0 := grown_cell0 hW r0; have q1 := grown_cell0 hW r1; have q2 := grown_cell0 hW r2; clear hD hW; go_simp; try with_reducible rfl)); simp only [Act.put, List.setIfInBounds_toArray, List.set_cons_zero, List.set_cons_succ, Nat.reduceAdd, Nat.zero_add])
  refine calm_makes (by rfl) (by rfl) (fun W hW hD K hK => ?_) (fun v72 => ?_)
  · refine wp_of_call ?_ ((HFew.out W (HB3.out.trans ((grown_below hW).mono HB3.out.size))).mono ?_)
    · clear hD hW hK
      go_simp
      try rfl
    · rintro e w' ⟨t1, v1, he, hr, hb⟩
      refine ⟨_, he, hK _ _ (made_plain (show JmF n m (.slice ma q0 mc) 7 (thV t1.seen t1.drawn v1) w' from by unfold JmF; rw [if_neg (by decide)]; exact ⟨t1, v1, rfl, hr⟩) hb rfl)⟩
  simp only [Act.put, List.setIfInBounds_toArray, List.set_cons_zero, List.set_cons_succ, Nat.reduceAdd, Nat.zero_add]
  refine calm_makes (by rfl) (by rfl) (fun W hW hD K hK => ?_) (fun v73 => ?_)
  · have h5 : JmF n m (.slice ma q0 mc) 5 v70 W := hD [] 5 (by kernel_rfl) (by kernel_rfl) (by kernel_rfl)
    have h7 : JmF n m (.slice ma q0 mc) 7 v72 W := hD [] 7 (by kernel_rfl) (by kernel_rfl) (by kernel_rfl)
    unfold JmF at h5 h7
    rw [if_neg (by decide)] at h5 h7
    obtain ⟨t1, v1, e1, h5⟩ := h5
    obtain ⟨t2, v2, e2, h7⟩ := h7
    obtain ⟨a1, c1, hv1, _, _⟩ := h5.shape
    obtain ⟨a2, c2, hv2, _, _⟩ := h7.shape
    subst hv1 hv2 e1 e2
    have hbA : Below W.heap.size W (W.alloc (.cells #[.int .i64 n, .int .i64 m, .slice ma q0 mc, .int .i64 t1.seen, .int .i64 t1.drawn, .slice a1 t1.rules.length c1, .int .i64 t2.seen, .int .i64 t2.drawn, .slice a2 t2.rules.length c2] 25)) := (Below.refl _ _).alloc (Nat.le_refl _) _
    refine wp_of_run (v := .slice (some ⟨W.heap.size, 0, none⟩) 3 3) (w' := W.alloc (.cells #[.int .i64 n, .int .i64 m, .slice ma q0 mc, .int .i64 t1.seen, .int .i64 t1.drawn, .slice a1 t1.rules.length c1, .int .i64 t2.seen, .int .i64 t2.drawn, .slice a2 t2.rules.length c2] 25)) ?_ (hK _ _ (made_below (show JmF n m (.slice ma q0 mc) 8 (.slice (some ⟨W.heap.size, 0, none⟩) 3 3) _ from by unfold JmF; rw [if_pos rfl]; exact ⟨_, t1, t2, _, _, rfl, World.alloc_heap_new W _, h5.later hbA (Nat.le_refl _), h7.later hbA (Nat.le_refl _)⟩) hbA (fun g hg => ?_)))
    · clear hD hW hK h5 h7 hbA
      go_simp
    · have hg' : some W.heap.size = some g := hg
      injection hg' with hg'
      subst hg'
      exact ⟨Nat.le_refl _, by simp⟩
  simp only [Act.put, List.setIfInBounds_toArray, List.set_cons_zero, List.set_cons_succ, Nat.reduceAdd, Nat.zero_add]
  refine calm_quiet (v := .int .i64 3) (by rfl) (by rfl) (fun W hW hD => ?_) ?_
  · have h8 : JmF n m (.slice ma q0 mc) 8 v73 W := hD [] 8 (by kernel_rfl) (by kernel_rfl) (by kernel_rfl)
    unfold JmF at h8
    rw [if_pos rfl] at h8
    obtain ⟨g, _, _, _, _, e8, _⟩ := h8
    subst e8
    clear hD hW
    go_simp
  simp only [Act.put, List.setIfInBounds_toArray, List.set_cons_zero, List.set_cons_succ, Nat.reduceAdd, Nat.zero_add]
  iterate 1 (refine calm_quiet (v := ?_) (by rfl) (by rfl) (fun W hW hD => ?_) ?_; rotate_left; (· (clear hD hW; go_simp; try with_reducible rfl)); simp only [Act.put, List.setIfInBounds_toArray, List.set_cons_zero, List.set_cons_succ, Nat.reduceAdd, Nat.zero_add])
  refine calm_nil fun W4 hW hF => ?_
  have h8 : JmF n m (.slice ma q0 mc) 8 v73 W4 := hF 8 (by kernel_rfl) (by kernel_rfl)
  unfold JmF at h8
  rw [if_pos rfl] at h8
  obtain ⟨L, t1, t2, v1, v2, e8, hg, h1, h2⟩ := h8
  subst e8
  have hb34 := grown_below hW
  have hB4 : Below w.heap.size w W4 := HB3.out.trans (hb34.mono HB3.out.size)
  obtain ⟨th, vs, hJM⟩ := jm_start (HT3.out.later hb34) (HLt.out _ hB4) (HT.out _ hB4) hg h1 h2
  have HJM := Lib.hid (fun (W : World) (hb : Below W4.heap.size W4 W) => hJM.later hb)
  have HB4 := Lib.hid hB4
  clear hF hW hg h1 h2 hb34 hB4 hJM HT3 HR3 HB3 HBent HFew HMade HF HT HLt k0 k1 k2 r0 r1 r2
  go_wp2
  go_loopw [75] (fun iv wr => ∃ i : Nat, i ≤ 3 ∧ iv = .int .i64 i ∧ Below W4.heap.size W4 wr) (fun iv _ => 3 - (intOf iv).toNat)
  case atStart => exact ⟨0, by omega, rfl, Below.refl _ _⟩
  case round =>
    obtain ⟨i, hi, rfl, hB⟩ := hrel
    by_cases hi3 : i < 3
    · have ii : (i : Int) < 3 := by omega
      have di : decide ((i : Int) < 3) = true := by simp; omega
      obtain ⟨c0, c1, c2, hR⟩ := (HJM.out _ hB).row i hi3
      obtain ⟨ta, tc, hvs, _, _⟩ := hR.shape
      generalize th i = t at *
      rw [hvs] at c2 hR
      clear hvs
      have hbA : Below wr.heap.size wr (wr.alloc (.cells #[.int .i64 t.seen, .int .i64 t.drawn, .slice ta t.rules.length tc] 25)) := (Below.refl _ _).alloc (Nat.le_refl _) _
      have HJT : Hid (JT wr.heap.size t (.slice ta t.rules.length tc) (wr.alloc (.cells #[.int .i64 t.seen, .int .i64 t.drawn, .slice ta t.rules.length tc] 25))) := ⟨ThBox.new _ _ _ _, hR.later hbA (Nat.le_refl _)⟩
      have HBA : Hid (Below W4.heap.size W4 (wr.alloc (.cells #[.int .i64 t.seen, .int .i64 t.drawn, .slice ta t.rules.length tc] 25))) := hB.trans (hbA.mono hB.size)
      clear hR hbA
      go_wp2
      generalize wr.alloc (.cells #[.int .i64 t.seen, .int .i64 t.drawn, .slice ta t.rules.length tc] 25) = Wa at *
      generalize wr.heap.size = T2 at *
      generalize hTL : t.rules.length = tl at *
      clear hTL c0 c1 c2
      as_aux_lemma =>
        have HJF : Hid (∀ W, Below Wa.heap.size Wa W → JM T n m (.slice ma q0 mc) (.slice la kz lc) l L th vs W ∧ JT T2 t (.slice ta tl tc) W) := fun W hb => ⟨HJM.out W (HBA.out.trans (hb.mono HBA.out.size)), HJT.out.later hb⟩
        have kk := HJF.out Wa (Below.refl _ _)
        have c0 := kk.2.1.c0
        have c1 := kk.2.1.c1
        have c2 := kk.2.1.c2
        have k0 := kk.1.box.c0
        have k1 := kk.1.box.c1
        have HR := Lib.hid kk.2.2
        have HTb := Lib.hid kk.1.tabs
        clear kk
        refine wp_region_calm ⟨[1, 3], fun k v _ => v = .bool (validB t), fun _ => [], 99, none, 1000⟩ (by kernel_rfl) (by kernel_rfl) (by kernel_rfl) (fun g h => by cases h) (fun k hk v W W' c h hg hc => h) ?_
        iterate 1 (refine calm_quiet (v := ?_) (by rfl) (by rfl) (fun W hW hD => ?_) ?_; rotate_left; (· (have q0 := grown_cell0 hW c0; have q1 := grown_cell0 hW c1; have q2 := grown_cell0 hW c2; clear hD hW; go_simp; try with_reducible rfl)); simp only [Act.put, List.setIfInBounds_toArray, List.set_cons_zero, List.set_cons_succ, Nat.reduceAdd, Nat.zero_add])
        refine calm_makes (by rfl) (by rfl) (fun W hW hD K hK => ?_) (fun v80 => ?_)
        · refine wp_of_call ?_ ((valid_any t _ W (HR.out.later (grown_below hW) (Nat.le_refl _))).mono ?_)
          · clear hD hW hK
            go_simp
            try rfl
          · rintro e w' ⟨he, hb⟩
            exact ⟨_, he, hK _ _ (made_plain rfl hb rfl)⟩
        simp only [Act.put, List.setIfInBounds_toArray, List.set_cons_zero, List.set_cons_succ, Nat.reduceAdd, Nat.zero_add]
        iterate 1 (refine calm_quiet (v := ?_) (by rfl) (by rfl) (fun W hW hD => ?_) ?_; rotate_left; (· (have q0 := grown_cell0 hW c0; have q1 := grown_cell0 hW c1; have q2 := grown_cell0 hW c2; clear hD hW; go_simp; try with_reducible rfl)); simp only [Act.put, List.setIfInBounds_toArray, List.set_cons_zero, List.set_cons_succ, Nat.reduceAdd, Nat.zero_add])
        refine calm_makes (by rfl) (by rfl) (fun W hW hD K hK => ?_) (fun v82 => ?_)
        · refine wp_of_call ?_ ((refValid_any t _ W (HR.out.later (grown_below hW) (Nat.le_refl _))).mono ?_)
          · clear hD hW hK
            go_simp
            try rfl
          · rintro e w' ⟨he, hb⟩
            exact ⟨_, he, hK _ _ (made_plain rfl hb rfl)⟩
        simp only [Act.put, List.setIfInBounds_toArray, List.set_cons_zero, List.set_cons_succ, Nat.reduceAdd, Nat.zero_add]
        refine calm_quiet (v := .bool false) (by rfl) (by rfl) (fun W hW hD => ?_) ?_
        · obtain rfl : v80 = .bool (validB t) := hD [] 1 (by kernel_rfl) (by kernel_rfl) (by kernel_rfl)
          obtain rfl : v82 = .bool (validB t) := hD [] 3 (by kernel_rfl) (by kernel_rfl) (by kernel_rfl)
          clear hD hW
          go_simp
        simp only [Act.put, List.setIfInBounds_toArray, List.set_cons_zero, List.set_cons_succ, Nat.reduceAdd, Nat.zero_add]
        refine calm_nil fun W5 hW hF => ?_
        have hB5 := grown_below hW
        clear hF hW c0 c1 c2 k0 k1 HR HTb
        have kk := HJF.out W5 hB5
        have c0 := kk.2.1.c0
        have c1 := kk.2.1.c1
        have c2 := kk.2.1.c2
        have k0 := kk.1.box.c0
        have k1 := kk.1.box.c1
        have HR := Lib.hid kk.2.2
        have HTb := Lib.hid kk.1.tabs
        clear kk
        have hshO := HSh.out
        go_wp2_with fail
        refine (HPS.out _).mono ?_
        rintro e w' ⟨rfl, rfl⟩
        clear hshO
        obtain ⟨sv, hsv⟩ := pair_lit W5 set (pickZ set (P : Int))
        have hb6 : Below W5.heap.size W5 (W5.alloc (.cells #[.int .i64 set, .int .i64 (pickZ set (P : Int))] 3)) := (Below.refl _ _).alloc (Nat.le_refl _) _
        have HB6 : Hid (Below Wa.heap.size Wa (W5.alloc (.cells #[.int .i64 set, .int .i64 (pickZ set (P : Int))] 3))) := hB5.trans (hb6.mono hB5.size)
        have HSv : Hid (∀ W, Below (W5.alloc (.cells #[.int .i64 set, .int .i64 (pickZ set (P : Int))] 3)).heap.size (W5.alloc (.cells #[.int .i64 set, .int .i64 (pickZ set (P : Int))] 3)) W → ∀ a, a < 2 → W.cell? ⟨W5.heap.size, a, none⟩ = some (.int .i64 (sv a))) := fun W hb a ha => (hb.cell (p := ⟨W5.heap.size, a, none⟩) (by simp)).trans (hsv a ha)
        clear hsv hb6 c0 c1 c2 k0 k1 HR HTb
        go_wp2
        generalize W5.alloc (.cells #[.int .i64 set, .int .i64 (pickZ set (P : Int))] 3) = W6 at *
        generalize W5.heap.size = LS at *
        clear hB5
        go_loopw [92] (fun av wr => ∃ a : Nat, a ≤ 2 ∧ av = .int .i64 a ∧ Below W6.heap.size W6 wr) (fun av _ => 2 - (intOf av).toNat)
        case atStart => exact ⟨0, by omega, rfl, Below.refl _ _⟩
        case round =>
          obtain ⟨a, ha, rfl, hB6⟩ := hrel
          have hBa : Below Wa.heap.size Wa wr := HB6.out.trans (hB6.mono HB6.out.size)
          have kk := HJF.out wr hBa
          have c0 := kk.2.1.c0
          have c1 := kk.2.1.c1
          have c2 := kk.2.1.c2
          have k0 := kk.1.box.c0
          have k1 := kk.1.box.c1
          have HR := Lib.hid kk.2.2
          have HTb := Lib.hid kk.1.tabs
          clear kk
          by_cases ha2 : a < 2
          · have aa : (a : Int) < 2 := by omega
            have s0c := HSv.out wr hB6 a ha2
            have HUp2 : Hid (∀ W, Below wr.heap.size wr W → Below W6.heap.size W6 W) := fun W hb => hB6.trans (hb.mono hB6.size)
            generalize sv a = z at *
            as_aux_lemma =>
              go_wp2_with fail
              refine (holds_any t _ z wr HR.out HTb.out).mono ?_
              rintro e w7 ⟨xa, rfl, hOa, hb7⟩
              have hB7 : Below Wa.heap.size Wa w7 := hBa.trans (hb7.mono hBa.size)
              obtain ⟨aa0, ac0, hxa⟩ := hOa.shape
              subst hxa
              have HA7 := Lib.hid hOa.ints
              have HU7 := Lib.hid (HUp2.out _ hb7)
              clear hOa s0c
              clear c0 c1 c2 k0 k1 HR HTb
              have kk := HJF.out w7 hB7
              have c0 := kk.2.1.c0
              have c1 := kk.2.1.c1
              have c2 := kk.2.1.c2
              have k0 := kk.1.box.c0
              have k1 := kk.1.box.c1
              have HR := Lib.hid kk.2.2
              have HTb := Lib.hid kk.1.tabs
              clear kk
              go_wp2_with fail
              refine (refHolds_any t _ z w7 HR.out).mono ?_
              rintro e w8 ⟨xb, rfl, hOb, hb8⟩
              have hB8 : Below Wa.heap.size Wa w8 := hB7.trans (hb8.mono hB7.size)
              obtain ⟨ba0, bc0, hxb⟩ := hOb.shape
              subst hxb
              have HA8 := Lib.hid (HA7.out.later hb8 (Nat.le_refl _))
              have HB8 := Lib.hid hOb.ints
              have HU8 := Lib.hid (HU7.out.trans (hb8.mono HU7.out.size))
              clear hOb HA7 HU7
              clear c0 c1 c2 k0 k1 HR HTb
              have kk := HJF.out w8 hB8
              have c0 := kk.2.1.c0
              have c1 := kk.2.1.c1
              have c2 := kk.2.1.c2
              have k0 := kk.1.box.c0
              have k1 := kk.1.box.c1
              have HR := Lib.hid kk.2.2
              have HTb := Lib.hid kk.1.tabs
              clear kk
              have hes := errOf_same (setB t z)
              go_wp2_with fail
              refine (ints_any _ _ (holdsL t z) (holdsL t z) w8 HA8.out HB8.out).mono ?_
              rintro e w9 ⟨rfl, hb9⟩
              have hB9 : Below Wa.heap.size Wa w9 := hB8.trans (hb9.mono hB8.size)
              rw [beq_self_eq_true]
              have HHl := Lib.hid (fun (W : World) (hb : Below w9.heap.size w9 W) => (HB8.out.later hb9 (Nat.le_refl _)).later hb (Nat.le_refl _))
              have HU9 := Lib.hid (HU8.out.trans (hb9.mono HU8.out.size))
              clear HA8 HB8 HU8 hb9
              clear c0 c1 c2 k0 k1 HR HTb
              have kk := HJF.out w9 hB9
              have c0 := kk.2.1.c0
              have c1 := kk.2.1.c1
              have c2 := kk.2.1.c2
              have k0 := kk.1.box.c0
              have k1 := kk.1.box.c1
              have HR := Lib.hid kk.2.2
              have HTb := Lib.hid kk.1.tabs
              clear kk
              clear hb7 hb8 hB7 hB8
              go_wp2_with fail
              refine (HPK.out _).mono ?_
              rintro e w' ⟨rfl, rfl⟩
              clear hes
              obtain ⟨kv, hkv⟩ := pair_lit w9 thing (pickZ thing ((n : Int) + m))
              have hb10 : Below w9.heap.size w9 (w9.alloc (.cells #[.int .i64 thing, .int .i64 (pickZ thing ((n : Int) + m))] 3)) := (Below.refl _ _).alloc (Nat.le_refl _) _
              have HB10 : Hid (Below Wa.heap.size Wa (w9.alloc (.cells #[.int .i64 thing, .int .i64 (pickZ thing ((n : Int) + m))] 3))) := hB9.trans (hb10.mono hB9.size)
              have HU10 : Hid (∀ W, Below (w9.alloc (.cells #[.int .i64 thing, .int .i64 (pickZ thing ((n : Int) + m))] 3)).heap.size (w9.alloc (.cells #[.int .i64 thing, .int .i64 (pickZ thing ((n : Int) + m))] 3)) W → Below W6.heap.size W6 W) := fun W hb => (HU9.out.trans (hb10.mono HU9.out.size)).trans (hb.mono (Nat.le_trans HU9.out.size hb10.size))
              have HHL := Lib.hid (fun (W : World) (hb : Below (w9.alloc (.cells #[.int .i64 thing, .int .i64 (pickZ thing ((n : Int) + m))] 3)).heap.size (w9.alloc (.cells #[.int .i64 thing, .int .i64 (pickZ thing ((n : Int) + m))] 3)) W) => HHl.out W (hb10.trans (hb.mono hb10.size)))
              have HKv : Hid (∀ W, Below (w9.alloc (.cells #[.int .i64 thing, .int .i64 (pickZ thing ((n : Int) + m))] 3)).heap.size (w9.alloc (.cells #[.int .i64 thing, .int .i64 (pickZ thing ((n : Int) + m))] 3)) W → ∀ a, a < 2 → W.cell? ⟨w9.heap.size, a, none⟩ = some (.int .i64 (kv a))) := fun W hb a ha => (hb.cell (p := ⟨w9.heap.size, a, none⟩) (by simp)).trans (hkv a ha)
              clear hkv hb10 c0 c1 c2 k0 k1 HR HTb HHl HU9
              go_wp2
              generalize w9.alloc (.cells #[.int .i64 thing, .int .i64 (pickZ thing ((n : Int) + m))] 3) = W10 at *
              generalize w9.heap.size = LK at *
              clear hB9 hBa hB6
              go_loopw [127] (fun bv wr => ∃ b : Nat, b ≤ 2 ∧ bv = .int .i64 b ∧ Below W10.heap.size W10 wr) (fun bv _ => 2 - (intOf bv).toNat)
              case atStart => exact ⟨0, by omega, rfl, Below.refl _ _⟩
              case round =>
                obtain ⟨b, hb, rfl, hB10⟩ := hrel
                have hBa : Below Wa.heap.size Wa wr := HB10.out.trans (hB10.mono HB10.out.size)
                have kk := HJF.out wr hBa
                have c0 := kk.2.1.c0
                have c1 := kk.2.1.c1
                have c2 := kk.2.1.c2
                have k0 := kk.1.box.c0
                have k1 := kk.1.box.c1
                have HR := Lib.hid kk.2.2
                have HTb := Lib.hid kk.1.tabs
                clear kk
                by_cases hb2 : b < 2
                · have bb : (b : Int) < 2 := by omega
                  have s0c := HKv.out wr hB10 b hb2
                  generalize kv b = k at *
                  have HUr := Lib.hid hB10
                  as_aux_lemma =>
                    go_wp2_with fail
                    refine (core_any t _ z k wr HR.out).mono ?_
                    rintro e x1 ⟨rfl, hb1⟩
                    have hX1 : Below Wa.heap.size Wa x1 := hBa.trans (hb1.mono hBa.size)
                    have HU1 := Lib.hid (HUr.out.trans (hb1.mono HUr.out.size))
                    clear s0c
                    clear c0 c1 c2 k0 k1 HR HTb
                    have kk := HJF.out x1 hX1
                    have c0 := kk.2.1.c0
                    have c1 := kk.2.1.c1
                    have c2 := kk.2.1.c2
                    have k0 := kk.1.box.c0
                    have k1 := kk.1.box.c1
                    have HR := Lib.hid kk.2.2
                    have HTb := Lib.hid kk.1.tabs
                    clear kk
                    go_wp2_with fail
                    refine (refCore_any t _ z k x1 HR.out).mono ?_
                    rintro e x2 ⟨rfl, hb2x⟩
                    have hX2 : Below Wa.heap.size Wa x2 := hX1.trans (hb2x.mono hX1.size)
                    have HU2 := Lib.hid (HU1.out.trans (hb2x.mono HU1.out.size))
                    clear c0 c1 c2 k0 k1 HR HTb
                    have kk := HJF.out x2 hX2
                    have c0 := kk.2.1.c0
                    have c1 := kk.2.1.c1
                    have c2 := kk.2.1.c2
                    have k0 := kk.1.box.c0
                    have k1 := kk.1.box.c1
                    have HR := Lib.hid kk.2.2
                    have HTb := Lib.hid kk.1.tabs
                    clear kk
                    go_wp2_with fail
                    refine (retract_any t _ z k x2 HR.out HTb.out).mono ?_
                    rintro e x3 ⟨xr, rfl, hOr, hb3⟩
                    have hX3 : Below Wa.heap.size Wa x3 := hX2.trans (hb3.mono hX2.size)
                    obtain ⟨ra0, rc0, hxr⟩ := hOr.shape
                    subst hxr
                    have HR3x := Lib.hid hOr.ints
                    have HU3 := Lib.hid (HU2.out.trans (hb3.mono HU2.out.size))
                    clear hOr
                    clear c0 c1 c2 k0 k1 HR HTb
                    have kk := HJF.out x3 hX3
                    have c0 := kk.2.1.c0
                    have c1 := kk.2.1.c1
                    have c2 := kk.2.1.c2
                    have k0 := kk.1.box.c0
                    have k1 := kk.1.box.c1
                    have HR := Lib.hid kk.2.2
                    have HTb := Lib.hid kk.1.tabs
                    clear kk
                    go_wp2_with fail
                    refine (refRetract_any t _ z k x3 HR.out).mono ?_
                    rintro e x4 ⟨xq, rfl, hOq, hb4⟩
                    have hX4 : Below Wa.heap.size Wa x4 := hX3.trans (hb4.mono hX3.size)
                    obtain ⟨qa0, qc0, hxq⟩ := hOq.shape
                    subst hxq
                    have HR4x := Lib.hid (HR3x.out.later hb4 (Nat.le_refl _))
                    have HQ4x := Lib.hid hOq.ints
                    have HU4 := Lib.hid (HU3.out.trans (hb4.mono HU3.out.size))
                    clear hOq HR3x
                    clear c0 c1 c2 k0 k1 HR HTb
                    have kk := HJF.out x4 hX4
                    have c0 := kk.2.1.c0
                    have c1 := kk.2.1.c1
                    have c2 := kk.2.1.c2
                    have k0 := kk.1.box.c0
                    have k1 := kk.1.box.c1
                    have HR := Lib.hid kk.2.2
                    have HTb := Lib.hid kk.1.tabs
                    clear kk
                    go_wp2_with fail
                    refine (why_any t _ z k x4 HR.out).mono ?_
                    rintro e x5 ⟨xw, rfl, hIw, hb5⟩
                    have hX5 : Below Wa.heap.size Wa x5 := hX4.trans (hb5.mono hX4.size)
                    obtain ⟨wa0, wc0, hxw, _, _⟩ := hIw.shape
                    subst hxw
                    have HR5x := Lib.hid (HR4x.out.later hb5 (Nat.le_refl _))
                    have HQ5x := Lib.hid (HQ4x.out.later hb5 (Nat.le_refl _))
                    have HW5 := Lib.hid hIw
                    have HU5 := Lib.hid (HU4.out.trans (hb5.mono HU4.out.size))
                    clear hIw HR4x HQ4x
                    clear c0 c1 c2 k0 k1 HR HTb
                    have kk := HJF.out x5 hX5
                    have c0 := kk.2.1.c0
                    have c1 := kk.2.1.c1
                    have c2 := kk.2.1.c2
                    have k0 := kk.1.box.c0
                    have k1 := kk.1.box.c1
                    have HR := Lib.hid kk.2.2
                    have HTb := Lib.hid kk.1.tabs
                    clear kk
                    clear hb1 hb2x hb3 hb4 hb5 hX1 hX2 hX3 hX4 HU1 HU2 HU3 HU4 HUr
                    have hers := errOf_same (retB t z k)
                    have HWn := Lib.hid (fun h => why_not (t := t) (z := z) (k := k) h)
                    have HWs := Lib.hid (fun h => why_set (t := t) (z := z) (k := k) h)
                    have HWh := Lib.hid (fun h => why_holds t z k h)
                    have HUp3 : Hid (∀ W, Below x5.heap.size x5 W → Below W10.heap.size W10 W) := fun W hb => HU5.out.trans (hb.mono HU5.out.size)
                    have HWhy : Hid (∀ W, Below x5.heap.size x5 W → IntsAt W.heap.size W (.slice wa0 (whyL t z k).length wc0) (whyL t z k)) := fun W hb => HW5.out.later hb (Nat.le_refl _)
                    clear HW5
                    generalize whyL t z k = wl at *
                    generalize whyB t z k = fb at *
                    have hsb : Hid (setB t z = false) ∨ Hid (setB t z = true) := by
                      cases h : setB t z
                      · exact .inl rfl
                      · exact .inr rfl
                    rcases hsb with HSb | HSb
                    · have he0 : (errOf (setB t z) == 0) = false := by rw [HSb.out]; rfl
                      obtain rfl := HWs.out HSb.out
                      obtain rfl := HWn.out rfl
                      clear HWs HWn HWh
                      simp only [List.length_nil] at HWhy ⊢
                      as_aux_lemma =>
                        go_wp2_with fail
                        refine (ints_any _ _ (retractL t z k) (retractL t z k) x5 HR5x.out HQ5x.out).mono ?_
                        rintro e wB ⟨rfl, hbB⟩
                        rw [beq_self_eq_true]
                        have hBB : Below Wa.heap.size Wa wB := hX5.trans (hbB.mono hX5.size)
                        clear c0 c1 c2 k0 k1 HR HTb
                        obtain ⟨zv, zl, hz⟩ := trip_lit wB (.slice la kz lc) (.slice wa0 0 wc0) l [] (HJF.out wB hBB).1.list (HWhy.out wB hbB)
                        have hbz : Below wB.heap.size wB (wB.alloc (.cells #[.slice la kz lc, .slice wa0 0 wc0, .slice none 0 0] 26)) := (Below.refl _ _).alloc (Nat.le_refl _) _
                        have HBz : Hid (Below Wa.heap.size Wa (wB.alloc (.cells #[.slice la kz lc, .slice wa0 0 wc0, .slice none 0 0] 26))) := hBB.trans (hbz.mono hBB.size)
                        have HUz : Hid (Below W10.heap.size W10 (wB.alloc (.cells #[.slice la kz lc, .slice wa0 0 wc0, .slice none 0 0] 26))) := by
                          have h := HUp3.out wB hbB
                          exact h.trans (hbz.mono h.size)
                        have HZ : Hid (∀ W, Below (wB.alloc (.cells #[.slice la kz lc, .slice wa0 0 wc0, .slice none 0 0] 26)).heap.size (wB.alloc (.cells #[.slice la kz lc, .slice wa0 0 wc0, .slice none 0 0] 26)) W → ∀ c, c < 3 → W.cell? ⟨wB.heap.size, c, none⟩ = some (zv c) ∧ IntsAt W.heap.size W (zv c) (zl c)) := fun W hb c hc => ⟨(hb.cell (p := ⟨wB.heap.size, c, none⟩) (by simp)).trans (hz c hc).1, (hz c hc).2.later hb (Nat.le_refl _)⟩
                        clear hz hbz
                        go_wp2
                        generalize wB.alloc (.cells #[.slice la kz lc, .slice wa0 0 wc0, .slice none 0 0] 26) = Wz at *
                        generalize wB.heap.size = Lz at *
                        go_loopw [209] (fun cv wr => ∃ c : Nat, c ≤ 3 ∧ cv = .int .i64 c ∧ Below Wz.heap.size Wz wr) (fun cv _ => 3 - (intOf cv).toNat)
                        case atStart => exact ⟨0, by omega, rfl, Below.refl _ _⟩
                        case round =>
                          obtain ⟨c, hc, rfl, hBz⟩ := hrel
                          have hBa : Below Wa.heap.size Wa wr := HBz.out.trans (hBz.mono HBz.out.size)
                          have kk := HJF.out wr hBa
                          have c0 := kk.2.1.c0
                          have c1 := kk.2.1.c1
                          have c2 := kk.2.1.c2
                          have k0 := kk.1.box.c0
                          have k1 := kk.1.box.c1
                          have HR := Lib.hid kk.2.2
                          have HTb := Lib.hid kk.1.tabs
                          clear kk
                          by_cases hc3 : c < 3
                          · have cc : (c : Int) < 3 := by omega
                            obtain ⟨z0, z1⟩ := HZ.out wr hBz c hc3
                            have HZ2 := Lib.hid z1
                            clear z1
                            go_wp2
                            refine wp_region_calm ⟨[4, 9], fun _ v _ => v = .bool (checkB t z k (zl c)), fun _ => [], 99, none, 1000⟩ (by kernel_rfl) (by kernel_rfl) (by kernel_rfl) (fun g h => by cases h) (fun k hk v W W' c h hg hc => h) ?_
                            iterate 4 (refine calm_quiet (v := ?_) (by rfl) (by rfl) (fun W hW hD => ?_) ?_; rotate_left; (· (have q0 := grown_cell0 hW c0; have q1 := grown_cell0 hW c1; have q2 := grown_cell0 hW c2; clear hD hW; go_simp; try with_reducible rfl)); simp only [Act.put, List.setIfInBounds_toArray, List.set_cons_zero, List.set_cons_succ, Nat.reduceAdd, Nat.zero_add])
                            refine calm_makes (by rfl) (by rfl) (fun W hW hD K hK => ?_) (fun v217 => ?_)
                            · refine wp_of_call ?_ ((check_any t _ (zv c) z k (zl c) W (HR.out.later (grown_below hW) (Nat.le_refl _)) (HZ2.out.later (grown_below hW) (Nat.le_refl _))).mono ?_)
                              · clear hD hW hK
                                go_simp
                                try rfl
                              · rintro e w' ⟨he, hb⟩
                                exact ⟨_, he, hK _ _ (made_plain rfl hb rfl)⟩
                            simp only [Act.put, List.setIfInBounds_toArray, List.set_cons_zero, List.set_cons_succ, Nat.reduceAdd, Nat.zero_add]
                            iterate 4 (refine calm_quiet (v := ?_) (by rfl) (by rfl) (fun W hW hD => ?_) ?_; rotate_left; (· (have q0 := grown_cell0 hW c0; have q1 := grown_cell0 hW c1; have q2 := grown_cell0 hW c2; clear hD hW; go_simp; try with_reducible rfl)); simp only [Act.put, List.setIfInBounds_toArray, List.set_cons_zero, List.set_cons_succ, Nat.reduceAdd, Nat.zero_add])
                            refine calm_makes (by rfl) (by rfl) (fun W hW hD K hK => ?_) (fun v222 => ?_)
                            · refine wp_of_call ?_ ((refCheck_any t _ (zv c) z k (zl c) W (HR.out.later (grown_below hW) (Nat.le_refl _)) (HZ2.out.later (grown_below hW) (Nat.le_refl _))).mono ?_)
                              · clear hD hW hK
                                go_simp
                                try rfl
                              · rintro e w' ⟨he, hb⟩
                                exact ⟨_, he, hK _ _ (made_plain rfl hb rfl)⟩
                            simp only [Act.put, List.setIfInBounds_toArray, List.set_cons_zero, List.set_cons_succ, Nat.reduceAdd, Nat.zero_add]
                            refine calm_quiet (v := .bool false) (by rfl) (by rfl) (fun W hW hD => ?_) ?_
                            · obtain rfl : v217 = .bool (checkB t z k (zl c)) := hD [] 4 (by kernel_rfl) (by kernel_rfl) (by kernel_rfl)
                              obtain rfl : v222 = .bool (checkB t z k (zl c)) := hD [] 9 (by kernel_rfl) (by kernel_rfl) (by kernel_rfl)
                              clear hD hW
                              go_simp
                            simp only [Act.put, List.setIfInBounds_toArray, List.set_cons_zero, List.set_cons_succ, Nat.reduceAdd, Nat.zero_add]
                            refine calm_nil fun W9 hW hF => ?_
                            have HB9 := Lib.hid (grown_below hW)
                            clear hF hW
                            go_wp2
                            go_roundw
                            case rel => exact ⟨c + 1, by omega, by go_num, hBz.trans (HB9.out.mono hBz.size)⟩
                            case measure => simp [intOf]; omega
                          · obtain rfl : c = 3 := by omega
                            go_wp2
                            go_roundw
                            case rel => exact ⟨b + 1, by omega, by go_num, HUz.out.trans (hBz.mono HUz.out.size)⟩
                            case measure => simp [intOf]; omega
                    · have he1 : (errOf (setB t z) == 0) = true := by rw [HSb.out]; rfl
                      have HWq := Lib.hid (HWh.out HSb.out)
                      clear HWs HWh
                      cases fb
                      · obtain rfl := HWn.out rfl
                        clear HWn
                        simp only [List.length_nil] at HWhy ⊢
                        as_aux_lemma =>
                          go_wp2_with fail
                          refine (ints_any _ _ (retractL t z k) (retractL t z k) x5 HR5x.out HQ5x.out).mono ?_
                          rintro e wB ⟨rfl, hbB⟩
                          rw [beq_self_eq_true]
                          have hBB : Below Wa.heap.size Wa wB := hX5.trans (hbB.mono hX5.size)
                          go_wp2_with fail
                          refine (contains_any _ (holdsL t z) k wB (HHL.out _ (HUp3.out wB hbB))).mono ?_
                          rintro e w' ⟨rfl, rfl⟩
                          rw [← HWq.out]
                          clear c0 c1 c2 k0 k1 HR HTb
                          obtain ⟨zv, zl, hz⟩ := trip_lit wB (.slice la kz lc) (.slice wa0 0 wc0) l [] (HJF.out wB hBB).1.list (HWhy.out wB hbB)
                          have hbz : Below wB.heap.size wB (wB.alloc (.cells #[.slice la kz lc, .slice wa0 0 wc0, .slice none 0 0] 26)) := (Below.refl _ _).alloc (Nat.le_refl _) _
                          have HBz : Hid (Below Wa.heap.size Wa (wB.alloc (.cells #[.slice la kz lc, .slice wa0 0 wc0, .slice none 0 0] 26))) := hBB.trans (hbz.mono hBB.size)
                          have HUz : Hid (Below W10.heap.size W10 (wB.alloc (.cells #[.slice la kz lc, .slice wa0 0 wc0, .slice none 0 0] 26))) := by
                            have h := HUp3.out wB hbB
                            exact h.trans (hbz.mono h.size)
                          have HZ : Hid (∀ W, Below (wB.alloc (.cells #[.slice la kz lc, .slice wa0 0 wc0, .slice none 0 0] 26)).heap.size (wB.alloc (.cells #[.slice la kz lc, .slice wa0 0 wc0, .slice none 0 0] 26)) W → ∀ c, c < 3 → W.cell? ⟨wB.heap.size, c, none⟩ = some (zv c) ∧ IntsAt W.heap.size W (zv c) (zl c)) := fun W hb c hc => ⟨(hb.cell (p := ⟨wB.heap.size, c, none⟩) (by simp)).trans (hz c hc).1, (hz c hc).2.later hb (Nat.le_refl _)⟩
                          clear hz hbz
                          go_wp2
                          generalize wB.alloc (.cells #[.slice la kz lc, .slice wa0 0 wc0, .slice none 0 0] 26) = Wz at *
                          generalize wB.heap.size = Lz at *
                          go_loopw [209] (fun cv wr => ∃ c : Nat, c ≤ 3 ∧ cv = .int .i64 c ∧ Below Wz.heap.size Wz wr) (fun cv _ => 3 - (intOf cv).toNat)
                          case atStart => exact ⟨0, by omega, rfl, Below.refl _ _⟩
                          case round =>
                            obtain ⟨c, hc, rfl, hBz⟩ := hrel
                            have hBa : Below Wa.heap.size Wa wr := HBz.out.trans (hBz.mono HBz.out.size)
                            have kk := HJF.out wr hBa
                            have c0 := kk.2.1.c0
                            have c1 := kk.2.1.c1
                            have c2 := kk.2.1.c2
                            have k0 := kk.1.box.c0
                            have k1 := kk.1.box.c1
                            have HR := Lib.hid kk.2.2
                            have HTb := Lib.hid kk.1.tabs
                            clear kk
                            by_cases hc3 : c < 3
                            · have cc : (c : Int) < 3 := by omega
                              obtain ⟨z0, z1⟩ := HZ.out wr hBz c hc3
                              have HZ2 := Lib.hid z1
                              clear z1
                              go_wp2
                              refine wp_region_calm ⟨[4, 9], fun _ v _ => v = .bool (checkB t z k (zl c)), fun _ => [], 99, none, 1000⟩ (by kernel_rfl) (by kernel_rfl) (by kernel_rfl) (fun g h => by cases h) (fun k hk v W W' c h hg hc => h) ?_
                              iterate 4 (refine calm_quiet (v := ?_) (by rfl) (by rfl) (fun W hW hD => ?_) ?_; rotate_left; (· (have q0 := grown_cell0 hW c0; have q1 := grown_cell0 hW c1; have q2 := grown_cell0 hW c2; clear hD hW; go_simp; try with_reducible rfl)); simp only [Act.put, List.setIfInBounds_toArray, List.set_cons_zero, List.set_cons_succ, Nat.reduceAdd, Nat.zero_add])
                              refine calm_makes (by rfl) (by rfl) (fun W hW hD K hK => ?_) (fun v217 => ?_)
                              · refine wp_of_call ?_ ((check_any t _ (zv c) z k (zl c) W (HR.out.later (grown_below hW) (Nat.le_refl _)) (HZ2.out.later (grown_below hW) (Nat.le_refl _))).mono ?_)
                                · clear hD hW hK
                                  go_simp
                                  try rfl
                                · rintro e w' ⟨he, hb⟩
                                  exact ⟨_, he, hK _ _ (made_plain rfl hb rfl)⟩
                              simp only [Act.put, List.setIfInBounds_toArray, List.set_cons_zero, List.set_cons_succ, Nat.reduceAdd, Nat.zero_add]
                              iterate 4 (refine calm_quiet (v := ?_) (by rfl) (by rfl) (fun W hW hD => ?_) ?_; rotate_left; (· (have q0 := grown_cell0 hW c0; have q1 := grown_cell0 hW c1; have q2 := grown_cell0 hW c2; clear hD hW; go_simp; try with_reducible rfl)); simp only [Act.put, List.setIfInBounds_toArray, List.set_cons_zero, List.set_cons_succ, Nat.reduceAdd, Nat.zero_add])
                              refine calm_makes (by rfl) (by rfl) (fun W hW hD K hK => ?_) (fun v222 => ?_)
                              · refine wp_of_call ?_ ((refCheck_any t _ (zv c) z k (zl c) W (HR.out.later (grown_below hW) (Nat.le_refl _)) (HZ2.out.later (grown_below hW) (Nat.le_refl _))).mono ?_)
                                · clear hD hW hK
                                  go_simp
                                  try rfl
                                · rintro e w' ⟨he, hb⟩
                                  exact ⟨_, he, hK _ _ (made_plain rfl hb rfl)⟩
                              simp only [Act.put, List.setIfInBounds_toArray, List.set_cons_zero, List.set_cons_succ, Nat.reduceAdd, Nat.zero_add]
                              refine calm_quiet (v := .bool false) (by rfl) (by rfl) (fun W hW hD => ?_) ?_
                              · obtain rfl : v217 = .bool (checkB t z k (zl c)) := hD [] 4 (by kernel_rfl) (by kernel_rfl) (by kernel_rfl)
                                obtain rfl : v222 = .bool (checkB t z k (zl c)) := hD [] 9 (by kernel_rfl) (by kernel_rfl) (by kernel_rfl)
                                clear hD hW
                                go_simp
                              simp only [Act.put, List.setIfInBounds_toArray, List.set_cons_zero, List.set_cons_succ, Nat.reduceAdd, Nat.zero_add]
                              refine calm_nil fun W9 hW hF => ?_
                              have HB9 := Lib.hid (grown_below hW)
                              clear hF hW
                              go_wp2
                              go_roundw
                              case rel => exact ⟨c + 1, by omega, by go_num, hBz.trans (HB9.out.mono hBz.size)⟩
                              case measure => simp [intOf]; omega
                            · obtain rfl : c = 3 := by omega
                              go_wp2
                              go_roundw
                              case rel => exact ⟨b + 1, by omega, by go_num, HUz.out.trans (hBz.mono HUz.out.size)⟩
                              case measure => simp [intOf]; omega
                      · clear HWn
                        generalize hwln : wl.length = wn at *
                        clear hwln
                        as_aux_lemma =>
                          go_wp2_with fail
                          refine (ints_any _ _ (retractL t z k) (retractL t z k) x5 HR5x.out HQ5x.out).mono ?_
                          rintro e wB ⟨rfl, hbB⟩
                          rw [beq_self_eq_true]
                          have hBB : Below Wa.heap.size Wa wB := hX5.trans (hbB.mono hX5.size)
                          go_wp2_with fail
                          refine (contains_any _ (holdsL t z) k wB (HHL.out _ (HUp3.out wB hbB))).mono ?_
                          rintro e w' ⟨rfl, rfl⟩
                          rw [← HWq.out]
                          clear c0 c1 c2 k0 k1 HR HTb
                          obtain ⟨zv, zl, hz⟩ := trip_lit wB (.slice la kz lc) (.slice wa0 wn wc0) l wl (HJF.out wB hBB).1.list (HWhy.out wB hbB)
                          have hbz : Below wB.heap.size wB (wB.alloc (.cells #[.slice la kz lc, .slice wa0 wn wc0, .slice none 0 0] 26)) := (Below.refl _ _).alloc (Nat.le_refl _) _
                          have HBz : Hid (Below Wa.heap.size Wa (wB.alloc (.cells #[.slice la kz lc, .slice wa0 wn wc0, .slice none 0 0] 26))) := hBB.trans (hbz.mono hBB.size)
                          have HUz : Hid (Below W10.heap.size W10 (wB.alloc (.cells #[.slice la kz lc, .slice wa0 wn wc0, .slice none 0 0] 26))) := by
                            have h := HUp3.out wB hbB
                            exact h.trans (hbz.mono h.size)
                          have HZ : Hid (∀ W, Below (wB.alloc (.cells #[.slice la kz lc, .slice wa0 wn wc0, .slice none 0 0] 26)).heap.size (wB.alloc (.cells #[.slice la kz lc, .slice wa0 wn wc0, .slice none 0 0] 26)) W → ∀ c, c < 3 → W.cell? ⟨wB.heap.size, c, none⟩ = some (zv c) ∧ IntsAt W.heap.size W (zv c) (zl c)) := fun W hb c hc => ⟨(hb.cell (p := ⟨wB.heap.size, c, none⟩) (by simp)).trans (hz c hc).1, (hz c hc).2.later hb (Nat.le_refl _)⟩
                          clear hz hbz
                          go_wp2
                          generalize wB.alloc (.cells #[.slice la kz lc, .slice wa0 wn wc0, .slice none 0 0] 26) = Wz at *
                          generalize wB.heap.size = Lz at *
                          go_loopw [209] (fun cv wr => ∃ c : Nat, c ≤ 3 ∧ cv = .int .i64 c ∧ Below Wz.heap.size Wz wr) (fun cv _ => 3 - (intOf cv).toNat)
                          case atStart => exact ⟨0, by omega, rfl, Below.refl _ _⟩
                          case round =>
                            obtain ⟨c, hc, rfl, hBz⟩ := hrel
                            have hBa : Below Wa.heap.size Wa wr := HBz.out.trans (hBz.mono HBz.out.size)
                            have kk := HJF.out wr hBa
                            have c0 := kk.2.1.c0
                            have c1 := kk.2.1.c1
                            have c2 := kk.2.1.c2
                            have k0 := kk.1.box.c0
                            have k1 := kk.1.box.c1
                            have HR := Lib.hid kk.2.2
                            have HTb := Lib.hid kk.1.tabs
                            clear kk
                            by_cases hc3 : c < 3
                            · have cc : (c : Int) < 3 := by omega
                              obtain ⟨z0, z1⟩ := HZ.out wr hBz c hc3
                              have HZ2 := Lib.hid z1
                              clear z1
                              go_wp2
                              refine wp_region_calm ⟨[4, 9], fun _ v _ => v = .bool (checkB t z k (zl c)), fun _ => [], 99, none, 1000⟩ (by kernel_rfl) (by kernel_rfl) (by kernel_rfl) (fun g h => by cases h) (fun k hk v W W' c h hg hc => h) ?_
                              iterate 4 (refine calm_quiet (v := ?_) (by rfl) (by rfl) (fun W hW hD => ?_) ?_; rotate_left; (· (have q0 := grown_cell0 hW c0; have q1 := grown_cell0 hW c1; have q2 := grown_cell0 hW c2; clear hD hW; go_simp; try with_reducible rfl)); simp only [Act.put, List.setIfInBounds_toArray, List.set_cons_zero, List.set_cons_succ, Nat.reduceAdd, Nat.zero_add])
                              refine calm_makes (by rfl) (by rfl) (fun W hW hD K hK => ?_) (fun v217 => ?_)
                              · refine wp_of_call ?_ ((check_any t _ (zv c) z k (zl c) W (HR.out.later (grown_below hW) (Nat.le_refl _)) (HZ2.out.later (grown_below hW) (Nat.le_refl _))).mono ?_)
                                · clear hD hW hK
                                  go_simp
                                  try rfl
                                · rintro e w' ⟨he, hb⟩
                                  exact ⟨_, he, hK _ _ (made_plain rfl hb rfl)⟩
                              simp only [Act.put, List.setIfInBounds_toArray, List.set_cons_zero, List.set_cons_succ, Nat.reduceAdd, Nat.zero_add]
                              iterate 4 (refine calm_quiet (v := ?_) (by rfl) (by rfl) (fun W hW hD => ?_) ?_; rotate_left; (· (have q0 := grown_cell0 hW c0; have q1 := grown_cell0 hW c1; have q2 := grown_cell0 hW c2; clear hD hW; go_simp; try with_reducible rfl)); simp only [Act.put, List.setIfInBounds_toArray, List.set_cons_zero, List.set_cons_succ, Nat.reduceAdd, Nat.zero_add])
                              refine calm_makes (by rfl) (by rfl) (fun W hW hD K hK => ?_) (fun v222 => ?_)
                              · refine wp_of_call ?_ ((refCheck_any t _ (zv c) z k (zl c) W (HR.out.later (grown_below hW) (Nat.le_refl _)) (HZ2.out.later (grown_below hW) (Nat.le_refl _))).mono ?_)
                                · clear hD hW hK
                                  go_simp
                                  try rfl
                                · rintro e w' ⟨he, hb⟩
                                  exact ⟨_, he, hK _ _ (made_plain rfl hb rfl)⟩
                              simp only [Act.put, List.setIfInBounds_toArray, List.set_cons_zero, List.set_cons_succ, Nat.reduceAdd, Nat.zero_add]
                              refine calm_quiet (v := .bool false) (by rfl) (by rfl) (fun W hW hD => ?_) ?_
                              · obtain rfl : v217 = .bool (checkB t z k (zl c)) := hD [] 4 (by kernel_rfl) (by kernel_rfl) (by kernel_rfl)
                                obtain rfl : v222 = .bool (checkB t z k (zl c)) := hD [] 9 (by kernel_rfl) (by kernel_rfl) (by kernel_rfl)
                                clear hD hW
                                go_simp
                              simp only [Act.put, List.setIfInBounds_toArray, List.set_cons_zero, List.set_cons_succ, Nat.reduceAdd, Nat.zero_add]
                              refine calm_nil fun W9 hW hF => ?_
                              have HB9 := Lib.hid (grown_below hW)
                              clear hF hW
                              go_wp2
                              go_roundw
                              case rel => exact ⟨c + 1, by omega, by go_num, hBz.trans (HB9.out.mono hBz.size)⟩
                              case measure => simp [intOf]; omega
                            · obtain rfl : c = 3 := by omega
                              go_wp2
                              go_roundw
                              case rel => exact ⟨b + 1, by omega, by go_num, HUz.out.trans (hBz.mono HUz.out.size)⟩
                              case measure => simp [intOf]; omega
                · obtain rfl : b = 2 := by omega
                  go_wp2
                  go_roundw
                  case rel => exact ⟨a + 1, by omega, by go_num, HU10.out _ hB10⟩
                  case measure => simp [intOf]; omega
          · obtain rfl : a = 2 := by omega
            as_aux_lemma =>
              go_wp2_with fail
              refine (HPK.out _).mono ?_
              rintro e w' ⟨rfl, rfl⟩
              obtain ⟨kv, hkv⟩ := pair_lit wr thing (pickZ thing ((n : Int) + m))
              have hb10 : Below wr.heap.size wr (wr.alloc (.cells #[.int .i64 thing, .int .i64 (pickZ thing ((n : Int) + m))] 3)) := (Below.refl _ _).alloc (Nat.le_refl _) _
              have HB10 : Hid (Below Wa.heap.size Wa (wr.alloc (.cells #[.int .i64 thing, .int .i64 (pickZ thing ((n : Int) + m))] 3))) := hBa.trans (hb10.mono hBa.size)
              have HKv : Hid (∀ W, Below (wr.alloc (.cells #[.int .i64 thing, .int .i64 (pickZ thing ((n : Int) + m))] 3)).heap.size (wr.alloc (.cells #[.int .i64 thing, .int .i64 (pickZ thing ((n : Int) + m))] 3)) W → ∀ a, a < 2 → W.cell? ⟨wr.heap.size, a, none⟩ = some (.int .i64 (kv a))) := fun W hb a ha => (hb.cell (p := ⟨wr.heap.size, a, none⟩) (by simp)).trans (hkv a ha)
              clear hkv hb10 c0 c1 c2 k0 k1 HR HTb
              go_wp2
              generalize wr.alloc (.cells #[.int .i64 thing, .int .i64 (pickZ thing ((n : Int) + m))] 3) = W10 at *
              generalize wr.heap.size = LK at *
              clear hBa hB6
              go_loopw [237] (fun bv wr => ∃ b : Nat, b ≤ 2 ∧ bv = .int .i64 b ∧ Below W10.heap.size W10 wr) (fun bv _ => 2 - (intOf bv).toNat)
              case atStart => exact ⟨0, by omega, rfl, Below.refl _ _⟩
              case round =>
                obtain ⟨b, hb, rfl, hB10⟩ := hrel
                have hBa : Below Wa.heap.size Wa wr := HB10.out.trans (hB10.mono HB10.out.size)
                have kk := HJF.out wr hBa
                have c0 := kk.2.1.c0
                have c1 := kk.2.1.c1
                have c2 := kk.2.1.c2
                have k0 := kk.1.box.c0
                have k1 := kk.1.box.c1
                have HR := Lib.hid kk.2.2
                have HTb := Lib.hid kk.1.tabs
                clear kk
                by_cases hb2 : b < 2
                · have bb : (b : Int) < 2 := by omega
                  have s0c := HKv.out wr hB10 b hb2
                  generalize kv b = k at *
                  have HUr := Lib.hid hB10
                  as_aux_lemma =>
                    go_wp2_with fail
                    refine (supports_any t _ k wr HR.out).mono ?_
                    rintro e x1 ⟨xa, rfl, hOa, hb1⟩
                    have hX1 : Below Wa.heap.size Wa x1 := hBa.trans (hb1.mono hBa.size)
                    obtain ⟨aa0, ac0, hxa⟩ := hOa.shape
                    subst hxa
                    have HA1 := Lib.hid hOa.ints
                    have HU1 := Lib.hid (HUr.out.trans (hb1.mono HUr.out.size))
                    clear s0c hOa
                    clear c0 c1 c2 k0 k1 HR HTb
                    have kk := HJF.out x1 hX1
                    have c0 := kk.2.1.c0
                    have c1 := kk.2.1.c1
                    have c2 := kk.2.1.c2
                    have k0 := kk.1.box.c0
                    have k1 := kk.1.box.c1
                    have HR := Lib.hid kk.2.2
                    have HTb := Lib.hid kk.1.tabs
                    clear kk
                    go_wp2_with fail
                    refine (refSupports_any t _ k x1 HR.out).mono ?_
                    rintro e x2 ⟨xb, rfl, hOb, hb2x⟩
                    have hX2 : Below Wa.heap.size Wa x2 := hX1.trans (hb2x.mono hX1.size)
                    obtain ⟨ba0, bc0, hxb⟩ := hOb.shape
                    subst hxb
                    have HA2 := Lib.hid (HA1.out.later hb2x (Nat.le_refl _))
                    have HB2x := Lib.hid hOb.ints
                    have HU2 := Lib.hid (HU1.out.trans (hb2x.mono HU1.out.size))
                    clear hOb HA1
                    clear c0 c1 c2 k0 k1 HR HTb
                    have kk := HJF.out x2 hX2
                    have c0 := kk.2.1.c0
                    have c1 := kk.2.1.c1
                    have c2 := kk.2.1.c2
                    have k0 := kk.1.box.c0
                    have k1 := kk.1.box.c1
                    have HR := Lib.hid kk.2.2
                    have HTb := Lib.hid kk.1.tabs
                    clear kk
                    go_wp2_with fail
                    refine (cuts_any t _ k x2 HR.out).mono ?_
                    rintro e x3 ⟨xc, rfl, hOc, hb3⟩
                    have hX3 : Below Wa.heap.size Wa x3 := hX2.trans (hb3.mono hX2.size)
                    obtain ⟨ca0, cc0, hxc⟩ := hOc.shape
                    subst hxc
                    have HA3 := Lib.hid (HA2.out.later hb3 (Nat.le_refl _))
                    have HB3x := Lib.hid (HB2x.out.later hb3 (Nat.le_refl _))
                    have HC3 := Lib.hid hOc.ints
                    have HU3 := Lib.hid (HU2.out.trans (hb3.mono HU2.out.size))
                    clear hOc HA2 HB2x
                    clear c0 c1 c2 k0 k1 HR HTb
                    have kk := HJF.out x3 hX3
                    have c0 := kk.2.1.c0
                    have c1 := kk.2.1.c1
                    have c2 := kk.2.1.c2
                    have k0 := kk.1.box.c0
                    have k1 := kk.1.box.c1
                    have HR := Lib.hid kk.2.2
                    have HTb := Lib.hid kk.1.tabs
                    clear kk
                    go_wp2_with fail
                    refine (refCuts_any t _ k x3 HR.out).mono ?_
                    rintro e x4 ⟨xd, rfl, hOd, hb4⟩
                    have hX4 : Below Wa.heap.size Wa x4 := hX3.trans (hb4.mono hX3.size)
                    obtain ⟨da0, dc0, hxd⟩ := hOd.shape
                    subst hxd
                    have HA4 := Lib.hid (HA3.out.later hb4 (Nat.le_refl _))
                    have HB4x := Lib.hid (HB3x.out.later hb4 (Nat.le_refl _))
                    have HC4 := Lib.hid (HC3.out.later hb4 (Nat.le_refl _))
                    have HD4 := Lib.hid hOd.ints
                    have HU4 := Lib.hid (HU3.out.trans (hb4.mono HU3.out.size))
                    clear hOd HA3 HB3x HC3
                    clear c0 c1 c2 k0 k1 HR HTb
                    have kk := HJF.out x4 hX4
                    have c0 := kk.2.1.c0
                    have c1 := kk.2.1.c1
                    have c2 := kk.2.1.c2
                    have k0 := kk.1.box.c0
                    have k1 := kk.1.box.c1
                    have HR := Lib.hid kk.2.2
                    have HTb := Lib.hid kk.1.tabs
                    clear kk
                    have hers := errOf_same (suppB t k)
                    go_wp2_with fail
                    refine (ints_any _ _ (suppL t k) (suppL t k) x4 HA4.out HB4x.out).mono ?_
                    rintro e x5 ⟨rfl, hb5⟩
                    have hX5 : Below Wa.heap.size Wa x5 := hX4.trans (hb5.mono hX4.size)
                    rw [beq_self_eq_true]
                    have HC5 := Lib.hid (HC4.out.later hb5 (Nat.le_refl _))
                    have HD5 := Lib.hid (HD4.out.later hb5 (Nat.le_refl _))
                    have HU5 := Lib.hid (HU4.out.trans (hb5.mono HU4.out.size))
                    clear c0 c1 c2 k0 k1 HR HTb
                    have kk := HJF.out x5 hX5
                    have c0 := kk.2.1.c0
                    have c1 := kk.2.1.c1
                    have c2 := kk.2.1.c2
                    have k0 := kk.1.box.c0
                    have k1 := kk.1.box.c1
                    have HR := Lib.hid kk.2.2
                    have HTb := Lib.hid kk.1.tabs
                    clear kk
                    go_wp2_with fail
                    refine (ints_any _ _ (cutL t k) (cutL t k) x5 HC5.out HD5.out).mono ?_
                    rintro e x6 ⟨rfl, hb6⟩
                    have hX6 : Below Wa.heap.size Wa x6 := hX5.trans (hb6.mono hX5.size)
                    rw [beq_self_eq_true]
                    have HU6 := Lib.hid (HU5.out.trans (hb6.mono HU5.out.size))
                    clear c0 c1 c2 k0 k1 HR HTb
                    have kk := HJF.out x6 hX6
                    have c0 := kk.2.1.c0
                    have c1 := kk.2.1.c1
                    have c2 := kk.2.1.c2
                    have k0 := kk.1.box.c0
                    have k1 := kk.1.box.c1
                    have HR := Lib.hid kk.2.2
                    have HTb := Lib.hid kk.1.tabs
                    clear kk
                    clear hb1 hb2x hb3 hb4 hb5 hb6 hX1 hX2 hX3 hX4 hX5 hX6
                    go_wp2
                    go_roundw
                    case rel => exact ⟨b + 1, by omega, by go_num, HU6.out⟩
                    case measure => simp [intOf]; omega
                · obtain rfl : b = 2 := by omega
                  go_wp2
                  go_roundw
                  case rel => exact ⟨i + 1, by omega, by go_num, HBA.out.trans (hBa.mono HBA.out.size)⟩
                  case measure => simp [intOf]; omega
    · obtain rfl : i = 3 := by omega
      go_wp2
      go_ret
      exact ⟨rfl, HB4.out.trans (hB.mono HB4.out.size)⟩
end Go.Proofs.YtmihkbiihfhpoaaDoor
