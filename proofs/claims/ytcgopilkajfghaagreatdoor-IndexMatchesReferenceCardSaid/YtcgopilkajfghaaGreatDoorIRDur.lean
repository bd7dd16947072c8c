/- The reference's Meets, During, About. -/
import Derived.Test.YtcgopilkajfghaaGreatDoorITag
import Derived.Test.YtcgopilkajfghaaGreatDoorIDur
set_option linter.unusedVariables false
set_option linter.unusedSimpArgs false
namespace Go.Proofs.YtcgopilkajfghaaGreatDoor
open Go.RowKit Go.Shelf

theorem meets_eq {a b f t : Int} (h1 : a < b) (h2 : f < t) : decide (max a f < min b t) = (decide (a < t) && decide (f < b)) := by
  rw [← Bool.decide_and, decide_eq_decide]
  omega
set_option maxRecDepth 100000 in
set_option maxHeartbeats 1000000 in
theorem rmeets_any (a b f t : Int) (w : World) :
    Calls Tryz.prog 50 #[.agg #[.int .i64 a, .int .i64 b], .agg #[.int .i64 f, .int .i64 t]] w fun e w' => e = .returned (.bool (decide (max a f < min b t))) ∧ Below w.heap.size w w' := by
  obtain ⟨V, hV⟩ : ∃ V, V = (w.alloc (.cells #[.int .i64 a, .int .i64 b] 25)).alloc (.cells #[.int .i64 f, .int .i64 t] 25) := ⟨_, rfl⟩
  have HB0 : Hid (Below w.heap.size w V) := by show Below _ _ _; rw [hV]; exact ((Below.refl _ _).alloc (Nat.le_refl _) _).alloc (by simp) _
  have hx : BoxN w.heap.size 25 #[.int .i64 a, .int .i64 b] V := by rw [hV]; exact (box_new w _ _).alloc _
  have hy : BoxN (w.heap.size + 1) 25 #[.int .i64 f, .int .i64 t] V := by
    have h := box_new (w.alloc (.cells #[.int .i64 a, .int .i64 b] 25)) 25 #[.int .i64 f, .int .i64 t]
    rw [World.size_alloc] at h
    rw [hV]; exact h
  have x0 := BoxN.cell hx 0 _ rfl
  have x1 := BoxN.cell hx 1 _ rfl
  have y0 := BoxN.cell hy 0 _ rfl
  have y1 := BoxN.cell hy 1 _ rfl
  rw [hV] at x0 x1 y0 y1 HB0
  clear hx hy hV
  obtain ⟨mx, hmx⟩ : ∃ m, max a f = m := ⟨_, rfl⟩
  obtain ⟨mn, hmn⟩ : ∃ m, min b t = m := ⟨_, rfl⟩
  rw [hmx, hmn]
  go_enter Tryz.func50, Tryz.ntmps50
  go_wp2
  go_ret
  exact ⟨rfl, HB0.out⟩
set_option maxRecDepth 100000 in
set_option maxHeartbeats 4000000 in
theorem rduring_any (v : Value) (l : List ICard) (f t : Int) (w : World) (h : RowsAt cardK w.heap.size w v l) (hok : IOk l) :
    Calls Tryz.prog 16 #[v, .agg #[.int .i64 f, .int .i64 t]] w fun e w' => ∃ v', e = .returned v' ∧ OwnK intK w.heap.size w' v' (durE l f t) ∧ Below w.heap.size w w' := by
  have HR := Lib.hid h
  have HOk := Lib.hid hok
  have hfew := hok.few
  obtain ⟨oa, oc, rfl, hlc, hcm⟩ := h.shape
  unfold maxLen at hcm
  clear h hok
  obtain ⟨V, hV⟩ : ∃ V, V = w.alloc (.cells #[.int .i64 f, .int .i64 t] 25) := ⟨_, rfl⟩
  have HB0 : Hid (Below w.heap.size w V) := by show Below _ _ _; rw [hV]; exact (Below.refl _ _).alloc (Nat.le_refl _) _
  have HX0 : Hid (BoxN w.heap.size 25 #[.int .i64 f, .int .i64 t] V) := by show BoxN _ _ _ _; rw [hV]; exact box_new w _ _
  have HVe := Lib.hid hV
  obtain ⟨n, hn⟩ : ∃ n, n = l.length := ⟨_, rfl⟩
  have HN : Hid (l.length = n) := hn.symm
  rw [← hn] at hlc hfew
  have HR1 : Hid (RowsAt cardK w.heap.size w (.slice oa n oc) l) := by show RowsAt _ _ _ _ _; rw [hn]; exact HR.out
  rw [← hn]
  clear hV hn HR
  go_enter Tryz.func16, Tryz.ntmps16
  go_wp2
  rw [← HVe.out]
  cases hsp : spellB f t
  · have HSp := Lib.hid (fun W => rspell_eq hsp W)
    have HE : Hid (durE l f t = []) := by show _ = _; unfold durE findE; rw [hsp]; rfl
    clear hsp
    go_loopw [5, 6] (fun v i wr => i = .int .i64 0 ∧ v = .slice none 0 0 ∧ Hid (Below w.heap.size w wr) ∧ Hid (BoxN w.heap.size 25 #[.int .i64 f, .int .i64 t] wr)) (fun _ i _ => 0)
    case atStart => exact ⟨rfl, rfl, HB0, HX0⟩
    case round =>
      obtain ⟨rfl, rfl, HB, HX⟩ := hrel
      have s0 := BoxN.cell HX.out 0 _ rfl
      have s1 := BoxN.cell HX.out 1 _ rfl
      by_cases hlt : 0 < n
      · have kk : (0 : Int) < (n : Int) := by omega
        go_wp2_with fail
        refine (HSp.out _).mono ?_
        rintro e w2 ⟨rfl, hb⟩
        have HB2 := Lib.hid (HB.out.trans (hb.mono HB.out.size))
        clear hb s0 s1
        go_wp2
        go_ret
        exact ⟨_, rfl, by rw [HE.out]; exact OwnK.nil _ _, HB2.out⟩
      · have kk : ¬ (0 : Int) < (n : Int) := by omega
        go_wp2
        go_ret
        exact ⟨_, rfl, by rw [HE.out]; exact OwnK.nil _ _, HB.out⟩
  · have HSp := Lib.hid (fun W => rspell_eq hsp W)
    have HE : Hid (partE l f t (fun _ => true) n = durE l f t) := by show _ = _; rw [← HN.out]; exact partE_all hsp
    have hft : f < t := by unfold spellB at hsp; simp at hsp; omega
    have HFt := Lib.hid hft
    clear hsp hft
    go_loopw [5, 6] (fun v i wr => ∃ k : Nat, k ≤ n ∧ i = .int .i64 k ∧ (∃ a m c, v = .slice a m c) ∧ Hid (OwnK intK (w.heap.size + 1) wr v (partE l f t (fun _ => true) k)) ∧ Hid (Below w.heap.size w wr) ∧ Hid (BoxN w.heap.size 25 #[.int .i64 f, .int .i64 t] wr)) (fun _ i _ => n - (intOf i).toNat)
    case atStart => exact ⟨0, Nat.zero_le _, rfl, ⟨_, _, _, rfl⟩, Lib.hid (OwnK.nil _ _), HB0, HX0⟩
    case round =>
      obtain ⟨k, hk, rfl, ⟨ta, tn, tc, rfl⟩, HO, HB, HX⟩ := hrel
      have k0 : 0 ≤ (k : Int) := by omega
      have s0 := BoxN.cell HX.out 0 _ rfl
      have s1 := BoxN.cell HX.out 1 _ rfl
      by_cases hlt : k < n
      · have kk : (k : Int) < (n : Int) := by omega
        go_wp2_with fail
        refine (HSp.out _).mono ?_
        rintro e w2 ⟨rfl, hb⟩
        have HB2 := Lib.hid (HB.out.trans (hb.mono HB.out.size)); have HX2 := Lib.hid (BoxN.below HX.out hb HX.out.lt); have HO2 := Lib.hid (HO.out.below hb (Nat.le_refl _))
        clear hb s0 s1 HB HX HO
        obtain ⟨x, hx⟩ : ∃ x, x = l.getD k default := ⟨_, rfl⟩
        have hkl : k < l.length := by rw [HN.out]; exact hlt
        have hget : l[k]? = some x := by rw [hx, List.getD_eq_getElem?_getD, List.getElem?_eq_getElem hkl]; rfl
        have HNx : Hid (partE l f t (fun _ => true) (k + 1) = partE l f t (fun _ => true) k ++ (if meetC f t (fun _ => true) x then [x.id] else [])) := by have h := partE_next (f := f) (t := t) (q := (fun _ => true)) hkl; rw [← hx] at h; exact h
        have hpl : (partE l f t (fun _ => true) k).length ≤ 500 := Nat.le_trans partE_le (by rw [HN.out]; omega)
        have hpos := HOk.out.pos x (List.mem_of_getElem? hget)
        have HMt : Hid (∀ W, Calls Tryz.prog 50 #[.agg #[.int .i64 x.beg, .int .i64 x.fin], .agg #[.int .i64 f, .int .i64 t]] W fun e w' => e = .returned (.bool (decide (x.beg < t) && decide (f < x.fin))) ∧ Below W.heap.size W w') := fun W => by
          have h := rmeets_any x.beg x.fin f t W
          rwa [meets_eq hpos.2 HFt.out] at h
        have HMc : Hid (meetC f t (fun _ => true) x = ((decide (x.beg < t) && decide (f < x.fin)) && true)) := by show _ = _; unfold meetC; rw [Bool.and_assoc]
        obtain ⟨gb, off, hae, hgb, e0, e1, e2, e3, e4⟩ := cards_at (HR1.out.later HB2.out (Nat.le_refl _)) k x hget
        subst hae
        have HQ : Hid (∀ W, w2.grownBy W none → (W.cell? ⟨gb, off + k * 5 + 1, none⟩ = some (.int .i64 x.unit) ∧ W.cell? ⟨gb, off + k * 5 + 3, none⟩ = some (.int .i64 x.beg) ∧ W.cell? ⟨gb, off + k * 5 + 3 + 1, none⟩ = some (.int .i64 x.fin) ∧ W.cell? ⟨gb, off + k * 5 + 4, none⟩ = some (.int .i64 x.fin) ∧ W.cell? ⟨gb, off + k * 5, none⟩ = some (.int .i64 x.id)) ∧ W.cell? ⟨w.heap.size, 0, none⟩ = some (.int .i64 f) ∧ W.cell? ⟨w.heap.size, 1, none⟩ = some (.int .i64 t)) := fun W hW =>
          ⟨⟨hW.cell e1 (by simp), hW.cell e3 (by simp), hW.cell e4 (by simp), hW.cell e4 (by simp), hW.cell e0 (by simp)⟩, BoxN.cell (BoxN.grown HX2.out hW (by simp)) 0 _ rfl, BoxN.cell (BoxN.grown HX2.out hW (by simp)) 1 _ rfl⟩
        clear hx hkl hget e0 e1 e2 e3 e4 hgb hpos
        rw [HMc.out] at HNx
        clear HMc
        generalize (decide (x.beg < t) && decide (f < x.fin)) = bm at *
        generalize partE l f t (fun _ => true) k = D at *
        cases bm
        · have HNe : Hid (partE l f t (fun _ => true) (k + 1) = D) := by show _ = _; rw [HNx.out]; simp
          clear HNx
          go_wp2
          refine wp_region_calm (tagPl [6] [(6, .val (.bool false))] 1000) (by kernel_rfl) (by kernel_rfl) (by kernel_rfl) tag_c0 tag_hst ?_
          iterate 6 (refine calm_quiet (v := ?_) (by rfl) (by rfl) (fun W hW hD => ?_) ?_; rotate_left; (· (obtain ⟨⟨r1, r3, r4, r5, r0⟩, s0, s1⟩ := HQ.out W hW; clear hD hW; go_simp; try with_reducible rfl)); simp only [Act.put, List.setIfInBounds_toArray, List.set_cons_zero, List.set_cons_succ, Nat.reduceAdd, Nat.zero_add])
          refine calm_fixed (.bool false) ⟨(default : World), rfl⟩ (fun v W h => h) rfl (by rfl) (by rfl) (fun W hW hD Kc hK => ?_) ?_
          · refine wp_of_call (f := 50) ?_ ((HMt.out W).mono ?_)
            · clear hD hW hK
              go_simp
            · rintro e w5 ⟨rfl, hb5⟩
              exact ⟨_, rfl, hK _ _ (made_plain rfl hb5 rfl)⟩
          simp only [Act.put, List.setIfInBounds_toArray, List.set_cons_zero, List.set_cons_succ, Nat.reduceAdd, Nat.zero_add]
          refine calm_nil fun W hW hF => ?_
          have c0 := (HQ.out W hW).1.2.2.2.2
          have HB3 := Lib.hid (HB2.out.trans ((grown_below hW).mono HB2.out.size)); have HX3 : Hid (BoxN w.heap.size 25 #[.int .i64 f, .int .i64 t] W) := BoxN.grown HX2.out hW (by simp); have HO3 : Hid (OwnK intK (w.heap.size + 1) W (.slice ta tn tc) D) := HO2.out.below (grown_below hW) (Nat.le_refl _)
          clear hF hW HQ HB2 HX2 HO2
          clear c0
          go_wp2
          go_roundw
          case rel => exact ⟨k + 1, by omega, by go_num, ⟨_, _, _, rfl⟩, by rw [HNe.out]; exact HO3, HB3, HX3⟩
          case measure => simp [intOf]; omega
        · have HNe : Hid (partE l f t (fun _ => true) (k + 1) = D ++ [x.id]) := by show _ = _; rw [HNx.out]; simp
          clear HNx
          go_wp2
          refine wp_region_calm (tagPl [6] [(6, .val (.bool true))] 1000) (by kernel_rfl) (by kernel_rfl) (by kernel_rfl) tag_c0 tag_hst ?_
          iterate 6 (refine calm_quiet (v := ?_) (by rfl) (by rfl) (fun W hW hD => ?_) ?_; rotate_left; (· (obtain ⟨⟨r1, r3, r4, r5, r0⟩, s0, s1⟩ := HQ.out W hW; clear hD hW; go_simp; try with_reducible rfl)); simp only [Act.put, List.setIfInBounds_toArray, List.set_cons_zero, List.set_cons_succ, Nat.reduceAdd, Nat.zero_add])
          refine calm_fixed (.bool true) ⟨(default : World), rfl⟩ (fun v W h => h) rfl (by rfl) (by rfl) (fun W hW hD Kc hK => ?_) ?_
          · refine wp_of_call (f := 50) ?_ ((HMt.out W).mono ?_)
            · clear hD hW hK
              go_simp
            · rintro e w5 ⟨rfl, hb5⟩
              exact ⟨_, rfl, hK _ _ (made_plain rfl hb5 rfl)⟩
          simp only [Act.put, List.setIfInBounds_toArray, List.set_cons_zero, List.set_cons_succ, Nat.reduceAdd, Nat.zero_add]
          refine calm_nil fun W hW hF => ?_
          have c0 := (HQ.out W hW).1.2.2.2.2
          have HB3 := Lib.hid (HB2.out.trans ((grown_below hW).mono HB2.out.size)); have HX3 : Hid (BoxN w.heap.size 25 #[.int .i64 f, .int .i64 t] W) := BoxN.grown HX2.out hW (by simp); have HO3 : Hid (OwnK intK (w.heap.size + 1) W (.slice ta tn tc) D) := HO2.out.below (grown_below hW) (Nat.le_refl _)
          clear hF hW HQ HB2 HX2 HO2
          have HA1 : Hid (OwnK intK (w.heap.size + 1) (W.alloc (.cells #[.int .i64 x.id] 3)) (.slice ta tn tc) D) := HO3.out.kept (World.grownBy_alloc _ _ none) (fun g h => by cases h)
          have HA2 : Hid (RowsAt intK (W.heap.size + 1) (W.alloc (.cells #[.int .i64 x.id] 3)) (.slice (some ⟨W.heap.size, 0, none⟩) 1 1) [x.id]) := by
            have h := (ownK_lit intOk W [x.id] #[.int .i64 x.id] rfl (by simp)).rows intOk
            rw [World.size_alloc] at h
            exact h
          have hxl := HX3.out.lt
          have HA3 : Hid (w.heap.size + 1 ≤ (W.alloc (.cells #[.int .i64 x.id] 3)).heap.size) := by show _ ≤ _; rw [World.size_alloc]; omega
          clear hxl
          go_wp2_with (at_builtin; refine append_K3 intOk rfl _ _ rfl (w.heap.size + 1) _ _ _ D [x.id] rfl rfl HA1.out HA2.out (by simp; omega) HA3.out ?_; intro v' w7 ho7 hg7 hr7)
          clear c0
          have HB7 : Hid (Below w.heap.size w w7) := (HB3.out.alloc HB3.out.size _).grown hg7 (Nat.le_trans (Nat.le_succ _) HA3.out) (fun j hj => Nat.le_trans (Nat.le_succ _) (World.ownsRow.lt HA1.out j hj).1)
          have HX7 : Hid (BoxN w.heap.size 25 #[.int .i64 f, .int .i64 t] w7) := BoxN.grown (HX3.out.alloc _) hg7 (fun e => by have := (World.ownsRow.lt HA1.out _ e).1; omega)
          rw [← HNe.out] at ho7
          obtain ⟨za, zc, hv7, _, _⟩ := ho7.shape
          subst hv7
          have HO7 := Lib.hid ho7
          clear ho7 hg7 hr7
          go_roundw
          case rel => exact ⟨k + 1, by omega, by go_num, ⟨_, _, _, rfl⟩, HO7, HB7, HX7⟩
          case measure => simp [intOf]; omega
      · obtain rfl : k = n := by omega
        have kk : ¬ ((k : Int) < (k : Int)) := by omega
        have HOe : Hid (OwnK intK w.heap.size wr (.slice ta tn tc) (durE l f t)) := by
          have h := HO.out
          rw [HE.out] at h
          exact h.mono (Nat.le_succ _)
        clear hlt hk HO
        go_wp2
        go_ret
        exact ⟨_, rfl, HOe.out, HB.out⟩
set_option maxRecDepth 100000 in
set_option maxHeartbeats 4000000 in
theorem rabout_any (v : Value) (l : List ICard) (u : Int) (f t : Int) (w : World) (h : RowsAt cardK w.heap.size w v l) (hok : IOk l) :
    Calls Tryz.prog 18 #[v, .int .i64 u, .agg #[.int .i64 f, .int .i64 t]] w fun e w' => ∃ v', e = .returned v' ∧ OwnK intK w.heap.size w' v' (aboutE l u f t) ∧ Below w.heap.size w w' := by
  have HR := Lib.hid h
  have HOk := Lib.hid hok
  have hfew := hok.few
  obtain ⟨oa, oc, rfl, hlc, hcm⟩ := h.shape
  unfold maxLen at hcm
  clear h hok
  obtain ⟨V, hV⟩ : ∃ V, V = w.alloc (.cells #[.int .i64 f, .int .i64 t] 25) := ⟨_, rfl⟩
  have HB0 : Hid (Below w.heap.size w V) := by show Below _ _ _; rw [hV]; exact (Below.refl _ _).alloc (Nat.le_refl _) _
  have HX0 : Hid (BoxN w.heap.size 25 #[.int .i64 f, .int .i64 t] V) := by show BoxN _ _ _ _; rw [hV]; exact box_new w _ _
  have HVe := Lib.hid hV
  obtain ⟨n, hn⟩ : ∃ n, n = l.length := ⟨_, rfl⟩
  have HN : Hid (l.length = n) := hn.symm
  rw [← hn] at hlc hfew
  have HR1 : Hid (RowsAt cardK w.heap.size w (.slice oa n oc) l) := by show RowsAt _ _ _ _ _; rw [hn]; exact HR.out
  rw [← hn]
  clear hV hn HR
  go_enter Tryz.func18, Tryz.ntmps18
  go_wp2
  rw [← HVe.out]
  cases hsp : spellB f t
  · have HSp := Lib.hid (fun W => rspell_eq hsp W)
    have HE : Hid (aboutE l u f t = []) := by show _ = _; unfold aboutE findE; rw [hsp]; rfl
    clear hsp
    go_loopw [7, 8] (fun v i wr => i = .int .i64 0 ∧ v = .slice none 0 0 ∧ Hid (Below w.heap.size w wr) ∧ Hid (BoxN w.heap.size 25 #[.int .i64 f, .int .i64 t] wr)) (fun _ i _ => 0)
    case atStart => exact ⟨rfl, rfl, HB0, HX0⟩
    case round =>
      obtain ⟨rfl, rfl, HB, HX⟩ := hrel
      have s0 := BoxN.cell HX.out 0 _ rfl
      have s1 := BoxN.cell HX.out 1 _ rfl
      by_cases hlt : 0 < n
      · have kk : (0 : Int) < (n : Int) := by omega
        go_wp2_with fail
        refine (HSp.out _).mono ?_
        rintro e w2 ⟨rfl, hb⟩
        have HB2 := Lib.hid (HB.out.trans (hb.mono HB.out.size))
        clear hb s0 s1
        go_wp2
        go_ret
        exact ⟨_, rfl, by rw [HE.out]; exact OwnK.nil _ _, HB2.out⟩
      · have kk : ¬ (0 : Int) < (n : Int) := by omega
        go_wp2
        go_ret
        exact ⟨_, rfl, by rw [HE.out]; exact OwnK.nil _ _, HB.out⟩
  · have HSp := Lib.hid (fun W => rspell_eq hsp W)
    have HE : Hid (partE l f t (fun x : ICard => decide (x.unit = u)) n = aboutE l u f t) := by show _ = _; rw [← HN.out]; exact partE_all hsp
    have hft : f < t := by unfold spellB at hsp; simp at hsp; omega
    have HFt := Lib.hid hft
    clear hsp hft
    go_loopw [7, 8] (fun v i wr => ∃ k : Nat, k ≤ n ∧ i = .int .i64 k ∧ (∃ a m c, v = .slice a m c) ∧ Hid (OwnK intK (w.heap.size + 1) wr v (partE l f t (fun x : ICard => decide (x.unit = u)) k)) ∧ Hid (Below w.heap.size w wr) ∧ Hid (BoxN w.heap.size 25 #[.int .i64 f, .int .i64 t] wr)) (fun _ i _ => n - (intOf i).toNat)
    case atStart => exact ⟨0, Nat.zero_le _, rfl, ⟨_, _, _, rfl⟩, Lib.hid (OwnK.nil _ _), HB0, HX0⟩
    case round =>
      obtain ⟨k, hk, rfl, ⟨ta, tn, tc, rfl⟩, HO, HB, HX⟩ := hrel
      have k0 : 0 ≤ (k : Int) := by omega
      have s0 := BoxN.cell HX.out 0 _ rfl
      have s1 := BoxN.cell HX.out 1 _ rfl
      by_cases hlt : k < n
      · have kk : (k : Int) < (n : Int) := by omega
        go_wp2_with fail
        refine (HSp.out _).mono ?_
        rintro e w2 ⟨rfl, hb⟩
        have HB2 := Lib.hid (HB.out.trans (hb.mono HB.out.size)); have HX2 := Lib.hid (BoxN.below HX.out hb HX.out.lt); have HO2 := Lib.hid (HO.out.below hb (Nat.le_refl _))
        clear hb s0 s1 HB HX HO
        obtain ⟨x, hx⟩ : ∃ x, x = l.getD k default := ⟨_, rfl⟩
        have hkl : k < l.length := by rw [HN.out]; exact hlt
        have hget : l[k]? = some x := by rw [hx, List.getD_eq_getElem?_getD, List.getElem?_eq_getElem hkl]; rfl
        have HNx : Hid (partE l f t (fun x : ICard => decide (x.unit = u)) (k + 1) = partE l f t (fun x : ICard => decide (x.unit = u)) k ++ (if meetC f t (fun x : ICard => decide (x.unit = u)) x then [x.id] else [])) := by have h := partE_next (f := f) (t := t) (q := (fun x : ICard => decide (x.unit = u))) hkl; rw [← hx] at h; exact h
        have hpl : (partE l f t (fun x : ICard => decide (x.unit = u)) k).length ≤ 500 := Nat.le_trans partE_le (by rw [HN.out]; omega)
        have hpos := HOk.out.pos x (List.mem_of_getElem? hget)
        have HMt : Hid (∀ W, Calls Tryz.prog 50 #[.agg #[.int .i64 x.beg, .int .i64 x.fin], .agg #[.int .i64 f, .int .i64 t]] W fun e w' => e = .returned (.bool (decide (x.beg < t) && decide (f < x.fin))) ∧ Below W.heap.size W w') := fun W => by
          have h := rmeets_any x.beg x.fin f t W
          rwa [meets_eq hpos.2 HFt.out] at h
        have HMc : Hid (meetC f t (fun x : ICard => decide (x.unit = u)) x = ((decide (x.beg < t) && decide (f < x.fin)) && decide (x.unit = u))) := by show _ = _; unfold meetC; rw [Bool.and_assoc]
        obtain ⟨gb, off, hae, hgb, e0, e1, e2, e3, e4⟩ := cards_at (HR1.out.later HB2.out (Nat.le_refl _)) k x hget
        subst hae
        have HQ : Hid (∀ W, w2.grownBy W none → (W.cell? ⟨gb, off + k * 5 + 1, none⟩ = some (.int .i64 x.unit) ∧ W.cell? ⟨gb, off + k * 5 + 3, none⟩ = some (.int .i64 x.beg) ∧ W.cell? ⟨gb, off + k * 5 + 3 + 1, none⟩ = some (.int .i64 x.fin) ∧ W.cell? ⟨gb, off + k * 5 + 4, none⟩ = some (.int .i64 x.fin) ∧ W.cell? ⟨gb, off + k * 5, none⟩ = some (.int .i64 x.id)) ∧ W.cell? ⟨w.heap.size, 0, none⟩ = some (.int .i64 f) ∧ W.cell? ⟨w.heap.size, 1, none⟩ = some (.int .i64 t)) := fun W hW =>
          ⟨⟨hW.cell e1 (by simp), hW.cell e3 (by simp), hW.cell e4 (by simp), hW.cell e4 (by simp), hW.cell e0 (by simp)⟩, BoxN.cell (BoxN.grown HX2.out hW (by simp)) 0 _ rfl, BoxN.cell (BoxN.grown HX2.out hW (by simp)) 1 _ rfl⟩
        clear hx hkl hget e0 e1 e2 e3 e4 hgb hpos
        rw [HMc.out] at HNx
        clear HMc
        generalize (decide (x.beg < t) && decide (f < x.fin)) = bm at *
        generalize partE l f t (fun x : ICard => decide (x.unit = u)) k = D at *
        cases bm
        · have HNe : Hid (partE l f t (fun x : ICard => decide (x.unit = u)) (k + 1) = D) := by show _ = _; rw [HNx.out]; simp
          clear HNx
          go_wp2
          refine wp_region_calm (tagPl [6] [(6, .val (.bool false))] 1000) (by kernel_rfl) (by kernel_rfl) (by kernel_rfl) tag_c0 tag_hst ?_
          iterate 6 (refine calm_quiet (v := ?_) (by rfl) (by rfl) (fun W hW hD => ?_) ?_; rotate_left; (· (obtain ⟨⟨r1, r3, r4, r5, r0⟩, s0, s1⟩ := HQ.out W hW; clear hD hW; go_simp; try with_reducible rfl)); simp only [Act.put, List.setIfInBounds_toArray, List.set_cons_zero, List.set_cons_succ, Nat.reduceAdd, Nat.zero_add])
          refine calm_fixed (.bool false) ⟨(default : World), rfl⟩ (fun v W h => h) rfl (by rfl) (by rfl) (fun W hW hD Kc hK => ?_) ?_
          · refine wp_of_call (f := 50) ?_ ((HMt.out W).mono ?_)
            · clear hD hW hK
              go_simp
            · rintro e w5 ⟨rfl, hb5⟩
              exact ⟨_, rfl, hK _ _ (made_plain rfl hb5 rfl)⟩
          simp only [Act.put, List.setIfInBounds_toArray, List.set_cons_zero, List.set_cons_succ, Nat.reduceAdd, Nat.zero_add]
          iterate 1 (refine calm_quiet (v := ?_) (by rfl) (by rfl) (fun W hW hD => ?_) ?_; rotate_left; (· (clear hD hW; go_simp; try with_reducible rfl)); simp only [Act.put, List.setIfInBounds_toArray, List.set_cons_zero, List.set_cons_succ, Nat.reduceAdd, Nat.zero_add])
          iterate 7 (refine calm_skip (by rfl) (by rfl) ?_; simp only [Act.put, List.setIfInBounds_toArray, List.set_cons_zero, List.set_cons_succ, Nat.reduceAdd, Nat.zero_add])
          iterate 1 (refine calm_quiet (v := ?_) (by rfl) (by rfl) (fun W hW hD => ?_) ?_; rotate_left; (· (clear hD hW; go_simp; try with_reducible rfl)); simp only [Act.put, List.setIfInBounds_toArray, List.set_cons_zero, List.set_cons_succ, Nat.reduceAdd, Nat.zero_add])
          refine calm_nil fun W hW hF => ?_
          have c0 := (HQ.out W hW).1.2.2.2.2
          have HB3 := Lib.hid (HB2.out.trans ((grown_below hW).mono HB2.out.size)); have HX3 : Hid (BoxN w.heap.size 25 #[.int .i64 f, .int .i64 t] W) := BoxN.grown HX2.out hW (by simp); have HO3 : Hid (OwnK intK (w.heap.size + 1) W (.slice ta tn tc) D) := HO2.out.below (grown_below hW) (Nat.le_refl _)
          clear hF hW HQ HB2 HX2 HO2
          clear c0
          go_wp2
          go_roundw
          case rel => exact ⟨k + 1, by omega, by go_num, ⟨_, _, _, rfl⟩, by rw [HNe.out]; exact HO3, HB3, HX3⟩
          case measure => simp [intOf]; omega
        · by_cases hxu : x.unit = u
          rotate_left
          · have HNe : Hid (partE l f t (fun x : ICard => decide (x.unit = u)) (k + 1) = D) := by show _ = _; rw [HNx.out, decide_eq_false hxu]; simp
            have hb_ : (x.unit == u) = false := beq_eq_false_iff_ne.2 hxu
            clear HNx
            clear hxu
            go_wp2
            refine wp_region_calm (tagPl [6] [(6, .val (.bool true))] 1000) (by kernel_rfl) (by kernel_rfl) (by kernel_rfl) tag_c0 tag_hst ?_
            iterate 6 (refine calm_quiet (v := ?_) (by rfl) (by rfl) (fun W hW hD => ?_) ?_; rotate_left; (· (obtain ⟨⟨r1, r3, r4, r5, r0⟩, s0, s1⟩ := HQ.out W hW; clear hD hW; go_simp; try with_reducible rfl)); simp only [Act.put, List.setIfInBounds_toArray, List.set_cons_zero, List.set_cons_succ, Nat.reduceAdd, Nat.zero_add])
            refine calm_fixed (.bool true) ⟨(default : World), rfl⟩ (fun v W h => h) rfl (by rfl) (by rfl) (fun W hW hD Kc hK => ?_) ?_
            · refine wp_of_call (f := 50) ?_ ((HMt.out W).mono ?_)
              · clear hD hW hK
                go_simp
              · rintro e w5 ⟨rfl, hb5⟩
                exact ⟨_, rfl, hK _ _ (made_plain rfl hb5 rfl)⟩
            simp only [Act.put, List.setIfInBounds_toArray, List.set_cons_zero, List.set_cons_succ, Nat.reduceAdd, Nat.zero_add]
            iterate 1 (refine calm_quiet (v := ?_) (by rfl) (by rfl) (fun W hW hD => ?_) ?_; rotate_left; (· (clear hD hW; go_simp; try with_reducible rfl)); simp only [Act.put, List.setIfInBounds_toArray, List.set_cons_zero, List.set_cons_succ, Nat.reduceAdd, Nat.zero_add])
            iterate 7 (refine calm_quiet (v := ?_) (by rfl) (by rfl) (fun W hW hD => ?_) ?_; rotate_left; (· (obtain ⟨⟨r1, r3, r4, r5, r0⟩, s0, s1⟩ := HQ.out W hW; clear hD hW; go_simp; try with_reducible rfl)); simp only [Act.put, List.setIfInBounds_toArray, List.set_cons_zero, List.set_cons_succ, Nat.reduceAdd, Nat.zero_add])
            iterate 1 (refine calm_quiet (v := ?_) (by rfl) (by rfl) (fun W hW hD => ?_) ?_; rotate_left; (· (clear hD hW; go_simp; try with_reducible rfl)); simp only [Act.put, List.setIfInBounds_toArray, List.set_cons_zero, List.set_cons_succ, Nat.reduceAdd, Nat.zero_add])
            refine calm_nil fun W hW hF => ?_
            have c0 := (HQ.out W hW).1.2.2.2.2
            have HB3 := Lib.hid (HB2.out.trans ((grown_below hW).mono HB2.out.size)); have HX3 : Hid (BoxN w.heap.size 25 #[.int .i64 f, .int .i64 t] W) := BoxN.grown HX2.out hW (by simp); have HO3 : Hid (OwnK intK (w.heap.size + 1) W (.slice ta tn tc) D) := HO2.out.below (grown_below hW) (Nat.le_refl _)
            clear hF hW HQ HB2 HX2 HO2
            clear c0
            go_wp2
            go_roundw
            case rel => exact ⟨k + 1, by omega, by go_num, ⟨_, _, _, rfl⟩, by rw [HNe.out]; exact HO3, HB3, HX3⟩
            case measure => simp [intOf]; omega
          · have HNe : Hid (partE l f t (fun x : ICard => decide (x.unit = u)) (k + 1) = D ++ [x.id]) := by show _ = _; rw [HNx.out, decide_eq_true hxu]; simp
            have hb_ : (x.unit == u) = true := beq_iff_eq.2 hxu
            clear HNx
            clear hxu
            go_wp2
            refine wp_region_calm (tagPl [6] [(6, .val (.bool true))] 1000) (by kernel_rfl) (by kernel_rfl) (by kernel_rfl) tag_c0 tag_hst ?_
            iterate 6 (refine calm_quiet (v := ?_) (by rfl) (by rfl) (fun W hW hD => ?_) ?_; rotate_left; (· (obtain ⟨⟨r1, r3, r4, r5, r0⟩, s0, s1⟩ := HQ.out W hW; clear hD hW; go_simp; try with_reducible rfl)); simp only [Act.put, List.setIfInBounds_toArray, List.set_cons_zero, List.set_cons_succ, Nat.reduceAdd, Nat.zero_add])
            refine calm_fixed (.bool true) ⟨(default : World), rfl⟩ (fun v W h => h) rfl (by rfl) (by rfl) (fun W hW hD Kc hK => ?_) ?_
            · refine wp_of_call (f := 50) ?_ ((HMt.out W).mono ?_)
              · clear hD hW hK
                go_simp
              · rintro e w5 ⟨rfl, hb5⟩
                exact ⟨_, rfl, hK _ _ (made_plain rfl hb5 rfl)⟩
            simp only [Act.put, List.setIfInBounds_toArray, List.set_cons_zero, List.set_cons_succ, Nat.reduceAdd, Nat.zero_add]
            iterate 1 (refine calm_quiet (v := ?_) (by rfl) (by rfl) (fun W hW hD => ?_) ?_; rotate_left; (· (clear hD hW; go_simp; try with_reducible rfl)); simp only [Act.put, List.setIfInBounds_toArray, List.set_cons_zero, List.set_cons_succ, Nat.reduceAdd, Nat.zero_add])
            iterate 7 (refine calm_quiet (v := ?_) (by rfl) (by rfl) (fun W hW hD => ?_) ?_; rotate_left; (· (obtain ⟨⟨r1, r3, r4, r5, r0⟩, s0, s1⟩ := HQ.out W hW; clear hD hW; go_simp; try with_reducible rfl)); simp only [Act.put, List.setIfInBounds_toArray, List.set_cons_zero, List.set_cons_succ, Nat.reduceAdd, Nat.zero_add])
            iterate 1 (refine calm_quiet (v := ?_) (by rfl) (by rfl) (fun W hW hD => ?_) ?_; rotate_left; (· (clear hD hW; go_simp; try with_reducible rfl)); simp only [Act.put, List.setIfInBounds_toArray, List.set_cons_zero, List.set_cons_succ, Nat.reduceAdd, Nat.zero_add])
            refine calm_nil fun W hW hF => ?_
            have c0 := (HQ.out W hW).1.2.2.2.2
            have HB3 := Lib.hid (HB2.out.trans ((grown_below hW).mono HB2.out.size)); have HX3 : Hid (BoxN w.heap.size 25 #[.int .i64 f, .int .i64 t] W) := BoxN.grown HX2.out hW (by simp); have HO3 : Hid (OwnK intK (w.heap.size + 1) W (.slice ta tn tc) D) := HO2.out.below (grown_below hW) (Nat.le_refl _)
            clear hF hW HQ HB2 HX2 HO2
            have HA1 : Hid (OwnK intK (w.heap.size + 1) (W.alloc (.cells #[.int .i64 x.id] 3)) (.slice ta tn tc) D) := HO3.out.kept (World.grownBy_alloc _ _ none) (fun g h => by cases h)
            have HA2 : Hid (RowsAt intK (W.heap.size + 1) (W.alloc (.cells #[.int .i64 x.id] 3)) (.slice (some ⟨W.heap.size, 0, none⟩) 1 1) [x.id]) := by
              have h := (ownK_lit intOk W [x.id] #[.int .i64 x.id] rfl (by simp)).rows intOk
              rw [World.size_alloc] at h
              exact h
            have hxl := HX3.out.lt
            have HA3 : Hid (w.heap.size + 1 ≤ (W.alloc (.cells #[.int .i64 x.id] 3)).heap.size) := by show _ ≤ _; rw [World.size_alloc]; omega
            clear hxl
            go_wp2_with (at_builtin; refine append_K3 intOk rfl _ _ rfl (w.heap.size + 1) _ _ _ D [x.id] rfl rfl HA1.out HA2.out (by simp; omega) HA3.out ?_; intro v' w7 ho7 hg7 hr7)
            clear c0
            have HB7 : Hid (Below w.heap.size w w7) := (HB3.out.alloc HB3.out.size _).grown hg7 (Nat.le_trans (Nat.le_succ _) HA3.out) (fun j hj => Nat.le_trans (Nat.le_succ _) (World.ownsRow.lt HA1.out j hj).1)
            have HX7 : Hid (BoxN w.heap.size 25 #[.int .i64 f, .int .i64 t] w7) := BoxN.grown (HX3.out.alloc _) hg7 (fun e => by have := (World.ownsRow.lt HA1.out _ e).1; omega)
            rw [← HNe.out] at ho7
            obtain ⟨za, zc, hv7, _, _⟩ := ho7.shape
            subst hv7
            have HO7 := Lib.hid ho7
            clear ho7 hg7 hr7
            go_roundw
            case rel => exact ⟨k + 1, by omega, by go_num, ⟨_, _, _, rfl⟩, HO7, HB7, HX7⟩
            case measure => simp [intOf]; omega
      · obtain rfl : k = n := by omega
        have kk : ¬ ((k : Int) < (k : Int)) := by omega
        have HOe : Hid (OwnK intK w.heap.size wr (.slice ta tn tc) (aboutE l u f t)) := by
          have h := HO.out
          rw [HE.out] at h
          exact h.mono (Nat.le_succ _)
        clear hlt hk HO
        go_wp2
        go_ret
        exact ⟨_, rfl, HOe.out, HB.out⟩
end Go.Proofs.YtcgopilkajfghaaGreatDoor
