/- slices.Clone and BinarySearchFunc at cards. -/
import Derived.Test.YtcgopilkajfghaaGreatDoorIIns
set_option linter.unusedVariables false
set_option linter.unusedSimpArgs false
namespace Go.Proofs.YtcgopilkajfghaaGreatDoor
open Go.RowKit Go.Shelf

set_option maxRecDepth 100000 in
set_option maxHeartbeats 1000000 in
theorem clone_any (nv : Value) (l : List ICard) (w : World) (h : RowsAt cardK w.heap.size w nv l) (hl : l.length ≤ 100000) :
    Calls Tryz.prog 53 #[nv] w fun e w' => ∃ v, e = .returned v ∧ OwnK cardK w.heap.size w' v l ∧ Below w.heap.size w w' := by
  obtain ⟨a, c, rfl, hlc, hcm⟩ := h.shape
  cases a with
  | none =>
    obtain rfl : l = [] := by
      cases l with
      | nil => rfl
      | cons x t => obtain ⟨b, off, h0, _⟩ := h.at 0 x rfl; cases h0
    clear h
    have he : ∀ W, (binOp .eql 23 (.slice none 0 c) (.slice none 0 0)).run Tryz.prog W = .ok (.bool true) W := fun _ => rfl
    go_enter Tryz.func53, Tryz.ntmps53
    go_wp2
    go_ret
    exact ⟨_, rfl, OwnK.nil _ _, Below.refl _ _⟩
  | some ad =>
    have he : ∀ (m : Nat) W, (binOp .eql 23 (.slice (some ad) m c) (.slice none 0 0)).run Tryz.prog W = .ok (.bool false) W := fun _ _ => rfl
    have hb0 : Below w.heap.size w (w.alloc (.cells #[] 35)) := (Below.refl _ _).alloc (Nat.le_refl _) _
    have HO := Lib.hid (ownK_lit0 (K := cardK) w)
    have HR := Lib.hid (h.later hb0 (Nat.le_refl _))
    have HB := Lib.hid hb0
    have hz : w.heap.size ≤ (w.alloc (.cells #[] 35)).heap.size := by simp
    have hl2 : ([] : List ICard).length + l.length < 1000000 := by simp; omega
    clear h hb0
    generalize hn : l.length = n at *
    have HN := Lib.hid hn
    clear hn
    go_enter Tryz.func53, Tryz.ntmps53
    go_wp2_with (at_builtin; refine append_KK cardOk rfl _ _ rfl w.heap.size _ _ _ [] l rfl rfl HO.out HR.out (by rw [HN.out]; exact hl2) hz w HB.out ?_; intro v' w4 hown' hgrow hbelow)
    go_ret
    exact ⟨_, rfl, hown', hbelow⟩
theorem place_lt {n : ICard} {l : List ICard} (hs : l.Pairwise befC) {h : Nat} (hl : h < l.length) : cmpC (l.getD h default) n < 0 ↔ h < placeC l n := by
  rw [cmpC_lt, List.getD_eq_getElem?_getD, List.getElem?_eq_getElem hl]
  exact place_split hs h hl
set_option maxRecDepth 100000 in
set_option maxHeartbeats 4000000 in
theorem search_any (nv : Value) (l : List ICard) (x : ICard) (w : World) (h : RowsAt cardK w.heap.size w nv l) (hl : l.length ≤ 1000000) (hs : l.Pairwise befC) :
    Calls Tryz.prog 64 #[nv, cardV x, .func (.func 65) #[] #[]] w fun e w' => ∃ is : Bool, e = .returned (.tuple #[.int .i64 (placeC l x : Nat), .bool is]) ∧ Below w.heap.size w w' := by
  obtain ⟨na, nc, rfl, hlc, hcm⟩ := h.shape
  unfold maxLen at hcm
  have HL := Lib.hid h
  have HS := Lib.hid hs
  have hP := placeC_le l x
  obtain ⟨pl, hpl⟩ : ∃ p, p = placeC l x := ⟨_, rfl⟩
  rw [← hpl] at hP ⊢
  have HPl := Lib.hid hpl
  have hb0 : Below w.heap.size w (w.alloc (.cells (cardR x) 35)) := (Below.refl _ _).alloc (Nat.le_refl _) _
  have HB0 := Lib.hid hb0
  have HX0 : Hid (CardN w.heap.size x (w.alloc (.cells (cardR x) 35))) := box_new w 35 (cardR x)
  clear h hs hpl hb0
  generalize hn : l.length = n at *
  have HN := Lib.hid hn
  clear hn
  go_enter Tryz.func64, Tryz.ntmps64
  go_wp2
  generalize w.alloc (.cells (cardR x) 35) = W0 at *
  go_loopw [9, 10] (fun i j wr => ∃ p q : Nat, i = .int .i64 p ∧ j = .int .i64 q ∧ p ≤ pl ∧ pl ≤ q ∧ q ≤ n ∧ Hid (Below W0.heap.size W0 wr)) (fun i j _ => (intOf j).toNat - (intOf i).toNat)
  case atStart => exact ⟨0, n, rfl, rfl, Nat.zero_le _, hP, Nat.le_refl _, Lib.hid (Below.refl _ _)⟩
  case round =>
    obtain ⟨p, q, rfl, rfl, hp, hq, hqn, HB⟩ := hrel
    have HBw := Lib.hid (HB0.out.trans (HB.out.mono HB0.out.size))
    have HXr : Hid (CardN w.heap.size x wr) := BoxN.below HX0.out HB.out HX0.out.lt
    by_cases hpq : p < q
    · have hpqi : (p : Int) < (q : Int) := by omega
      obtain ⟨m, hm⟩ : ∃ m, m = (p + q) / 2 := ⟨_, rfl⟩
      have m1 : p ≤ m := by omega
      have m2 : m < q := by omega
      have w1 : IntKind.i64.wrap ((p : Int) + (q : Int)) = (p : Int) + (q : Int) := by rw [IntKind.wrap_i64]; omega
      have w2 : IntKind.u64.wrap ((p : Int) + (q : Int)) = (p : Int) + (q : Int) := by rw [IntKind.wrap_u64]; omega
      have w3 : ((p : Int) + (q : Int)) / 2 = (m : Int) := by omega
      have w4 : IntKind.u64.wrap (m : Int) = (m : Int) := by rw [IntKind.wrap_u64]; omega
      have w5 : IntKind.i64.wrap (m : Int) = (m : Int) := by rw [IntKind.wrap_i64]; omega
      have mn : (m : Int) < (n : Int) := by omega
      have m0 : 0 ≤ (m : Int) := by omega
      clear hm
      obtain ⟨y, hy⟩ : ∃ y, y = l.getD m default := ⟨_, rfl⟩
      have hget : l[m]? = some y := by rw [hy, List.getD_eq_getElem?_getD, List.getElem?_eq_getElem (by rw [HN.out]; omega)]; rfl
      obtain ⟨gb, off, hae, hb, hat⟩ := cards_at (HL.out.later HBw.out (Nat.le_refl _)) m y hget
      subst hae
      have HPi : Hid (cmpC y x < 0 ↔ m < pl) := by
        show _ ↔ _
        rw [hy, HPl.out]
        exact place_lt HS.out (by rw [HN.out]; omega)
      have HQ : Hid (∀ W, wr.grownBy W none → CardAt W gb (off + m * 5) y ∧ W.cell? ⟨w.heap.size, 0, none⟩ = some (.int .i64 x.id) ∧ W.cell? ⟨w.heap.size, 1, none⟩ = some (.int .i64 x.unit) ∧ W.cell? ⟨w.heap.size, 2, none⟩ = some (.int .i64 x.kind) ∧ W.cell? ⟨w.heap.size, 3, none⟩ = some (.int .i64 x.beg) ∧ W.cell? ⟨w.heap.size, 4, none⟩ = some (.int .i64 x.fin)) := fun W hW =>
        ⟨by
          obtain ⟨p0, p1, p2, p3, p4⟩ := hat
          exact ⟨hW.cell p0 (by simp), hW.cell p1 (by simp), hW.cell p2 (by simp), hW.cell p3 (by simp), hW.cell p4 (by simp)⟩, CardN.cells (BoxN.grown HXr.out hW (by simp))⟩
      obtain ⟨z, hz⟩ : ∃ z, cmpC y x = z := ⟨_, rfl⟩
      have HZ := Lib.hid hz
      rw [hz] at HPi
      clear hz hy hget hat
      by_cases hz0 : z < 0
      · have dz : decide (z < 0) = true := decide_eq_true hz0
        have hmp : m < pl := HPi.out.1 hz0
        clear hz0 HPi
        go_wp2
        refine wp_region_calm ⟨[6], fun k v _ => v = .int .i64 z, fun _ => [], 99, none, 1000⟩ (by kernel_rfl) (by kernel_rfl) (by kernel_rfl) (fun g h => by cases h) (fun k hk v W W' c h hg hc => h) ?_
        iterate 4 (refine calm_quiet (v := ?_) (by rfl) (by rfl) (fun W hW hD => ?_) ?_; rotate_left; (· (clear hD hW; go_simp; try with_reducible rfl)); simp only [Act.put, List.setIfInBounds_toArray, List.set_cons_zero, List.set_cons_succ, Nat.reduceAdd, Nat.zero_add])
        iterate 2 (refine calm_quiet (v := ?_) (by rfl) (by rfl) (fun W hW hD => ?_) ?_; rotate_left; (· (obtain ⟨⟨z0, z1, z2, z3, z4⟩, y0, y1, y2, y3, y4⟩ := HQ.out W hW; clear hD hW; go_simp; try with_reducible rfl)); simp only [Act.put, List.setIfInBounds_toArray, List.set_cons_zero, List.set_cons_succ, Nat.reduceAdd, Nat.zero_add])
        refine calm_makes (by rfl) (by rfl) (fun W hW hD Kc hK => ?_) (fun v14 => ?_)
        · refine wp_of_call (f := 65) ?_ ((compare_any y x W).mono ?_)
          · clear hD hW hK
            go_simp
          · rintro e w5 ⟨rfl, hb5⟩
            exact ⟨_, rfl, hK _ _ (made_plain (by show _ = _; rw [HZ.out]; rfl) hb5 rfl)⟩
        simp only [Act.put, List.setIfInBounds_toArray, List.set_cons_zero, List.set_cons_succ, Nat.reduceAdd, Nat.zero_add]
        refine calm_quiet (v := .bool true) (by rfl) (by rfl) (fun W hW hD => ?_) ?_
        · obtain rfl : v14 = .int .i64 z := hD [] 6 (by kernel_rfl) (by kernel_rfl) (by kernel_rfl)
          clear hD hW
          go_simp
        simp only [Act.put, List.setIfInBounds_toArray, List.set_cons_zero, List.set_cons_succ, Nat.reduceAdd, Nat.zero_add]
        refine calm_nil fun W hW hF => ?_
        have HBf := Lib.hid (HB.out.trans ((grown_below hW).mono HB.out.size))
        clear hF hW HQ
        go_wp2
        go_roundw
        case rel => exact ⟨m + 1, q, by go_num, rfl, by omega, hq, hqn, HBf⟩
        case measure => simp [intOf]; omega
      · have dz : decide (z < 0) = false := decide_eq_false hz0
        have hmp : pl ≤ m := by have := HPi.out; omega
        clear hz0 HPi
        go_wp2
        refine wp_region_calm ⟨[6], fun k v _ => v = .int .i64 z, fun _ => [], 99, none, 1000⟩ (by kernel_rfl) (by kernel_rfl) (by kernel_rfl) (fun g h => by cases h) (fun k hk v W W' c h hg hc => h) ?_
        iterate 4 (refine calm_quiet (v := ?_) (by rfl) (by rfl) (fun W hW hD => ?_) ?_; rotate_left; (· (clear hD hW; go_simp; try with_reducible rfl)); simp only [Act.put, List.setIfInBounds_toArray, List.set_cons_zero, List.set_cons_succ, Nat.reduceAdd, Nat.zero_add])
        iterate 2 (refine calm_quiet (v := ?_) (by rfl) (by rfl) (fun W hW hD => ?_) ?_; rotate_left; (· (obtain ⟨⟨z0, z1, z2, z3, z4⟩, y0, y1, y2, y3, y4⟩ := HQ.out W hW; clear hD hW; go_simp; try with_reducible rfl)); simp only [Act.put, List.setIfInBounds_toArray, List.set_cons_zero, List.set_cons_succ, Nat.reduceAdd, Nat.zero_add])
        refine calm_makes (by rfl) (by rfl) (fun W hW hD Kc hK => ?_) (fun v14 => ?_)
        · refine wp_of_call (f := 65) ?_ ((compare_any y x W).mono ?_)
          · clear hD hW hK
            go_simp
          · rintro e w5 ⟨rfl, hb5⟩
            exact ⟨_, rfl, hK _ _ (made_plain (by show _ = _; rw [HZ.out]; rfl) hb5 rfl)⟩
        simp only [Act.put, List.setIfInBounds_toArray, List.set_cons_zero, List.set_cons_succ, Nat.reduceAdd, Nat.zero_add]
        refine calm_quiet (v := .bool false) (by rfl) (by rfl) (fun W hW hD => ?_) ?_
        · obtain rfl : v14 = .int .i64 z := hD [] 6 (by kernel_rfl) (by kernel_rfl) (by kernel_rfl)
          clear hD hW
          go_simp
        simp only [Act.put, List.setIfInBounds_toArray, List.set_cons_zero, List.set_cons_succ, Nat.reduceAdd, Nat.zero_add]
        refine calm_nil fun W hW hF => ?_
        have HBf := Lib.hid (HB.out.trans ((grown_below hW).mono HB.out.size))
        clear hF hW HQ
        go_wp2
        go_roundw
        case rel => exact ⟨p, m, rfl, rfl, hp, hmp, by omega, HBf⟩
        case measure => simp [intOf]; omega
    · obtain rfl : p = q := by omega
      obtain rfl : p = pl := by omega
      have hpp : ¬ ((p : Int) < (p : Int)) := by omega
      clear hpq hq
      by_cases hpn : p < n
      · have dn : (p : Int) < (n : Int) := by omega
        have d0 : 0 ≤ (p : Int) := by omega
        obtain ⟨y, hy⟩ : ∃ y, y = l.getD p default := ⟨_, rfl⟩
        have hget : l[p]? = some y := by rw [hy, List.getD_eq_getElem?_getD, List.getElem?_eq_getElem (by rw [HN.out]; omega)]; rfl
        obtain ⟨gb, off, hae, hb, hat⟩ := cards_at (HL.out.later HBw.out (Nat.le_refl _)) p y hget
        subst hae
        have HQ : Hid (∀ W, wr.grownBy W none → CardAt W gb (off + p * 5) y ∧ W.cell? ⟨w.heap.size, 0, none⟩ = some (.int .i64 x.id) ∧ W.cell? ⟨w.heap.size, 1, none⟩ = some (.int .i64 x.unit) ∧ W.cell? ⟨w.heap.size, 2, none⟩ = some (.int .i64 x.kind) ∧ W.cell? ⟨w.heap.size, 3, none⟩ = some (.int .i64 x.beg) ∧ W.cell? ⟨w.heap.size, 4, none⟩ = some (.int .i64 x.fin)) := fun W hW =>
          ⟨by
            obtain ⟨p0, p1, p2, p3, p4⟩ := hat
            exact ⟨hW.cell p0 (by simp), hW.cell p1 (by simp), hW.cell p2 (by simp), hW.cell p3 (by simp), hW.cell p4 (by simp)⟩, CardN.cells (BoxN.grown HXr.out hW (by simp))⟩
        obtain ⟨z, hz⟩ : ∃ z, cmpC y x = z := ⟨_, rfl⟩
        have HZ := Lib.hid hz
        clear hz hy hget hat hpn hp hqn hP
        cases hzb : (z == 0)
        all_goals
          go_wp2
          refine wp_region_calm ⟨[11], fun k v _ => v = .int .i64 z, fun _ => [], 99, none, 1000⟩ (by kernel_rfl) (by kernel_rfl) (by kernel_rfl) (fun g h => by cases h) (fun k hk v W W' c h hg hc => h) ?_
          iterate 9 (refine calm_quiet (v := ?_) (by rfl) (by rfl) (fun W hW hD => ?_) ?_; rotate_left; (· (clear hD hW; go_simp; try with_reducible rfl)); simp only [Act.put, List.setIfInBounds_toArray, List.set_cons_zero, List.set_cons_succ, Nat.reduceAdd, Nat.zero_add])
          iterate 2 (refine calm_quiet (v := ?_) (by rfl) (by rfl) (fun W hW hD => ?_) ?_; rotate_left; (· (obtain ⟨⟨z0, z1, z2, z3, z4⟩, y0, y1, y2, y3, y4⟩ := HQ.out W hW; clear hD hW; go_simp; try with_reducible rfl)); simp only [Act.put, List.setIfInBounds_toArray, List.set_cons_zero, List.set_cons_succ, Nat.reduceAdd, Nat.zero_add])
          refine calm_makes (by rfl) (by rfl) (fun W hW hD Kc hK => ?_) (fun v14 => ?_)
          · refine wp_of_call (f := 65) ?_ ((compare_any y x W).mono ?_)
            · clear hD hW hK
              go_simp
            · rintro e w5 ⟨rfl, hb5⟩
              exact ⟨_, rfl, hK _ _ (made_plain (by show _ = _; rw [HZ.out]; rfl) hb5 rfl)⟩
          simp only [Act.put, List.setIfInBounds_toArray, List.set_cons_zero, List.set_cons_succ, Nat.reduceAdd, Nat.zero_add]
          refine calm_quiet (v := .bool (z == 0)) (by rfl) (by rfl) (fun W hW hD => ?_) ?_
          · obtain rfl : v14 = .int .i64 z := hD [] 11 (by kernel_rfl) (by kernel_rfl) (by kernel_rfl)
            clear hD hW
            go_simp
          simp only [Act.put, List.setIfInBounds_toArray, List.set_cons_zero, List.set_cons_succ, Nat.reduceAdd, Nat.zero_add]
          iterate 3 (refine calm_quiet (v := ?_) (by rfl) (by rfl) (fun W hW hD => ?_) ?_; rotate_left; (· (clear hD hW; go_simp; try with_reducible rfl)); simp only [Act.put, List.setIfInBounds_toArray, List.set_cons_zero, List.set_cons_succ, Nat.reduceAdd, Nat.zero_add])
          refine calm_nil fun W hW hF => ?_
          have HBf := Lib.hid (HBw.out.trans ((grown_below hW).mono HBw.out.size))
          clear hF hW HQ
          go_wp2
          go_ret2
          exact ⟨_, rfl, HBf.out⟩
      · have dn : ¬ ((p : Int) < (n : Int)) := by omega
        have dn' : decide (p < n) = false := decide_eq_false hpn
        clear hpn hp hqn hP
        go_wp2
        refine wp_region_calm ⟨[], fun k v _ => True, fun _ => [], 99, none, 1000⟩ (by kernel_rfl) (by kernel_rfl) (by kernel_rfl) (fun g h => by cases h) (fun k hk v W W' c h hg hc => h) ?_
        iterate 5 (refine calm_quiet (v := ?_) (by rfl) (by rfl) (fun W hW hD => ?_) ?_; rotate_left; (· (clear hD hW; go_simp; try with_reducible rfl)); simp only [Act.put, List.setIfInBounds_toArray, List.set_cons_zero, List.set_cons_succ, Nat.reduceAdd, Nat.zero_add])
        iterate 8 (refine calm_skip (by rfl) (by rfl) ?_; simp only [Act.put, List.setIfInBounds_toArray, List.set_cons_zero, List.set_cons_succ, Nat.reduceAdd, Nat.zero_add])
        iterate 3 (refine calm_quiet (v := ?_) (by rfl) (by rfl) (fun W hW hD => ?_) ?_; rotate_left; (· (clear hD hW; go_simp; try with_reducible rfl)); simp only [Act.put, List.setIfInBounds_toArray, List.set_cons_zero, List.set_cons_succ, Nat.reduceAdd, Nat.zero_add])
        refine calm_nil fun W hW hF => ?_
        have HBf := Lib.hid (HBw.out.trans ((grown_below hW).mono HBw.out.size))
        clear hF hW
        go_wp2
        go_ret2
        exact ⟨false, rfl, HBf.out⟩
end Go.Proofs.YtcgopilkajfghaaGreatDoor
