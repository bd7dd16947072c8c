/- find, During, About of an index. -/
import Derived.Test.YtcgopilkajfghaaGreatDoorIRead
set_option linter.unusedVariables false
set_option linter.unusedSimpArgs false
namespace Go.Proofs.YtcgopilkajfghaaGreatDoor
open Go.RowKit Go.Shelf
open Go.Maps (Keyed IsMap Tidy)

def intK : SK Int := ⟨3, 42, 1, 8, .int .i64 0, fun n => [.int .i64 n]⟩
theorem intOk : intK.Ok where
  pos := by decide
  len := fun _ => rfl
  one := fun x u hu => by
    simp only [intK, List.mem_cons, List.not_mem_nil, or_false] at hu
    rw [hu]; rfl
  und := Tryz.underlying42
  info := by kernel_rfl
  zc := rfl
  small := by decide
/-- The cards with a year in common with a spell, and with a property. -/
def meetC (f t : Int) (q : ICard → Bool) (c : ICard) : Bool := decide (c.beg < t) && (decide (f < c.fin) && q c)
def findE (l : List ICard) (f t : Int) (q : ICard → Bool) : List Int := if spellB f t then (l.filter (meetC f t q)).map (·.id) else []
def partE (l : List ICard) (f t : Int) (q : ICard → Bool) (k : Nat) : List Int := ((l.take k).filter (meetC f t q)).map (·.id)
theorem partE_next {l : List ICard} {f t : Int} {q : ICard → Bool} {k : Nat} (h : k < l.length) : partE l f t q (k + 1) = partE l f t q k ++ (if meetC f t q (l.getD k default) then [(l.getD k default).id] else []) := by
  unfold partE
  have e : l.take (k + 1) = l.take k ++ [l.getD k default] := by
    rw [List.take_add_one, List.getD_eq_getElem?_getD, List.getElem?_eq_getElem h]
    rfl
  rw [e, List.filter_append, List.map_append]
  congr 1
  rw [List.filter_cons]
  split <;> simp
theorem partE_all {l : List ICard} {f t : Int} {q : ICard → Bool} (h : spellB f t = true) : partE l f t q l.length = findE l f t q := by
  unfold partE findE
  rw [List.take_of_length_le (Nat.le_refl _), if_pos h]
theorem beg_le {a b : ICard} (h : befC a b) : a.beg ≤ b.beg := by unfold befC at h; omega
/-- Behind a card that begins too late there is none to be found. -/
theorem partE_stop {l : List ICard} {f t : Int} {q : ICard → Bool} {k : Nat} (hs : l.Pairwise befC) (hk : k < l.length) (hsp : spellB f t = true) (hb : t ≤ (l.getD k default).beg) : partE l f t q k = findE l f t q := by
  rw [← partE_all hsp]
  unfold partE
  rw [List.take_of_length_le (Nat.le_refl _)]
  conv => rhs; rw [← List.take_append_drop k l]
  rw [List.filter_append]
  have hz : (l.drop k).filter (meetC f t q) = [] := by
    rw [List.filter_eq_nil_iff]
    intro x hx
    obtain ⟨i, hi, rfl⟩ := List.mem_iff_getElem.1 hx
    rw [List.getElem_drop]
    rw [List.length_drop] at hi
    have h1 : l.getD k default = l[k] := by rw [List.getD_eq_getElem?_getD, List.getElem?_eq_getElem hk]; rfl
    rw [h1] at hb
    have h2 : t ≤ (l[k + i]'(by omega)).beg := by
      cases i with
      | zero => exact hb
      | succ i => exact Int.le_trans hb (beg_le (List.pairwise_iff_getElem.1 hs k (k + (i + 1)) hk (by omega) (by omega)))
    unfold meetC
    simp
    intro h3
    omega
  rw [hz, List.append_nil]
theorem partE_le {l : List ICard} {f t : Int} {q : ICard → Bool} {k : Nat} : (partE l f t q k).length ≤ l.length := by
  unfold partE
  rw [List.length_map]
  exact Nat.le_trans (List.length_filter_le _ _) (by rw [List.length_take]; omega)
/-! ### The walks. -/
set_option maxRecDepth 100000 in
set_option maxHeartbeats 2000000 in
theorem find_any {S : Nat → Prop} {X : Nat} {l : List ICard} (g : Nat) (lb : Array Value) (eg : ∀ args w, (callFunc g args).run Tryz.prog w = .ok (.enter g args) w) (q : ICard → Bool) (f t : Int) (w : World) (hN : IdxN S X l w)
    (hcall : ∀ W x, Below w.heap.size w W → Calls Tryz.prog g (#[cardV x] ++ lb) W fun e w' => e = .returned (.bool (q x)) ∧ Below W.heap.size W w') :
    Calls Tryz.prog 48 #[.pointer (some ⟨X, 0, none⟩), .agg #[.int .i64 f, .int .i64 t], .func (.func g) #[] lb] w fun e w' => ∃ v, e = .returned v ∧ OwnK intK w.heap.size w' v (findE l f t q) ∧ Below w.heap.size w w' := by
  obtain ⟨m, ov, T, D, h⟩ := hN
  obtain ⟨V, hV⟩ : ∃ V, V = w.alloc (.cells #[.int .i64 f, .int .i64 t] 25) := ⟨_, rfl⟩
  have HB0 : Hid (Below w.heap.size w V) := by show Below _ _ _; rw [hV]; exact (Below.refl _ _).alloc (Nat.le_refl _) _
  have HXV : Hid (BoxN w.heap.size 25 #[.int .i64 f, .int .i64 t] V) := by show BoxN _ _ _ _; rw [hV]; exact box_new w _ _
  have HI := Lib.hid (h.turn (R := fun _ => False) (Turn.of_below HB0.out) (fun _ _ h => h))
  obtain ⟨oa, oc, hov, hlc, hcm⟩ := h.order.shape
  subst hov
  unfold maxLen at hcm
  have k0 := BoxN.cell HXV.out 0 _ rfl
  have k1 := BoxN.cell HXV.out 1 _ rfl
  have HVe := Lib.hid hV
  have HA := Lib.hid hcall
  have HW : Hid (w.heap.size < V.heap.size) := HXV.out.lt
  rw [hV] at k0 k1
  cases hs : spellB f t
  · have HE : Hid (findE l f t q = []) := by show _ = _; unfold findE; rw [hs]; rfl
    have H1 := Lib.hid (fun W => isSpell_eq hs W)
    clear hs h hV hcall
    go_enter Tryz.func48, Tryz.ntmps48
    go_wp2_with fail
    rw [← HVe.out]
    refine (H1.out V).mono ?_
    rintro e w1 ⟨rfl, hb⟩
    have HB := Lib.hid (HB0.out.trans (hb.mono HB0.out.size))
    clear hb k0 k1
    go_wp2
    go_ret
    exact ⟨_, rfl, by rw [HE.out]; exact OwnK.nil _ _, HB.out⟩
  · have HSp := Lib.hid hs
    have H1 := Lib.hid (fun W => isSpell_eq hs W)
    have HSo : Hid (l.Pairwise befC) := h.ok.sorted
    have HFew : Hid (l.length ≤ 500) := h.ok.few
    clear hs h hV hcall
    generalize hn : l.length = n at *
    have HN := Lib.hid hn
    clear hn
    go_enter Tryz.func48, Tryz.ntmps48
    go_wp2_with fail
    rw [← HVe.out]
    refine (H1.out V).mono ?_
    rintro e w1 ⟨rfl, hb⟩
    have HI1 := Lib.hid (HI.out.turn (R := fun _ => False) (Turn.of_below hb) (fun _ _ h => h))
    have HX1 : Hid (BoxN w.heap.size 25 #[.int .i64 f, .int .i64 t] w1) := BoxN.below HXV.out hb HXV.out.lt
    have HB1 := Lib.hid (HB0.out.trans (hb.mono HB0.out.size))
    have c1 := HI1.out.c1
    have hw1 : w.heap.size < w1.heap.size := HX1.out.lt
    have HW1 := Lib.hid hw1
    clear hb k0 k1 hw1 HI HXV HVe
    go_wp2
    clear c1
    go_loopw [7, 23] (fun v i wr => ∃ k : Nat, k ≤ n ∧ i = .int .i64 k ∧ (∃ ta tn tc, v = .slice ta tn tc) ∧ Hid (OwnK intK w1.heap.size wr v (partE l f t q k)) ∧ Hid (Below w1.heap.size w1 wr)) (fun _ i _ => n - (intOf i).toNat)
    case atStart => exact ⟨0, Nat.zero_le _, rfl, ⟨_, _, _, rfl⟩, Lib.hid (OwnK.nil _ _), Lib.hid (Below.refl _ _)⟩
    case round =>
      obtain ⟨k, hk, rfl, ⟨ta, tn, tc, rfl⟩, HO, HB⟩ := hrel
      by_cases hlt : k < n
      · have kk : (k : Int) < (n : Int) := by omega
        have kz : 0 ≤ (k : Int) := by omega
        obtain ⟨x, hx⟩ : ∃ x, x = l.getD k default := ⟨_, rfl⟩
        have hget : l[k]? = some x := by rw [hx, List.getD_eq_getElem?_getD, List.getElem?_eq_getElem (by rw [HN.out]; exact hlt)]; rfl
        have hrw : RowsAt cardK wr.heap.size wr (.slice oa n oc) l := (HI1.out.order.rows cardOk).later HB.out (Nat.le_refl _)
        obtain ⟨gb, off, hae, hgb, e0, e1, e2, e3, e4⟩ := cards_at hrw k x hget
        subst hae
        have hxr := BoxN.below HX1.out HB.out HW1.out
        have r0 := BoxN.cell hxr 0 _ rfl
        have r1 := BoxN.cell hxr 1 _ rfl
        have HXr := Lib.hid hxr
        have HBw : Hid (Below w.heap.size w wr) := HB1.out.trans (HB.out.mono HB1.out.size)
        have HNx := partE_next (f := f) (t := t) (q := q) (show k < l.length by rw [HN.out]; exact hlt)
        rw [← hx] at HNx
        have HNx := Lib.hid HNx
        have HStop : Hid (t ≤ x.beg → partE l f t q k = findE l f t q) := fun h => partE_stop HSo.out (by rw [HN.out]; exact hlt) HSp.out (by rw [← hx]; exact h)
        clear hget hx hrw hxr
        have hwr : w.heap.size < wr.heap.size := HXr.out.lt
        have hwr' : wr.heap.size ≠ w.heap.size := by omega
        by_cases h1 : x.beg ≥ t
        · have d1 : t ≤ x.beg := h1
          have HFin := HStop.out d1
          have HF : Hid (OwnK intK w.heap.size (wr.alloc (.cells (cardR x) 35)) (.slice ta tn tc) (findE l f t q)) := by
            show OwnK _ _ _ _ _
            rw [← HFin]
            exact (HO.out.kept (World.grownBy_alloc _ _ none) (fun g h => by cases h)).mono (by have := HB1.out.size; omega)
          have HBf : Hid (Below w.heap.size w (wr.alloc (.cells (cardR x) 35))) := HBw.out.alloc (by omega) _
          clear h1 HFin
          go_wp2
          go_ret
          exact ⟨_, rfl, HF.out, HBf.out⟩
        · have d1 : ¬ t ≤ x.beg := h1
          have m1 : decide (x.beg < t) = true := decide_eq_true (by omega)
          clear h1
          by_cases h2 : f < x.fin
          · have m2 : decide (f < x.fin) = true := decide_eq_true h2
            obtain ⟨W2, hW2⟩ : ∃ W2, W2 = wr.alloc (.cells (cardR x) 35) := ⟨_, rfl⟩
            have HC2 : Hid (CardN wr.heap.size x W2) := by show BoxN _ _ _ _; rw [hW2]; exact box_new wr _ _
            have HB2 : Hid (Below wr.heap.size wr W2) := by show Below _ _ _; rw [hW2]; exact (Below.refl _ _).alloc (Nat.le_refl _) _
            have hc := HA.out W2 x (HBw.out.trans (HB2.out.mono (by omega)))
            have HW2 := Lib.hid hW2
            have hM : meetC f t q x = q x := by unfold meetC; rw [m1, m2]; simp
            rw [hM] at HNx
            clear hW2 hM m1 m2
            have HO2 : Hid (OwnK intK w1.heap.size W2 (.slice ta tn tc) (partE l f t q k)) := HO.out.below HB2.out (Nat.le_refl _)
            have HLen : Hid ((partE l f t q k).length + 1 < 1000000) := by show _ < _; have := partE_le (l := l) (f := f) (t := t) (q := q) (k := k); have := HFew.out; have := HN.out; omega
            have HBz : Hid (w1.heap.size ≤ W2.heap.size) := Nat.le_trans HB.out.size HB2.out.size
            cases hq : q x
            · rw [hq] at hc HNx
              clear hq
              have HC := Lib.hid hc
              clear hc
              go_wp2_with (go_at_fn g; rw [← HW2.out]; refine HC.out.mono ?_; rintro e w3 ⟨rfl, hb3⟩)
              have HO3 : Hid (OwnK intK w1.heap.size w3 (.slice ta tn tc) (partE l f t q (k + 1))) := by
                show OwnK _ _ _ _ _
                rw [HNx.out]
                simp only [Bool.false_eq_true, if_false, List.append_nil]
                exact HO2.out.below hb3 (Nat.le_refl _)
              have HB3 : Hid (Below w1.heap.size w1 w3) := HB.out.trans ((HB2.out.trans (hb3.mono HB2.out.size)).mono HB.out.size)
              go_roundw
              case rel => exact ⟨k + 1, by omega, by go_num, ⟨_, _, _, rfl⟩, HO3, HB3⟩
              case measure => simp [intOf]; omega
            · rw [hq] at hc HNx
              clear hq
              have HC := Lib.hid hc
              clear hc
              go_wp2_with (first
                | (go_at_fn g; rw [← HW2.out]; refine HC.out.mono ?_; rintro e w3 ⟨rfl, hb3⟩; have y0 := BoxN.cell (BoxN.below HC2.out hb3 HC2.out.lt) 0 _ rfl)
                | (at_builtin; refine append_K3 intOk rfl _ _ rfl w1.heap.size (w3.heap.size + 1) _ _ (partE l f t q k) [x.id] rfl rfl ((HO2.out.below hb3 (Nat.le_refl _)).kept (World.grownBy_alloc _ _ none) (fun g h => by cases h)) (((ownK_lit intOk w3 [x.id] _ rfl (by simp)).rows intOk).mono (by simp)) HLen.out (by have := hb3.size; have := HBz.out; simp; omega) ?_; intro v' w4 ho4 hg4 hr4))
              have HO4 : Hid (OwnK intK w1.heap.size w4 v' (partE l f t q (k + 1))) := by
                show OwnK _ _ _ _ _
                rw [HNx.out]
                simp only [if_true]
                exact ho4
              have hs4 := hb3.size
              have hs5 := HBz.out
              have HB4 : Hid (Below w1.heap.size w1 w4) := ((HB.out.trans ((HB2.out.trans (hb3.mono HB2.out.size)).mono HB.out.size)).alloc (by omega) _).grown hg4 (by simp; omega) (fun j hj => (World.ownsRow.lt HO2.out j hj).1)
              obtain ⟨za, zc, hv4, _, _⟩ := ho4.shape
              subst hv4
              go_roundw
              case rel => exact ⟨k + 1, by omega, by go_num, ⟨_, _, _, rfl⟩, HO4, HB4⟩
              case measure => simp [intOf]; omega
          · have m2 : decide (f < x.fin) = false := decide_eq_false h2
            have hM : meetC f t q x = false := by unfold meetC; rw [m2]; simp
            have HO3 : Hid (OwnK intK w1.heap.size (wr.alloc (.cells (cardR x) 35)) (.slice ta tn tc) (partE l f t q (k + 1))) := by
              show OwnK _ _ _ _ _
              rw [HNx.out, hM]
              simp only [Bool.false_eq_true, if_false, List.append_nil]
              exact HO.out.kept (World.grownBy_alloc _ _ none) (fun g h => by cases h)
            have HB3 : Hid (Below w1.heap.size w1 (wr.alloc (.cells (cardR x) 35))) := HB.out.alloc HB.out.size _
            clear m1 m2 hM
            go_wp2
            go_roundw
            case rel => exact ⟨k + 1, by omega, by go_num, ⟨_, _, _, rfl⟩, HO3, HB3⟩
            case measure => simp [intOf]; omega
      · obtain rfl : k = n := by omega
        have kk : ¬ ((k : Int) < (k : Int)) := by omega
        have HF : Hid (OwnK intK w.heap.size wr (.slice ta tn tc) (findE l f t q)) := by
          have h := HO.out.mono (base' := w.heap.size) (by have := HB1.out.size; omega)
          rw [← HN.out] at h
          rw [partE_all HSp.out] at h
          exact h
        have HBf : Hid (Below w.heap.size w wr) := HB1.out.trans (HB.out.mono HB1.out.size)
        clear hlt hk HO
        go_wp2
        go_ret
        exact ⟨_, rfl, HF.out, HBf.out⟩
end Go.Proofs.YtcgopilkajfghaaGreatDoor
