/- The reference's Put. -/
import Derived.Test.YtcgopilkajfghaaGreatDoorISmall
set_option linter.unusedVariables false
set_option linter.unusedSimpArgs false
namespace Go.Proofs.YtcgopilkajfghaaGreatDoor
open Go.RowKit Go.Shelf

theorem find_neg {l : List ICard} {id : Int} (h : findC l id = none) : findI l id = -1 := by
  refine findI_none fun j hj => ?_
  rw [List.getD_eq_getElem?_getD, List.getElem?_eq_getElem hj]
  exact findC_none.1 h _ (List.getElem_mem hj)
theorem find_pos {l : List ICard} {id : Int} (h : (findC l id).isSome = true) : 0 ≤ findI l id := by
  unfold findI
  cases hf : l.findIdx? (fun c => c.id == id) with
  | some k => simp
  | none =>
    rw [List.findIdx?_eq_none_iff] at hf
    cases hc : findC l id with
    | none => rw [hc] at h; cases h
    | some c =>
      obtain ⟨h1, h2⟩ := findC_some hc
      have := hf c h1
      simp [h2] at this
/-- What Put has collected before a place. -/
def outP (l : List ICard) (c : ICard) (i : Nat) : List ICard := if i ≤ placeC l c then l.take i else l.take (placeC l c) ++ c :: (l.take i).drop (placeC l c)
theorem outP_zero (l : List ICard) (c : ICard) : outP l c 0 = [] := by unfold outP; rw [if_pos (Nat.zero_le _)]; rfl
theorem take_one (l : List ICard) {i : Nat} (h : i < l.length) : l.take (i + 1) = l.take i ++ [l.getD i default] := by
  rw [List.take_add_one, List.getD_eq_getElem?_getD, List.getElem?_eq_getElem h]
  rfl
/-- A card before the place. -/
theorem outP_before {l : List ICard} {c : ICard} {i : Nat} (h : i < l.length) (hp : i < placeC l c) : outP l c (i + 1) = outP l c i ++ [l.getD i default] := by
  unfold outP
  rw [if_pos (by omega), if_pos (by omega), take_one l h]
theorem outP_at {l : List ICard} {c : ICard} {i : Nat} (h : i < l.length) (hp : i = placeC l c) : outP l c (i + 1) = outP l c i ++ [c] ++ [l.getD i default] := by
  unfold outP
  rw [if_neg (by omega), if_pos (by omega), take_one l h, hp, List.drop_append_of_le_length (by rw [List.length_take]; omega), List.drop_of_length_le (by rw [List.length_take]; omega)]
  simp
theorem outP_behind {l : List ICard} {c : ICard} {i : Nat} (h : i < l.length) (hp : placeC l c < i) : outP l c (i + 1) = outP l c i ++ [l.getD i default] := by
  unfold outP
  rw [if_neg (by omega), if_neg (by omega), take_one l h, List.drop_append_of_le_length (by rw [List.length_take]; omega)]
  simp
theorem outP_end {l : List ICard} {c : ICard} (hp : placeC l c < l.length) : outP l c l.length = insC l c := by
  unfold outP insC
  rw [if_neg (by omega), List.take_of_length_le (Nat.le_refl _)]
theorem outP_last {l : List ICard} {c : ICard} (hp : placeC l c = l.length) : outP l c l.length ++ [c] = insC l c := by
  unfold outP insC
  rw [if_pos (by omega), hp, List.take_of_length_le (Nat.le_refl _), List.drop_of_length_le (Nat.le_refl _)]
theorem outP_len (l : List ICard) (c : ICard) (i : Nat) : (outP l c i).length ≤ l.length + 1 := by
  unfold outP
  have := placeC_le l c
  split
  · rw [List.length_take]; omega
  · simp; omega
theorem bef_place {l : List ICard} {c : ICard} (h : IOk l) (hn : findC l c.id = none) {i : Nat} (hi : i < l.length) : decide (befC c (l.getD i default)) = decide (placeC l c ≤ i) := by
  rw [decide_eq_decide, List.getD_eq_getElem?_getD, List.getElem?_eq_getElem hi, Option.getD_some]
  have h1 := place_split (c := c) h.sorted i hi
  have h2 : l[i].id ≠ c.id := findC_none.1 hn _ (List.getElem_mem hi)
  constructor
  · intro hb
    have := befC_asym hb
    rw [h1] at this
    omega
  · intro hb
    rcases befC_total h2 with g | g
    · rw [h1] at g; omega
    · exact g
set_option maxRecDepth 100000 in
set_option maxHeartbeats 4000000 in
theorem rput_any (v : Value) (l : List ICard) (c : ICard) (w : World) (h : RowsAt cardK w.heap.size w v l) (hok : IOk l) :
    Calls Tryz.prog 7 #[v, cardV c] w fun e w' => ∃ v', e = .returned (.tuple #[v', .int .i64 (putL l c).2]) ∧ RowsAt cardK w'.heap.size w' v' (putL l c).1 ∧ Below w.heap.size w w' ∧ ∀ g, v'.ownBlock = some g → v.ownBlock = some g ∨ (w.heap.size ≤ g ∧ g < w'.heap.size) := by
  obtain ⟨oa, oc, rfl, hlc, hcm⟩ := h.shape
  unfold maxLen at hcm
  obtain ⟨V, hV⟩ : ∃ V, V = w.alloc (.cells (cardR c) 35) := ⟨_, rfl⟩
  have HB0 : Hid (Below w.heap.size w V) := by show Below _ _ _; rw [hV]; exact (Below.refl _ _).alloc (Nat.le_refl _) _
  have HXV : Hid (CardN w.heap.size c V) := by show BoxN _ _ _ _; rw [hV]; exact box_new w _ _
  have HRV : Hid (RowsAt cardK w.heap.size V (.slice oa l.length oc) l) := h.below HB0.out (Nat.le_refl _)
  have HOk := Lib.hid hok
  have hfew := hok.few
  have HVe := Lib.hid hV
  obtain ⟨x0, x1, x2, x3, x4⟩ := CardN.cells HXV.out
  rw [hV] at x0 x1 x2 x3 x4
  have HVal := Lib.hid (fun W => rvalid_any c W)
  clear h hok hV
  cases hv : validC c
  · have HP : Hid (putL l c = (l, 420)) := putL_out (.inr (.inl hv))
    rw [hv] at HVal
    clear hv
    generalize hn : l.length = n at *
    have HN := Lib.hid hn
    clear hn
    go_enter Tryz.func7, Tryz.ntmps7
    go_wp2_with fail
    rw [← HVe.out]
    refine (HVal.out V).mono ?_
    rintro e w1 ⟨rfl, hb⟩
    have HB1 := Lib.hid (HB0.out.trans (hb.mono HB0.out.size))
    have HR1 : Hid (RowsAt cardK w1.heap.size w1 (.slice oa n oc) l) := (HRV.out.mono HB0.out.size).later hb (Nat.le_refl _)
    clear hb x0 x1 x2 x3 x4
    go_wp2
    go_ret2
    exact ⟨_, by rw [HP.out]; rfl, by rw [HP.out]; exact HR1.out, HB1.out, fun g h => .inl h⟩
  · rw [hv] at HVal
    have HF := Lib.hid (fun W (hr : RowsAt cardK W.heap.size W (.slice oa l.length oc) l) => rfind_any _ l c.id W hr (by omega))
    cases hf : findC l c.id with
    | some z =>
      have HP : Hid (putL l c = (l, 420)) := putL_out (.inl (by rw [hf]; rfl))
      obtain ⟨fi, hfi⟩ : ∃ x, x = findI l c.id := ⟨_, rfl⟩
      have f0 : 0 ≤ fi := by rw [hfi]; exact find_pos (by rw [hf]; rfl)
      rw [← hfi] at HF
      clear hf hv hfi
      generalize hn : l.length = n at *
      have HN := Lib.hid hn
      clear hn
      go_enter Tryz.func7, Tryz.ntmps7
      go_wp2_with fail
      rw [← HVe.out]
      refine (HVal.out V).mono ?_
      rintro e w1 ⟨rfl, hb⟩
      have HB1 := Lib.hid (HB0.out.trans (hb.mono HB0.out.size))
      have HR1 : Hid (RowsAt cardK w1.heap.size w1 (.slice oa n oc) l) := (HRV.out.mono HB0.out.size).later hb (Nat.le_refl _)
      have y0 := (CardN.cells (BoxN.below HXV.out hb HXV.out.lt)).1
      clear hb x0 x1 x2 x3 x4
      go_wp2_with fail
      refine (HF.out w1 HR1.out).mono ?_
      rintro e w1 ⟨rfl, rfl⟩
      go_wp2
      go_ret2
      exact ⟨_, by rw [HP.out]; rfl, by rw [HP.out]; exact HR1.out, HB1.out, fun g h => .inl h⟩
    | none =>
      have HFn := Lib.hid hf
      have HFi : Hid (findI l c.id = -1) := find_neg hf
      rw [HFi.out] at HF
      clear hf HFi
      have hval := hv
      have HVl := Lib.hid hv
      clear hv hval
      by_cases h500 : 500 ≤ l.length
      · have HP : Hid (putL l c = (l, 420)) := putL_out (.inr (.inr h500))
        have n5 : (l.length : Int) ≥ 500 := by omega
        clear h500
        generalize hn : l.length = n at *
        have HN := Lib.hid hn
        clear hn
        go_enter Tryz.func7, Tryz.ntmps7
        go_wp2_with fail
        rw [← HVe.out]
        refine (HVal.out V).mono ?_
        rintro e w1 ⟨rfl, hb⟩
        have HB1 := Lib.hid (HB0.out.trans (hb.mono HB0.out.size))
        have HR1 : Hid (RowsAt cardK w1.heap.size w1 (.slice oa n oc) l) := (HRV.out.mono HB0.out.size).later hb (Nat.le_refl _)
        have y0 := (CardN.cells (BoxN.below HXV.out hb HXV.out.lt)).1
        clear hb x0 x1 x2 x3 x4
        go_wp2_with fail
        refine (HF.out w1 HR1.out).mono ?_
        rintro e w1 ⟨rfl, rfl⟩
        go_wp2
        go_ret2
        exact ⟨_, by rw [HP.out]; rfl, by rw [HP.out]; exact HR1.out, HB1.out, fun g h => .inl h⟩
      · have HP : Hid (putL l c = (insC l c, 0)) := putL_in HFn.out HVl.out (by omega)
        have n5 : ¬ ((l.length : Int) ≥ 500) := by omega
        have hpl := placeC_le l c
        obtain ⟨p, hp⟩ : ∃ p, p = placeC l c := ⟨_, rfl⟩
        rw [← hp] at hpl
        have HPl := Lib.hid hp
        clear h500 hp
        generalize hn : l.length = n at *
        have HN := Lib.hid hn
        clear hn
        go_enter Tryz.func7, Tryz.ntmps7
        go_wp2_with fail
        rw [← HVe.out]
        refine (HVal.out V).mono ?_
        rintro e w1 ⟨rfl, hb⟩
        have HB1 := Lib.hid (HB0.out.trans (hb.mono HB0.out.size))
        have HR1 : Hid (RowsAt cardK w.heap.size w1 (.slice oa n oc) l) := HRV.out.below hb HB0.out.size
        have HX1 : Hid (CardN w.heap.size c w1) := BoxN.below HXV.out hb HXV.out.lt
        have y0 := (CardN.cells HX1.out).1
        have hw1 : w.heap.size < w1.heap.size := HX1.out.lt
        have HW1 := Lib.hid hw1
        clear hb x0 x1 x2 x3 x4 hw1
        go_wp2_with fail
        refine (HF.out w1 (HR1.out.mono (Nat.le_of_lt HW1.out))).mono ?_
        rintro e w1 ⟨rfl, rfl⟩
        go_wp2
        clear y0
        go_loopw [6, 7, 8] (fun v q i wr => ∃ (k : Nat) (b : Bool), k ≤ n ∧ i = .int .i64 k ∧ q = .bool b ∧ Hid (b = decide (p < k)) ∧ (∃ ta tn tc, v = .slice ta tn tc) ∧ Hid (OwnK cardK w1.heap.size wr v (outP l c k)) ∧ Hid (Below w1.heap.size w1 wr)) (fun _ _ i _ => n - (intOf i).toNat)
        case atStart => exact ⟨0, false, Nat.zero_le _, rfl, rfl, Lib.hid (by simp), ⟨_, _, _, rfl⟩, Lib.hid (by rw [outP_zero]; exact OwnK.nil _ _), Lib.hid (Below.refl _ _)⟩
        case round =>
          obtain ⟨k, b, hk, rfl, rfl, HBd, ⟨ta, tn, tc, rfl⟩, HO, HB⟩ := hrel
          by_cases hlt : k < n
          · have kk : (k : Int) < (n : Int) := by omega
            have kz : 0 ≤ (k : Int) := by omega
            obtain ⟨x, hx⟩ : ∃ x, x = l.getD k default := ⟨_, rfl⟩
            have hget : l[k]? = some x := by rw [hx, List.getD_eq_getElem?_getD, List.getElem?_eq_getElem (by rw [HN.out]; exact hlt)]; rfl
            have hrw : RowsAt cardK w1.heap.size wr (.slice oa n oc) l := (HR1.out.mono (Nat.le_of_lt HW1.out)).below HB.out (Nat.le_refl _)
            obtain ⟨gb, off, hae, hgb, hat⟩ := cards_at hrw k x hget
            subst hae
            have HX := Lib.hid (BoxN.below HX1.out HB.out HW1.out)
            have HQ : Hid (∀ W, wr.grownBy W none → (W.cell? ⟨gb, off + k * 5, none⟩ = some (.int .i64 x.id) ∧ W.cell? ⟨gb, off + k * 5 + 1, none⟩ = some (.int .i64 x.unit) ∧ W.cell? ⟨gb, off + k * 5 + 2, none⟩ = some (.int .i64 x.kind) ∧ W.cell? ⟨gb, off + k * 5 + 3, none⟩ = some (.int .i64 x.beg) ∧ W.cell? ⟨gb, off + k * 5 + 4, none⟩ = some (.int .i64 x.fin)) ∧ W.cell? ⟨w.heap.size, 0, none⟩ = some (.int .i64 c.id) ∧ W.cell? ⟨w.heap.size, 1, none⟩ = some (.int .i64 c.unit) ∧ W.cell? ⟨w.heap.size, 2, none⟩ = some (.int .i64 c.kind) ∧ W.cell? ⟨w.heap.size, 3, none⟩ = some (.int .i64 c.beg) ∧ W.cell? ⟨w.heap.size, 4, none⟩ = some (.int .i64 c.fin)) := fun W hW =>
              ⟨by
                obtain ⟨p0, p1, p2, p3, p4⟩ := hat
                exact ⟨hW.cell p0 (by simp), hW.cell p1 (by simp), hW.cell p2 (by simp), hW.cell p3 (by simp), hW.cell p4 (by simp)⟩, CardN.cells (BoxN.grown HX.out hW (by simp))⟩
            have HBf : Hid (decide (befC c x) = decide (p ≤ k)) := by show _ = _; rw [hx, HPl.out]; exact bef_place HOk.out HFn.out (by rw [HN.out]; exact hlt)
            have HLen : Hid ((outP l c k).length ≤ 501) := by show _ ≤ _; have := outP_len l c k; rw [HN.out] at this; omega
            have wk : IntKind.i64.wrap ((k : Int) + 1) = (k : Int) + 1 := IntWalk.i64_in _ (by omega)
            have HXx := Lib.hid hx
            clear hget hx hrw hat
            cases b with
            | true =>
              have hpk : p < k := by have := HBd.out; simpa using this.symm
              have HNx : Hid (outP l c (k + 1) = outP l c k ++ [x]) := by show _ = _; rw [HXx.out]; exact outP_behind (by rw [HN.out]; exact hlt) (by rw [← HPl.out]; exact hpk)
              have HBn : Hid (true = decide (p < k + 1)) := by show _ = _; simp; omega
              go_wp2
              refine wp_region_calm ⟨[], fun _ _ _ => True, fun _ => [], 99, none, 1000⟩ (by kernel_rfl) (by kernel_rfl) (by kernel_rfl) (fun g h => by cases h) (fun k hk v W W' r h hg hc => trivial) ?_
              iterate 3 (refine calm_quiet (v := ?_) (by rfl) (by rfl) (fun W hW hD => ?_) ?_; rotate_left; (· (clear hD hW; go_simp; try with_reducible rfl)); simp only [Act.put, List.setIfInBounds_toArray, List.set_cons_zero, List.set_cons_succ, Nat.reduceAdd, Nat.zero_add])
              iterate 6 (refine calm_skip (by rfl) (by rfl) ?_; simp only [Act.put, List.setIfInBounds_toArray, List.set_cons_zero, List.set_cons_succ, Nat.reduceAdd, Nat.zero_add])
              iterate 1 (refine calm_quiet (v := ?_) (by rfl) (by rfl) (fun W hW hD => ?_) ?_; rotate_left; (· (clear hD hW; go_simp; try with_reducible rfl)); simp only [Act.put, List.setIfInBounds_toArray, List.set_cons_zero, List.set_cons_succ, Nat.reduceAdd, Nat.zero_add])
              refine calm_nil fun W hW hF => ?_
              obtain ⟨⟨z0, z1, z2, z3, z4⟩, y0, y1, y2, y3, y4⟩ := HQ.out W hW
              have HOW : Hid (OwnK cardK w1.heap.size W (.slice ta tn tc) (outP l c k)) := HO.out.kept hW (fun g h => by cases h)
              have HBW : Hid (Below w1.heap.size w1 W) := HB.out.trans ((grown_below hW).mono HB.out.size)
              have HA1 : Hid (OwnK cardK w1.heap.size (W.alloc (.cells (cardR x) 35)) (.slice ta tn tc) (outP l c k)) := HOW.out.kept (World.grownBy_alloc _ _ none) (fun g h => by cases h)
              have HA2 : Hid (RowsAt cardK (W.heap.size + 1) (W.alloc (.cells (cardR x) 35)) (.slice (some ⟨W.heap.size, 0, none⟩) 1 1) [x]) := by
                have h := (ownK_lit cardOk W [x] (cardR x) rfl (by simp)).rows cardOk
                rw [World.size_alloc] at h
                exact h
              have HA3 : Hid (w1.heap.size ≤ (W.alloc (.cells (cardR x) 35)).heap.size) := by show _ ≤ _; rw [World.size_alloc]; have := HBW.out.size; omega
              clear hF hW HQ HO HB
              go_wp2_with (at_builtin; refine append_K3 cardOk rfl _ _ rfl w1.heap.size _ _ _ (outP l c k) [x] rfl rfl HA1.out HA2.out (by have := HLen.out; simp; omega) HA3.out ?_; intro v' w7 ho7 hg7 hr7)
              have HB7 : Hid (Below w1.heap.size w1 w7) := (HBW.out.alloc HBW.out.size _).grown hg7 HA3.out (fun j hj => (World.ownsRow.lt HA1.out j hj).1)
              rw [← HNx.out] at ho7
              obtain ⟨za, zc, hv7, _, _⟩ := ho7.shape
              subst hv7
              have HO7 := Lib.hid ho7
              clear ho7 hg7 hr7
              go_roundw
              case rel => exact ⟨k + 1, _, by omega, by go_num, rfl, HBn, ⟨_, _, _, rfl⟩, HO7, HB7⟩
              case measure => simp [intOf]; omega
            | false =>
              have hpk : k ≤ p := by have := HBd.out; simp at this; omega
              obtain ⟨tb, htb⟩ : ∃ tb, tb = decide (p ≤ k) := ⟨_, rfl⟩
              have HTb := Lib.hid htb
              clear htb
              go_wp2
              refine wp_region_calm ⟨[8], fun _ v _ => v = .bool tb, fun _ => [], 99, none, 1000⟩ (by kernel_rfl) (by kernel_rfl) (by kernel_rfl) (fun g h => by cases h) (fun k hk v W W' r h hg hc => h) ?_
              iterate 8 (refine calm_quiet (v := ?_) (by rfl) (by rfl) (fun W hW hD => ?_) ?_; rotate_left; (· (obtain ⟨⟨z0, z1, z2, z3, z4⟩, y0, y1, y2, y3, y4⟩ := HQ.out W hW; clear hD hW; go_simp; try with_reducible rfl)); simp only [Act.put, List.setIfInBounds_toArray, List.set_cons_zero, List.set_cons_succ, Nat.reduceAdd, Nat.zero_add])
              refine calm_makes (by rfl) (by rfl) (fun W hW hD Kc hK => ?_) (fun v39 => ?_)
              · refine wp_of_call (f := 39) ?_ ((before_any c x W).mono ?_)
                · clear hD hW hK
                  go_simp
                · rintro e w5 ⟨rfl, hb5⟩
                  exact ⟨_, rfl, hK _ _ (made_plain (by show _ = _; rw [HBf.out, HTb.out]; rfl) hb5 rfl)⟩
              simp only [Act.put, List.setIfInBounds_toArray, List.set_cons_zero, List.set_cons_succ, Nat.reduceAdd, Nat.zero_add]
              refine calm_quiet (v := .bool tb) (by rfl) (by rfl) (fun W hW hD => ?_) ?_
              · obtain rfl : v39 = .bool tb := hD [] 8 (by kernel_rfl) (by kernel_rfl) (by kernel_rfl)
                clear hD hW
                go_simp
              simp only [Act.put, List.setIfInBounds_toArray, List.set_cons_zero, List.set_cons_succ, Nat.reduceAdd, Nat.zero_add]
              refine calm_nil fun W hW hF => ?_
              obtain rfl : v39 = .bool tb := hF 8 (by kernel_rfl) (by kernel_rfl)
              cases tb with
              | false =>
                have hkp : k < p := by have := HTb.out; simp at this; omega
                have HNx : Hid (outP l c (k + 1) = outP l c k ++ [x]) := by show _ = _; rw [HXx.out]; exact outP_before (by rw [HN.out]; exact hlt) (by rw [← HPl.out]; exact hkp)
                have HBn : Hid (false = decide (p < k + 1)) := by show _ = _; simp; omega
                obtain ⟨⟨z0, z1, z2, z3, z4⟩, y0, y1, y2, y3, y4⟩ := HQ.out W hW
                have HOW : Hid (OwnK cardK w1.heap.size W (.slice ta tn tc) (outP l c k)) := HO.out.kept hW (fun g h => by cases h)
                have HBW : Hid (Below w1.heap.size w1 W) := HB.out.trans ((grown_below hW).mono HB.out.size)
                have HA1 : Hid (OwnK cardK w1.heap.size (W.alloc (.cells (cardR x) 35)) (.slice ta tn tc) (outP l c k)) := HOW.out.kept (World.grownBy_alloc _ _ none) (fun g h => by cases h)
                have HA2 : Hid (RowsAt cardK (W.heap.size + 1) (W.alloc (.cells (cardR x) 35)) (.slice (some ⟨W.heap.size, 0, none⟩) 1 1) [x]) := by
                  have h := (ownK_lit cardOk W [x] (cardR x) rfl (by simp)).rows cardOk
                  rw [World.size_alloc] at h
                  exact h
                have HA3 : Hid (w1.heap.size ≤ (W.alloc (.cells (cardR x) 35)).heap.size) := by show _ ≤ _; rw [World.size_alloc]; have := HBW.out.size; omega
                clear hF hW HQ HO HB
                go_wp2_with (at_builtin; refine append_K3 cardOk rfl _ _ rfl w1.heap.size _ _ _ (outP l c k) [x] rfl rfl HA1.out HA2.out (by have := HLen.out; simp; omega) HA3.out ?_; intro v' w7 ho7 hg7 hr7)
                have HB7 : Hid (Below w1.heap.size w1 w7) := (HBW.out.alloc HBW.out.size _).grown hg7 HA3.out (fun j hj => (World.ownsRow.lt HA1.out j hj).1)
                rw [← HNx.out] at ho7
                obtain ⟨za, zc, hv7, _, _⟩ := ho7.shape
                subst hv7
                have HO7 := Lib.hid ho7
                clear ho7 hg7 hr7
                go_roundw
                case rel => exact ⟨k + 1, _, by omega, by go_num, rfl, HBn, ⟨_, _, _, rfl⟩, HO7, HB7⟩
                case measure => simp [intOf]; omega
              | true =>
                obtain rfl : k = p := by have := HTb.out; simp at this; omega
                have HNx : Hid (outP l c (k + 1) = outP l c k ++ [c] ++ [x]) := by show _ = _; rw [HXx.out]; exact outP_at (by rw [HN.out]; exact hlt) HPl.out
                have HBn : Hid (true = decide (k < k + 1)) := by show _ = _; simp
                obtain ⟨⟨z0, z1, z2, z3, z4⟩, y0, y1, y2, y3, y4⟩ := HQ.out W hW
                have HOW : Hid (OwnK cardK w1.heap.size W (.slice ta tn tc) (outP l c k)) := HO.out.kept hW (fun g h => by cases h)
                have HBW : Hid (Below w1.heap.size w1 W) := HB.out.trans ((grown_below hW).mono HB.out.size)
                have HA1 : Hid (OwnK cardK w1.heap.size (W.alloc (.cells (cardR c) 35)) (.slice ta tn tc) (outP l c k)) := HOW.out.kept (World.grownBy_alloc _ _ none) (fun g h => by cases h)
                have HAr : Hid (∀ (d : ICard) (W : World), RowsAt cardK (W.heap.size + 1) (W.alloc (.cells (cardR d) 35)) (.slice (some ⟨W.heap.size, 0, none⟩) 1 1) [d]) := fun d W => by
                  have h := (ownK_lit cardOk W [d] (cardR d) rfl (by simp)).rows cardOk
                  rw [World.size_alloc] at h
                  exact h
                have HA3 : Hid (w1.heap.size ≤ (W.alloc (.cells (cardR c) 35)).heap.size) := by show _ ≤ _; rw [World.size_alloc]; have := HBW.out.size; omega
                have HQ7 : Hid (∀ w7, Below w1.heap.size w1 w7 → w7.cell? ⟨gb, off + k * 5, none⟩ = some (.int .i64 x.id) ∧ w7.cell? ⟨gb, off + k * 5 + 1, none⟩ = some (.int .i64 x.unit) ∧ w7.cell? ⟨gb, off + k * 5 + 2, none⟩ = some (.int .i64 x.kind) ∧ w7.cell? ⟨gb, off + k * 5 + 3, none⟩ = some (.int .i64 x.beg) ∧ w7.cell? ⟨gb, off + k * 5 + 4, none⟩ = some (.int .i64 x.fin)) := fun w7 hb7 => by
                  have hrw := (HR1.out.mono (Nat.le_of_lt HW1.out)).below hb7 (Nat.le_refl _)
                  obtain ⟨b', o', he, _, hat⟩ := cards_at hrw k x (by rw [HXx.out, List.getD_eq_getElem?_getD, List.getElem?_eq_getElem (by rw [HN.out]; exact hlt)]; rfl)
                  cases he
                  exact hat
                clear hF hW HQ HO HB
                go_wp2_with (first
                  | (at_builtin; refine append_K3 cardOk rfl _ _ rfl w1.heap.size _ _ _ (outP l c k ++ [c]) [x] rfl rfl (HO7.out.kept (World.grownBy_alloc _ _ none) (fun g h => by cases h)) (HAr.out x w7) (by have := HLen.out; simp; omega) (by have := HB7.out.size; simp; omega) ?_; intro v8 w8 ho8 hg8 hr8)
                  | (at_builtin; refine append_K3 cardOk rfl _ _ rfl w1.heap.size _ _ _ (outP l c k) [c] rfl rfl HA1.out (HAr.out c W) (by have := HLen.out; simp; omega) HA3.out ?_; intro v7 w7 ho7 hg7 hr7; have HB7 : Hid (Below w1.heap.size w1 w7) := (HBW.out.alloc HBW.out.size _).grown hg7 HA3.out (fun j hj => (World.ownsRow.lt HA1.out j hj).1); obtain ⟨za, zc, hv7, _, _⟩ := ho7.shape; subst hv7; generalize (outP l c k ++ [c]).length = n7 at *; have HO7 := Lib.hid ho7; obtain ⟨q0, q1, q2, q3, q4⟩ := HQ7.out w7 HB7.out))
                have HO7' : OwnK cardK w1.heap.size (w7.alloc (.cells (cardR x) 35)) _ (outP l c k ++ [c]) := HO7.out.kept (World.grownBy_alloc _ _ none) (fun g h => by cases h)
                have HB8 : Hid (Below w1.heap.size w1 w8) := (HB7.out.alloc HB7.out.size _).grown hg8 (by have := HB7.out.size; simp; omega) (fun j hj => (World.ownsRow.lt HO7' j hj).1)
                rw [← HNx.out] at ho8
                obtain ⟨zb, zd, hv8, _, _⟩ := ho8.shape
                subst hv8
                have HO8 := Lib.hid ho8
                clear ho8 hg8 hr8 HO7'
                go_roundw
                case rel => exact ⟨k + 1, _, by omega, by go_num, rfl, HBn, ⟨_, _, _, rfl⟩, HO8, HB8⟩
                case measure => simp [intOf]; omega
          · obtain rfl : k = n := by omega
            have kk : ¬ ((k : Int) < (k : Int)) := by omega
            have HBe : Hid (Below w.heap.size w wr) := HB1.out.trans (HB.out.mono HB1.out.size)
            cases b with
            | true =>
              have hpk : p < k := by have := HBd.out; simpa using this.symm
              have HF2 : Hid (RowsAt cardK wr.heap.size wr (.slice ta tn tc) (insC l c)) := by
                have h := HO.out.rows cardOk
                have he : outP l c k = insC l c := by rw [← HN.out]; exact outP_end (by rw [← HPl.out, HN.out]; exact hpk)
                rwa [he] at h
              have HG : Hid (∀ g, (Value.slice ta tn tc).ownBlock = some g → w.heap.size ≤ g ∧ g < wr.heap.size) := fun g hg => ⟨Nat.le_trans HB1.out.size (World.ownsRow.lt HO.out g hg).1, (World.ownsRow.lt HO.out g hg).2⟩
              clear hlt hk HO hpk
              go_wp2
              go_ret2
              exact ⟨_, by rw [HP.out]; rfl, by rw [HP.out]; exact HF2.out, HBe.out, fun g h => .inr (HG.out g h)⟩
            | false =>
              have hpk : k ≤ p := by have := HBd.out; simp at this; omega
              obtain ⟨y0, y1, y2, y3, y4⟩ := CardN.cells (BoxN.below HX1.out HB.out HW1.out)
              have HE : Hid (outP l c k ++ [c] = insC l c) := by show _ = _; rw [← HN.out]; exact outP_last (by rw [← HPl.out, HN.out]; omega)
              have HLen : Hid ((outP l c k).length ≤ 501) := by show _ ≤ _; have := outP_len l c k; rw [HN.out] at this; omega
              have HA1 : Hid (OwnK cardK w1.heap.size (wr.alloc (.cells (cardR c) 35)) (.slice ta tn tc) (outP l c k)) := HO.out.kept (World.grownBy_alloc _ _ none) (fun g h => by cases h)
              have HA2 : Hid (RowsAt cardK (wr.heap.size + 1) (wr.alloc (.cells (cardR c) 35)) (.slice (some ⟨wr.heap.size, 0, none⟩) 1 1) [c]) := by
                have h := (ownK_lit cardOk wr [c] (cardR c) rfl (by simp)).rows cardOk
                rw [World.size_alloc] at h
                exact h
              have HA3 : Hid (w1.heap.size ≤ (wr.alloc (.cells (cardR c) 35)).heap.size) := by show _ ≤ _; rw [World.size_alloc]; have := HB.out.size; omega
              clear hlt hk HO
              go_wp2_with (at_builtin; refine append_K3 cardOk rfl _ _ rfl w1.heap.size _ _ _ (outP l c k) [c] rfl rfl HA1.out HA2.out (by have := HLen.out; simp; omega) HA3.out ?_; intro v' w7 ho7 hg7 hr7)
              have HB7 : Hid (Below w.heap.size w w7) := HB1.out.trans (((HB.out.alloc HB.out.size _).grown hg7 HA3.out (fun j hj => (World.ownsRow.lt HA1.out j hj).1)).mono HB1.out.size)
              rw [HE.out] at ho7
              have HG : Hid (∀ g, v'.ownBlock = some g → w.heap.size ≤ g ∧ g < w7.heap.size) := fun g hg => ⟨Nat.le_trans HB1.out.size (World.ownsRow.lt ho7 g hg).1, (World.ownsRow.lt ho7 g hg).2⟩
              have HF2 := Lib.hid (ho7.rows cardOk)
              clear ho7 hg7 hr7
              go_ret2
              exact ⟨_, by rw [HP.out]; rfl, by rw [HP.out]; exact HF2.out, HB7.out, fun g h => .inr (HG.out g h)⟩

end Go.Proofs.YtcgopilkajfghaaGreatDoor
