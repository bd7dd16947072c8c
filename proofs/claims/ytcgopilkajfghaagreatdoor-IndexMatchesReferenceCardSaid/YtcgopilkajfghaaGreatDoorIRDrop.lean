/- The reference's Drop. -/
import Derived.Test.YtcgopilkajfghaaGreatDoorIRPut
set_option linter.unusedVariables false
set_option linter.unusedSimpArgs false
namespace Go.Proofs.YtcgopilkajfghaaGreatDoor
open Go.RowKit Go.Shelf

/-- The card with an ID stands at its place. -/
theorem findI_place {l : List ICard} {id : Int} {c : ICard} (h : IOk l) (hf : findC l id = some c) : findI l id = (placeC l c : Nat) := by
  obtain ⟨hm, rfl⟩ := findC_some hf
  obtain ⟨hp, he⟩ := place_at h hm
  refine findI_some hp (fun j hj => ?_) ?_
  · rw [List.getD_eq_getElem?_getD, List.getElem?_eq_getElem (by omega)]
    have := List.pairwise_iff_getElem.1 h.ids j (placeC l c) (by omega) hp hj
    rw [he] at this
    exact this
  · rw [List.getD_eq_getElem?_getD, List.getElem?_eq_getElem hp]
    show l[placeC l c].id = c.id
    rw [he]
/-! ### The walk. -/
set_option maxRecDepth 100000 in
set_option maxHeartbeats 2000000 in
theorem rdrop_any (v : Value) (l : List ICard) (id : Int) (w : World) (h : RowsAt cardK w.heap.size w v l) (hok : IOk l) :
    Calls Tryz.prog 11 #[v, .int .i64 id] w fun e w' => ∃ v', e = .returned (.tuple #[v', .int .i64 (dropL l id).2]) ∧ RowsAt cardK w'.heap.size w' v' (dropL l id).1 ∧ Below w.heap.size w w' ∧ ∀ g, v'.ownBlock = some g → v.ownBlock = some g ∨ (w.heap.size ≤ g ∧ g < w'.heap.size) := by
  obtain ⟨oa, oc, rfl, hlc, hcm⟩ := h.shape
  unfold maxLen at hcm
  have hfew := hok.few
  have HR := Lib.hid h
  have HF := Lib.hid (rfind_any _ l id w h (by omega))
  cases hf : findC l id with
  | none =>
    have HP : Hid (dropL l id = (l, 420)) := by show _ = _; unfold dropL; rw [hf]
    rw [find_neg hf] at HF
    clear h hok hf
    generalize hn : l.length = n at *
    have HN := Lib.hid hn
    clear hn
    go_enter Tryz.func11, Tryz.ntmps11
    go_wp2_with fail
    refine HF.out.mono ?_
    rintro e w ⟨rfl, rfl⟩
    go_wp2
    go_ret2
    exact ⟨_, by rw [HP.out]; rfl, by rw [HP.out]; exact HR.out, Below.refl _ _, fun g h => .inl h⟩
  | some c =>
    have HP : Hid (dropL l id = (delC l c, 0)) := by show _ = _; unfold dropL; rw [hf]
    rw [findI_place hok hf] at HF
    have hm := (findC_some hf).1
    obtain ⟨hp, hpe⟩ := place_at hok hm
    obtain ⟨p, hpl⟩ : ∃ p, p = placeC l c := ⟨_, rfl⟩
    have HDel : Hid (delC l c = l.take p ++ l.drop (p + 1)) := by show _ = _; rw [hpl]; rfl
    rw [← hpl] at HF hp
    obtain ⟨gb, off, hae, hgb, _⟩ := cards_at h p (l.getD p default) (by rw [List.getD_eq_getElem?_getD, List.getElem?_eq_getElem hp]; rfl)
    subst hae
    clear hpe hm hf hpl h hok
    generalize hn : l.length = n at *
    have HN := Lib.hid hn
    clear hn
    have p0 : 0 ≤ (p : Int) := by omega
    have p1 : (p : Int) ≤ (oc : Int) := by omega
    have p2 : (p : Int) + 1 ≤ (n : Int) := by omega
    have wp : IntKind.i64.wrap ((p : Int) + 1) = (p : Int) + 1 := IntWalk.i64_in _ (by omega)
    go_enter Tryz.func11, Tryz.ntmps11
    go_wp2_with fail
    refine HF.out.mono ?_
    rintro e w ⟨rfl, rfl⟩
    go_wp2
    refine wp_region_calm ⟨[0, 4, 9], fun q v W => if q = 0 then OwnK cardK w.heap.size W v [] else if q = 4 then OwnK cardK w.heap.size W v (l.take p) else OwnK cardK w.heap.size W v (l.take p ++ l.drop (p + 1)), fun i => if i = 4 then [0] else if i = 9 then [4] else [], 99, none, 1000⟩ (by kernel_rfl) (by kernel_rfl) (by kernel_rfl) (fun g h => by cases h) (fun q hq v W W' r h hg hc => ?_) ?_
    · have key : ∀ L, OwnK cardK w.heap.size W v L → OwnK cardK w.heap.size W' v L := fun L h => h.kept hg (fun g hh => (hc g hh).1)
      by_cases h0 : q = 0
      · simp only [h0, if_true] at h ⊢; exact key _ h
      · by_cases h4 : q = 4
        · simp only [h4] at h ⊢; exact key _ h
        · simp only [h0, h4, if_false] at h ⊢; exact key _ h
    refine calm_makes (by rfl) (by rfl) (fun W hW hD Kc hK => ?_) (fun v13 => ?_)
    · refine wp_of_run (v := .slice (some ⟨W.heap.size, 0, none⟩) 0 0) (w' := W.alloc (.cells #[] 35)) ?_ (hK _ _ (made_below (by show OwnK cardK w.heap.size _ (.slice (some ⟨W.heap.size, 0, none⟩) 0 0) []; exact (ownK_lit0 (K := cardK) W).mono hW.size) ((Below.refl _ _).alloc (Nat.le_refl _) _) (fun g hg => ?_)))
      · clear hD hW hK
        go_simp
      · have hg' : some W.heap.size = some g := hg
        injection hg' with hg'
        subst hg'
        exact ⟨Nat.le_refl _, by simp⟩
    simp only [Act.put, List.setIfInBounds_toArray, List.set_cons_zero, List.set_cons_succ, Nat.reduceAdd, Nat.zero_add]
    iterate 3 (refine calm_quiet (v := ?_) (by rfl) (by rfl) (fun W hW hD => ?_) ?_; rotate_left; (· (clear hD hW; go_simp; try with_reducible rfl)); simp only [Act.put, List.setIfInBounds_toArray, List.set_cons_zero, List.set_cons_succ, Nat.reduceAdd, Nat.zero_add])
    refine calm_makes (by rfl) (by rfl) (fun W hW hD Kc hK => ?_) (fun v17 => ?_)
    · have h0 : OwnK cardK w.heap.size W v13 [] := hD [] 0 (by kernel_rfl) (by kernel_rfl) (by kernel_rfl)
      have hr := (HR.out.below (grown_below hW) (Nat.le_refl _)).take p oc (by rw [HN.out]; omega) (by omega) (by unfold maxLen; omega)
      exact wp_append_K cardOk (.tmp 13) (.tmp 16) rfl w.heap.size _ v13 _ [] (l.take p) rfl rfl h0 hr (by rw [List.length_take]; simp; omega) hW.size (fun v' w' h1 h2 h3 => hK _ _ (made_grown (j := 0) (u := v13) (by kernel_rfl) rfl (show OwnK cardK w.heap.size w' v' (l.take p) from h1) h2 (fun g hg => ⟨(World.ownsRow.lt h1 g hg).2, grown_own h3 hg⟩)))
    simp only [Act.put, List.setIfInBounds_toArray, List.set_cons_zero, List.set_cons_succ, Nat.reduceAdd, Nat.zero_add]
    iterate 3 (refine calm_quiet (v := ?_) (by rfl) (by rfl) (fun W hW hD => ?_) ?_; rotate_left; (· (clear hD hW; go_simp; try with_reducible rfl)); simp only [Act.put, List.setIfInBounds_toArray, List.set_cons_zero, List.set_cons_succ, Nat.reduceAdd, Nat.zero_add])
    refine calm_quiet (v := .slice (if oc = p + 1 then some ⟨gb, off, none⟩ else some ⟨gb, off + (p + 1) * 5, none⟩) (n - (p + 1)) (oc - (p + 1))) (by rfl) (by rfl) (fun W hW hD => ?_) ?_
    · have q1 : ((p : Int) + 1).toNat = p + 1 := by omega
      have q2 : 0 ≤ (p : Int) + 1 := by omega
      clear hD hW
      by_cases hoc : oc = p + 1
      · go_simp
      · go_simp
    simp only [Act.put, List.setIfInBounds_toArray, List.set_cons_zero, List.set_cons_succ, Nat.reduceAdd, Nat.zero_add]
    refine calm_makes (by rfl) (by rfl) (fun W hW hD Kc hK => ?_) (fun v22 => ?_)
    · have h4 : OwnK cardK w.heap.size W v17 (l.take p) := hD [] 4 (by kernel_rfl) (by kernel_rfl) (by kernel_rfl)
      have hr : RowsAt cardK w.heap.size W (.slice (if oc = p + 1 then some ⟨gb, off, none⟩ else some ⟨gb, off + (p + 1) * 5, none⟩) (n - (p + 1)) (oc - (p + 1))) (l.drop (p + 1)) := by
        have hb := HR.out.below (grown_below hW) (Nat.le_refl _)
        by_cases hoc : oc = p + 1
        · have hz : l.drop (p + 1) = [] := List.drop_of_length_le (by rw [HN.out]; omega)
          rw [if_pos hoc, hz, show n - (p + 1) = 0 by omega]
          exact RowsAt.empty _ _ (by unfold maxLen; omega)
        · rw [if_neg hoc]
          exact hb.drop (p + 1) (by rw [HN.out]; omega)
      exact wp_append_K cardOk (.tmp 17) (.tmp 21) rfl w.heap.size _ v17 _ (l.take p) (l.drop (p + 1)) rfl rfl h4 hr (by rw [List.length_take, List.length_drop]; have := HN.out; omega) hW.size (fun v' w' h1 h2 h3 => hK _ _ (made_grown (j := 4) (u := v17) (by kernel_rfl) rfl (show OwnK cardK w.heap.size w' v' (l.take p ++ l.drop (p + 1)) from h1) h2 (fun g hg => ⟨(World.ownsRow.lt h1 g hg).2, grown_own h3 hg⟩)))
    simp only [Act.put, List.setIfInBounds_toArray, List.set_cons_zero, List.set_cons_succ, Nat.reduceAdd, Nat.zero_add]
    iterate 2 (refine calm_quiet (v := ?_) (by rfl) (by rfl) (fun W hW hD => ?_) ?_; rotate_left; (· (clear hD hW; go_simp; try with_reducible rfl)); simp only [Act.put, List.setIfInBounds_toArray, List.set_cons_zero, List.set_cons_succ, Nat.reduceAdd, Nat.zero_add])
    refine calm_nil fun W hW hF => ?_
    have h9 : OwnK cardK w.heap.size W v22 (l.take p ++ l.drop (p + 1)) := hF 9 (by kernel_rfl) (by kernel_rfl)
    rw [← HDel.out] at h9
    have HO := Lib.hid (h9.rows cardOk)
    have HG : Hid (∀ g, v22.ownBlock = some g → w.heap.size ≤ g ∧ g < W.heap.size) := fun g hg => World.ownsRow.lt h9 g hg
    have HB := Lib.hid (grown_below hW)
    clear hF hW h9
    go_wp2
    all_goals
      go_ret2
      exact ⟨_, by rw [HP.out]; rfl, by rw [HP.out]; exact HO.out, HB.out, fun g h => .inr (HG.out g h)⟩
end Go.Proofs.YtcgopilkajfghaaGreatDoor
