import Derived.Test.YteicimmdcdjagaaGreatDoorVCmp
set_option linter.unusedVariables false
set_option linter.unusedSimpArgs false

/- view: areNotes, Valid. -/
set_option linter.unusedVariables false
set_option linter.unusedSimpArgs false
namespace Go.Proofs.YteicimmdcdjagaaGreatDoor
open Go.RowKit Go.Shelf

set_option maxHeartbeats 8000000 in
set_option maxRecDepth 100000 in
theorem areNotes_any (nv : Value) (l : List VNote) (w : World) (h : RowsAt noteK w.heap.size w nv l) (hl : l.length ≤ 1000000) :
    Calls Tryz.prog 50 #[nv] w fun e w' => e = .returned (.bool (notesB l)) ∧ Below w.heap.size w w' := by
  obtain ⟨a, c, rfl, hlc, hcm⟩ := h.shape
  unfold maxLen at hcm
  have HL := Lib.hid h
  clear h
  generalize hn : l.length = n at *
  have HN := Lib.hid hn
  clear hn
  go_enter Tryz.func50, Tryz.ntmps50
  go_wp2
  go_loopw [7] (fun i wr => ∃ k : Nat, k ≤ n ∧ i = .int .i64 k ∧ Hid (goodTo l k = true) ∧ Hid (Below w.heap.size w wr)) (fun i _ => n - (intOf i).toNat)
  case atStart => exact ⟨0, Nat.zero_le _, rfl, Lib.hid rfl, Lib.hid (Below.refl _ _)⟩
  case round =>
    obtain ⟨k, hk, rfl, HG, HW⟩ := hrel
    by_cases h1 : k < n
    · have ji : (k : Int) < (n : Int) := by omega
      have j0 : 0 ≤ (k : Int) := by omega
      obtain ⟨x, hx⟩ : ∃ x, x = l.getD k default := ⟨_, rfl⟩
      obtain ⟨y, hy⟩ : ∃ y, y = l.getD (k - 1) default := ⟨_, rfl⟩
      have hget : ∀ j, j < n → l[j]? = some (l.getD j default) := fun j hj => by rw [List.getD_eq_getElem?_getD, List.getElem?_eq_getElem (by rw [HN.out]; exact hj)]; rfl
      have hLw := HL.out.later HW.out (Nat.le_refl _)
      obtain ⟨b, off, hae, hb, hat⟩ := notes_at hLw k x (by rw [hx]; exact hget k h1)
      subst hae
      obtain ⟨p0, p1, p2, p3⟩ := hat
      obtain ⟨V, hV⟩ : ∃ V, V = wr.alloc (.cells (noteR x) 48) := ⟨_, rfl⟩
      have hbV : Below wr.heap.size wr V := by rw [hV]; exact (Below.refl _ _).alloc (Nat.le_refl _) _
      have hbx : BoxN wr.heap.size 48 (noteR x) V := by rw [hV]; exact box_new _ _ _
      have HQ : Hid (∀ W, V.grownBy W none → (W.cell? ⟨wr.heap.size, 0, none⟩ = some (.int .i64 x.unit) ∧ W.cell? ⟨wr.heap.size, 1, none⟩ = some (.int .i64 x.day) ∧ W.cell? ⟨wr.heap.size, 2, none⟩ = some (.int .i64 x.kind) ∧ W.cell? ⟨wr.heap.size, 3, none⟩ = some (.string (bs x.text))) ∧ (W.cell? ⟨b, off + (k - 1) * 4, none⟩ = some (.int .i64 y.unit) ∧ W.cell? ⟨b, off + (k - 1) * 4 + 1, none⟩ = some (.int .i64 y.day) ∧ W.cell? ⟨b, off + (k - 1) * 4 + 2, none⟩ = some (.int .i64 y.kind) ∧ W.cell? ⟨b, off + (k - 1) * 4 + 3, none⟩ = some (.string (bs y.text)))) := fun W hW =>
        ⟨NoteN.cells (keep_note hbx W (grown_below hW)), notes_el (hLw.later (hbV.trans ((grown_below hW).mono hbV.size)) (Nat.le_refl _)) (k - 1) y (by rw [hy]; exact hget (k - 1) (by omega))⟩
      have HB := Lib.hid (HW.out.trans (hbV.mono HW.out.size))
      have HVv := Lib.hid hV
      have HX : Hid ((goodTo l k && noteB (l.getD k default) && (k == 0 || ltN (l.getD (k - 1) default) (l.getD k default))) = (noteB x && (k == 0 || ltN y x))) := by show _ = _; rw [HG.out, Bool.true_and, ← hx, ← hy]
      have HNb : Hid (noteB x = (inZ x.unit 0 99 && inZ x.day 0 800000 && inZ x.kind 1 20 && decide (x.text.length ≤ 100))) := rfl
      have hsz := bs_size x.text
      clear hV hbV hbx hLw hx hy hget HW HG
      cases d0 : inZ x.unit 0 99
      · have HF : Hid (notesB l = false) := by show _ = _; exact goodTo_no (k := k + 1) (by rw [HN.out]; omega) (by unfold goodTo; rw [HX.out]; rw [HNb.out, d0]; simp)
        clear HNb HX hsz
        go_wp2
        rw [← HVv.out]
        refine wp_region_calm ⟨[2], fun k v _ => if k = 2 then v = .bool false else True, fun _ => [], 99, none, 1000⟩ (by kernel_rfl) (by kernel_rfl) (by kernel_rfl) (fun g h => by cases h) (fun k hk v W W' c h hg hc => h) ?_
        iterate 2 (refine calm_quiet (v := ?_) (by rfl) (by rfl) (fun W hW hD => ?_) ?_; rotate_left; (· (obtain ⟨z0, z1, z2, z3⟩ := (HQ.out W hW).1; clear hD hW; go_simp; try with_reducible rfl)); simp only [Act.put, List.setIfInBounds_toArray, List.set_cons_zero, List.set_cons_succ, Nat.reduceAdd, Nat.zero_add])
        refine calm_makes (by rfl) (by rfl) (fun W hW hD Kc hK => ?_) (fun v14 => ?_)
        · refine wp_of_call (f := 39) ?_ ((visIn_eq d0 W).mono ?_)
          · clear hD hW hK
            go_simp
          · rintro e w5 ⟨rfl, rfl⟩
            exact ⟨_, rfl, hK _ _ (made_plain (by show _ = _; first | rfl | simp) (Below.refl _ _) rfl)⟩
        simp only [Act.put, List.setIfInBounds_toArray, List.set_cons_zero, List.set_cons_succ, Nat.reduceAdd, Nat.zero_add]
        refine calm_quiet (v := .bool true) (by rfl) (by rfl) (fun W hW hD => ?_) ?_
        · obtain rfl : v14 = .bool false := hD [] 2 (by kernel_rfl) (by kernel_rfl) (by kernel_rfl)
          clear hD hW
          go_simp
        simp only [Act.put, List.setIfInBounds_toArray, List.set_cons_zero, List.set_cons_succ, Nat.reduceAdd, Nat.zero_add]
        iterate 1 (refine calm_quiet (v := ?_) (by rfl) (by rfl) (fun W hW hD => ?_) ?_; rotate_left; (· (clear hD hW; go_simp; try with_reducible rfl)); simp only [Act.put, List.setIfInBounds_toArray, List.set_cons_zero, List.set_cons_succ, Nat.reduceAdd, Nat.zero_add])
        iterate 4 (refine calm_skip (by rfl) (by rfl) ?_; simp only [Act.put, List.setIfInBounds_toArray, List.set_cons_zero, List.set_cons_succ, Nat.reduceAdd, Nat.zero_add])
        iterate 2 (refine calm_quiet (v := ?_) (by rfl) (by rfl) (fun W hW hD => ?_) ?_; rotate_left; (· (clear hD hW; go_simp; try with_reducible rfl)); simp only [Act.put, List.setIfInBounds_toArray, List.set_cons_zero, List.set_cons_succ, Nat.reduceAdd, Nat.zero_add])
        iterate 4 (refine calm_skip (by rfl) (by rfl) ?_; simp only [Act.put, List.setIfInBounds_toArray, List.set_cons_zero, List.set_cons_succ, Nat.reduceAdd, Nat.zero_add])
        iterate 2 (refine calm_quiet (v := ?_) (by rfl) (by rfl) (fun W hW hD => ?_) ?_; rotate_left; (· (clear hD hW; go_simp; try with_reducible rfl)); simp only [Act.put, List.setIfInBounds_toArray, List.set_cons_zero, List.set_cons_succ, Nat.reduceAdd, Nat.zero_add])
        iterate 4 (refine calm_skip (by rfl) (by rfl) ?_; simp only [Act.put, List.setIfInBounds_toArray, List.set_cons_zero, List.set_cons_succ, Nat.reduceAdd, Nat.zero_add])
        iterate 2 (refine calm_quiet (v := ?_) (by rfl) (by rfl) (fun W hW hD => ?_) ?_; rotate_left; (· (clear hD hW; go_simp; try with_reducible rfl)); simp only [Act.put, List.setIfInBounds_toArray, List.set_cons_zero, List.set_cons_succ, Nat.reduceAdd, Nat.zero_add])
        iterate 12 (refine calm_skip (by rfl) (by rfl) ?_; simp only [Act.put, List.setIfInBounds_toArray, List.set_cons_zero, List.set_cons_succ, Nat.reduceAdd, Nat.zero_add])
        iterate 1 (refine calm_quiet (v := ?_) (by rfl) (by rfl) (fun W hW hD => ?_) ?_; rotate_left; (· (clear hD hW; go_simp; try with_reducible rfl)); simp only [Act.put, List.setIfInBounds_toArray, List.set_cons_zero, List.set_cons_succ, Nat.reduceAdd, Nat.zero_add])
        refine calm_nil fun W hW hF => ?_
        have HBf := Lib.hid (HB.out.trans ((grown_below hW).mono HB.out.size))
        clear hF hW HQ
        go_wp2
        go_ret
        exact ⟨by rw [HF.out]; rfl, HBf.out⟩
      cases d1 : inZ x.day 0 800000
      · have HF : Hid (notesB l = false) := by show _ = _; exact goodTo_no (k := k + 1) (by rw [HN.out]; omega) (by unfold goodTo; rw [HX.out]; rw [HNb.out, d1]; simp)
        clear HNb HX hsz
        go_wp2
        rw [← HVv.out]
        refine wp_region_calm ⟨[2, 7], fun k v _ => if k = 2 then v = .bool true else if k = 7 then v = .bool false else True, fun _ => [], 99, none, 1000⟩ (by kernel_rfl) (by kernel_rfl) (by kernel_rfl) (fun g h => by cases h) (fun k hk v W W' c h hg hc => h) ?_
        iterate 2 (refine calm_quiet (v := ?_) (by rfl) (by rfl) (fun W hW hD => ?_) ?_; rotate_left; (· (obtain ⟨z0, z1, z2, z3⟩ := (HQ.out W hW).1; clear hD hW; go_simp; try with_reducible rfl)); simp only [Act.put, List.setIfInBounds_toArray, List.set_cons_zero, List.set_cons_succ, Nat.reduceAdd, Nat.zero_add])
        refine calm_makes (by rfl) (by rfl) (fun W hW hD Kc hK => ?_) (fun v14 => ?_)
        · refine wp_of_call (f := 39) ?_ ((visIn_eq d0 W).mono ?_)
          · clear hD hW hK
            go_simp
          · rintro e w5 ⟨rfl, rfl⟩
            exact ⟨_, rfl, hK _ _ (made_plain (by show _ = _; first | rfl | simp) (Below.refl _ _) rfl)⟩
        simp only [Act.put, List.setIfInBounds_toArray, List.set_cons_zero, List.set_cons_succ, Nat.reduceAdd, Nat.zero_add]
        refine calm_quiet (v := .bool false) (by rfl) (by rfl) (fun W hW hD => ?_) ?_
        · obtain rfl : v14 = .bool true := hD [] 2 (by kernel_rfl) (by kernel_rfl) (by kernel_rfl)
          clear hD hW
          go_simp
        simp only [Act.put, List.setIfInBounds_toArray, List.set_cons_zero, List.set_cons_succ, Nat.reduceAdd, Nat.zero_add]
        iterate 1 (refine calm_quiet (v := ?_) (by rfl) (by rfl) (fun W hW hD => ?_) ?_; rotate_left; (· (clear hD hW; go_simp; try with_reducible rfl)); simp only [Act.put, List.setIfInBounds_toArray, List.set_cons_zero, List.set_cons_succ, Nat.reduceAdd, Nat.zero_add])
        iterate 2 (refine calm_quiet (v := ?_) (by rfl) (by rfl) (fun W hW hD => ?_) ?_; rotate_left; (· (obtain ⟨z0, z1, z2, z3⟩ := (HQ.out W hW).1; clear hD hW; go_simp; try with_reducible rfl)); simp only [Act.put, List.setIfInBounds_toArray, List.set_cons_zero, List.set_cons_succ, Nat.reduceAdd, Nat.zero_add])
        refine calm_makes (by rfl) (by rfl) (fun W hW hD Kc hK => ?_) (fun v19 => ?_)
        · refine wp_of_call (f := 39) ?_ ((visIn_eq d1 W).mono ?_)
          · clear hD hW hK
            go_simp
          · rintro e w5 ⟨rfl, rfl⟩
            exact ⟨_, rfl, hK _ _ (made_plain (by show _ = _; first | rfl | simp) (Below.refl _ _) rfl)⟩
        simp only [Act.put, List.setIfInBounds_toArray, List.set_cons_zero, List.set_cons_succ, Nat.reduceAdd, Nat.zero_add]
        refine calm_quiet (v := .bool true) (by rfl) (by rfl) (fun W hW hD => ?_) ?_
        · obtain rfl : v19 = .bool false := hD [] 7 (by kernel_rfl) (by kernel_rfl) (by kernel_rfl)
          clear hD hW
          go_simp
        simp only [Act.put, List.setIfInBounds_toArray, List.set_cons_zero, List.set_cons_succ, Nat.reduceAdd, Nat.zero_add]
        iterate 2 (refine calm_quiet (v := ?_) (by rfl) (by rfl) (fun W hW hD => ?_) ?_; rotate_left; (· (clear hD hW; go_simp; try with_reducible rfl)); simp only [Act.put, List.setIfInBounds_toArray, List.set_cons_zero, List.set_cons_succ, Nat.reduceAdd, Nat.zero_add])
        iterate 4 (refine calm_skip (by rfl) (by rfl) ?_; simp only [Act.put, List.setIfInBounds_toArray, List.set_cons_zero, List.set_cons_succ, Nat.reduceAdd, Nat.zero_add])
        iterate 2 (refine calm_quiet (v := ?_) (by rfl) (by rfl) (fun W hW hD => ?_) ?_; rotate_left; (· (clear hD hW; go_simp; try with_reducible rfl)); simp only [Act.put, List.setIfInBounds_toArray, List.set_cons_zero, List.set_cons_succ, Nat.reduceAdd, Nat.zero_add])
        iterate 4 (refine calm_skip (by rfl) (by rfl) ?_; simp only [Act.put, List.setIfInBounds_toArray, List.set_cons_zero, List.set_cons_succ, Nat.reduceAdd, Nat.zero_add])
        iterate 2 (refine calm_quiet (v := ?_) (by rfl) (by rfl) (fun W hW hD => ?_) ?_; rotate_left; (· (clear hD hW; go_simp; try with_reducible rfl)); simp only [Act.put, List.setIfInBounds_toArray, List.set_cons_zero, List.set_cons_succ, Nat.reduceAdd, Nat.zero_add])
        iterate 12 (refine calm_skip (by rfl) (by rfl) ?_; simp only [Act.put, List.setIfInBounds_toArray, List.set_cons_zero, List.set_cons_succ, Nat.reduceAdd, Nat.zero_add])
        iterate 1 (refine calm_quiet (v := ?_) (by rfl) (by rfl) (fun W hW hD => ?_) ?_; rotate_left; (· (clear hD hW; go_simp; try with_reducible rfl)); simp only [Act.put, List.setIfInBounds_toArray, List.set_cons_zero, List.set_cons_succ, Nat.reduceAdd, Nat.zero_add])
        refine calm_nil fun W hW hF => ?_
        have HBf := Lib.hid (HB.out.trans ((grown_below hW).mono HB.out.size))
        clear hF hW HQ
        go_wp2
        go_ret
        exact ⟨by rw [HF.out]; rfl, HBf.out⟩
      cases d2 : inZ x.kind 1 20
      · have HF : Hid (notesB l = false) := by show _ = _; exact goodTo_no (k := k + 1) (by rw [HN.out]; omega) (by unfold goodTo; rw [HX.out]; rw [HNb.out, d2]; simp)
        clear HNb HX hsz
        go_wp2
        rw [← HVv.out]
        refine wp_region_calm ⟨[2, 7, 13], fun k v _ => if k = 2 then v = .bool true else if k = 7 then v = .bool true else if k = 13 then v = .bool false else True, fun _ => [], 99, none, 1000⟩ (by kernel_rfl) (by kernel_rfl) (by kernel_rfl) (fun g h => by cases h) (fun k hk v W W' c h hg hc => h) ?_
        iterate 2 (refine calm_quiet (v := ?_) (by rfl) (by rfl) (fun W hW hD => ?_) ?_; rotate_left; (· (obtain ⟨z0, z1, z2, z3⟩ := (HQ.out W hW).1; clear hD hW; go_simp; try with_reducible rfl)); simp only [Act.put, List.setIfInBounds_toArray, List.set_cons_zero, List.set_cons_succ, Nat.reduceAdd, Nat.zero_add])
        refine calm_makes (by rfl) (by rfl) (fun W hW hD Kc hK => ?_) (fun v14 => ?_)
        · refine wp_of_call (f := 39) ?_ ((visIn_eq d0 W).mono ?_)
          · clear hD hW hK
            go_simp
          · rintro e w5 ⟨rfl, rfl⟩
            exact ⟨_, rfl, hK _ _ (made_plain (by show _ = _; first | rfl | simp) (Below.refl _ _) rfl)⟩
        simp only [Act.put, List.setIfInBounds_toArray, List.set_cons_zero, List.set_cons_succ, Nat.reduceAdd, Nat.zero_add]
        refine calm_quiet (v := .bool false) (by rfl) (by rfl) (fun W hW hD => ?_) ?_
        · obtain rfl : v14 = .bool true := hD [] 2 (by kernel_rfl) (by kernel_rfl) (by kernel_rfl)
          clear hD hW
          go_simp
        simp only [Act.put, List.setIfInBounds_toArray, List.set_cons_zero, List.set_cons_succ, Nat.reduceAdd, Nat.zero_add]
        iterate 1 (refine calm_quiet (v := ?_) (by rfl) (by rfl) (fun W hW hD => ?_) ?_; rotate_left; (· (clear hD hW; go_simp; try with_reducible rfl)); simp only [Act.put, List.setIfInBounds_toArray, List.set_cons_zero, List.set_cons_succ, Nat.reduceAdd, Nat.zero_add])
        iterate 2 (refine calm_quiet (v := ?_) (by rfl) (by rfl) (fun W hW hD => ?_) ?_; rotate_left; (· (obtain ⟨z0, z1, z2, z3⟩ := (HQ.out W hW).1; clear hD hW; go_simp; try with_reducible rfl)); simp only [Act.put, List.setIfInBounds_toArray, List.set_cons_zero, List.set_cons_succ, Nat.reduceAdd, Nat.zero_add])
        refine calm_makes (by rfl) (by rfl) (fun W hW hD Kc hK => ?_) (fun v19 => ?_)
        · refine wp_of_call (f := 39) ?_ ((visIn_eq d1 W).mono ?_)
          · clear hD hW hK
            go_simp
          · rintro e w5 ⟨rfl, rfl⟩
            exact ⟨_, rfl, hK _ _ (made_plain (by show _ = _; first | rfl | simp) (Below.refl _ _) rfl)⟩
        simp only [Act.put, List.setIfInBounds_toArray, List.set_cons_zero, List.set_cons_succ, Nat.reduceAdd, Nat.zero_add]
        refine calm_quiet (v := .bool false) (by rfl) (by rfl) (fun W hW hD => ?_) ?_
        · obtain rfl : v19 = .bool true := hD [] 7 (by kernel_rfl) (by kernel_rfl) (by kernel_rfl)
          clear hD hW
          go_simp
        simp only [Act.put, List.setIfInBounds_toArray, List.set_cons_zero, List.set_cons_succ, Nat.reduceAdd, Nat.zero_add]
        iterate 2 (refine calm_quiet (v := ?_) (by rfl) (by rfl) (fun W hW hD => ?_) ?_; rotate_left; (· (clear hD hW; go_simp; try with_reducible rfl)); simp only [Act.put, List.setIfInBounds_toArray, List.set_cons_zero, List.set_cons_succ, Nat.reduceAdd, Nat.zero_add])
        iterate 2 (refine calm_quiet (v := ?_) (by rfl) (by rfl) (fun W hW hD => ?_) ?_; rotate_left; (· (obtain ⟨z0, z1, z2, z3⟩ := (HQ.out W hW).1; clear hD hW; go_simp; try with_reducible rfl)); simp only [Act.put, List.setIfInBounds_toArray, List.set_cons_zero, List.set_cons_succ, Nat.reduceAdd, Nat.zero_add])
        refine calm_makes (by rfl) (by rfl) (fun W hW hD Kc hK => ?_) (fun v25 => ?_)
        · refine wp_of_call (f := 39) ?_ ((visIn_eq d2 W).mono ?_)
          · clear hD hW hK
            go_simp
          · rintro e w5 ⟨rfl, rfl⟩
            exact ⟨_, rfl, hK _ _ (made_plain (by show _ = _; first | rfl | simp) (Below.refl _ _) rfl)⟩
        simp only [Act.put, List.setIfInBounds_toArray, List.set_cons_zero, List.set_cons_succ, Nat.reduceAdd, Nat.zero_add]
        refine calm_quiet (v := .bool true) (by rfl) (by rfl) (fun W hW hD => ?_) ?_
        · obtain rfl : v25 = .bool false := hD [] 13 (by kernel_rfl) (by kernel_rfl) (by kernel_rfl)
          clear hD hW
          go_simp
        simp only [Act.put, List.setIfInBounds_toArray, List.set_cons_zero, List.set_cons_succ, Nat.reduceAdd, Nat.zero_add]
        iterate 2 (refine calm_quiet (v := ?_) (by rfl) (by rfl) (fun W hW hD => ?_) ?_; rotate_left; (· (clear hD hW; go_simp; try with_reducible rfl)); simp only [Act.put, List.setIfInBounds_toArray, List.set_cons_zero, List.set_cons_succ, Nat.reduceAdd, Nat.zero_add])
        iterate 4 (refine calm_skip (by rfl) (by rfl) ?_; simp only [Act.put, List.setIfInBounds_toArray, List.set_cons_zero, List.set_cons_succ, Nat.reduceAdd, Nat.zero_add])
        iterate 2 (refine calm_quiet (v := ?_) (by rfl) (by rfl) (fun W hW hD => ?_) ?_; rotate_left; (· (clear hD hW; go_simp; try with_reducible rfl)); simp only [Act.put, List.setIfInBounds_toArray, List.set_cons_zero, List.set_cons_succ, Nat.reduceAdd, Nat.zero_add])
        iterate 12 (refine calm_skip (by rfl) (by rfl) ?_; simp only [Act.put, List.setIfInBounds_toArray, List.set_cons_zero, List.set_cons_succ, Nat.reduceAdd, Nat.zero_add])
        iterate 1 (refine calm_quiet (v := ?_) (by rfl) (by rfl) (fun W hW hD => ?_) ?_; rotate_left; (· (clear hD hW; go_simp; try with_reducible rfl)); simp only [Act.put, List.setIfInBounds_toArray, List.set_cons_zero, List.set_cons_succ, Nat.reduceAdd, Nat.zero_add])
        refine calm_nil fun W hW hF => ?_
        have HBf := Lib.hid (HB.out.trans ((grown_below hW).mono HB.out.size))
        clear hF hW HQ
        go_wp2
        go_ret
        exact ⟨by rw [HF.out]; rfl, HBf.out⟩
      by_cases h3 : x.text.length ≤ 100
      rotate_left
      · have d3 : decide (100 < (bs x.text).size) = true := decide_eq_true (by omega)
        have d3' : decide ((100 : Int) < ((bs x.text).size : Int)) = true := decide_eq_true (by omega)
        have HF : Hid (notesB l = false) := by show _ = _; exact goodTo_no (k := k + 1) (by rw [HN.out]; omega) (by unfold goodTo; rw [HX.out]; rw [HNb.out, decide_eq_false h3]; simp)
        clear HNb HX hsz h3
        go_wp2
        rw [← HVv.out]
        refine wp_region_calm ⟨[2, 7, 13], fun k v _ => if k = 2 then v = .bool true else if k = 7 then v = .bool true else if k = 13 then v = .bool true else True, fun _ => [], 99, none, 1000⟩ (by kernel_rfl) (by kernel_rfl) (by kernel_rfl) (fun g h => by cases h) (fun k hk v W W' c h hg hc => h) ?_
        iterate 2 (refine calm_quiet (v := ?_) (by rfl) (by rfl) (fun W hW hD => ?_) ?_; rotate_left; (· (obtain ⟨z0, z1, z2, z3⟩ := (HQ.out W hW).1; clear hD hW; go_simp; try with_reducible rfl)); simp only [Act.put, List.setIfInBounds_toArray, List.set_cons_zero, List.set_cons_succ, Nat.reduceAdd, Nat.zero_add])
        refine calm_makes (by rfl) (by rfl) (fun W hW hD Kc hK => ?_) (fun v14 => ?_)
        · refine wp_of_call (f := 39) ?_ ((visIn_eq d0 W).mono ?_)
          · clear hD hW hK
            go_simp
          · rintro e w5 ⟨rfl, rfl⟩
            exact ⟨_, rfl, hK _ _ (made_plain (by show _ = _; first | rfl | simp) (Below.refl _ _) rfl)⟩
        simp only [Act.put, List.setIfInBounds_toArray, List.set_cons_zero, List.set_cons_succ, Nat.reduceAdd, Nat.zero_add]
        refine calm_quiet (v := .bool false) (by rfl) (by rfl) (fun W hW hD => ?_) ?_
        · obtain rfl : v14 = .bool true := hD [] 2 (by kernel_rfl) (by kernel_rfl) (by kernel_rfl)
          clear hD hW
          go_simp
        simp only [Act.put, List.setIfInBounds_toArray, List.set_cons_zero, List.set_cons_succ, Nat.reduceAdd, Nat.zero_add]
        iterate 1 (refine calm_quiet (v := ?_) (by rfl) (by rfl) (fun W hW hD => ?_) ?_; rotate_left; (· (clear hD hW; go_simp; try with_reducible rfl)); simp only [Act.put, List.setIfInBounds_toArray, List.set_cons_zero, List.set_cons_succ, Nat.reduceAdd, Nat.zero_add])
        iterate 2 (refine calm_quiet (v := ?_) (by rfl) (by rfl) (fun W hW hD => ?_) ?_; rotate_left; (· (obtain ⟨z0, z1, z2, z3⟩ := (HQ.out W hW).1; clear hD hW; go_simp; try with_reducible rfl)); simp only [Act.put, List.setIfInBounds_toArray, List.set_cons_zero, List.set_cons_succ, Nat.reduceAdd, Nat.zero_add])
        refine calm_makes (by rfl) (by rfl) (fun W hW hD Kc hK => ?_) (fun v19 => ?_)
        · refine wp_of_call (f := 39) ?_ ((visIn_eq d1 W).mono ?_)
          · clear hD hW hK
            go_simp
          · rintro e w5 ⟨rfl, rfl⟩
            exact ⟨_, rfl, hK _ _ (made_plain (by show _ = _; first | rfl | simp) (Below.refl _ _) rfl)⟩
        simp only [Act.put, List.setIfInBounds_toArray, List.set_cons_zero, List.set_cons_succ, Nat.reduceAdd, Nat.zero_add]
        refine calm_quiet (v := .bool false) (by rfl) (by rfl) (fun W hW hD => ?_) ?_
        · obtain rfl : v19 = .bool true := hD [] 7 (by kernel_rfl) (by kernel_rfl) (by kernel_rfl)
          clear hD hW
          go_simp
        simp only [Act.put, List.setIfInBounds_toArray, List.set_cons_zero, List.set_cons_succ, Nat.reduceAdd, Nat.zero_add]
        iterate 2 (refine calm_quiet (v := ?_) (by rfl) (by rfl) (fun W hW hD => ?_) ?_; rotate_left; (· (clear hD hW; go_simp; try with_reducible rfl)); simp only [Act.put, List.setIfInBounds_toArray, List.set_cons_zero, List.set_cons_succ, Nat.reduceAdd, Nat.zero_add])
        iterate 2 (refine calm_quiet (v := ?_) (by rfl) (by rfl) (fun W hW hD => ?_) ?_; rotate_left; (· (obtain ⟨z0, z1, z2, z3⟩ := (HQ.out W hW).1; clear hD hW; go_simp; try with_reducible rfl)); simp only [Act.put, List.setIfInBounds_toArray, List.set_cons_zero, List.set_cons_succ, Nat.reduceAdd, Nat.zero_add])
        refine calm_makes (by rfl) (by rfl) (fun W hW hD Kc hK => ?_) (fun v25 => ?_)
        · refine wp_of_call (f := 39) ?_ ((visIn_eq d2 W).mono ?_)
          · clear hD hW hK
            go_simp
          · rintro e w5 ⟨rfl, rfl⟩
            exact ⟨_, rfl, hK _ _ (made_plain (by show _ = _; first | rfl | simp) (Below.refl _ _) rfl)⟩
        simp only [Act.put, List.setIfInBounds_toArray, List.set_cons_zero, List.set_cons_succ, Nat.reduceAdd, Nat.zero_add]
        refine calm_quiet (v := .bool false) (by rfl) (by rfl) (fun W hW hD => ?_) ?_
        · obtain rfl : v25 = .bool true := hD [] 13 (by kernel_rfl) (by kernel_rfl) (by kernel_rfl)
          clear hD hW
          go_simp
        simp only [Act.put, List.setIfInBounds_toArray, List.set_cons_zero, List.set_cons_succ, Nat.reduceAdd, Nat.zero_add]
        iterate 2 (refine calm_quiet (v := ?_) (by rfl) (by rfl) (fun W hW hD => ?_) ?_; rotate_left; (· (clear hD hW; go_simp; try with_reducible rfl)); simp only [Act.put, List.setIfInBounds_toArray, List.set_cons_zero, List.set_cons_succ, Nat.reduceAdd, Nat.zero_add])
        iterate 4 (refine calm_quiet (v := ?_) (by rfl) (by rfl) (fun W hW hD => ?_) ?_; rotate_left; (· (obtain ⟨z0, z1, z2, z3⟩ := (HQ.out W hW).1; clear hD hW; go_simp; try with_reducible rfl)); simp only [Act.put, List.setIfInBounds_toArray, List.set_cons_zero, List.set_cons_succ, Nat.reduceAdd, Nat.zero_add])
        iterate 2 (refine calm_quiet (v := ?_) (by rfl) (by rfl) (fun W hW hD => ?_) ?_; rotate_left; (· (clear hD hW; go_simp; try with_reducible rfl)); simp only [Act.put, List.setIfInBounds_toArray, List.set_cons_zero, List.set_cons_succ, Nat.reduceAdd, Nat.zero_add])
        iterate 12 (refine calm_skip (by rfl) (by rfl) ?_; simp only [Act.put, List.setIfInBounds_toArray, List.set_cons_zero, List.set_cons_succ, Nat.reduceAdd, Nat.zero_add])
        iterate 1 (refine calm_quiet (v := ?_) (by rfl) (by rfl) (fun W hW hD => ?_) ?_; rotate_left; (· (clear hD hW; go_simp; try with_reducible rfl)); simp only [Act.put, List.setIfInBounds_toArray, List.set_cons_zero, List.set_cons_succ, Nat.reduceAdd, Nat.zero_add])
        refine calm_nil fun W hW hF => ?_
        have HBf := Lib.hid (HB.out.trans ((grown_below hW).mono HB.out.size))
        clear hF hW HQ
        go_wp2
        go_ret
        exact ⟨by rw [HF.out]; rfl, HBf.out⟩
      have d3 : decide (100 < (bs x.text).size) = false := decide_eq_false (by omega)
      have d3' : decide ((100 : Int) < ((bs x.text).size : Int)) = false := decide_eq_false (by omega)
      have HNt : Hid (noteB x = true) := by show _ = _; rw [HNb.out, d0, d1, d2, decide_eq_true h3]; rfl
      clear h3 hsz HNb
      by_cases hk0 : k = 0
      · have dk : decide (0 < k) = false := decide_eq_false (by omega)
        have dk' : decide ((0 : Int) < (k : Int)) = false := decide_eq_false (by omega)
        have HG2 : Hid (goodTo l (k + 1) = true) := by show _ = _; unfold goodTo; rw [HX.out]; rw [HNt.out, hk0]; rfl
        clear HNt HX hk0
        go_wp2
        rw [← HVv.out]
        refine wp_region_calm ⟨[2, 7, 13], fun k v _ => if k = 2 then v = .bool true else if k = 7 then v = .bool true else if k = 13 then v = .bool true else True, fun _ => [], 99, none, 1000⟩ (by kernel_rfl) (by kernel_rfl) (by kernel_rfl) (fun g h => by cases h) (fun k hk v W W' c h hg hc => h) ?_
        iterate 2 (refine calm_quiet (v := ?_) (by rfl) (by rfl) (fun W hW hD => ?_) ?_; rotate_left; (· (obtain ⟨z0, z1, z2, z3⟩ := (HQ.out W hW).1; clear hD hW; go_simp; try with_reducible rfl)); simp only [Act.put, List.setIfInBounds_toArray, List.set_cons_zero, List.set_cons_succ, Nat.reduceAdd, Nat.zero_add])
        refine calm_makes (by rfl) (by rfl) (fun W hW hD Kc hK => ?_) (fun v14 => ?_)
        · refine wp_of_call (f := 39) ?_ ((visIn_eq d0 W).mono ?_)
          · clear hD hW hK
            go_simp
          · rintro e w5 ⟨rfl, rfl⟩
            exact ⟨_, rfl, hK _ _ (made_plain (by show _ = _; first | rfl | simp) (Below.refl _ _) rfl)⟩
        simp only [Act.put, List.setIfInBounds_toArray, List.set_cons_zero, List.set_cons_succ, Nat.reduceAdd, Nat.zero_add]
        refine calm_quiet (v := .bool false) (by rfl) (by rfl) (fun W hW hD => ?_) ?_
        · obtain rfl : v14 = .bool true := hD [] 2 (by kernel_rfl) (by kernel_rfl) (by kernel_rfl)
          clear hD hW
          go_simp
        simp only [Act.put, List.setIfInBounds_toArray, List.set_cons_zero, List.set_cons_succ, Nat.reduceAdd, Nat.zero_add]
        iterate 1 (refine calm_quiet (v := ?_) (by rfl) (by rfl) (fun W hW hD => ?_) ?_; rotate_left; (· (clear hD hW; go_simp; try with_reducible rfl)); simp only [Act.put, List.setIfInBounds_toArray, List.set_cons_zero, List.set_cons_succ, Nat.reduceAdd, Nat.zero_add])
        iterate 2 (refine calm_quiet (v := ?_) (by rfl) (by rfl) (fun W hW hD => ?_) ?_; rotate_left; (· (obtain ⟨z0, z1, z2, z3⟩ := (HQ.out W hW).1; clear hD hW; go_simp; try with_reducible rfl)); simp only [Act.put, List.setIfInBounds_toArray, List.set_cons_zero, List.set_cons_succ, Nat.reduceAdd, Nat.zero_add])
        refine calm_makes (by rfl) (by rfl) (fun W hW hD Kc hK => ?_) (fun v19 => ?_)
        · refine wp_of_call (f := 39) ?_ ((visIn_eq d1 W).mono ?_)
          · clear hD hW hK
            go_simp
          · rintro e w5 ⟨rfl, rfl⟩
            exact ⟨_, rfl, hK _ _ (made_plain (by show _ = _; first | rfl | simp) (Below.refl _ _) rfl)⟩
        simp only [Act.put, List.setIfInBounds_toArray, List.set_cons_zero, List.set_cons_succ, Nat.reduceAdd, Nat.zero_add]
        refine calm_quiet (v := .bool false) (by rfl) (by rfl) (fun W hW hD => ?_) ?_
        · obtain rfl : v19 = .bool true := hD [] 7 (by kernel_rfl) (by kernel_rfl) (by kernel_rfl)
          clear hD hW
          go_simp
        simp only [Act.put, List.setIfInBounds_toArray, List.set_cons_zero, List.set_cons_succ, Nat.reduceAdd, Nat.zero_add]
        iterate 2 (refine calm_quiet (v := ?_) (by rfl) (by rfl) (fun W hW hD => ?_) ?_; rotate_left; (· (clear hD hW; go_simp; try with_reducible rfl)); simp only [Act.put, List.setIfInBounds_toArray, List.set_cons_zero, List.set_cons_succ, Nat.reduceAdd, Nat.zero_add])
        iterate 2 (refine calm_quiet (v := ?_) (by rfl) (by rfl) (fun W hW hD => ?_) ?_; rotate_left; (· (obtain ⟨z0, z1, z2, z3⟩ := (HQ.out W hW).1; clear hD hW; go_simp; try with_reducible rfl)); simp only [Act.put, List.setIfInBounds_toArray, List.set_cons_zero, List.set_cons_succ, Nat.reduceAdd, Nat.zero_add])
        refine calm_makes (by rfl) (by rfl) (fun W hW hD Kc hK => ?_) (fun v25 => ?_)
        · refine wp_of_call (f := 39) ?_ ((visIn_eq d2 W).mono ?_)
          · clear hD hW hK
            go_simp
          · rintro e w5 ⟨rfl, rfl⟩
            exact ⟨_, rfl, hK _ _ (made_plain (by show _ = _; first | rfl | simp) (Below.refl _ _) rfl)⟩
        simp only [Act.put, List.setIfInBounds_toArray, List.set_cons_zero, List.set_cons_succ, Nat.reduceAdd, Nat.zero_add]
        refine calm_quiet (v := .bool false) (by rfl) (by rfl) (fun W hW hD => ?_) ?_
        · obtain rfl : v25 = .bool true := hD [] 13 (by kernel_rfl) (by kernel_rfl) (by kernel_rfl)
          clear hD hW
          go_simp
        simp only [Act.put, List.setIfInBounds_toArray, List.set_cons_zero, List.set_cons_succ, Nat.reduceAdd, Nat.zero_add]
        iterate 2 (refine calm_quiet (v := ?_) (by rfl) (by rfl) (fun W hW hD => ?_) ?_; rotate_left; (· (clear hD hW; go_simp; try with_reducible rfl)); simp only [Act.put, List.setIfInBounds_toArray, List.set_cons_zero, List.set_cons_succ, Nat.reduceAdd, Nat.zero_add])
        iterate 4 (refine calm_quiet (v := ?_) (by rfl) (by rfl) (fun W hW hD => ?_) ?_; rotate_left; (· (obtain ⟨z0, z1, z2, z3⟩ := (HQ.out W hW).1; clear hD hW; go_simp; try with_reducible rfl)); simp only [Act.put, List.setIfInBounds_toArray, List.set_cons_zero, List.set_cons_succ, Nat.reduceAdd, Nat.zero_add])
        iterate 2 (refine calm_quiet (v := ?_) (by rfl) (by rfl) (fun W hW hD => ?_) ?_; rotate_left; (· (clear hD hW; go_simp; try with_reducible rfl)); simp only [Act.put, List.setIfInBounds_toArray, List.set_cons_zero, List.set_cons_succ, Nat.reduceAdd, Nat.zero_add])
        iterate 3 (refine calm_quiet (v := ?_) (by rfl) (by rfl) (fun W hW hD => ?_) ?_; rotate_left; (· (clear hD hW; go_simp; try with_reducible rfl)); simp only [Act.put, List.setIfInBounds_toArray, List.set_cons_zero, List.set_cons_succ, Nat.reduceAdd, Nat.zero_add])
        iterate 8 (refine calm_skip (by rfl) (by rfl) ?_; simp only [Act.put, List.setIfInBounds_toArray, List.set_cons_zero, List.set_cons_succ, Nat.reduceAdd, Nat.zero_add])
        iterate 2 (refine calm_quiet (v := ?_) (by rfl) (by rfl) (fun W hW hD => ?_) ?_; rotate_left; (· (clear hD hW; go_simp; try with_reducible rfl)); simp only [Act.put, List.setIfInBounds_toArray, List.set_cons_zero, List.set_cons_succ, Nat.reduceAdd, Nat.zero_add])
        refine calm_nil fun W hW hF => ?_
        have HBf := Lib.hid (HB.out.trans ((grown_below hW).mono HB.out.size))
        clear hF hW HQ
        go_wp2
        go_roundw
        case rel => exact ⟨k + 1, by omega, by go_num, HG2, HBf⟩
        case measure => simp [intOf]; omega
      · have dk : decide (0 < k) = true := decide_eq_true (by omega)
        have dk' : decide ((0 : Int) < (k : Int)) = true := decide_eq_true (by omega)
        obtain ⟨j, hj⟩ : ∃ j, j = k - 1 := ⟨_, rfl⟩
        have wj : IntKind.i64.wrap ((k : Int) - 1) = (j : Int) := by rw [IntWalk.i64_in _ (by omega)]; omega
        have jn : (j : Int) < (n : Int) := by omega
        have jz : 0 ≤ (j : Int) := by omega
        rw [← hj] at HQ
        obtain ⟨z, hz⟩ : ∃ z, cmpN y x = z := ⟨_, rfl⟩
        have HZ := Lib.hid hz
        have HLt : Hid (ltN y x = decide (z < 0)) := by show _ = _; unfold ltN; rw [hz]
        clear hz hj
        by_cases hz0 : z < 0
        · have dz : decide (0 ≤ z) = false := decide_eq_false (by omega)
          have HG2 : Hid (goodTo l (k + 1) = true) := by show _ = _; unfold goodTo; rw [HX.out]; rw [HNt.out, HLt.out, decide_eq_true hz0, Bool.or_true]; rfl
          clear HNt HX HLt
          go_wp2
          rw [← HVv.out]
          refine wp_region_calm ⟨[2, 7, 13, 32], fun k v _ => if k = 2 then v = .bool true else if k = 7 then v = .bool true else if k = 13 then v = .bool true else v = .int .i64 z, fun _ => [], 99, none, 1000⟩ (by kernel_rfl) (by kernel_rfl) (by kernel_rfl) (fun g h => by cases h) (fun k hk v W W' c h hg hc => h) ?_
          iterate 2 (refine calm_quiet (v := ?_) (by rfl) (by rfl) (fun W hW hD => ?_) ?_; rotate_left; (· (obtain ⟨z0, z1, z2, z3⟩ := (HQ.out W hW).1; clear hD hW; go_simp; try with_reducible rfl)); simp only [Act.put, List.setIfInBounds_toArray, List.set_cons_zero, List.set_cons_succ, Nat.reduceAdd, Nat.zero_add])
          refine calm_makes (by rfl) (by rfl) (fun W hW hD Kc hK => ?_) (fun v14 => ?_)
          · refine wp_of_call (f := 39) ?_ ((visIn_eq d0 W).mono ?_)
            · clear hD hW hK
              go_simp
            · rintro e w5 ⟨rfl, rfl⟩
              exact ⟨_, rfl, hK _ _ (made_plain (by show _ = _; first | rfl | simp) (Below.refl _ _) rfl)⟩
          simp only [Act.put, List.setIfInBounds_toArray, List.set_cons_zero, List.set_cons_succ, Nat.reduceAdd, Nat.zero_add]
          refine calm_quiet (v := .bool false) (by rfl) (by rfl) (fun W hW hD => ?_) ?_
          · obtain rfl : v14 = .bool true := hD [] 2 (by kernel_rfl) (by kernel_rfl) (by kernel_rfl)
            clear hD hW
            go_simp
          simp only [Act.put, List.setIfInBounds_toArray, List.set_cons_zero, List.set_cons_succ, Nat.reduceAdd, Nat.zero_add]
          iterate 1 (refine calm_quiet (v := ?_) (by rfl) (by rfl) (fun W hW hD => ?_) ?_; rotate_left; (· (clear hD hW; go_simp; try with_reducible rfl)); simp only [Act.put, List.setIfInBounds_toArray, List.set_cons_zero, List.set_cons_succ, Nat.reduceAdd, Nat.zero_add])
          iterate 2 (refine calm_quiet (v := ?_) (by rfl) (by rfl) (fun W hW hD => ?_) ?_; rotate_left; (· (obtain ⟨z0, z1, z2, z3⟩ := (HQ.out W hW).1; clear hD hW; go_simp; try with_reducible rfl)); simp only [Act.put, List.setIfInBounds_toArray, List.set_cons_zero, List.set_cons_succ, Nat.reduceAdd, Nat.zero_add])
          refine calm_makes (by rfl) (by rfl) (fun W hW hD Kc hK => ?_) (fun v19 => ?_)
          · refine wp_of_call (f := 39) ?_ ((visIn_eq d1 W).mono ?_)
            · clear hD hW hK
              go_simp
            · rintro e w5 ⟨rfl, rfl⟩
              exact ⟨_, rfl, hK _ _ (made_plain (by show _ = _; first | rfl | simp) (Below.refl _ _) rfl)⟩
          simp only [Act.put, List.setIfInBounds_toArray, List.set_cons_zero, List.set_cons_succ, Nat.reduceAdd, Nat.zero_add]
          refine calm_quiet (v := .bool false) (by rfl) (by rfl) (fun W hW hD => ?_) ?_
          · obtain rfl : v19 = .bool true := hD [] 7 (by kernel_rfl) (by kernel_rfl) (by kernel_rfl)
            clear hD hW
            go_simp
          simp only [Act.put, List.setIfInBounds_toArray, List.set_cons_zero, List.set_cons_succ, Nat.reduceAdd, Nat.zero_add]
          iterate 2 (refine calm_quiet (v := ?_) (by rfl) (by rfl) (fun W hW hD => ?_) ?_; rotate_left; (· (clear hD hW; go_simp; try with_reducible rfl)); simp only [Act.put, List.setIfInBounds_toArray, List.set_cons_zero, List.set_cons_succ, Nat.reduceAdd, Nat.zero_add])
          iterate 2 (refine calm_quiet (v := ?_) (by rfl) (by rfl) (fun W hW hD => ?_) ?_; rotate_left; (· (obtain ⟨z0, z1, z2, z3⟩ := (HQ.out W hW).1; clear hD hW; go_simp; try with_reducible rfl)); simp only [Act.put, List.setIfInBounds_toArray, List.set_cons_zero, List.set_cons_succ, Nat.reduceAdd, Nat.zero_add])
          refine calm_makes (by rfl) (by rfl) (fun W hW hD Kc hK => ?_) (fun v25 => ?_)
          · refine wp_of_call (f := 39) ?_ ((visIn_eq d2 W).mono ?_)
            · clear hD hW hK
              go_simp
            · rintro e w5 ⟨rfl, rfl⟩
              exact ⟨_, rfl, hK _ _ (made_plain (by show _ = _; first | rfl | simp) (Below.refl _ _) rfl)⟩
          simp only [Act.put, List.setIfInBounds_toArray, List.set_cons_zero, List.set_cons_succ, Nat.reduceAdd, Nat.zero_add]
          refine calm_quiet (v := .bool false) (by rfl) (by rfl) (fun W hW hD => ?_) ?_
          · obtain rfl : v25 = .bool true := hD [] 13 (by kernel_rfl) (by kernel_rfl) (by kernel_rfl)
            clear hD hW
            go_simp
          simp only [Act.put, List.setIfInBounds_toArray, List.set_cons_zero, List.set_cons_succ, Nat.reduceAdd, Nat.zero_add]
          iterate 2 (refine calm_quiet (v := ?_) (by rfl) (by rfl) (fun W hW hD => ?_) ?_; rotate_left; (· (clear hD hW; go_simp; try with_reducible rfl)); simp only [Act.put, List.setIfInBounds_toArray, List.set_cons_zero, List.set_cons_succ, Nat.reduceAdd, Nat.zero_add])
          iterate 4 (refine calm_quiet (v := ?_) (by rfl) (by rfl) (fun W hW hD => ?_) ?_; rotate_left; (· (obtain ⟨z0, z1, z2, z3⟩ := (HQ.out W hW).1; clear hD hW; go_simp; try with_reducible rfl)); simp only [Act.put, List.setIfInBounds_toArray, List.set_cons_zero, List.set_cons_succ, Nat.reduceAdd, Nat.zero_add])
          iterate 2 (refine calm_quiet (v := ?_) (by rfl) (by rfl) (fun W hW hD => ?_) ?_; rotate_left; (· (clear hD hW; go_simp; try with_reducible rfl)); simp only [Act.put, List.setIfInBounds_toArray, List.set_cons_zero, List.set_cons_succ, Nat.reduceAdd, Nat.zero_add])
          iterate 3 (refine calm_quiet (v := ?_) (by rfl) (by rfl) (fun W hW hD => ?_) ?_; rotate_left; (· (clear hD hW; go_simp; try with_reducible rfl)); simp only [Act.put, List.setIfInBounds_toArray, List.set_cons_zero, List.set_cons_succ, Nat.reduceAdd, Nat.zero_add])
          iterate 6 (refine calm_quiet (v := ?_) (by rfl) (by rfl) (fun W hW hD => ?_) ?_; rotate_left; (· (obtain ⟨⟨z0, z1, z2, z3⟩, y0, y1, y2, y3⟩ := HQ.out W hW; clear hD hW; go_simp; try with_reducible rfl)); simp only [Act.put, List.setIfInBounds_toArray, List.set_cons_zero, List.set_cons_succ, Nat.reduceAdd, Nat.zero_add])
          refine calm_makes (by rfl) (by rfl) (fun W hW hD Kc hK => ?_) (fun v44 => ?_)
          · refine wp_of_call (f := 57) ?_ ((compare_any y x W).mono ?_)
            · clear hD hW hK
              go_simp
            · rintro e w5 ⟨rfl, hb5⟩
              exact ⟨_, rfl, hK _ _ (made_plain (by show _ = _; rw [HZ.out]; rfl) hb5 rfl)⟩
          simp only [Act.put, List.setIfInBounds_toArray, List.set_cons_zero, List.set_cons_succ, Nat.reduceAdd, Nat.zero_add]
          refine calm_quiet (v := .bool false) (by rfl) (by rfl) (fun W hW hD => ?_) ?_
          · obtain rfl : v44 = .int .i64 z := hD [] 32 (by kernel_rfl) (by kernel_rfl) (by kernel_rfl)
            clear hD hW
            go_simp
          simp only [Act.put, List.setIfInBounds_toArray, List.set_cons_zero, List.set_cons_succ, Nat.reduceAdd, Nat.zero_add]
          iterate 2 (refine calm_quiet (v := ?_) (by rfl) (by rfl) (fun W hW hD => ?_) ?_; rotate_left; (· (clear hD hW; go_simp; try with_reducible rfl)); simp only [Act.put, List.setIfInBounds_toArray, List.set_cons_zero, List.set_cons_succ, Nat.reduceAdd, Nat.zero_add])
          refine calm_nil fun W hW hF => ?_
          have HBf := Lib.hid (HB.out.trans ((grown_below hW).mono HB.out.size))
          clear hF hW HQ
          go_wp2
          go_roundw
          case rel => exact ⟨k + 1, by omega, by go_num, HG2, HBf⟩
          case measure => simp [intOf]; omega
        · have dz : decide (0 ≤ z) = true := decide_eq_true (by omega)
          have HF : Hid (notesB l = false) := by show _ = _; exact goodTo_no (k := k + 1) (by rw [HN.out]; omega) (by unfold goodTo; rw [HX.out]; rw [HNt.out, HLt.out, decide_eq_false hz0, beq_eq_false_iff_ne.2 hk0]; rfl)
          clear HNt HX HLt
          go_wp2
          rw [← HVv.out]
          refine wp_region_calm ⟨[2, 7, 13, 32], fun k v _ => if k = 2 then v = .bool true else if k = 7 then v = .bool true else if k = 13 then v = .bool true else v = .int .i64 z, fun _ => [], 99, none, 1000⟩ (by kernel_rfl) (by kernel_rfl) (by kernel_rfl) (fun g h => by cases h) (fun k hk v W W' c h hg hc => h) ?_
          iterate 2 (refine calm_quiet (v := ?_) (by rfl) (by rfl) (fun W hW hD => ?_) ?_; rotate_left; (· (obtain ⟨z0, z1, z2, z3⟩ := (HQ.out W hW).1; clear hD hW; go_simp; try with_reducible rfl)); simp only [Act.put, List.setIfInBounds_toArray, List.set_cons_zero, List.set_cons_succ, Nat.reduceAdd, Nat.zero_add])
          refine calm_makes (by rfl) (by rfl) (fun W hW hD Kc hK => ?_) (fun v14 => ?_)
          · refine wp_of_call (f := 39) ?_ ((visIn_eq d0 W).mono ?_)
            · clear hD hW hK
              go_simp
            · rintro e w5 ⟨rfl, rfl⟩
              exact ⟨_, rfl, hK _ _ (made_plain (by show _ = _; first | rfl | simp) (Below.refl _ _) rfl)⟩
          simp only [Act.put, List.setIfInBounds_toArray, List.set_cons_zero, List.set_cons_succ, Nat.reduceAdd, Nat.zero_add]
          refine calm_quiet (v := .bool false) (by rfl) (by rfl) (fun W hW hD => ?_) ?_
          · obtain rfl : v14 = .bool true := hD [] 2 (by kernel_rfl) (by kernel_rfl) (by kernel_rfl)
            clear hD hW
            go_simp
          simp only [Act.put, List.setIfInBounds_toArray, List.set_cons_zero, List.set_cons_succ, Nat.reduceAdd, Nat.zero_add]
          iterate 1 (refine calm_quiet (v := ?_) (by rfl) (by rfl) (fun W hW hD => ?_) ?_; rotate_left; (· (clear hD hW; go_simp; try with_reducible rfl)); simp only [Act.put, List.setIfInBounds_toArray, List.set_cons_zero, List.set_cons_succ, Nat.reduceAdd, Nat.zero_add])
          iterate 2 (refine calm_quiet (v := ?_) (by rfl) (by rfl) (fun W hW hD => ?_) ?_; rotate_left; (· (obtain ⟨z0, z1, z2, z3⟩ := (HQ.out W hW).1; clear hD hW; go_simp; try with_reducible rfl)); simp only [Act.put, List.setIfInBounds_toArray, List.set_cons_zero, List.set_cons_succ, Nat.reduceAdd, Nat.zero_add])
          refine calm_makes (by rfl) (by rfl) (fun W hW hD Kc hK => ?_) (fun v19 => ?_)
          · refine wp_of_call (f := 39) ?_ ((visIn_eq d1 W).mono ?_)
            · clear hD hW hK
              go_simp
            · rintro e w5 ⟨rfl, rfl⟩
              exact ⟨_, rfl, hK _ _ (made_plain (by show _ = _; first | rfl | simp) (Below.refl _ _) rfl)⟩
          simp only [Act.put, List.setIfInBounds_toArray, List.set_cons_zero, List.set_cons_succ, Nat.reduceAdd, Nat.zero_add]
          refine calm_quiet (v := .bool false) (by rfl) (by rfl) (fun W hW hD => ?_) ?_
          · obtain rfl : v19 = .bool true := hD [] 7 (by kernel_rfl) (by kernel_rfl) (by kernel_rfl)
            clear hD hW
            go_simp
          simp only [Act.put, List.setIfInBounds_toArray, List.set_cons_zero, List.set_cons_succ, Nat.reduceAdd, Nat.zero_add]
          iterate 2 (refine calm_quiet (v := ?_) (by rfl) (by rfl) (fun W hW hD => ?_) ?_; rotate_left; (· (clear hD hW; go_simp; try with_reducible rfl)); simp only [Act.put, List.setIfInBounds_toArray, List.set_cons_zero, List.set_cons_succ, Nat.reduceAdd, Nat.zero_add])
          iterate 2 (refine calm_quiet (v := ?_) (by rfl) (by rfl) (fun W hW hD => ?_) ?_; rotate_left; (· (obtain ⟨z0, z1, z2, z3⟩ := (HQ.out W hW).1; clear hD hW; go_simp; try with_reducible rfl)); simp only [Act.put, List.setIfInBounds_toArray, List.set_cons_zero, List.set_cons_succ, Nat.reduceAdd, Nat.zero_add])
          refine calm_makes (by rfl) (by rfl) (fun W hW hD Kc hK => ?_) (fun v25 => ?_)
          · refine wp_of_call (f := 39) ?_ ((visIn_eq d2 W).mono ?_)
            · clear hD hW hK
              go_simp
            · rintro e w5 ⟨rfl, rfl⟩
              exact ⟨_, rfl, hK _ _ (made_plain (by show _ = _; first | rfl | simp) (Below.refl _ _) rfl)⟩
          simp only [Act.put, List.setIfInBounds_toArray, List.set_cons_zero, List.set_cons_succ, Nat.reduceAdd, Nat.zero_add]
          refine calm_quiet (v := .bool false) (by rfl) (by rfl) (fun W hW hD => ?_) ?_
          · obtain rfl : v25 = .bool true := hD [] 13 (by kernel_rfl) (by kernel_rfl) (by kernel_rfl)
            clear hD hW
            go_simp
          simp only [Act.put, List.setIfInBounds_toArray, List.set_cons_zero, List.set_cons_succ, Nat.reduceAdd, Nat.zero_add]
          iterate 2 (refine calm_quiet (v := ?_) (by rfl) (by rfl) (fun W hW hD => ?_) ?_; rotate_left; (· (clear hD hW; go_simp; try with_reducible rfl)); simp only [Act.put, List.setIfInBounds_toArray, List.set_cons_zero, List.set_cons_succ, Nat.reduceAdd, Nat.zero_add])
          iterate 4 (refine calm_quiet (v := ?_) (by rfl) (by rfl) (fun W hW hD => ?_) ?_; rotate_left; (· (obtain ⟨z0, z1, z2, z3⟩ := (HQ.out W hW).1; clear hD hW; go_simp; try with_reducible rfl)); simp only [Act.put, List.setIfInBounds_toArray, List.set_cons_zero, List.set_cons_succ, Nat.reduceAdd, Nat.zero_add])
          iterate 2 (refine calm_quiet (v := ?_) (by rfl) (by rfl) (fun W hW hD => ?_) ?_; rotate_left; (· (clear hD hW; go_simp; try with_reducible rfl)); simp only [Act.put, List.setIfInBounds_toArray, List.set_cons_zero, List.set_cons_succ, Nat.reduceAdd, Nat.zero_add])
          iterate 3 (refine calm_quiet (v := ?_) (by rfl) (by rfl) (fun W hW hD => ?_) ?_; rotate_left; (· (clear hD hW; go_simp; try with_reducible rfl)); simp only [Act.put, List.setIfInBounds_toArray, List.set_cons_zero, List.set_cons_succ, Nat.reduceAdd, Nat.zero_add])
          iterate 6 (refine calm_quiet (v := ?_) (by rfl) (by rfl) (fun W hW hD => ?_) ?_; rotate_left; (· (obtain ⟨⟨z0, z1, z2, z3⟩, y0, y1, y2, y3⟩ := HQ.out W hW; clear hD hW; go_simp; try with_reducible rfl)); simp only [Act.put, List.setIfInBounds_toArray, List.set_cons_zero, List.set_cons_succ, Nat.reduceAdd, Nat.zero_add])
          refine calm_makes (by rfl) (by rfl) (fun W hW hD Kc hK => ?_) (fun v44 => ?_)
          · refine wp_of_call (f := 57) ?_ ((compare_any y x W).mono ?_)
            · clear hD hW hK
              go_simp
            · rintro e w5 ⟨rfl, hb5⟩
              exact ⟨_, rfl, hK _ _ (made_plain (by show _ = _; rw [HZ.out]; rfl) hb5 rfl)⟩
          simp only [Act.put, List.setIfInBounds_toArray, List.set_cons_zero, List.set_cons_succ, Nat.reduceAdd, Nat.zero_add]
          refine calm_quiet (v := .bool true) (by rfl) (by rfl) (fun W hW hD => ?_) ?_
          · obtain rfl : v44 = .int .i64 z := hD [] 32 (by kernel_rfl) (by kernel_rfl) (by kernel_rfl)
            clear hD hW
            go_simp
          simp only [Act.put, List.setIfInBounds_toArray, List.set_cons_zero, List.set_cons_succ, Nat.reduceAdd, Nat.zero_add]
          iterate 2 (refine calm_quiet (v := ?_) (by rfl) (by rfl) (fun W hW hD => ?_) ?_; rotate_left; (· (clear hD hW; go_simp; try with_reducible rfl)); simp only [Act.put, List.setIfInBounds_toArray, List.set_cons_zero, List.set_cons_succ, Nat.reduceAdd, Nat.zero_add])
          refine calm_nil fun W hW hF => ?_
          have HBf := Lib.hid (HB.out.trans ((grown_below hW).mono HB.out.size))
          clear hF hW HQ
          go_wp2
          go_ret
          exact ⟨by rw [HF.out]; rfl, HBf.out⟩
    · obtain rfl : k = n := by omega
      have ji : ¬ ((k : Int) < (k : Int)) := by omega
      have HF : Hid (notesB l = decide (((k : Nat) : Int) ≤ 60)) := by
        show _ = _
        unfold notesB
        rw [HN.out, HG.out, Bool.true_and]
        exact decide_eq_decide.2 (by omega)
      clear h1 hk HG
      go_wp2
      go_ret
      exact ⟨by rw [HF.out]; try rfl, HW.out⟩
end Go.Proofs.YteicimmdcdjagaaGreatDoor
