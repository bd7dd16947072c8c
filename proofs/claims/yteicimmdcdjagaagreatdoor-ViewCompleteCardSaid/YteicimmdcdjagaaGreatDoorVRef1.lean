import Derived.Test.YteicimmdcdjagaaGreatDoorVNotes
set_option linter.unusedVariables false
set_option linter.unusedSimpArgs false

/- The reference of view: note, less, notes, Valid; view.Valid. -/
set_option linter.unusedVariables false
set_option linter.unusedSimpArgs false
namespace Go.Proofs.YteicimmdcdjagaaGreatDoor
open Go.RowKit Go.Shelf

set_option maxHeartbeats 2000000 in
set_option maxRecDepth 100000 in
theorem refNote_any (n : VNote) (w : World) : Calls Tryz.prog 119 #[noteV n] w fun e w' => e = .returned (.bool (noteB n)) ∧ Below w.heap.size w w' := by
  have HN : Hid (noteB n = (decide (0 ≤ n.unit) && decide (n.unit ≤ 99) && (decide (0 ≤ n.day) && decide (n.day ≤ 800000)) && (decide (1 ≤ n.kind) && decide (n.kind ≤ 20)) && decide (n.text.length ≤ 100))) := rfl
  have hsz := bs_size n.text
  have HB : Hid (∀ o : Obj, Below w.heap.size w (w.alloc o)) := fun o => (Below.refl _ _).alloc (Nat.le_refl _) o
  by_cases u0 : 0 ≤ n.unit
  rotate_left
  · have u0' : decide (0 ≤ n.unit) = false := decide_eq_false u0
    have HF : Hid (noteB n = false) := by show _ = _; rw [HN.out, u0']; simp
    clear HN u0
    go_enter Tryz.func119, Tryz.ntmps119
    go_wp2
    go_ret
    exact ⟨by rw [HF.out]; try rfl, HB.out _⟩
  have u0' : decide (0 ≤ n.unit) = true := decide_eq_true u0
  by_cases u1 : n.unit ≤ 99
  rotate_left
  · have u1' : decide (n.unit ≤ 99) = false := decide_eq_false u1
    have HF : Hid (noteB n = false) := by show _ = _; rw [HN.out, u1']; simp
    clear HN u1
    go_enter Tryz.func119, Tryz.ntmps119
    go_wp2
    go_ret
    exact ⟨by rw [HF.out]; try rfl, HB.out _⟩
  have u1' : decide (n.unit ≤ 99) = true := decide_eq_true u1
  by_cases d0 : 0 ≤ n.day
  rotate_left
  · have d0' : decide (0 ≤ n.day) = false := decide_eq_false d0
    have HF : Hid (noteB n = false) := by show _ = _; rw [HN.out, d0']; simp
    clear HN d0
    go_enter Tryz.func119, Tryz.ntmps119
    go_wp2
    go_ret
    exact ⟨by rw [HF.out]; try rfl, HB.out _⟩
  have d0' : decide (0 ≤ n.day) = true := decide_eq_true d0
  by_cases d1 : n.day ≤ 800000
  rotate_left
  · have d1' : decide (n.day ≤ 800000) = false := decide_eq_false d1
    have HF : Hid (noteB n = false) := by show _ = _; rw [HN.out, d1']; simp
    clear HN d1
    go_enter Tryz.func119, Tryz.ntmps119
    go_wp2
    go_ret
    exact ⟨by rw [HF.out]; try rfl, HB.out _⟩
  have d1' : decide (n.day ≤ 800000) = true := decide_eq_true d1
  by_cases k0 : 1 ≤ n.kind
  rotate_left
  · have k0' : decide (1 ≤ n.kind) = false := decide_eq_false k0
    have HF : Hid (noteB n = false) := by show _ = _; rw [HN.out, k0']; simp
    clear HN k0
    go_enter Tryz.func119, Tryz.ntmps119
    go_wp2
    go_ret
    exact ⟨by rw [HF.out]; try rfl, HB.out _⟩
  have k0' : decide (1 ≤ n.kind) = true := decide_eq_true k0
  by_cases k1 : n.kind ≤ 20
  rotate_left
  · have k1' : decide (n.kind ≤ 20) = false := decide_eq_false k1
    have HF : Hid (noteB n = false) := by show _ = _; rw [HN.out, k1']; simp
    clear HN k1
    go_enter Tryz.func119, Tryz.ntmps119
    go_wp2
    go_ret
    exact ⟨by rw [HF.out]; try rfl, HB.out _⟩
  have k1' : decide (n.kind ≤ 20) = true := decide_eq_true k1
  have HF : Hid (noteB n = decide (((bs n.text).size : Int) ≤ 100)) := by
    show _ = _
    rw [HN.out, u0', u1', d0', d1', k0', k1', ← hsz]
    simp only [Bool.true_and]
    exact decide_eq_decide.2 (by omega)
  clear HN u0 u1 d0 d1 k0 k1 hsz
  go_enter Tryz.func119, Tryz.ntmps119
  go_wp2
  go_ret
  exact ⟨by rw [HF.out]; try rfl, HB.out _⟩
set_option maxHeartbeats 2000000 in
set_option maxRecDepth 100000 in
theorem refLess_any (a b : VNote) (w : World) : Calls Tryz.prog 66 #[noteV a, noteV b] w fun e w' => e = .returned (.bool (lessN a b)) ∧ Below w.heap.size w w' := by
  have HL : Hid (lessN a b = if a.unit ≠ b.unit then decide (a.unit < b.unit) else if a.day ≠ b.day then decide (a.day < b.day) else if a.kind ≠ b.kind then decide (a.kind < b.kind) else ltT a.text b.text) := rfl
  have HB : Hid (Below w.heap.size w ((w.alloc (.cells (noteR a) 48)).alloc (.cells (noteR b) 48))) := ((Below.refl _ _).alloc (Nat.le_refl _) _).alloc (by simp) _
  have hlt := ltT_bs a.text b.text
  by_cases eunit : a.unit = b.unit
  rotate_left
  · have nunit : (a.unit != b.unit) = true := by simp [eunit]
    rw [if_pos eunit] at HL
    clear eunit hlt
    go_enter Tryz.func66, Tryz.ntmps66
    go_wp2
    go_ret
    exact ⟨by rw [HL.out]; try rfl, HB.out⟩
  have nunit : (a.unit != b.unit) = false := by simp [eunit]
  rw [if_neg (fun h => h eunit)] at HL
  clear eunit
  by_cases eday : a.day = b.day
  rotate_left
  · have nday : (a.day != b.day) = true := by simp [eday]
    rw [if_pos eday] at HL
    clear eday hlt
    go_enter Tryz.func66, Tryz.ntmps66
    go_wp2
    go_ret
    exact ⟨by rw [HL.out]; try rfl, HB.out⟩
  have nday : (a.day != b.day) = false := by simp [eday]
  rw [if_neg (fun h => h eday)] at HL
  clear eday
  by_cases ekind : a.kind = b.kind
  rotate_left
  · have nkind : (a.kind != b.kind) = true := by simp [ekind]
    rw [if_pos ekind] at HL
    clear ekind hlt
    go_enter Tryz.func66, Tryz.ntmps66
    go_wp2
    go_ret
    exact ⟨by rw [HL.out]; try rfl, HB.out⟩
  have nkind : (a.kind != b.kind) = false := by simp [ekind]
  rw [if_neg (fun h => h ekind)] at HL
  clear ekind
  have HL2 : Hid (lessN a b = Op.bytesLess (bs a.text).toList (bs b.text).toList) := by show _ = _; rw [HL.out, hlt]
  clear HL hlt
  go_enter Tryz.func66, Tryz.ntmps66
  go_wp2
  go_ret
  exact ⟨by rw [HL2.out]; try rfl, HB.out⟩
set_option maxHeartbeats 8000000 in
set_option maxRecDepth 100000 in
theorem refNotes_any (nv : Value) (l : List VNote) (w : World) (h : RowsAt noteK w.heap.size w nv l) (hl : l.length ≤ 1000000) :
    Calls Tryz.prog 98 #[nv] w fun e w' => e = .returned (.bool (notesB l)) ∧ Below w.heap.size w w' := by
  obtain ⟨a, c, rfl, hlc, hcm⟩ := h.shape
  unfold maxLen at hcm
  have HL := Lib.hid h
  clear h
  generalize hn : l.length = n at *
  have HN := Lib.hid hn
  clear hn
  go_enter Tryz.func98, Tryz.ntmps98
  go_wp2
  go_loopw [3] (fun i wr => ∃ k : Nat, k ≤ n ∧ i = .int .i64 k ∧ Hid (goodTo l k = true) ∧ Hid (Below w.heap.size w wr)) (fun i _ => n - (intOf i).toNat)
  case atStart => exact ⟨0, Nat.zero_le _, rfl, Lib.hid rfl, Lib.hid (Below.refl _ _)⟩
  case round =>
    obtain ⟨k, hk, rfl, HG, HW⟩ := hrel
    by_cases h1 : k < n
    · have ji : (k : Int) < (n : Int) := by omega
      have j0 : 0 ≤ (k : Int) := by omega
      obtain ⟨x, hx⟩ : ∃ x, x = l.getD k default := ⟨_, rfl⟩
      obtain ⟨y, hy⟩ : ∃ y, y = l.getD (k - 1) default := ⟨_, rfl⟩
      have hget : ∀ j, j < n → l[j]? = some (l.getD j default) := fun j hj => by rw [List.getD_eq_getElem?_getD, List.getElem?_eq_getElem (by rw [HN.out]; exact hj)]; rfl
      have hLw := HL.out.later HW.out (Nat.le_refl _)
      obtain ⟨b, off, hae, hb, _⟩ := notes_at hLw k x (by rw [hx]; exact hget k h1)
      subst hae
      have HQ : Hid (∀ W, wr.grownBy W none → NoteAt W b (off + k * 4) x ∧ NoteAt W b (off + (k - 1) * 4) y) := fun W hW =>
        have hr := hLw.later (grown_below hW) (Nat.le_refl _)
        ⟨notes_el hr k x (by rw [hx]; exact hget k h1), notes_el hr (k - 1) y (by rw [hy]; exact hget (k - 1) (by omega))⟩
      have HX : Hid ((goodTo l k && noteB (l.getD k default) && (k == 0 || ltN (l.getD (k - 1) default) (l.getD k default))) = (noteB x && (k == 0 || ltN y x))) := by show _ = _; rw [HG.out, Bool.true_and, ← hx, ← hy]
      clear hLw hx hy hget HG
      cases hnt : noteB x
      · have HNt := Lib.hid hnt
        clear hnt
        have HF : Hid (notesB l = false) := by show _ = _; exact goodTo_no (k := k + 1) (by rw [HN.out]; omega) (by unfold goodTo; rw [HX.out]; rw [HNt.out]; rfl)
        clear HX
        go_wp2
        refine wp_region_calm ⟨[4], fun k v _ => if k = 4 then v = .bool false else True, fun _ => [], 99, none, 1000⟩ (by kernel_rfl) (by kernel_rfl) (by kernel_rfl) (fun g h => by cases h) (fun k hk v W W' c h hg hc => h) ?_
        iterate 4 (refine calm_quiet (v := ?_) (by rfl) (by rfl) (fun W hW hD => ?_) ?_; rotate_left; (· (obtain ⟨⟨z0, z1, z2, z3⟩, _⟩ := HQ.out W hW; clear hD hW; go_simp; try with_reducible rfl)); simp only [Act.put, List.setIfInBounds_toArray, List.set_cons_zero, List.set_cons_succ, Nat.reduceAdd, Nat.zero_add])
        refine calm_makes (by rfl) (by rfl) (fun W hW hD Kc hK => ?_) (fun v14 => ?_)
        · refine wp_of_call (f := 119) ?_ ((refNote_any x W).mono ?_)
          · clear hD hW hK
            go_simp
          · rintro e w5 ⟨rfl, hb5⟩
            exact ⟨_, rfl, hK _ _ (made_plain (by show _ = _; rw [HNt.out]; rfl) hb5 rfl)⟩
        simp only [Act.put, List.setIfInBounds_toArray, List.set_cons_zero, List.set_cons_succ, Nat.reduceAdd, Nat.zero_add]
        refine calm_quiet (v := .bool true) (by rfl) (by rfl) (fun W hW hD => ?_) ?_
        · obtain rfl : v14 = .bool false := hD [] 4 (by kernel_rfl) (by kernel_rfl) (by kernel_rfl)
          clear hD hW
          go_simp
        simp only [Act.put, List.setIfInBounds_toArray, List.set_cons_zero, List.set_cons_succ, Nat.reduceAdd, Nat.zero_add]
        iterate 1 (refine calm_quiet (v := ?_) (by rfl) (by rfl) (fun W hW hD => ?_) ?_; rotate_left; (· (clear hD hW; go_simp; try with_reducible rfl)); simp only [Act.put, List.setIfInBounds_toArray, List.set_cons_zero, List.set_cons_succ, Nat.reduceAdd, Nat.zero_add])
        iterate 15 (refine calm_skip (by rfl) (by rfl) ?_; simp only [Act.put, List.setIfInBounds_toArray, List.set_cons_zero, List.set_cons_succ, Nat.reduceAdd, Nat.zero_add])
        iterate 1 (refine calm_quiet (v := ?_) (by rfl) (by rfl) (fun W hW hD => ?_) ?_; rotate_left; (· (clear hD hW; go_simp; try with_reducible rfl)); simp only [Act.put, List.setIfInBounds_toArray, List.set_cons_zero, List.set_cons_succ, Nat.reduceAdd, Nat.zero_add])
        refine calm_nil fun W hW hF => ?_
        have HBf := Lib.hid (HW.out.trans ((grown_below hW).mono HW.out.size))
        clear hF hW HQ
        go_wp2
        go_ret
        exact ⟨by rw [HF.out]; rfl, HBf.out⟩
      have HNt := Lib.hid hnt
      clear hnt
      by_cases hk0 : k = 0
      · have dk : decide (0 < k) = false := decide_eq_false (by omega)
        have dk' : decide ((0 : Int) < (k : Int)) = false := decide_eq_false (by omega)
        have HG2 : Hid (goodTo l (k + 1) = true) := by show _ = _; unfold goodTo; rw [HX.out]; rw [HNt.out, hk0]; rfl
        clear HX hk0
        go_wp2
        refine wp_region_calm ⟨[4], fun k v _ => if k = 4 then v = .bool true else True, fun _ => [], 99, none, 1000⟩ (by kernel_rfl) (by kernel_rfl) (by kernel_rfl) (fun g h => by cases h) (fun k hk v W W' c h hg hc => h) ?_
        iterate 4 (refine calm_quiet (v := ?_) (by rfl) (by rfl) (fun W hW hD => ?_) ?_; rotate_left; (· (obtain ⟨⟨z0, z1, z2, z3⟩, _⟩ := HQ.out W hW; clear hD hW; go_simp; try with_reducible rfl)); simp only [Act.put, List.setIfInBounds_toArray, List.set_cons_zero, List.set_cons_succ, Nat.reduceAdd, Nat.zero_add])
        refine calm_makes (by rfl) (by rfl) (fun W hW hD Kc hK => ?_) (fun v14 => ?_)
        · refine wp_of_call (f := 119) ?_ ((refNote_any x W).mono ?_)
          · clear hD hW hK
            go_simp
          · rintro e w5 ⟨rfl, hb5⟩
            exact ⟨_, rfl, hK _ _ (made_plain (by show _ = _; rw [HNt.out]; rfl) hb5 rfl)⟩
        simp only [Act.put, List.setIfInBounds_toArray, List.set_cons_zero, List.set_cons_succ, Nat.reduceAdd, Nat.zero_add]
        refine calm_quiet (v := .bool false) (by rfl) (by rfl) (fun W hW hD => ?_) ?_
        · obtain rfl : v14 = .bool true := hD [] 4 (by kernel_rfl) (by kernel_rfl) (by kernel_rfl)
          clear hD hW
          go_simp
        simp only [Act.put, List.setIfInBounds_toArray, List.set_cons_zero, List.set_cons_succ, Nat.reduceAdd, Nat.zero_add]
        iterate 1 (refine calm_quiet (v := ?_) (by rfl) (by rfl) (fun W hW hD => ?_) ?_; rotate_left; (· (clear hD hW; go_simp; try with_reducible rfl)); simp only [Act.put, List.setIfInBounds_toArray, List.set_cons_zero, List.set_cons_succ, Nat.reduceAdd, Nat.zero_add])
        iterate 3 (refine calm_quiet (v := ?_) (by rfl) (by rfl) (fun W hW hD => ?_) ?_; rotate_left; (· (clear hD hW; go_simp; try with_reducible rfl)); simp only [Act.put, List.setIfInBounds_toArray, List.set_cons_zero, List.set_cons_succ, Nat.reduceAdd, Nat.zero_add])
        iterate 11 (refine calm_skip (by rfl) (by rfl) ?_; simp only [Act.put, List.setIfInBounds_toArray, List.set_cons_zero, List.set_cons_succ, Nat.reduceAdd, Nat.zero_add])
        iterate 2 (refine calm_quiet (v := ?_) (by rfl) (by rfl) (fun W hW hD => ?_) ?_; rotate_left; (· (clear hD hW; go_simp; try with_reducible rfl)); simp only [Act.put, List.setIfInBounds_toArray, List.set_cons_zero, List.set_cons_succ, Nat.reduceAdd, Nat.zero_add])
        refine calm_nil fun W hW hF => ?_
        have HBf := Lib.hid (HW.out.trans ((grown_below hW).mono HW.out.size))
        clear hF hW HQ
        go_wp2
        go_roundw
        case rel => exact ⟨k + 1, by omega, by go_num, HG2, HBf⟩
        case measure => simp [intOf]; omega
      · have dk : decide (0 < k) = true := decide_eq_true (by omega)
        have dk' : decide ((0 : Int) < (k : Int)) = true := decide_eq_true (by omega)
        obtain ⟨j, hj⟩ : ∃ j, j = k - 1 := ⟨_, rfl⟩
        have wj : IntKind.i64.wrap ((k : Int) - 1) = (j : Int) := by rw [IntWalk.i64_in _ (by omega)]; omega
        have jn : (j : Int) < (n : Int) := by omega
        have jz : 0 ≤ (j : Int) := by omega
        rw [← hj] at HQ
        clear hj
        cases hlt : lessN y x
        · have HLt := Lib.hid hlt
          clear hlt
          have HF : Hid (notesB l = false) := by show _ = _; exact goodTo_no (k := k + 1) (by rw [HN.out]; omega) (by unfold goodTo; rw [HX.out]; rw [HNt.out, ← lessN_eq, HLt.out, beq_eq_false_iff_ne.2 hk0]; rfl)
          clear HX hk0
          go_wp2
          refine wp_region_calm ⟨[4, 19], fun k v _ => if k = 4 then v = .bool true else v = .bool false, fun _ => [], 99, none, 1000⟩ (by kernel_rfl) (by kernel_rfl) (by kernel_rfl) (fun g h => by cases h) (fun k hk v W W' c h hg hc => h) ?_
          iterate 4 (refine calm_quiet (v := ?_) (by rfl) (by rfl) (fun W hW hD => ?_) ?_; rotate_left; (· (obtain ⟨⟨z0, z1, z2, z3⟩, _⟩ := HQ.out W hW; clear hD hW; go_simp; try with_reducible rfl)); simp only [Act.put, List.setIfInBounds_toArray, List.set_cons_zero, List.set_cons_succ, Nat.reduceAdd, Nat.zero_add])
          refine calm_makes (by rfl) (by rfl) (fun W hW hD Kc hK => ?_) (fun v14 => ?_)
          · refine wp_of_call (f := 119) ?_ ((refNote_any x W).mono ?_)
            · clear hD hW hK
              go_simp
            · rintro e w5 ⟨rfl, hb5⟩
              exact ⟨_, rfl, hK _ _ (made_plain (by show _ = _; rw [HNt.out]; rfl) hb5 rfl)⟩
          simp only [Act.put, List.setIfInBounds_toArray, List.set_cons_zero, List.set_cons_succ, Nat.reduceAdd, Nat.zero_add]
          refine calm_quiet (v := .bool false) (by rfl) (by rfl) (fun W hW hD => ?_) ?_
          · obtain rfl : v14 = .bool true := hD [] 4 (by kernel_rfl) (by kernel_rfl) (by kernel_rfl)
            clear hD hW
            go_simp
          simp only [Act.put, List.setIfInBounds_toArray, List.set_cons_zero, List.set_cons_succ, Nat.reduceAdd, Nat.zero_add]
          iterate 1 (refine calm_quiet (v := ?_) (by rfl) (by rfl) (fun W hW hD => ?_) ?_; rotate_left; (· (clear hD hW; go_simp; try with_reducible rfl)); simp only [Act.put, List.setIfInBounds_toArray, List.set_cons_zero, List.set_cons_succ, Nat.reduceAdd, Nat.zero_add])
          iterate 3 (refine calm_quiet (v := ?_) (by rfl) (by rfl) (fun W hW hD => ?_) ?_; rotate_left; (· (clear hD hW; go_simp; try with_reducible rfl)); simp only [Act.put, List.setIfInBounds_toArray, List.set_cons_zero, List.set_cons_succ, Nat.reduceAdd, Nat.zero_add])
          iterate 9 (refine calm_quiet (v := ?_) (by rfl) (by rfl) (fun W hW hD => ?_) ?_; rotate_left; (· (obtain ⟨⟨z0, z1, z2, z3⟩, y0, y1, y2, y3⟩ := HQ.out W hW; clear hD hW; go_simp; try with_reducible rfl)); simp only [Act.put, List.setIfInBounds_toArray, List.set_cons_zero, List.set_cons_succ, Nat.reduceAdd, Nat.zero_add])
          refine calm_makes (by rfl) (by rfl) (fun W hW hD Kc hK => ?_) (fun v29 => ?_)
          · refine wp_of_call (f := 66) ?_ ((refLess_any y x W).mono ?_)
            · clear hD hW hK
              go_simp
            · rintro e w5 ⟨rfl, hb5⟩
              exact ⟨_, rfl, hK _ _ (made_plain (by show _ = _; rw [HLt.out]; rfl) hb5 rfl)⟩
          simp only [Act.put, List.setIfInBounds_toArray, List.set_cons_zero, List.set_cons_succ, Nat.reduceAdd, Nat.zero_add]
          refine calm_quiet (v := .bool true) (by rfl) (by rfl) (fun W hW hD => ?_) ?_
          · obtain rfl : v29 = .bool false := hD [] 19 (by kernel_rfl) (by kernel_rfl) (by kernel_rfl)
            clear hD hW
            go_simp
          simp only [Act.put, List.setIfInBounds_toArray, List.set_cons_zero, List.set_cons_succ, Nat.reduceAdd, Nat.zero_add]
          iterate 2 (refine calm_quiet (v := ?_) (by rfl) (by rfl) (fun W hW hD => ?_) ?_; rotate_left; (· (clear hD hW; go_simp; try with_reducible rfl)); simp only [Act.put, List.setIfInBounds_toArray, List.set_cons_zero, List.set_cons_succ, Nat.reduceAdd, Nat.zero_add])
          refine calm_nil fun W hW hF => ?_
          have HBf := Lib.hid (HW.out.trans ((grown_below hW).mono HW.out.size))
          clear hF hW HQ
          go_wp2
          go_ret
          exact ⟨by rw [HF.out]; rfl, HBf.out⟩
        · have HLt := Lib.hid hlt
          clear hlt
          have HG2 : Hid (goodTo l (k + 1) = true) := by show _ = _; unfold goodTo; rw [HX.out]; rw [HNt.out, ← lessN_eq, HLt.out, Bool.or_true]; rfl
          clear HX
          go_wp2
          refine wp_region_calm ⟨[4, 19], fun k v _ => if k = 4 then v = .bool true else v = .bool true, fun _ => [], 99, none, 1000⟩ (by kernel_rfl) (by kernel_rfl) (by kernel_rfl) (fun g h => by cases h) (fun k hk v W W' c h hg hc => h) ?_
          iterate 4 (refine calm_quiet (v := ?_) (by rfl) (by rfl) (fun W hW hD => ?_) ?_; rotate_left; (· (obtain ⟨⟨z0, z1, z2, z3⟩, _⟩ := HQ.out W hW; clear hD hW; go_simp; try with_reducible rfl)); simp only [Act.put, List.setIfInBounds_toArray, List.set_cons_zero, List.set_cons_succ, Nat.reduceAdd, Nat.zero_add])
          refine calm_makes (by rfl) (by rfl) (fun W hW hD Kc hK => ?_) (fun v14 => ?_)
          · refine wp_of_call (f := 119) ?_ ((refNote_any x W).mono ?_)
            · clear hD hW hK
              go_simp
            · rintro e w5 ⟨rfl, hb5⟩
              exact ⟨_, rfl, hK _ _ (made_plain (by show _ = _; rw [HNt.out]; rfl) hb5 rfl)⟩
          simp only [Act.put, List.setIfInBounds_toArray, List.set_cons_zero, List.set_cons_succ, Nat.reduceAdd, Nat.zero_add]
          refine calm_quiet (v := .bool false) (by rfl) (by rfl) (fun W hW hD => ?_) ?_
          · obtain rfl : v14 = .bool true := hD [] 4 (by kernel_rfl) (by kernel_rfl) (by kernel_rfl)
            clear hD hW
            go_simp
          simp only [Act.put, List.setIfInBounds_toArray, List.set_cons_zero, List.set_cons_succ, Nat.reduceAdd, Nat.zero_add]
          iterate 1 (refine calm_quiet (v := ?_) (by rfl) (by rfl) (fun W hW hD => ?_) ?_; rotate_left; (· (clear hD hW; go_simp; try with_reducible rfl)); simp only [Act.put, List.setIfInBounds_toArray, List.set_cons_zero, List.set_cons_succ, Nat.reduceAdd, Nat.zero_add])
          iterate 3 (refine calm_quiet (v := ?_) (by rfl) (by rfl) (fun W hW hD => ?_) ?_; rotate_left; (· (clear hD hW; go_simp; try with_reducible rfl)); simp only [Act.put, List.setIfInBounds_toArray, List.set_cons_zero, List.set_cons_succ, Nat.reduceAdd, Nat.zero_add])
          iterate 9 (refine calm_quiet (v := ?_) (by rfl) (by rfl) (fun W hW hD => ?_) ?_; rotate_left; (· (obtain ⟨⟨z0, z1, z2, z3⟩, y0, y1, y2, y3⟩ := HQ.out W hW; clear hD hW; go_simp; try with_reducible rfl)); simp only [Act.put, List.setIfInBounds_toArray, List.set_cons_zero, List.set_cons_succ, Nat.reduceAdd, Nat.zero_add])
          refine calm_makes (by rfl) (by rfl) (fun W hW hD Kc hK => ?_) (fun v29 => ?_)
          · refine wp_of_call (f := 66) ?_ ((refLess_any y x W).mono ?_)
            · clear hD hW hK
              go_simp
            · rintro e w5 ⟨rfl, hb5⟩
              exact ⟨_, rfl, hK _ _ (made_plain (by show _ = _; rw [HLt.out]; rfl) hb5 rfl)⟩
          simp only [Act.put, List.setIfInBounds_toArray, List.set_cons_zero, List.set_cons_succ, Nat.reduceAdd, Nat.zero_add]
          refine calm_quiet (v := .bool false) (by rfl) (by rfl) (fun W hW hD => ?_) ?_
          · obtain rfl : v29 = .bool true := hD [] 19 (by kernel_rfl) (by kernel_rfl) (by kernel_rfl)
            clear hD hW
            go_simp
          simp only [Act.put, List.setIfInBounds_toArray, List.set_cons_zero, List.set_cons_succ, Nat.reduceAdd, Nat.zero_add]
          iterate 2 (refine calm_quiet (v := ?_) (by rfl) (by rfl) (fun W hW hD => ?_) ?_; rotate_left; (· (clear hD hW; go_simp; try with_reducible rfl)); simp only [Act.put, List.setIfInBounds_toArray, List.set_cons_zero, List.set_cons_succ, Nat.reduceAdd, Nat.zero_add])
          refine calm_nil fun W hW hF => ?_
          have HBf := Lib.hid (HW.out.trans ((grown_below hW).mono HW.out.size))
          clear hF hW HQ
          go_wp2
          go_roundw
          case rel => exact ⟨k + 1, by omega, by go_num, HG2, HBf⟩
          case measure => simp [intOf]; omega
    · obtain rfl : k = n := by omega
      have ji : ¬ ((k : Int) < (k : Int)) := by omega
      have HF : Hid (notesB l = decide (((k : Nat) : Int) ≤ 60)) := by
        show _ = _
        unfold notesB
        rw [HN.out, HG.out, Bool.true_and]
        exact decide_eq_decide.2 (by omega)
      clear h1 hk HG
      go_wp2
      go_ret
      exact ⟨by rw [HF.out]; try rfl, HW.out⟩
set_option maxHeartbeats 1000000 in
set_option maxRecDepth 100000 in
theorem vValid_any (key : List UInt8) (nv : Value) (l : List VNote) (w : World) (h : RowsAt noteK w.heap.size w nv l) (hl : l.length ≤ 1000000) :
    Calls Tryz.prog 34 #[dosV key nv] w fun e w' => e = .returned (.bool (dosB ⟨key, l⟩)) ∧ Below w.heap.size w w' := by
  obtain ⟨a, c, rfl, hlc, hcm⟩ := h.shape
  have hb0 : Below w.heap.size w (w.alloc (.cells #[.string (bs key), .slice a l.length c] 26)) := (Below.refl _ _).alloc (Nat.le_refl _) _
  have HA := Lib.hid (areNotes_any (.slice a l.length c) l _ (h.later hb0 (Nat.le_refl _)) hl)
  have HB0 := Lib.hid hb0
  have hsz := bs_size key
  by_cases hk : key.length = 32
  · have d : (((bs key).size : Int) == 32) = true := by rw [hsz, hk]; rfl
    have HF : Hid (dosB ⟨key, l⟩ = notesB l) := by show _ = _; unfold dosB; rw [decide_eq_true hk]; rfl
    clear h hb0 hk hsz
    go_enter Tryz.func34, Tryz.ntmps34
    go_wp2_with fail
    refine HA.out.mono ?_
    rintro e w1 ⟨rfl, hb⟩
    have HB := Lib.hid (HB0.out.trans (hb.mono (by simp)))
    clear hb
    go_wp2
    go_ret
    exact ⟨by rw [HF.out]; rfl, HB.out⟩
  · have d : (((bs key).size : Int) == 32) = false := by rw [hsz, beq_eq_false_iff_ne]; omega
    have HF : Hid (dosB ⟨key, l⟩ = false) := by show _ = _; unfold dosB; rw [decide_eq_false hk]; rfl
    clear h hb0 hk hsz
    go_enter Tryz.func34, Tryz.ntmps34
    go_wp2
    go_ret
    exact ⟨by rw [HF.out]; try rfl, HB0.out⟩
set_option maxHeartbeats 1000000 in
set_option maxRecDepth 100000 in
theorem refDos_any (key : List UInt8) (nv : Value) (l : List VNote) (w : World) (h : RowsAt noteK w.heap.size w nv l) (hl : l.length ≤ 1000000) :
    Calls Tryz.prog 65 #[dosV key nv] w fun e w' => e = .returned (.bool (dosB ⟨key, l⟩)) ∧ Below w.heap.size w w' := by
  obtain ⟨a, c, rfl, hlc, hcm⟩ := h.shape
  have hb0 : Below w.heap.size w (w.alloc (.cells #[.string (bs key), .slice a l.length c] 26)) := (Below.refl _ _).alloc (Nat.le_refl _) _
  have HA := Lib.hid (refNotes_any (.slice a l.length c) l _ (h.later hb0 (Nat.le_refl _)) hl)
  have HB0 := Lib.hid hb0
  have hsz := bs_size key
  by_cases hk : key.length = 32
  · have d : (((bs key).size : Int) == 32) = true := by rw [hsz, hk]; rfl
    have HF : Hid (dosB ⟨key, l⟩ = notesB l) := by show _ = _; unfold dosB; rw [decide_eq_true hk]; rfl
    clear h hb0 hk hsz
    go_enter Tryz.func65, Tryz.ntmps65
    go_wp2_with fail
    refine HA.out.mono ?_
    rintro e w1 ⟨rfl, hb⟩
    have HB := Lib.hid (HB0.out.trans (hb.mono (by simp)))
    clear hb
    go_wp2
    go_ret
    exact ⟨by rw [HF.out]; rfl, HB.out⟩
  · have d : (((bs key).size : Int) == 32) = false := by rw [hsz, beq_eq_false_iff_ne]; omega
    have HF : Hid (dosB ⟨key, l⟩ = false) := by show _ = _; unfold dosB; rw [decide_eq_false hk]; rfl
    clear h hb0 hk hsz
    go_enter Tryz.func65, Tryz.ntmps65
    go_wp2
    go_ret
    exact ⟨by rw [HF.out]; try rfl, HB0.out⟩
end Go.Proofs.YteicimmdcdjagaaGreatDoor
