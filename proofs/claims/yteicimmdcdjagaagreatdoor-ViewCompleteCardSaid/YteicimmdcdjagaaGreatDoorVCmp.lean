import Derived.Test.YteicimmdcdjagaaGreatDoorVMem
import Derived.Laws.Cover1
set_option linter.unusedVariables false
set_option linter.unusedSimpArgs false

/- view: isIn, compare, and what they call of cmp. -/
set_option linter.unusedVariables false
set_option linter.unusedSimpArgs false
namespace Go.Proofs.YteicimmdcdjagaaGreatDoor
open Go.RowKit Go.Shelf

set_option maxHeartbeats 400000 in
theorem visIn_any (n lo hi : Int) (w : World) :
    Calls Tryz.prog 39 #[.int .i64 n, .int .i64 lo, .int .i64 hi] w fun e w' => e = .returned (.bool (inZ n lo hi)) ∧ w = w' := by
  have HI : Hid (inZ n lo hi = (decide (lo ≤ n) && decide (n ≤ hi))) := rfl
  by_cases h1 : lo ≤ n
  · by_cases h2 : n ≤ hi
    · have d1 : decide (lo ≤ n) = true := by simp [h1]
      have d2 : decide (n ≤ hi) = true := by simp [h2]
      have HF : Hid (inZ n lo hi = true) := by show _ = _; rw [HI.out, d1, d2]; rfl
      go_enter Tryz.func39, Tryz.ntmps39
      go_wp2
      go_ret
      exact ⟨by rw [HF.out]; rfl, rfl⟩
    · have d1 : decide (lo ≤ n) = true := by simp [h1]
      have d2 : decide (n ≤ hi) = false := by simp; omega
      have HF : Hid (inZ n lo hi = false) := by show _ = _; rw [HI.out, d1, d2]; rfl
      go_enter Tryz.func39, Tryz.ntmps39
      go_wp2
      go_ret
      exact ⟨by rw [HF.out]; rfl, rfl⟩
  · have d1 : decide (lo ≤ n) = false := by simp; omega
    have HF : Hid (inZ n lo hi = false) := by show _ = _; rw [HI.out, d1]; rfl
    go_enter Tryz.func39, Tryz.ntmps39
    go_wp2
    go_ret
    exact ⟨by rw [HF.out]; rfl, rfl⟩
theorem visIn_eq {n lo hi : Int} {b : Bool} (h : inZ n lo hi = b) (w : World) :
    Calls Tryz.prog 39 #[.int .i64 n, .int .i64 lo, .int .i64 hi] w fun e w' => e = .returned (.bool b) ∧ w = w' := h ▸ visIn_any n lo hi w
theorem isNaNI_any (a : Int) (w : World) : Calls Tryz.prog 116 #[.int .i64 a] w fun e w' => e = .returned (.bool false) ∧ w = w' := by
  go_enter Tryz.func116, Tryz.ntmps116
  go_wp2
  go_ret
  exact ⟨by simp, rfl⟩
theorem isNaNS_any (a : ByteArray) (w : World) : Calls Tryz.prog 117 #[.string a] w fun e w' => e = .returned (.bool false) ∧ w = w' := by
  go_enter Tryz.func117, Tryz.ntmps117
  go_wp2
  go_ret
  exact ⟨by simp, rfl⟩
set_option maxHeartbeats 1000000 in
theorem cmpI_any (a b : Int) (w : World) : Calls Tryz.prog 92 #[.int .i64 a, .int .i64 b] w fun e w' => e = .returned (.int .i64 (sgnI a b)) ∧ w = w' := by
  have HNa := Lib.hid (fun W => isNaNI_any a W)
  have HNb := Lib.hid (fun W => isNaNI_any b W)
  rcases sgnI_cases a b with ⟨h, e⟩ | ⟨h, e⟩ | ⟨h, e⟩
  · have HE := Lib.hid e
    have d1 : decide (a < b) = true := decide_eq_true h
    clear e h
    go_enter Tryz.func92, Tryz.ntmps92
    go_wp2_with fail
    refine (HNa.out _).mono ?_
    rintro e w' ⟨rfl, rfl⟩
    go_wp2_with fail
    refine (HNb.out _).mono ?_
    rintro e w' ⟨rfl, rfl⟩
    go_wp2
    go_ret
    exact ⟨by rw [HE.out]; rfl, rfl⟩
  · have HE := Lib.hid e
    have d1 : decide (a < b) = false := decide_eq_false (by omega)
    have d2 : decide (b < a) = false := decide_eq_false (by omega)
    clear e h
    go_enter Tryz.func92, Tryz.ntmps92
    go_wp2_with fail
    refine (HNa.out _).mono ?_
    rintro e w' ⟨rfl, rfl⟩
    go_wp2_with fail
    refine (HNb.out _).mono ?_
    rintro e w' ⟨rfl, rfl⟩
    go_wp2
    go_ret
    exact ⟨by rw [HE.out]; rfl, rfl⟩
  · have HE := Lib.hid e
    have d1 : decide (a < b) = false := decide_eq_false (by omega)
    have d2 : decide (b < a) = true := decide_eq_true h
    clear e h
    go_enter Tryz.func92, Tryz.ntmps92
    go_wp2_with fail
    refine (HNa.out _).mono ?_
    rintro e w' ⟨rfl, rfl⟩
    go_wp2_with fail
    refine (HNb.out _).mono ?_
    rintro e w' ⟨rfl, rfl⟩
    go_wp2
    go_ret
    exact ⟨by rw [HE.out]; rfl, rfl⟩
theorem bs_beq2 (x y : List UInt8) : ((bs x).toList == (bs y).toList) = (x == y) := by rw [bs_toList, bs_toList]
theorem ltT_bs (x y : List UInt8) : Op.bytesLess (bs x).toList (bs y).toList = ltT x y := by rw [bs_toList, bs_toList]; rfl
set_option maxRecDepth 100000 in
set_option maxHeartbeats 1000000 in
theorem cmpS_any (x y : List UInt8) (w : World) : Calls Tryz.prog 93 #[.string (bs x), .string (bs y)] w fun e w' => e = .returned (.int .i64 (sgnT x y)) ∧ w = w' := by
  have HNa := Lib.hid (fun W => isNaNS_any (bs x) W)
  have HNb := Lib.hid (fun W => isNaNS_any (bs y) W)
  have l1 := ltT_bs x y
  have l2 := bs_beq2 x y
  rcases sgnT_cases x y with ⟨h, e⟩ | ⟨h, e⟩ | ⟨h, e⟩
  · have HE := Lib.hid e
    rw [h] at l1
    generalize bs x = X at *
    generalize bs y = Y at *
    clear e h l2
    go_enter Tryz.func93, Tryz.ntmps93
    go_wp2_with fail
    refine (HNa.out _).mono ?_
    rintro e w' ⟨rfl, rfl⟩
    go_wp2_with fail
    refine (HNb.out _).mono ?_
    rintro e w' ⟨rfl, rfl⟩
    go_wp2
    go_ret
    exact ⟨by rw [HE.out]; rfl, rfl⟩
  · have HE := Lib.hid e
    rw [h, ltT_irr] at l1
    rw [h, beq_self_eq_true] at l2
    rw [h] at HNa ⊢
    rw [h] at HE
    generalize bs y = Y at *
    have hgt : ∀ W : World, (binOp .gtr 9 (.string Y) (.string Y)).run Tryz.prog W = .ok (.bool false) W := fun W => by rw [binOp_string_gtr, l1]; simp
    clear e h l2
    go_enter Tryz.func93, Tryz.ntmps93
    go_wp2_with fail
    refine (HNa.out _).mono ?_
    rintro e w' ⟨rfl, rfl⟩
    go_wp2_with fail
    refine (HNb.out _).mono ?_
    rintro e w' ⟨rfl, rfl⟩
    go_wp2
    go_ret
    exact ⟨by rw [HE.out]; rfl, rfl⟩
  · have HE := Lib.hid e
    rw [ltT_asym _ _ h] at l1
    have hne : (x == y) = false := by
      rw [beq_eq_false_iff_ne]
      rintro rfl
      rw [ltT_irr] at h
      cases h
    rw [hne] at l2
    generalize bs x = X at *
    generalize bs y = Y at *
    clear e h hne
    go_enter Tryz.func93, Tryz.ntmps93
    go_wp2_with fail
    refine (HNa.out _).mono ?_
    rintro e w' ⟨rfl, rfl⟩
    go_wp2_with fail
    refine (HNb.out _).mono ?_
    rintro e w' ⟨rfl, rfl⟩
    go_wp2
    go_ret
    exact ⟨by rw [HE.out]; rfl, rfl⟩
theorem or4_zero {x : Nat → Int} (h : ∀ j, j < 4 → x j = 0) : orZ [x 0, x 1, x 2, x 3] = 0 := by simp [orZ, h]
theorem or4_at {x : Nat → Int} : ∀ {k : Nat}, k < 4 → (∀ j, j < k → x j = 0) → x k ≠ 0 → orZ [x 0, x 1, x 2, x 3] = x k
  | 0, _, _, hk => by simp [orZ, hk]
  | 1, _, h, hk => by simp [orZ, h, hk]
  | 2, _, h, hk => by simp [orZ, h, hk]
  | 3, _, h, hk => by simp [orZ, h, hk]
set_option maxHeartbeats 1000000 in
theorem or4_any (x : Nat → Int) (g : Nat) (w : World) (hc : ∀ k, k < 4 → w.cell? ⟨g, k, none⟩ = some (.int .i64 (x k))) :
    Calls Tryz.prog 91 #[.slice (some ⟨g, 0, none⟩) 4 4] w fun e w' => e = .returned (.int .i64 (orZ [x 0, x 1, x 2, x 3])) ∧ w = w' := by
  have HC := Lib.hid hc
  obtain ⟨Z, hZ⟩ : ∃ z, z = orZ [x 0, x 1, x 2, x 3] := ⟨_, rfl⟩
  rw [← hZ]
  have HZ := Lib.hid hZ
  clear hc hZ
  go_enter Tryz.func91, Tryz.ntmps91
  go_wp2
  go_loopw [8] (fun i wr => ∃ k : Nat, k ≤ 4 ∧ i = .int .i64 k ∧ wr = w ∧ Hid (∀ j, j < k → x j = 0)) (fun i _ => 4 - (intOf i).toNat)
  case atStart => exact ⟨0, by omega, rfl, rfl, Lib.hid (fun j hj => by omega)⟩
  case round =>
    obtain ⟨k, hk, rfl, rfl, HK⟩ := hrel
    by_cases h1 : k < 4
    · have ji : (k : Int) < 4 := by omega
      have j0 : 0 ≤ (k : Int) := by omega
      have c0 := HC.out k h1
      obtain ⟨z, hz⟩ : ∃ z, z = x k := ⟨_, rfl⟩
      rw [← hz] at c0
      by_cases h0 : z = 0
      · have d : (z != 0) = false := by simp [h0]
        have HK2 : Hid (∀ j, j < k + 1 → x j = 0) := fun j hj => by
          by_cases e : j = k
          · rw [e, ← hz]; exact h0
          · exact HK.out j (by omega)
        clear h0 hz HK
        go_wp2
        go_roundw
        case rel => exact ⟨k + 1, by omega, by go_num, by first | trivial | rfl, HK2⟩
        case measure => simp [intOf]; omega
      · have d : (z != 0) = true := by simp [h0]
        have HF : Hid (Z = z) := by show _ = _; rw [HZ.out, hz]; exact or4_at h1 HK.out (by rw [← hz]; exact h0)
        clear h0 hz HK
        go_wp2
        go_ret
        exact ⟨by rw [HF.out]; rfl, rfl⟩
    · have ji : ¬ ((k : Int) < 4) := by omega
      have HF : Hid (Z = 0) := by show _ = _; rw [HZ.out]; exact or4_zero (fun j hj => HK.out j (by omega))
      clear h1 hk HK
      go_wp2
      go_ret
      exact ⟨by rw [HF.out]; rfl, rfl⟩
/-- What the steps of compare leave. -/
def CmpF (B : Nat) (x : Nat → Int) : Nat → Value → World → Prop := fun k v W =>
  if k = 4 then v = .int .i64 (x 0) else if k = 9 then v = .int .i64 (x 1) else if k = 14 then v = .int .i64 (x 2) else if k = 19 then v = .int .i64 (x 3)
  else if k = 20 then ∃ g, v = .slice (some ⟨g, 0, none⟩) 4 4 ∧ B ≤ g ∧ BoxN g 3 #[.int .i64 (x 0), .int .i64 (x 1), .int .i64 (x 2), .int .i64 (x 3)] W else v = .int .i64 (orZ [x 0, x 1, x 2, x 3])
theorem cmpF_kept {B k : Nat} {x : Nat → Int} {v : Value} {W W' : World} {cc : Option Nat} (h : CmpF B x k v W) (hg : W.grownBy W' cc) (hc : ∀ g, cc = some g → False) : CmpF B x k v W' := by
  unfold CmpF at h ⊢
  split at h
  · rename_i hk; rw [if_pos hk]; exact h
  · rename_i hk; rw [if_neg hk]; split at h
    · rename_i hk; rw [if_pos hk]; exact h
    · rename_i hk; rw [if_neg hk]; split at h
      · rename_i hk; rw [if_pos hk]; exact h
      · rename_i hk; rw [if_neg hk]; split at h
        · rename_i hk; rw [if_pos hk]; exact h
        · rename_i hk; rw [if_neg hk]; split at h
          · rename_i hk; rw [if_pos hk]
            obtain ⟨g, rfl, hB, hb⟩ := h
            exact ⟨g, rfl, hB, (hg.block g (Array.getElem?_eq_some_iff.1 (show W.heap[g]? = _ from hb)).1 fun e => hc g e.symm).trans hb⟩
          · rename_i hk; rw [if_neg hk]; exact h
set_option maxHeartbeats 4000000 in
set_option maxRecDepth 100000 in
theorem compare_any (a b : VNote) (w : World) : Calls Tryz.prog 57 #[noteV a, noteV b] w fun e w' => e = .returned (.int .i64 (cmpN a b)) ∧ Below w.heap.size w w' := by
  have hb0 : Below w.heap.size w ((w.alloc (.cells (noteR a) 48)).alloc (.cells (noteR b) 48)) := ((Below.refl _ _).alloc (Nat.le_refl _) _).alloc (by simp) _
  have hx := box_new w 48 (noteR a)
  have hx2 := keep_box hx _ ((Below.refl _ _).alloc (Nat.le_refl _) (.cells (noteR b) 48))
  have hy := box_new (w.alloc (.cells (noteR a) 48)) 48 (noteR b)
  rw [World.size_alloc] at hy
  obtain ⟨x, hx0⟩ : ∃ x : Nat → Int, x = fun k => [sgnI a.unit b.unit, sgnI a.day b.day, sgnI a.kind b.kind, sgnT a.text b.text].getD k 0 := ⟨_, rfl⟩
  have HZ : Hid (cmpN a b = orZ [x 0, x 1, x 2, x 3]) := by show _ = _; rw [hx0]; rfl
  have HC0 : Hid (∀ W, Calls Tryz.prog 92 #[.int .i64 a.unit, .int .i64 b.unit] W fun e w' => e = .returned (.int .i64 (x 0)) ∧ W = w') := fun W => by rw [hx0]; exact cmpI_any _ _ W
  have HC1 : Hid (∀ W, Calls Tryz.prog 92 #[.int .i64 a.day, .int .i64 b.day] W fun e w' => e = .returned (.int .i64 (x 1)) ∧ W = w') := fun W => by rw [hx0]; exact cmpI_any _ _ W
  have HC2 : Hid (∀ W, Calls Tryz.prog 92 #[.int .i64 a.kind, .int .i64 b.kind] W fun e w' => e = .returned (.int .i64 (x 2)) ∧ W = w') := fun W => by rw [hx0]; exact cmpI_any _ _ W
  have HC3 : Hid (∀ W, Calls Tryz.prog 93 #[.string (bs a.text), .string (bs b.text)] W fun e w' => e = .returned (.int .i64 (x 3)) ∧ W = w') := fun W => by rw [hx0]; exact cmpS_any _ _ W
  clear hx0
  obtain ⟨V, hV⟩ : ∃ V, V = (w.alloc (.cells (noteR a) 48)).alloc (.cells (noteR b) 48) := ⟨_, rfl⟩
  rw [← hV] at hb0 hx2 hy
  have HQ : Hid (∀ W, V.grownBy W none → (W.cell? ⟨w.heap.size, 0, none⟩ = some (.int .i64 a.unit) ∧ W.cell? ⟨w.heap.size, 1, none⟩ = some (.int .i64 a.day) ∧ W.cell? ⟨w.heap.size, 2, none⟩ = some (.int .i64 a.kind) ∧ W.cell? ⟨w.heap.size, 3, none⟩ = some (.string (bs a.text))) ∧ (W.cell? ⟨w.heap.size + 1, 0, none⟩ = some (.int .i64 b.unit) ∧ W.cell? ⟨w.heap.size + 1, 1, none⟩ = some (.int .i64 b.day) ∧ W.cell? ⟨w.heap.size + 1, 2, none⟩ = some (.int .i64 b.kind) ∧ W.cell? ⟨w.heap.size + 1, 3, none⟩ = some (.string (bs b.text)))) := fun W hW =>
    ⟨NoteN.cells (keep_note hx2 W (grown_below hW)), NoteN.cells (keep_note hy W (grown_below hW))⟩
  have HB := Lib.hid hb0
  have HVv := Lib.hid hV
  clear hV hb0 hx hx2 hy
  go_enter Tryz.func57, Tryz.ntmps57
  go_wp2
  rw [← HVv.out]
  refine wp_region_calm ⟨[4, 9, 14, 19, 20, 21], CmpF V.heap.size x, fun _ => [], 99, none, 1000⟩ (by kernel_rfl) (by kernel_rfl) (by kernel_rfl) (fun g h => by cases h) (fun k hk v W W' c h hg hc => cmpF_kept h hg fun g hh => ?_) ?_
  · obtain ⟨_, _, i, j, u, hd, _⟩ := hc g hh
    simp at hd
  iterate 4 (refine calm_quiet (v := ?_) (by rfl) (by rfl) (fun W hW hD => ?_) ?_; rotate_left; (· (obtain ⟨⟨z0, z1, z2, z3⟩, ⟨y0, y1, y2, y3⟩⟩ := HQ.out W hW; clear hD hW; go_simp; try with_reducible rfl)); simp only [Act.put, List.setIfInBounds_toArray, List.set_cons_zero, List.set_cons_succ, Nat.reduceAdd, Nat.zero_add])
  refine calm_makes (by rfl) (by rfl) (fun W hW hD Kc hK => ?_) (fun v9 => ?_)
  · refine wp_of_call (f := 92) ?_ ((HC0.out W).mono ?_)
    · clear hD hW hK
      go_simp
    · rintro e w5 ⟨rfl, rfl⟩
      exact ⟨_, rfl, hK _ _ (made_plain rfl (Below.refl _ _) rfl)⟩
  simp only [Act.put, List.setIfInBounds_toArray, List.set_cons_zero, List.set_cons_succ, Nat.reduceAdd, Nat.zero_add]
  iterate 4 (refine calm_quiet (v := ?_) (by rfl) (by rfl) (fun W hW hD => ?_) ?_; rotate_left; (· (obtain ⟨⟨z0, z1, z2, z3⟩, ⟨y0, y1, y2, y3⟩⟩ := HQ.out W hW; clear hD hW; go_simp; try with_reducible rfl)); simp only [Act.put, List.setIfInBounds_toArray, List.set_cons_zero, List.set_cons_succ, Nat.reduceAdd, Nat.zero_add])
  refine calm_makes (by rfl) (by rfl) (fun W hW hD Kc hK => ?_) (fun v14 => ?_)
  · refine wp_of_call (f := 92) ?_ ((HC1.out W).mono ?_)
    · clear hD hW hK
      go_simp
    · rintro e w5 ⟨rfl, rfl⟩
      exact ⟨_, rfl, hK _ _ (made_plain rfl (Below.refl _ _) rfl)⟩
  simp only [Act.put, List.setIfInBounds_toArray, List.set_cons_zero, List.set_cons_succ, Nat.reduceAdd, Nat.zero_add]
  iterate 4 (refine calm_quiet (v := ?_) (by rfl) (by rfl) (fun W hW hD => ?_) ?_; rotate_left; (· (obtain ⟨⟨z0, z1, z2, z3⟩, ⟨y0, y1, y2, y3⟩⟩ := HQ.out W hW; clear hD hW; go_simp; try with_reducible rfl)); simp only [Act.put, List.setIfInBounds_toArray, List.set_cons_zero, List.set_cons_succ, Nat.reduceAdd, Nat.zero_add])
  refine calm_makes (by rfl) (by rfl) (fun W hW hD Kc hK => ?_) (fun v19 => ?_)
  · refine wp_of_call (f := 92) ?_ ((HC2.out W).mono ?_)
    · clear hD hW hK
      go_simp
    · rintro e w5 ⟨rfl, rfl⟩
      exact ⟨_, rfl, hK _ _ (made_plain rfl (Below.refl _ _) rfl)⟩
  simp only [Act.put, List.setIfInBounds_toArray, List.set_cons_zero, List.set_cons_succ, Nat.reduceAdd, Nat.zero_add]
  iterate 4 (refine calm_quiet (v := ?_) (by rfl) (by rfl) (fun W hW hD => ?_) ?_; rotate_left; (· (obtain ⟨⟨z0, z1, z2, z3⟩, ⟨y0, y1, y2, y3⟩⟩ := HQ.out W hW; clear hD hW; go_simp; try with_reducible rfl)); simp only [Act.put, List.setIfInBounds_toArray, List.set_cons_zero, List.set_cons_succ, Nat.reduceAdd, Nat.zero_add])
  refine calm_makes (by rfl) (by rfl) (fun W hW hD Kc hK => ?_) (fun v24 => ?_)
  · refine wp_of_call (f := 93) ?_ ((HC3.out W).mono ?_)
    · clear hD hW hK
      go_simp
    · rintro e w5 ⟨rfl, rfl⟩
      exact ⟨_, rfl, hK _ _ (made_plain rfl (Below.refl _ _) rfl)⟩
  simp only [Act.put, List.setIfInBounds_toArray, List.set_cons_zero, List.set_cons_succ, Nat.reduceAdd, Nat.zero_add]
  refine calm_makes (by rfl) (by rfl) (fun W hW hD Kc hK => ?_) (fun v25 => ?_)
  · obtain rfl : v9 = .int .i64 (x 0) := hD [] 4 (by kernel_rfl) (by kernel_rfl) (by kernel_rfl)
    obtain rfl : v14 = .int .i64 (x 1) := hD [] 9 (by kernel_rfl) (by kernel_rfl) (by kernel_rfl)
    obtain rfl : v19 = .int .i64 (x 2) := hD [] 14 (by kernel_rfl) (by kernel_rfl) (by kernel_rfl)
    obtain rfl : v24 = .int .i64 (x 3) := hD [] 19 (by kernel_rfl) (by kernel_rfl) (by kernel_rfl)
    refine wp_of_run (v := .slice (some ⟨W.heap.size, 0, none⟩) 4 4) (w' := W.alloc (.cells #[.int .i64 (x 0), .int .i64 (x 1), .int .i64 (x 2), .int .i64 (x 3)] 3)) ?_ (hK _ _ (made_below ⟨W.heap.size, rfl, hW.size, box_new W _ _⟩ ((Below.refl _ _).alloc (Nat.le_refl _) _) (fun g hg => ?_)))
    · clear hD hW hK
      go_simp
    · have hg' : some W.heap.size = some g := hg
      cases hg'
      exact ⟨Nat.le_refl _, by simp⟩
  simp only [Act.put, List.setIfInBounds_toArray, List.set_cons_zero, List.set_cons_succ, Nat.reduceAdd, Nat.zero_add]
  refine calm_makes (by rfl) (by rfl) (fun W hW hD Kc hK => ?_) (fun v26 => ?_)
  · obtain ⟨g, rfl, _, hbx⟩ : ∃ g, v25 = .slice (some ⟨g, 0, none⟩) 4 4 ∧ V.heap.size ≤ g ∧ BoxN g 3 #[.int .i64 (x 0), .int .i64 (x 1), .int .i64 (x 2), .int .i64 (x 3)] W := hD [] 20 (by kernel_rfl) (by kernel_rfl) (by kernel_rfl)
    refine wp_of_call (f := 91) ?_ ((or4_any x g W (fun k hk => ?_)).mono ?_)
    · clear hD hW hK hbx
      go_simp
    · match k, hk with
      | 0, _ => exact hbx.cell 0 _ rfl
      | 1, _ => exact hbx.cell 1 _ rfl
      | 2, _ => exact hbx.cell 2 _ rfl
      | 3, _ => exact hbx.cell 3 _ rfl
    · rintro e w5 ⟨rfl, rfl⟩
      exact ⟨_, rfl, hK _ _ (made_plain rfl (Below.refl _ _) rfl)⟩
  simp only [Act.put, List.setIfInBounds_toArray, List.set_cons_zero, List.set_cons_succ, Nat.reduceAdd, Nat.zero_add]
  iterate 1 (refine calm_quiet (v := ?_) (by rfl) (by rfl) (fun W hW hD => ?_) ?_; rotate_left; (· (clear hD hW; go_simp; try with_reducible rfl)); simp only [Act.put, List.setIfInBounds_toArray, List.set_cons_zero, List.set_cons_succ, Nat.reduceAdd, Nat.zero_add])
  refine calm_nil fun W hW hF => ?_
  obtain rfl : v26 = .int .i64 (orZ [x 0, x 1, x 2, x 3]) := hF 21 (by kernel_rfl) (by kernel_rfl)
  have HBf := Lib.hid (HB.out.trans ((grown_below hW).mono HB.out.size))
  clear hF hW HQ
  go_wp2
  go_ret
  exact ⟨by rw [HZ.out]; rfl, HBf.out⟩
end Go.Proofs.YteicimmdcdjagaaGreatDoor
