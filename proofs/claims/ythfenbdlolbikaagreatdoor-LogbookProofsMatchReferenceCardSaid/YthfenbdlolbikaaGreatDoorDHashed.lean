/- The reference's Hashed. -/
import Derived.Test.YthfenbdlolbikaaGreatDoorDRefT
import Derived.Test.YthfenbdlolbikaaGreatDoorDStepS
set_option linter.unusedVariables false
set_option linter.unusedSimpArgs false
namespace Go.Proofs.YthfenbdlolbikaaGreatDoor
open Go.RowKit Go.Shelf

theorem hashedL_len : ∀ (n : Nat) (l : List Bytes), l.length ≤ n → 1 ≤ l.length → (hashedL l).length + 1 ≤ 2 * l.length
  | 0, l, h, h1 => by omega
  | n + 1, l, h, h1 => by
    by_cases h2 : 2 ≤ l.length
    · have hb := leftN_bd h2
      have e1 := hashedL_len n (l.take (leftN l.length)) (by rw [List.length_take]; omega) (by rw [List.length_take]; omega)
      have e2 := hashedL_len n (l.drop (leftN l.length)) (by rw [List.length_drop]; omega) (by rw [List.length_drop]; omega)
      rw [List.length_take] at e1
      rw [List.length_drop] at e2
      rw [hashedL_split h2]
      simp only [List.length_append, List.length_singleton]
      omega
    · rw [hashedL_one (by omega)]
      simp
      omega
theorem hashedL_bd (l : List Bytes) : (hashedL l).length ≤ 2 * l.length + 1 := by
  by_cases h : 1 ≤ l.length
  · have := hashedL_len l.length l (Nat.le_refl _) h
    omega
  · rw [List.eq_nil_of_length_eq_zero (by omega : l.length = 0), hashedL_nil]
    simp
theorem hashedL_el : ∀ (n : Nat) (l : List Bytes), l.length ≤ n → (∀ x ∈ l, x.length ≤ 1000) → ∀ x ∈ hashedL l, x.length ≤ 1001
  | n, l, h, hl, x, hx => by
    by_cases h2 : 2 ≤ l.length
    · have hb := leftN_bd h2
      rw [hashedL_split h2] at hx
      match n, h with
      | n + 1, h =>
        rcases List.mem_append.1 hx with hx | hx
        · rcases List.mem_append.1 hx with hx | hx
          · exact hashedL_el n _ (by rw [List.length_take]; omega) (fun y hy => hl y (List.mem_of_mem_take hy)) x hx
          · exact hashedL_el n _ (by rw [List.length_drop]; omega) (fun y hy => hl y (List.mem_of_mem_drop hy)) x hx
        · rw [List.mem_singleton.1 hx]
          simp only [List.length_cons, List.length_append, rootL_length]
          omega
      | 0, h => omega
    · by_cases h1 : l.length = 1
      · rw [hashedL_one h1, List.mem_singleton] at hx
        have := hl _ (getD_mem' l [] 0 (by omega))
        rw [hx, List.length_cons]
        omega
      · rw [List.eq_nil_of_length_eq_zero (by omega : l.length = 0), hashedL_nil, List.mem_singleton] at hx
        rw [hx]
        simp
/-- What the operations leave. -/
def HsF1 (H : Nat) (p q : List Bytes) : Nat → Value → World → Prop
  | 3, v, W => OwnS H W v p
  | 7, v, W => OwnS H W v q
  | _, v, W => OwnS H W v (p ++ q)
theorem HsF1_kept {H k : Nat} {p q : List Bytes} {v : Value} {W W' : World} {c : Option Nat} (h : HsF1 H p q k v W) (hg : W.grownBy W' c) (hc : ∀ g, c = some g → v.ownBlock ≠ some g) : HsF1 H p q k v W' := by
  unfold HsF1 at *
  split at h <;> exact rowS_kept h hg hc
def HsF2 (H : Nat) (v0 : Value) (p : List Bytes) (r s z : Bytes) : Nat → Value → World → Prop
  | 0, v, W => v = v0 ∧ OwnS H W v0 p
  | 4, v, _ => v = .string (bs r)
  | 9, v, _ => v = .string (bs s)
  | 11, v, W => OwnS H W v [z]
  | _, v, W => OwnS H W v (p ++ [z])
theorem HsF2_kept {H k : Nat} {v0 : Value} {p : List Bytes} {r s z : Bytes} {v : Value} {W W' : World} {c : Option Nat} (h : HsF2 H v0 p r s z k v W) (hg : W.grownBy W' c) (hc : ∀ g, c = some g → v.ownBlock ≠ some g) : HsF2 H v0 p r s z k v W' := by
  unfold HsF2 at *
  split at h
  · obtain ⟨rfl, h⟩ := h
    exact ⟨rfl, rowS_kept h hg hc⟩
  · exact h
  · exact h
  · exact rowS_kept h hg hc
  · exact rowS_kept h hg hc
set_option maxRecDepth 100000 in
set_option maxHeartbeats 4000000 in
theorem hashed_step (l : List Bytes) (v : Value) (w : World) (hS : Sm l) (hL : StrsAt w.heap.size w v l)
    (hrec : ∀ (l' : List Bytes) (v' : Value) (W : World), l'.length < l.length → Sm l' → StrsAt W.heap.size W v' l' → Calls Tryz.prog 28 #[v'] W fun e w' => ∃ vp, e = .returned vp ∧ OwnS W.heap.size w' vp (hashedL l') ∧ Below W.heap.size W w') :
    Calls Tryz.prog 28 #[v] w fun e w' => ∃ vp, e = .returned vp ∧ OwnS w.heap.size w' vp (hashedL l) ∧ Below w.heap.size w w' := by
  obtain ⟨a, c, rfl, hlc, hcm⟩ := hL.shape
  unfold maxLen at hcm
  by_cases h0 : l.length = 0
  · have HP : Hid (hashedL l = [[]]) := by show _ = _; rw [List.eq_nil_of_length_eq_zero h0]; exact hashedL_nil
    have h00 : (((l.length : Nat) : Int) == 0) = true := by rw [h0]; rfl
    clear hrec hS hL
    generalize l.length = N at *
    clear h0
    have HO := Lib.hid (ownS_lit w w.heap.size [] (Nat.le_refl _))
    go_enter Tryz.func28, Tryz.ntmps28
    go_wp2
    go_ret
    exact ⟨_, rfl, by rw [HP.out]; exact HO.out, (Below.refl _ _).alloc (Nat.le_refl _) _⟩
  · by_cases h1 : l.length = 1
    · have HP := Lib.hid (hashedL_one h1)
      obtain ⟨b, off, rfl, hb, hcl⟩ := hL.at 0 (by omega)
      have hxl := hS.2 _ (getD_mem' l [] 0 (by omega))
      have hcl' : w.cell? ⟨b, off, none⟩ = some (.string (bs (l.getD 0 []))) := hcl
      have HC := Lib.hid (cat_bs1 0 (l.getD 0 []))
      have HO := Lib.hid (ownS_lit w w.heap.size (0 :: l.getD 0 []) (Nat.le_refl _))
      rw [← HC.out] at HO
      have hno : ¬ (9223372036854775807 < 1 + (bs (l.getD 0 [])).size) := by rw [bs_size]; omega
      rw [h1]
      clear hrec hS hL hcl
      generalize l.getD 0 [] = x at *
      generalize bs x = X at *
      go_enter Tryz.func28, Tryz.ntmps28
      go_wp2
      go_ret
      exact ⟨_, rfl, by rw [HP.out]; exact HO.out, (Below.refl _ _).alloc (Nat.le_refl _) _⟩
    · have h2 : 2 ≤ l.length := by omega
      have hlb := leftN_bd h2
      obtain ⟨b, off, ha⟩ := hL.addr (by omega)
      subst ha
      have hTk := hL.take (leftN l.length) (by omega)
      have hDr := hL.drop (leftN l.length) (by omega)
      have HPl := Lib.hid (hashedL_split h2)
      have HRk := Lib.hid (fun W (hW : Below w.heap.size w W) => (refRoot_any l.length (l.take (leftN l.length)) _ W (by rw [List.length_take]; omega) (hS.take _) (hTk.later hW (Nat.le_refl _))))
      have HRd := Lib.hid (fun W (hW : Below w.heap.size w W) => (refRoot_any l.length (l.drop (leftN l.length)) _ W (by rw [List.length_drop]; omega) (hS.drop _) (hDr.later hW (Nat.le_refl _))))
      have HP1 := Lib.hid (fun W (hW : Below w.heap.size w W) => (hrec (l.take (leftN l.length)) _ W (by rw [List.length_take]; omega) (hS.take _) (hTk.later hW (Nat.le_refl _))))
      have HP2 := Lib.hid (fun W (hW : Below w.heap.size w W) => (hrec (l.drop (leftN l.length)) _ W (by rw [List.length_drop]; omega) (hS.drop _) (hDr.later hW (Nat.le_refl _))))
      have hpl1 : (hashedL (l.take (leftN l.length))).length ≤ 300000 := by have := hashedL_bd (l.take (leftN l.length)); rw [List.length_take] at this; have := hS.1; omega
      have hpl2 : (hashedL (l.drop (leftN l.length))).length ≤ 300000 := by have := hashedL_bd (l.drop (leftN l.length)); rw [List.length_drop] at this; have := hS.1; omega
      have HLt := Lib.hid (fun W => refLeft_any l.length W h2 (by have := hS.1; omega))
      have hNb := hS.1
      clear hrec hS hTk hDr hL
      have hr1 := rootL_length (l.take (leftN l.length))
      have hr2 := rootL_length (l.drop (leftN l.length))
      generalize hashedL (l.take (leftN l.length)) = p at *
      generalize hashedL (l.drop (leftN l.length)) = q at *
      generalize l.length = N at *
      generalize leftN N = K at *
      generalize l.take K = lt at *
      generalize l.drop K = ld at *
      generalize rootL lt = rt at *
      generalize rootL ld = rd at *
      have e1 : (K : Int) ≤ (N : Int) := by omega
      have e3 : (K : Int) ≤ (c : Int) := by omega
      have e4 : (N : Int) ≤ (c : Int) := by omega
      have hcK : ¬ c = K := by omega
      have hn0 : ((N : Int) == 0) = false := by rw [beq_eq_false_iff_ne]; omega
      have hn1 : ((N : Int) == 1) = false := by rw [beq_eq_false_iff_ne]; omega
      have s1 : ¬ (9223372036854775807 < 1 + (bs rt).size) := by rw [bs_size]; omega
      have s2 : ¬ (9223372036854775807 < 1 + (bs rt).size + (bs rd).size) := by rw [bs_size, bs_size]; omega
      have HC : Hid ((⟨#[1]⟩ : ByteArray) ++ bs rt ++ bs rd = bs (1 :: (rt ++ rd))) := by show _ = _; rw [cat_bs1, cat_bs]; rfl
      clear hr1 hr2
      go_enter Tryz.func28, Tryz.ntmps28
      go_wp2_with (go_at_call 61; refine (HLt.out _).mono ?_; rintro e w' ⟨rfl, rfl⟩)
      have HBW : Hid (∀ W, w.grownBy W none → Below w.heap.size w W) := fun W hW => grown_below hW
      refine wp_region_calm ⟨[3, 7, 8], HsF1 w.heap.size p q, fun k => if k = 8 then [3] else [], 99, none, 1000⟩ (by kernel_rfl) (by kernel_rfl) (by kernel_rfl) (fun g h => by cases h) (fun k _ v W W' c h hg hc => HsF1_kept h hg fun g hh => (hc g hh).1) ?_
      iterate 3 (refine calm_quiet (v := ?_) (by rfl) (by rfl) (fun W hW hD => ?_) ?_; rotate_left; (· (clear hD hW; go_simp; try with_reducible rfl)); simp only [Act.put, List.setIfInBounds_toArray, List.set_cons_zero, List.set_cons_succ, Nat.reduceAdd, Nat.zero_add])
      refine calm_makes (by rfl) (by rfl) (fun W hW hD K hK => ?_) (fun v23 => ?_)
      · have hbW := HBW.out W hW
        have hbZ := hbW.size
        refine wp_of_call ?_ ((HP1.out W hbW).mono ?_)
        · clear hD hW hK hbW
          go_simp
          try rfl
        · rintro e w' ⟨vp, he, ho, hb⟩
          exact ⟨_, he, hK _ _ (made_below (OwnS.mono ho hbZ) hb (World.ownsRow.lt ho))⟩
      simp only [Act.put, List.setIfInBounds_toArray, List.set_cons_zero, List.set_cons_succ, Nat.reduceAdd, Nat.zero_add]
      iterate 3 (refine calm_quiet (v := ?_) (by rfl) (by rfl) (fun W hW hD => ?_) ?_; rotate_left; (· (clear hD hW; go_simp; try with_reducible rfl)); simp only [Act.put, List.setIfInBounds_toArray, List.set_cons_zero, List.set_cons_succ, Nat.reduceAdd, Nat.zero_add])
      refine calm_makes (by rfl) (by rfl) (fun W hW hD K hK => ?_) (fun v27 => ?_)
      · have hbW := HBW.out W hW
        have hbZ := hbW.size
        refine wp_of_call ?_ ((HP2.out W hbW).mono ?_)
        · clear hD hW hK hbW
          go_simp
          try rfl
        · rintro e w' ⟨vp, he, ho, hb⟩
          exact ⟨_, he, hK _ _ (made_below (OwnS.mono ho hbZ) hb (World.ownsRow.lt ho))⟩
      simp only [Act.put, List.setIfInBounds_toArray, List.set_cons_zero, List.set_cons_succ, Nat.reduceAdd, Nat.zero_add]
      refine calm_makes (by rfl) (by rfl) (fun W hW hD K hK => ?_) (fun v28 => ?_)
      · have h3 : OwnS w.heap.size W v23 p := hD [] 3 (by kernel_rfl) (by kernel_rfl) (by kernel_rfl)
        have h7 : OwnS w.heap.size W v27 q := hD [] 7 (by kernel_rfl) (by kernel_rfl) (by kernel_rfl)
        exact wp_append_SS (.tmp 23) (.tmp 27) rfl w.heap.size w.heap.size v23 v27 p q rfl rfl h3 h7 (by omega) hW.size (fun v' w' h1 h2 h3 => hK _ _ (made_grown (j := 3) (u := v23) (by kernel_rfl) rfl h1 h2 (fun g hg => ⟨(World.ownsRow.lt h1 g hg).2, grown_own h3 hg⟩)))
      simp only [Act.put, List.setIfInBounds_toArray, List.set_cons_zero, List.set_cons_succ, Nat.reduceAdd, Nat.zero_add]
      iterate 1 (refine calm_quiet (v := ?_) (by rfl) (by rfl) (fun W hW hD => ?_) ?_; rotate_left; (· (clear hD hW; go_simp; try with_reducible rfl)); simp only [Act.put, List.setIfInBounds_toArray, List.set_cons_zero, List.set_cons_succ, Nat.reduceAdd, Nat.zero_add])
      refine calm_nil fun W5 hW5 hF => ?_
      have hO5 : OwnS w.heap.size W5 v28 (p ++ q) := hF 8 (by kernel_rfl) (by kernel_rfl)
      have hLt5 : Hid (∀ g, v28.ownBlock = some g → w.heap.size ≤ g ∧ g < W5.heap.size) := World.ownsRow.lt hO5
      have hB5 := grown_below hW5
      clear HBW
      have HBW : Hid (∀ W, W5.grownBy W v28.ownBlock → Below w.heap.size w W) := fun W hW => hB5.grown hW hB5.size (fun k hk => (hLt5.out k hk).1)
      have HO5 := Lib.hid hO5
      have HB5 := Lib.hid hB5
      clear hF hW5 hO5 hB5
      go_wp2
      refine wp_region_calm ⟨[0, 4, 9, 11, 12], HsF2 w.heap.size v28 (p ++ q) rt rd (1 :: (rt ++ rd)), fun k => if k = 12 then [0] else [], 0, v28.ownBlock, 1000⟩ (by kernel_rfl) (by kernel_rfl) (by kernel_rfl) (fun g h => (hLt5.out g h).2) (fun k _ v W W' c h hg hc => HsF2_kept h hg fun g hh => (hc g hh).1) ?_
      refine calm_makes (by rfl) (by rfl) (fun W hW hD K hK => ?_) (fun v29 => ?_)
      · have hWn : W5.grownBy W none := hW
        refine wp_of_run (v := v28) (w' := W) ?_ (hK _ _ ⟨⟨rfl, rowS_kept HO5.out hWn (fun g hg => by cases hg)⟩, ⟨none, World.grownBy.refl _ _, .inl rfl⟩, fun g hg => ⟨Nat.lt_of_lt_of_le (hLt5.out g hg).2 hWn.size, .inr (.inr ⟨rfl, hg⟩)⟩⟩)
        clear hD hW hK hWn
        go_simp
      simp only [Act.put, List.setIfInBounds_toArray, List.set_cons_zero, List.set_cons_succ, Nat.reduceAdd, Nat.zero_add]
      iterate 3 (refine calm_quiet (v := ?_) (by rfl) (by rfl) (fun W hW hD => ?_) ?_; rotate_left; (· (clear hD hW; go_simp; try with_reducible rfl)); simp only [Act.put, List.setIfInBounds_toArray, List.set_cons_zero, List.set_cons_succ, Nat.reduceAdd, Nat.zero_add])
      refine calm_makes (by rfl) (by rfl) (fun W hW hD K hK => ?_) (fun v33 => ?_)
      · have hbW := HBW.out W hW
        have hbZ := hbW.size
        refine wp_of_call ?_ ((HRk.out W hbW).mono ?_)
        · clear hD hW hK hbW
          go_simp
          try rfl
        · rintro e w' ⟨he, hb⟩
          exact ⟨_, he, hK _ _ (made_plain rfl hb rfl)⟩
      simp only [Act.put, List.setIfInBounds_toArray, List.set_cons_zero, List.set_cons_succ, Nat.reduceAdd, Nat.zero_add]
      refine calm_quiet (v := .string ((⟨#[1]⟩ : ByteArray) ++ bs rt)) (by rfl) (by rfl) (fun W hW hD => ?_) ?_
      · obtain rfl : v33 = .string (bs rt) := hD [] 4 (by kernel_rfl) (by kernel_rfl) (by kernel_rfl)
        clear hD hW
        go_simp
      simp only [Act.put, List.setIfInBounds_toArray, List.set_cons_zero, List.set_cons_succ, Nat.reduceAdd, Nat.zero_add]
      iterate 3 (refine calm_quiet (v := ?_) (by rfl) (by rfl) (fun W hW hD => ?_) ?_; rotate_left; (· (clear hD hW; go_simp; try with_reducible rfl)); simp only [Act.put, List.setIfInBounds_toArray, List.set_cons_zero, List.set_cons_succ, Nat.reduceAdd, Nat.zero_add])
      refine calm_makes (by rfl) (by rfl) (fun W hW hD K hK => ?_) (fun v38 => ?_)
      · have hbW := HBW.out W hW
        have hbZ := hbW.size
        refine wp_of_call ?_ ((HRd.out W hbW).mono ?_)
        · clear hD hW hK hbW
          go_simp
          try rfl
        · rintro e w' ⟨he, hb⟩
          exact ⟨_, he, hK _ _ (made_plain rfl hb rfl)⟩
      simp only [Act.put, List.setIfInBounds_toArray, List.set_cons_zero, List.set_cons_succ, Nat.reduceAdd, Nat.zero_add]
      refine calm_quiet (v := .string ((⟨#[1]⟩ : ByteArray) ++ bs rt ++ bs rd)) (by rfl) (by rfl) (fun W hW hD => ?_) ?_
      · obtain rfl : v38 = .string (bs rd) := hD [] 9 (by kernel_rfl) (by kernel_rfl) (by kernel_rfl)
        clear hD hW
        go_simp
      simp only [Act.put, List.setIfInBounds_toArray, List.set_cons_zero, List.set_cons_succ, Nat.reduceAdd, Nat.zero_add]
      refine calm_makes (by rfl) (by rfl) (fun W hW hD K hK => ?_) (fun v40 => ?_)
      · have hbW := HBW.out W hW
        have ho := ownS_lit W W.heap.size (1 :: (rt ++ rd)) (Nat.le_refl _)
        rw [← HC.out] at ho
        refine wp_of_run (v := .slice (some ⟨W.heap.size, 0, none⟩) 1 1) (w' := W.alloc (.cells #[.string ((⟨#[1]⟩ : ByteArray) ++ bs rt ++ bs rd)] 9)) ?_ (hK _ _ (made_below (OwnS.mono ho hbW.size) ((Below.refl _ _).alloc (Nat.le_refl _) _) (World.ownsRow.lt ho)))
        clear hD hW hK ho hbW
        go_simp
      simp only [Act.put, List.setIfInBounds_toArray, List.set_cons_zero, List.set_cons_succ, Nat.reduceAdd, Nat.zero_add]
      refine calm_makes (by rfl) (by rfl) (fun W hW hD K hK => ?_) (fun v41 => ?_)
      · obtain ⟨h29, hrow⟩ : v29 = v28 ∧ OwnS w.heap.size W v28 (p ++ q) := hD [] 0 (by kernel_rfl) (by kernel_rfl) (by kernel_rfl)
        have h40 : OwnS w.heap.size W v40 [1 :: (rt ++ rd)] := hD [] 11 (by kernel_rfl) (by kernel_rfl) (by kernel_rfl)
        subst h29
        exact wp_append_SS (.tmp 29) (.tmp 40) rfl w.heap.size w.heap.size v29 v40 (p ++ q) [1 :: (rt ++ rd)] rfl rfl hrow h40 (by simp; omega) (HBW.out W hW).size (fun v' w' h1 h2 h3 => hK _ _ (made_grown (j := 0) (u := v29) (by kernel_rfl) rfl h1 h2 (fun g hg => ⟨(World.ownsRow.lt h1 g hg).2, grown_own h3 hg⟩)))
      simp only [Act.put, List.setIfInBounds_toArray, List.set_cons_zero, List.set_cons_succ, Nat.reduceAdd, Nat.zero_add]
      iterate 1 (refine calm_quiet (v := ?_) (by rfl) (by rfl) (fun W hW hD => ?_) ?_; rotate_left; (· (clear hD hW; go_simp; try with_reducible rfl)); simp only [Act.put, List.setIfInBounds_toArray, List.set_cons_zero, List.set_cons_succ, Nat.reduceAdd, Nat.zero_add])
      refine calm_nil fun W hW hF => ?_
      have hO6 : OwnS w.heap.size W v41 (p ++ q ++ [1 :: (rt ++ rd)]) := hF 12 (by kernel_rfl) (by kernel_rfl)
      have HO6 := Lib.hid hO6
      have HB6 := Lib.hid (HBW.out W hW)
      clear hF hW hO6
      go_wp2
      go_ret
      exact ⟨_, rfl, by rw [HPl.out]; exact HO6.out, HB6.out⟩
theorem hashed_any : ∀ (N : Nat) (l : List Bytes) (v : Value) (w : World), l.length ≤ N → Sm l → StrsAt w.heap.size w v l →
    Calls Tryz.prog 28 #[v] w fun e w' => ∃ vp, e = .returned vp ∧ OwnS w.heap.size w' vp (hashedL l) ∧ Below w.heap.size w w'
  | 0, l, v, w, hN, hS, hL => hashed_step l v w hS hL (fun l' v' W h _ _ => absurd h (by omega))
  | N + 1, l, v, w, hN, hS, hL => hashed_step l v w hS hL (fun l' v' W h hS' hL' => hashed_any N l' v' W (by omega) hS' hL')
end Go.Proofs.YthfenbdlolbikaaGreatDoor
