/- The reference's part, Extension and VerifyExtension. -/
import Derived.Test.YthfenbdlolbikaaGreatDoorDRefE
import Derived.Test.YthfenbdlolbikaaGreatDoorDStepS
namespace Go.Proofs.YthfenbdlolbikaaGreatDoor
open Go.RowKit Go.Shelf

/-- What the operations of a step of part leave. -/
def PartF1 (H : Nat) (p : List Bytes) (r : Bytes) : Nat → Value → World → Prop
  | 5, v, W => OwnS H W v p
  | 9, v, _ => v = .string (bs r)
  | 10, v, W => OwnS H W v [r]
  | _, v, W => OwnS H W v (p ++ [r])
theorem PartF1_kept {H k : Nat} {p : List Bytes} {r : Bytes} {v : Value} {W W' : World} {c : Option Nat} (h : PartF1 H p r k v W) (hg : W.grownBy W' c) (hc : ∀ g, c = some g → v.ownBlock ≠ some g) : PartF1 H p r k v W' := by
  unfold PartF1 at *
  split at h <;> first | exact rowS_kept h hg hc | exact h
def PartF2 (H : Nat) (p : List Bytes) (r : Bytes) : Nat → Value → World → Prop
  | 6, v, W => OwnS H W v p
  | 10, v, _ => v = .string (bs r)
  | 11, v, W => OwnS H W v [r]
  | _, v, W => OwnS H W v (p ++ [r])
theorem PartF2_kept {H k : Nat} {p : List Bytes} {r : Bytes} {v : Value} {W W' : World} {c : Option Nat} (h : PartF2 H p r k v W) (hg : W.grownBy W' c) (hc : ∀ g, c = some g → v.ownBlock ≠ some g) : PartF2 H p r k v W' := by
  unfold PartF2 at *
  split at h <;> first | exact rowS_kept h hg hc | exact h
set_option maxRecDepth 100000 in
set_option maxHeartbeats 4000000 in
theorem refPart_step (l : List Bytes) (m : Nat) (whole : Bool) (v : Value) (w : World) (hS : Sm l) (hL : StrsAt w.heap.size w v l) (hm1 : 1 ≤ m) (hm : m ≤ l.length)
    (hrec : ∀ (l' : List Bytes) (m' : Nat) (wh : Bool) (v' : Value) (W : World), l'.length < l.length → Sm l' → StrsAt W.heap.size W v' l' → 1 ≤ m' → m' ≤ l'.length → Calls Tryz.prog 86 #[v', .int .i64 m', .bool wh] W fun e w' => ∃ vp, e = .returned vp ∧ OwnS W.heap.size w' vp (partL l' m' wh) ∧ Below W.heap.size W w') :
    Calls Tryz.prog 86 #[v, .int .i64 m, .bool whole] w fun e w' => ∃ vp, e = .returned vp ∧ OwnS w.heap.size w' vp (partL l m whole) ∧ Below w.heap.size w w' := by
  have HRo := Lib.hid (refRoot_any l.length l v w (Nat.le_refl _) hS hL)
  obtain ⟨a, c, rfl, hlc, hcm⟩ := hL.shape
  unfold maxLen at hcm
  by_cases hml : m = l.length
  · have HP := Lib.hid (partL_all (whole := whole) hm1 hml)
    clear hrec hS hL
    subst hml
    generalize partL l l.length whole = pl at *
    generalize rootL l = r at *
    generalize l.length = N at *
    cases whole
    · go_enter Tryz.func86, Tryz.ntmps86
      go_wp2_with (go_at_call 43; refine HRo.out.mono ?_; rintro e w2 ⟨rfl, hb2⟩)
      go_ret
      exact ⟨_, rfl, by rw [HP.out]; exact ownS_lit w2 w.heap.size r hb2.size, hb2.alloc hb2.size _⟩
    · go_enter Tryz.func86, Tryz.ntmps86
      go_wp2
      go_ret
      exact ⟨_, rfl, by rw [HP.out]; exact OwnS.nil _ _, Below.refl _ _⟩
  · have h2 : 2 ≤ l.length := by omega
    have hlb := leftN_bd h2
    obtain ⟨b, off, ha⟩ := hL.addr (by omega)
    subst ha
    have hTk := hL.take (leftN l.length) (by omega)
    have hDr := hL.drop (leftN l.length) (by omega)
    have HLo := Lib.hid (fun h => partL_lo (l := l) (m := m) (whole := whole) hm1 (by omega) h)
    have HHi := Lib.hid (fun h => partL_hi (l := l) (m := m) (whole := whole) hm1 (by omega) h)
    have HRk := Lib.hid (fun W (hW : Below w.heap.size w W) => (refRoot_any l.length (l.take (leftN l.length)) _ W (by rw [List.length_take]; omega) (hS.take _) (hTk.later hW (Nat.le_refl _))).mono fun e w' (h : _ ∧ _) => And.intro h.1 (And.intro h.2 (hW.trans (h.2.mono hW.size))))
    have HRd := Lib.hid (fun W (hW : Below w.heap.size w W) => (refRoot_any l.length (l.drop (leftN l.length)) _ W (by rw [List.length_drop]; omega) (hS.drop _) (hDr.later hW (Nat.le_refl _))).mono fun e w' (h : _ ∧ _) => And.intro h.1 (And.intro h.2 (hW.trans (h.2.mono hW.size))))
    have HP1 := Lib.hid (fun (h : m ≤ leftN l.length) W (hW : Below w.heap.size w W) => (hrec (l.take (leftN l.length)) m whole _ W (by rw [List.length_take]; omega) (hS.take _) (hTk.later hW (Nat.le_refl _)) hm1 (by rw [List.length_take]; omega)))
    have HP2 := Lib.hid (fun (h : ¬ m ≤ leftN l.length) W (hW : Below w.heap.size w W) => (hrec (l.drop (leftN l.length)) (m - leftN l.length) false _ W (by rw [List.length_drop]; omega) (hS.drop _) (hDr.later hW (Nat.le_refl _)) (by omega) (by rw [List.length_drop]; omega)))
    have hpl1 : m ≤ leftN l.length → (partL (l.take (leftN l.length)) m whole).length ≤ 100000 := fun h => Nat.le_trans (partL_short l.length _ _ whole 17 (by rw [List.length_take]; omega) hm1 (by rw [List.length_take]; omega) (by rw [List.length_take]; have := hS.1; show _ ≤ 131072; omega)) (by decide)
    have hpl2 : ¬ m ≤ leftN l.length → (partL (l.drop (leftN l.length)) (m - leftN l.length) false).length ≤ 100000 := fun h => Nat.le_trans (partL_short l.length _ _ false 17 (by rw [List.length_drop]; omega) (by omega) (by rw [List.length_drop]; omega) (by rw [List.length_drop]; have := hS.1; show _ ≤ 131072; omega)) (by decide)
    have HLt := Lib.hid (fun W => refLeft_any l.length W h2 (by have := hS.1; omega))
    have hNb := hS.1
    clear hrec hS hTk hDr hL HRo
    generalize l.length = N at *
    generalize leftN N = K at *
    generalize l.take K = lt at *
    generalize l.drop K = ld at *
    generalize rootL lt = rt at *
    generalize rootL ld = rd at *
    have e1 : (K : Int) ≤ (N : Int) := by omega
    have e3 : (K : Int) ≤ (c : Int) := by omega
    have e4 : (N : Int) ≤ (c : Int) := by omega
    have hcK : ¬ c = K := by omega
    have hne : ((m : Int) == (N : Int)) = false := by simp; omega
    have hne2 : (m == N) = false := by simp; omega
    have hB0 := Below.refl w.heap.size w
    by_cases hmk : m ≤ K
    · have HP := Lib.hid (HP1.out hmk)
      have HPl := Lib.hid (HLo.out hmk)
      have hpl := hpl1 hmk
      have djk : decide ((m : Int) ≤ (K : Int)) = true := by simp; omega
      clear HP1 HP2 HLo HHi hpl1 hpl2
      generalize partL lt m whole = p at *
      go_enter Tryz.func86, Tryz.ntmps86
      go_wp2_with (go_at_call 61; refine (HLt.out _).mono ?_; rintro e w' ⟨rfl, rfl⟩)
      refine wp_region_calm ⟨[5, 9, 10, 11], PartF1 w.heap.size p rd, fun k => if k = 11 then [5] else [], 99, none, 1000⟩ (by kernel_rfl) (by kernel_rfl) (by kernel_rfl) (fun g h => by cases h) (fun k _ v W W' c h hg hc => PartF1_kept h hg fun g hh => (hc g hh).1) ?_
      iterate 5 (refine calm_quiet (v := ?_) (by rfl) (by rfl) (fun W hW hD => ?_) ?_; rotate_left; (· (clear hD hW; go_simp; try with_reducible rfl)); simp only [Act.put, List.setIfInBounds_toArray, List.set_cons_zero, List.set_cons_succ, Nat.reduceAdd])
      refine calm_makes (by rfl) (by rfl) (fun W hW hD K hK => ?_) (fun v27 => ?_)
      · have hbW := grown_below hW
        refine wp_of_call ?_ ((HP.out W hbW).mono ?_)
        · clear hD hW hK hbW
          go_simp
          try rfl
        · rintro e w' ⟨vp, he, ho, hb⟩
          exact ⟨_, he, hK _ _ (made_below (OwnS.mono ho hW.size) hb (World.ownsRow.lt ho))⟩
      simp only [Act.put, List.setIfInBounds_toArray, List.set_cons_zero, List.set_cons_succ, Nat.reduceAdd]
      iterate 3 (refine calm_quiet (v := ?_) (by rfl) (by rfl) (fun W hW hD => ?_) ?_; rotate_left; (· (clear hD hW; go_simp; try with_reducible rfl)); simp only [Act.put, List.setIfInBounds_toArray, List.set_cons_zero, List.set_cons_succ, Nat.reduceAdd])
      refine calm_makes (by rfl) (by rfl) (fun W hW hD K hK => ?_) (fun v31 => ?_)
      · have hbW := grown_below hW
        refine wp_of_call ?_ ((HRd.out W hbW).mono ?_)
        · clear hD hW hK hbW
          go_simp
          try rfl
        · rintro e w' ⟨he, hb, _⟩
          exact ⟨_, he, hK _ _ (made_plain rfl hb rfl)⟩
      simp only [Act.put, List.setIfInBounds_toArray, List.set_cons_zero, List.set_cons_succ, Nat.reduceAdd]
      refine calm_makes (by rfl) (by rfl) (fun W hW hD K hK => ?_) (fun v32 => ?_)
      · obtain rfl : v31 = .string (bs rd) := hD [] 9 (by kernel_rfl) (by kernel_rfl) (by kernel_rfl)
        have ho := ownS_lit W W.heap.size rd (Nat.le_refl _)
        refine wp_of_run (v := .slice (some ⟨W.heap.size, 0, none⟩) 1 1) (w' := W.alloc (.cells #[.string (bs rd)] 9)) ?_ (hK _ _ (made_below (OwnS.mono ho hW.size) ((Below.refl _ _).alloc (Nat.le_refl _) _) (World.ownsRow.lt ho)))
        clear hD hW hK ho
        go_simp
      simp only [Act.put, List.setIfInBounds_toArray, List.set_cons_zero, List.set_cons_succ, Nat.reduceAdd]
      refine calm_makes (by rfl) (by rfl) (fun W hW hD K hK => ?_) (fun v33 => ?_)
      · have h5 : OwnS w.heap.size W v27 p := hD [] 5 (by kernel_rfl) (by kernel_rfl) (by kernel_rfl)
        have h10 : OwnS w.heap.size W v32 [rd] := hD [] 10 (by kernel_rfl) (by kernel_rfl) (by kernel_rfl)
        exact wp_append_SS (.tmp 27) (.tmp 32) rfl w.heap.size w.heap.size v27 v32 p [rd] rfl rfl h5 h10 (by simp; omega) hW.size (fun v' w' h1 h2 h3 => hK _ _ (made_grown (j := 5) (u := v27) (by kernel_rfl) rfl h1 h2 (fun g hg => ⟨(World.ownsRow.lt h1 g hg).2, grown_own h3 hg⟩)))
      simp only [Act.put, List.setIfInBounds_toArray, List.set_cons_zero, List.set_cons_succ, Nat.reduceAdd]
      iterate 1 (refine calm_quiet (v := ?_) (by rfl) (by rfl) (fun W hW hD => ?_) ?_; rotate_left; (· (clear hD hW; go_simp; try with_reducible rfl)); simp only [Act.put, List.setIfInBounds_toArray, List.set_cons_zero, List.set_cons_succ, Nat.reduceAdd])
      refine calm_nil fun W hW hF => ?_
      have hO5 : OwnS w.heap.size W v33 (p ++ [rd]) := hF 11 (by kernel_rfl) (by kernel_rfl)
      have HO5 := Lib.hid hO5
      have HB5 := Lib.hid (grown_below hW)
      clear hF hW hO5
      go_wp2
      go_ret
      exact ⟨_, rfl, by rw [HPl.out]; exact HO5.out, HB5.out⟩
    · have HP := Lib.hid (HP2.out hmk)
      have HPl := Lib.hid (HHi.out hmk)
      have hpl := hpl2 hmk
      have djk : decide ((m : Int) ≤ (K : Int)) = false := by simp; omega
      have w3' : IntKind.i64.wrap ((m : Int) - (K : Int)) = ((m - K : Nat) : Int) := by rw [IntWalk.i64_in _ (by omega)]; omega
      clear HP1 HP2 HLo HHi hpl1 hpl2
      generalize m - K = m' at *
      generalize partL ld m' false = p at *
      go_enter Tryz.func86, Tryz.ntmps86
      go_wp2_with (go_at_call 61; refine (HLt.out _).mono ?_; rintro e w' ⟨rfl, rfl⟩)
      refine wp_region_calm ⟨[6, 10, 11, 12], PartF2 w.heap.size p rt, fun k => if k = 12 then [6] else [], 99, none, 1000⟩ (by kernel_rfl) (by kernel_rfl) (by kernel_rfl) (fun g h => by cases h) (fun k _ v W W' c h hg hc => PartF2_kept h hg fun g hh => (hc g hh).1) ?_
      iterate 6 (refine calm_quiet (v := ?_) (by rfl) (by rfl) (fun W hW hD => ?_) ?_; rotate_left; (· (clear hD hW; go_simp; try with_reducible rfl)); simp only [Act.put, List.setIfInBounds_toArray, List.set_cons_zero, List.set_cons_succ, Nat.reduceAdd])
      refine calm_makes (by rfl) (by rfl) (fun W hW hD K hK => ?_) (fun v40 => ?_)
      · have hbW := grown_below hW
        refine wp_of_call ?_ ((HP.out W hbW).mono ?_)
        · clear hD hW hK hbW
          go_simp
          try rfl
        · rintro e w' ⟨vp, he, ho, hb⟩
          exact ⟨_, he, hK _ _ (made_below (OwnS.mono ho hW.size) hb (World.ownsRow.lt ho))⟩
      simp only [Act.put, List.setIfInBounds_toArray, List.set_cons_zero, List.set_cons_succ, Nat.reduceAdd]
      iterate 3 (refine calm_quiet (v := ?_) (by rfl) (by rfl) (fun W hW hD => ?_) ?_; rotate_left; (· (clear hD hW; go_simp; try with_reducible rfl)); simp only [Act.put, List.setIfInBounds_toArray, List.set_cons_zero, List.set_cons_succ, Nat.reduceAdd])
      refine calm_makes (by rfl) (by rfl) (fun W hW hD K hK => ?_) (fun v44 => ?_)
      · have hbW := grown_below hW
        refine wp_of_call ?_ ((HRk.out W hbW).mono ?_)
        · clear hD hW hK hbW
          go_simp
          try rfl
        · rintro e w' ⟨he, hb, _⟩
          exact ⟨_, he, hK _ _ (made_plain rfl hb rfl)⟩
      simp only [Act.put, List.setIfInBounds_toArray, List.set_cons_zero, List.set_cons_succ, Nat.reduceAdd]
      refine calm_makes (by rfl) (by rfl) (fun W hW hD K hK => ?_) (fun v45 => ?_)
      · obtain rfl : v44 = .string (bs rt) := hD [] 10 (by kernel_rfl) (by kernel_rfl) (by kernel_rfl)
        have ho := ownS_lit W W.heap.size rt (Nat.le_refl _)
        refine wp_of_run (v := .slice (some ⟨W.heap.size, 0, none⟩) 1 1) (w' := W.alloc (.cells #[.string (bs rt)] 9)) ?_ (hK _ _ (made_below (OwnS.mono ho hW.size) ((Below.refl _ _).alloc (Nat.le_refl _) _) (World.ownsRow.lt ho)))
        clear hD hW hK ho
        go_simp
      simp only [Act.put, List.setIfInBounds_toArray, List.set_cons_zero, List.set_cons_succ, Nat.reduceAdd]
      refine calm_makes (by rfl) (by rfl) (fun W hW hD K hK => ?_) (fun v46 => ?_)
      · have h5 : OwnS w.heap.size W v40 p := hD [] 6 (by kernel_rfl) (by kernel_rfl) (by kernel_rfl)
        have h10 : OwnS w.heap.size W v45 [rt] := hD [] 11 (by kernel_rfl) (by kernel_rfl) (by kernel_rfl)
        exact wp_append_SS (.tmp 40) (.tmp 45) rfl w.heap.size w.heap.size v40 v45 p [rt] rfl rfl h5 h10 (by simp; omega) hW.size (fun v' w' h1 h2 h3 => hK _ _ (made_grown (j := 6) (u := v40) (by kernel_rfl) rfl h1 h2 (fun g hg => ⟨(World.ownsRow.lt h1 g hg).2, grown_own h3 hg⟩)))
      simp only [Act.put, List.setIfInBounds_toArray, List.set_cons_zero, List.set_cons_succ, Nat.reduceAdd]
      iterate 1 (refine calm_quiet (v := ?_) (by rfl) (by rfl) (fun W hW hD => ?_) ?_; rotate_left; (· (clear hD hW; go_simp; try with_reducible rfl)); simp only [Act.put, List.setIfInBounds_toArray, List.set_cons_zero, List.set_cons_succ, Nat.reduceAdd])
      refine calm_nil fun W hW hF => ?_
      have hO5 : OwnS w.heap.size W v46 (p ++ [rt]) := hF 12 (by kernel_rfl) (by kernel_rfl)
      have HO5 := Lib.hid hO5
      have HB5 := Lib.hid (grown_below hW)
      clear hF hW hO5
      go_wp2
      go_ret
      exact ⟨_, rfl, by rw [HPl.out]; exact HO5.out, HB5.out⟩
theorem refPart_any : ∀ (N : Nat) (l : List Bytes) (m : Nat) (whole : Bool) (v : Value) (w : World), l.length ≤ N → Sm l → StrsAt w.heap.size w v l → 1 ≤ m → m ≤ l.length →
    Calls Tryz.prog 86 #[v, .int .i64 m, .bool whole] w fun e w' => ∃ vp, e = .returned vp ∧ OwnS w.heap.size w' vp (partL l m whole) ∧ Below w.heap.size w w'
  | 0, l, m, whole, v, w, hN, hS, hL, h1, h2 => refPart_step l m whole v w hS hL h1 h2 (fun _ _ _ _ _ h _ _ _ _ => absurd h (by omega))
  | N + 1, l, m, whole, v, w, hN, hS, hL, h1, h2 => refPart_step l m whole v w hS hL h1 h2 (fun l' m' wh v' W h hS' hL' g1 g2 => refPart_any N l' m' wh v' W (by omega) hS' hL' g1 g2)
set_option maxRecDepth 100000 in
theorem refExt_any (l : List Bytes) (m : Int) (v : Value) (w : World) (hS : Sm l) (hL : StrsAt w.heap.size w v l) :
    Calls Tryz.prog 54 #[v, .int .i64 m] w fun e w' => ∃ vp, e = .returned (.tuple #[vp, .int .i64 (extE l m).2]) ∧ OwnS w.heap.size w' vp (extE l m).1 ∧ Below w.heap.size w w' := by
  have HPa := Lib.hid (fun (k : Nat) h1 h2 => refPart_any l.length l k true v w (Nat.le_refl _) hS hL h1 h2)
  obtain ⟨a, c, rfl, _, _⟩ := hL.shape
  by_cases hin : 0 ≤ m ∧ m ≤ (l.length : Int)
  · obtain ⟨h0, h1⟩ := hin
    obtain ⟨j, rfl⟩ := Int.eq_ofNat_of_zero_le h0
    have d0 : decide ((j : Int) < 0) = false := by simp
    have d1 : decide (l.length < j) = false := by simp; omega
    by_cases hz : j = 0
    · have HE : Hid (extE l j = ([], 0)) := by
        show _ = _
        unfold extE
        rw [if_pos ⟨by omega, by omega⟩, if_pos (by omega)]
      subst hz
      clear hS hL HPa
      generalize l.length = N at *
      go_enter Tryz.func54, Tryz.ntmps54
      go_wp2
      go_ret2
      exact ⟨_, by rw [HE.out]; rfl, by rw [HE.out]; exact OwnS.nil _ _, Below.refl _ _⟩
    · have HE : Hid (extE l j = (partL l j true, 0)) := by
        show _ = _
        unfold extE
        rw [if_pos ⟨by omega, by omega⟩, if_neg (by omega), Int.toNat_natCast]
      have HP := Lib.hid (HPa.out j (by omega) (by omega))
      have dz : ((j : Int) == 0) = false := by simp; omega
      clear hS hL HPa
      generalize l.length = N at *
      generalize partL l j true = p at *
      go_enter Tryz.func54, Tryz.ntmps54
      go_wp2_with (go_at_call 86; refine HP.out.mono ?_; rintro e w2 ⟨vp, rfl, hO, hb2⟩)
      go_ret2
      exact ⟨_, by rw [HE.out]; rfl, by rw [HE.out]; exact hO, hb2⟩
  · have HE : Hid (extE l m = ([], 2)) := by show _ = _; unfold extE; rw [if_neg hin]
    clear hS hL HPa
    by_cases h0 : m < 0
    · have d0 : decide (m < 0) = true := by simp; omega
      generalize l.length = N at *
      go_enter Tryz.func54, Tryz.ntmps54
      go_wp2
      go_ret2
      exact ⟨_, by rw [HE.out]; rfl, by rw [HE.out]; exact OwnS.nil _ _, Below.refl _ _⟩
    · have d0 : decide (m < 0) = false := by simp; omega
      have d1 : decide ((l.length : Int) < m) = true := by simp; omega
      generalize l.length = N at *
      go_enter Tryz.func54, Tryz.ntmps54
      go_wp2
      go_ret2
      exact ⟨_, by rw [HE.out]; rfl, by rw [HE.out]; exact OwnS.nil _ _, Below.refl _ _⟩
end Go.Proofs.YthfenbdlolbikaaGreatDoor
