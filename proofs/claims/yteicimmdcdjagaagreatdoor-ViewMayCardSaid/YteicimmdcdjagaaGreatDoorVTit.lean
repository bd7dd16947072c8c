/- The reference's Titles: the titles that integers determine. -/
import Derived.Test.YteicimmdcdjagaaGreatDoorVLawQ
set_option linter.unusedVariables false
set_option linter.unusedSimpArgs false
namespace Go.Proofs.YteicimmdcdjagaaGreatDoor
open Go.RowKit Go.Shelf

/-- The first titles. -/
def titTo (f : Nat → Nat → Int) (k : Nat) : List VTitle := (List.range k).map fun j => titleZ (f j)
theorem titTo_length (f : Nat → Nat → Int) (k : Nat) : (titTo f k).length = k := by simp [titTo]
theorem titTo_succ (f : Nat → Nat → Int) (k : Nat) : titTo f (k + 1) = titTo f k ++ [titleZ (f k)] := by simp [titTo, List.range_succ]
theorem rowT_lit (W : World) (x : VTitle) (B : Nat) (hB : B = W.heap.size) : RowsAt titleK (W.alloc (.cells (titleR x) 97)).heap.size (W.alloc (.cells (titleR x) 97)) (.slice (some ⟨B, 0, none⟩) 1 1) [x] := by
  subst hB
  exact (ownK_lit titleOk W [x] _ rfl (by simp)).rows titleOk
/-- What the steps of the first region leave. -/
def TitF (B : Nat) (a b c : Int) : Nat → Value → World → Prop := fun k v W =>
  if k = 5 then v = .int .i64 a else if k = 11 then v = .int .i64 b else if k = 17 then v = .int .i64 c
  else ∃ g, v = .pointer (some ⟨g, 0, none⟩) ∧ B ≤ g ∧ BoxN g 97 #[.int .i64 0, .int .i64 0, .int .i64 0, .int .i64 0] W
theorem titF_kept {B k : Nat} {a b c : Int} {v : Value} {W W' : World} {cc : Option Nat} (h : TitF B a b c k v W) (hg : W.grownBy W' cc) (hc : ∀ g, cc = some g → False) : TitF B a b c k v W' := by
  unfold TitF at h ⊢
  split at h
  · rename_i hk; rw [if_pos hk]; exact h
  · rename_i hk; rw [if_neg hk]; split at h
    · rename_i hk; rw [if_pos hk]; exact h
    · rename_i hk; rw [if_neg hk]; split at h
      · rename_i hk; rw [if_pos hk]; exact h
      · rename_i hk; rw [if_neg hk]
        obtain ⟨g, rfl, hB, hb⟩ := h
        exact ⟨g, rfl, hB, BoxN.grown hb hg fun e => hc g e⟩
set_option maxRecDepth 100000 in
set_option maxHeartbeats 8000000 in
theorem titles_any (xv : Value) (N : Nat) (f : Nat → Nat → Int) (w : World) (hX : FourAt w.heap.size w xv N f) :
    Calls Tryz.prog 27 #[xv] w fun e w' => ∃ v, e = .returned v ∧ OwnK titleK w.heap.size w' v (titlesZ N f) ∧ Below w.heap.size w w' := by
  obtain ⟨⟨xa0, xc0, rfl, hxc1, hxc2, hxc⟩, hbd⟩ := hX
  unfold maxLen at hxc2
  have HX := Lib.hid hxc
  have HBd := Lib.hid hbd
  have HE : Hid (titlesZ N f = titTo f (min N 8)) := rfl
  clear hxc hbd
  go_enter Tryz.func27, Tryz.ntmps27
  go_wp2
  go_loopw [3, 4] (fun v i wr => ∃ k : Nat, k ≤ N ∧ k ≤ 8 ∧ i = .int .i64 k ∧ (∃ ra rc, v = .slice ra k rc) ∧ Hid (OwnK titleK w.heap.size wr v (titTo f k)) ∧ Hid (Below w.heap.size w wr)) (fun _ i _ => N - (intOf i).toNat)
  case atStart => exact ⟨0, Nat.zero_le _, Nat.zero_le _, rfl, ⟨_, _, rfl⟩, Lib.hid (OwnK.nil _ _), Lib.hid (Below.refl _ _)⟩
  case round =>
    obtain ⟨k, hkN, hk8, rfl, ⟨ra, rc, rfl⟩, HO, HB⟩ := hrel
    by_cases h1 : k < N
    · have d1 : decide ((k : Int) < (N : Int)) = true := by simp; omega
      by_cases h2 : k < 8
      rotate_left
      · obtain rfl : k = 8 := by omega
        have d2 : decide (((8 : Nat) : Int) < 8) = false := by simp
        have HF : Hid (OwnK titleK w.heap.size wr (.slice ra 8 rc) (titlesZ N f)) := by show OwnK _ _ _ _ _; rw [HE.out, show min N 8 = 8 from by omega]; exact HO.out
        clear HO
        go_wp2
        go_ret
        exact ⟨_, rfl, HF.out, HB.out⟩
      have d2 : decide ((k : Int) < 8) = true := by simp; omega
      have jj : (k : Int) < (N : Int) := by omega
      have j0 : 0 ≤ (k : Int) := by omega
      obtain ⟨b, off, hxa, hb, hc⟩ := HX.out (by omega)
      subst hxa
      have HC := Lib.hid (fun (W : World) (hW : Below w.heap.size w W) (q : Nat) (hq : q < 4) => (hW.cell (p := ⟨b, off + k * 4 + q, none⟩) hb).trans (hc k q h1 hq))
      have HQB : Hid (∀ W, Below w.heap.size w W → W.cell? ⟨b, off + k * 4, none⟩ = some (.int .i64 (f k 0)) ∧ W.cell? ⟨b, off + k * 4 + 1, none⟩ = some (.int .i64 (f k 1)) ∧ W.cell? ⟨b, off + k * 4 + 2, none⟩ = some (.int .i64 (f k 2)) ∧ W.cell? ⟨b, off + k * 4 + 3, none⟩ = some (.int .i64 (f k 3))) := fun W hbw => by
        have c0 := HC.out W hbw 0 (by omega)
        rw [Nat.add_zero] at c0
        exact ⟨c0, HC.out W hbw 1 (by omega), HC.out W hbw 2 (by omega), HC.out W hbw 3 (by omega)⟩
      have HQ := Lib.hid (fun W (hW : wr.grownBy W none) => HQB.out W (HB.out.trans ((grown_below hW).mono HB.out.size)))
      have HP0 := Lib.hid (fun W => unit_any (f k 0) W (HBd.out k 0 h1 (by omega)).1 (HBd.out k 0 h1 (by omega)).2)
      have HP1 := Lib.hid (fun W => vpickR_any (f k 1) 4 W (HBd.out k 1 h1 (by omega)).1 (HBd.out k 1 h1 (by omega)).2 (by omega) (by omega))
      have HP2 := Lib.hid (fun W => vpickR_any (f k 2) 30 W (HBd.out k 2 h1 (by omega)).1 (HBd.out k 2 h1 (by omega)).2 (by omega) (by omega))
      have HP3 := Lib.hid (fun W => vpickR_any (f k 3) 30 W (HBd.out k 3 h1 (by omega)).1 (HBd.out k 3 h1 (by omega)).2 (by omega) (by omega))
      have HTz : Hid (titleZ (f k) = ⟨unitZ (f k 0), pickZ (f k 1) 4, pickZ (f k 2) 30, pickZ (f k 2) 30 + 1 + pickZ (f k 3) 30⟩) := rfl
      have pb2 := pickZ_bd (f k 2) 30 (by omega)
      have pb3 := pickZ_bd (f k 3) 30 (by omega)
      generalize unitZ (f k 0) = tu at *
      generalize pickZ (f k 1) 4 = to at *
      generalize pickZ (f k 2) 30 = tl at *
      generalize pickZ (f k 3) 30 = th at *
      have T1 : Hid (IntKind.i64.wrap (tl + 1) = tl + 1) := IntWalk.i64_in _ (by omega)
      have T2 : Hid (IntKind.i64.wrap (tl + 1 + th) = tl + 1 + th) := IntWalk.i64_in _ (by omega)
      clear hc pb2 pb3
      go_wp2
      refine wp_region_calm ⟨[5, 11, 17, 20], TitF wr.heap.size tu to tl, fun _ => [], 99, none, 21⟩ (by kernel_rfl) (by kernel_rfl) (by kernel_rfl) (fun g h => by cases h) (fun k hk v W W' c h hg hc => titF_kept h hg fun g hh => ?_) ?_
      · obtain ⟨_, _, i, j, u, hd, _⟩ := hc g hh
        simp at hd
      iterate 5 (refine calm_quiet (v := ?_) (by rfl) (by rfl) (fun W hW hD => ?_) ?_; rotate_left; (· (obtain ⟨z0, z1, z2, z3⟩ := HQ.out W hW; clear hD hW; go_simp; try with_reducible rfl)); simp only [Act.put, List.setIfInBounds_toArray, List.set_cons_zero, List.set_cons_succ, Nat.reduceAdd, Nat.zero_add])
      refine calm_makes (by rfl) (by rfl) (fun W hW hD K hK => ?_) (fun v16 => ?_)
      · refine wp_of_call (f := 17) ?_ ((HP0.out W).mono ?_)
        · obtain ⟨z0, z1, z2, z3⟩ := HQ.out W hW
          clear hD hW hK
          go_simp
        · rintro e w5 ⟨rfl, hb5⟩
          exact ⟨_, rfl, hK _ _ (made_plain rfl hb5 rfl)⟩
      simp only [Act.put, List.setIfInBounds_toArray, List.set_cons_zero, List.set_cons_succ, Nat.reduceAdd, Nat.zero_add]
      iterate 5 (refine calm_quiet (v := ?_) (by rfl) (by rfl) (fun W hW hD => ?_) ?_; rotate_left; (· (obtain ⟨z0, z1, z2, z3⟩ := HQ.out W hW; clear hD hW; go_simp; try with_reducible rfl)); simp only [Act.put, List.setIfInBounds_toArray, List.set_cons_zero, List.set_cons_succ, Nat.reduceAdd, Nat.zero_add])
      refine calm_makes (by rfl) (by rfl) (fun W hW hD K hK => ?_) (fun v27 => ?_)
      · refine wp_of_call (f := 48) ?_ ((HP1.out W).mono ?_)
        · obtain ⟨z0, z1, z2, z3⟩ := HQ.out W hW
          clear hD hW hK
          go_simp
        · rintro e w5 ⟨rfl, rfl⟩
          exact ⟨_, rfl, hK _ _ (made_plain rfl (Below.refl _ _) rfl)⟩
      simp only [Act.put, List.setIfInBounds_toArray, List.set_cons_zero, List.set_cons_succ, Nat.reduceAdd, Nat.zero_add]
      iterate 5 (refine calm_quiet (v := ?_) (by rfl) (by rfl) (fun W hW hD => ?_) ?_; rotate_left; (· (obtain ⟨z0, z1, z2, z3⟩ := HQ.out W hW; clear hD hW; go_simp; try with_reducible rfl)); simp only [Act.put, List.setIfInBounds_toArray, List.set_cons_zero, List.set_cons_succ, Nat.reduceAdd, Nat.zero_add])
      refine calm_makes (by rfl) (by rfl) (fun W hW hD K hK => ?_) (fun v33 => ?_)
      · refine wp_of_call (f := 48) ?_ ((HP2.out W).mono ?_)
        · obtain ⟨z0, z1, z2, z3⟩ := HQ.out W hW
          clear hD hW hK
          go_simp
        · rintro e w5 ⟨rfl, rfl⟩
          exact ⟨_, rfl, hK _ _ (made_plain rfl (Below.refl _ _) rfl)⟩
      simp only [Act.put, List.setIfInBounds_toArray, List.set_cons_zero, List.set_cons_succ, Nat.reduceAdd, Nat.zero_add]
      refine calm_quiet (v := .agg #[.int .i64 tl, .int .i64 0]) (by rfl) (by rfl) (fun W hW hD => ?_) ?_
      · obtain rfl : v33 = .int .i64 tl := hD [] 17 (by kernel_rfl) (by kernel_rfl) (by kernel_rfl)
        clear hD hW
        go_simp
      simp only [Act.put, List.setIfInBounds_toArray, List.set_cons_zero, List.set_cons_succ, Nat.reduceAdd, Nat.zero_add]
      refine calm_quiet (v := .agg #[.int .i64 tu, .int .i64 to, .int .i64 tl, .int .i64 0]) (by rfl) (by rfl) (fun W hW hD => ?_) ?_
      · obtain rfl : v16 = .int .i64 tu := hD [] 5 (by kernel_rfl) (by kernel_rfl) (by kernel_rfl)
        obtain rfl : v27 = .int .i64 to := hD [] 11 (by kernel_rfl) (by kernel_rfl) (by kernel_rfl)
        clear hD hW
        go_simp
      simp only [Act.put, List.setIfInBounds_toArray, List.set_cons_zero, List.set_cons_succ, Nat.reduceAdd, Nat.zero_add]
      refine calm_makes (by rfl) (by rfl) (fun W hW hD K hK => ?_) (fun v5 => ?_)
      · refine wp_of_run (v := .pointer (some ⟨W.heap.size, 0, none⟩)) (w' := W.alloc (.cells #[.int .i64 0, .int .i64 0, .int .i64 0, .int .i64 0] 97)) ?_ (hK _ _ (made_plain ⟨W.heap.size, rfl, hW.size, box_new W _ _⟩ ((Below.refl _ _).alloc (Nat.le_refl _) _) rfl))
        clear hD hW hK
        go_simp
      simp only [Act.put, List.setIfInBounds_toArray, List.set_cons_zero, List.set_cons_succ, Nat.reduceAdd, Nat.zero_add]
      refine calm_tail (by rfl) fun W hW hF => ?_
      obtain ⟨G, hv5, hGB, hGb⟩ : ∃ G, v5 = .pointer (some ⟨G, 0, none⟩) ∧ wr.heap.size ≤ G ∧ BoxN G 97 #[.int .i64 0, .int .i64 0, .int .i64 0, .int .i64 0] W := hF 20 (by kernel_rfl) (by kernel_rfl)
      subst hv5
      have hbW := grown_below hW
      have q0 := BoxN.cell hGb 0 _ rfl
      have q1 := BoxN.cell hGb 1 _ rfl
      have q2 := BoxN.cell hGb 2 _ rfl
      have q3 := BoxN.cell hGb 3 _ rfl
      have qf := BoxN.frozen hGb
      have hrs := HB.out.size
      obtain ⟨W1, hW1⟩ : ∃ W1, W1 = (((W.setCell ⟨G, 0, none⟩ (.int .i64 tu)).setCell ⟨G, 1, none⟩ (.int .i64 to)).setCell ⟨G, 2, none⟩ (.int .i64 tl)).setCell ⟨G, 3, none⟩ (.int .i64 0) := ⟨_, rfl⟩
      have hb1 : Below wr.heap.size W W1 := by
        rw [hW1]
        exact below_set4 (Below.refl _ _) hGB _ _ _ _
      have hG1 : BoxN G 97 #[.int .i64 tu, .int .i64 to, .int .i64 tl, .int .i64 0] W1 := by
        rw [hW1]
        exact BoxN.set4 hGb _ _ _ _
      have HW1 := Lib.hid hW1
      have HB1 := Lib.hid (HB.out.trans ((hbW.trans hb1).mono (by omega)))
      have HG1 := Lib.hid hG1
      have HO1 := Lib.hid (OwnK.below HO.out (hbW.trans hb1) (Nat.le_refl _))
      have hz1 := hb1.size
      have hz0 := hbW.size
      have HNe : Hid (∀ g, (Value.slice ra k rc).ownBlock = some g → g < wr.heap.size) := fun g e => (World.ownsRow.lt HO.out _ e).2
      clear hF hW hbW hW1 hb1 hG1 hGb HO HB HQ HP0 HP1 HP2
      go_wp2_with fail
      rw [← HW1.out]
      clear q0 q1 q2 q3 qf
      have HQ : Hid (∀ W, W1.grownBy W none → W.cell? ⟨G, 2, none⟩ = some (.int .i64 tl) ∧ W.cell? ⟨G, 3, none⟩ = some (.int .i64 0) ∧ W.cell? ⟨b, off + k * 4 + 3, none⟩ = some (.int .i64 (f k 3)) ∧ True) := fun W hW =>
        have h := BoxN.grown HG1.out hW (by simp)
        ⟨BoxN.cell h 2 _ rfl, BoxN.cell h 3 _ rfl, (HQB.out W (HB1.out.trans ((grown_below hW).mono HB1.out.size))).2.2.2, trivial⟩
      refine wp_region_calm ⟨[9], fun _ v _ => v = .int .i64 th, fun _ => [], 99, none, 13⟩ (by kernel_rfl) (by kernel_rfl) (by kernel_rfl) (fun g h => by cases h) (fun k hk v W W' c h hg hc => h) ?_
      iterate 3 (refine calm_quiet (v := ?_) (by rfl) (by rfl) (fun W hW hD => ?_) ?_; rotate_left; (· (obtain ⟨z0, z1, z2, z3⟩ := HQ.out W hW; clear hD hW; go_simp; try with_reducible rfl)); simp only [Act.put, List.setIfInBounds_toArray, List.set_cons_zero, List.set_cons_succ, Nat.reduceAdd, Nat.zero_add])
      refine calm_quiet (v := .int .i64 (tl + 1)) (by rfl) (by rfl) (fun W hW hD => ?_) ?_
      · have t1 := T1.out
        clear hD hW
        go_simp
      simp only [Act.put, List.setIfInBounds_toArray, List.set_cons_zero, List.set_cons_succ, Nat.reduceAdd, Nat.zero_add]
      iterate 5 (refine calm_quiet (v := ?_) (by rfl) (by rfl) (fun W hW hD => ?_) ?_; rotate_left; (· (obtain ⟨z0, z1, z2, z3⟩ := HQ.out W hW; clear hD hW; go_simp; try with_reducible rfl)); simp only [Act.put, List.setIfInBounds_toArray, List.set_cons_zero, List.set_cons_succ, Nat.reduceAdd, Nat.zero_add])
      refine calm_makes (by rfl) (by rfl) (fun W hW hD K hK => ?_) (fun v45 => ?_)
      · refine wp_of_call (f := 48) ?_ ((HP3.out W).mono ?_)
        · obtain ⟨z0, z1, z2, z3⟩ := HQ.out W hW
          clear hD hW hK
          go_simp
        · rintro e w5 ⟨rfl, rfl⟩
          exact ⟨_, rfl, hK _ _ (made_plain rfl (Below.refl _ _) rfl)⟩
      simp only [Act.put, List.setIfInBounds_toArray, List.set_cons_zero, List.set_cons_succ, Nat.reduceAdd, Nat.zero_add]
      refine calm_quiet (v := .int .i64 (tl + 1 + th)) (by rfl) (by rfl) (fun W hW hD => ?_) ?_
      · obtain rfl : v45 = .int .i64 th := hD [] 9 (by kernel_rfl) (by kernel_rfl) (by kernel_rfl)
        have t2 := T2.out
        clear hD hW
        go_simp
      simp only [Act.put, List.setIfInBounds_toArray, List.set_cons_zero, List.set_cons_succ, Nat.reduceAdd, Nat.zero_add]
      iterate 2 (refine calm_quiet (v := ?_) (by rfl) (by rfl) (fun W hW hD => ?_) ?_; rotate_left; (· (clear hD hW; go_simp; try with_reducible rfl)); simp only [Act.put, List.setIfInBounds_toArray, List.set_cons_zero, List.set_cons_succ, Nat.reduceAdd, Nat.zero_add])
      refine calm_tail (by rfl) fun W hW hF => ?_
      have hbW := grown_below hW
      have hGw := BoxN.grown HG1.out hW (by simp)
      have q3 := BoxN.cell hGw 3 _ rfl
      have qf := BoxN.frozen hGw
      have hG2 : BoxN G 97 #[.int .i64 tu, .int .i64 to, .int .i64 tl, .int .i64 (tl + 1 + th)] (W.setCell ⟨G, 3, none⟩ (.int .i64 (tl + 1 + th))) := hGw.set 3 _
      have hb2 : Below w.heap.size w (W.setCell ⟨G, 3, none⟩ (.int .i64 (tl + 1 + th))) := (HB1.out.trans (hbW.mono HB1.out.size)).setCell (p := ⟨G, 3, none⟩) (by show w.heap.size ≤ G; omega) _
      have hO2 : OwnK titleK w.heap.size (W.setCell ⟨G, 3, none⟩ (.int .i64 (tl + 1 + th))) (.slice ra k rc) (titTo f k) := OwnK.kept (OwnK.kept HO1.out hW (fun g h => by cases h)) (grown_cell1 W G 3 _) (fun g hg e => by cases hg; have := HNe.out _ e; omega)
      have HG2 := Lib.hid hG2
      have HO2 := Lib.hid hO2
      have HB2 := Lib.hid hb2
      clear hF hW hbW hGw HQ HQB HG1 HB1 HO1 HW1 hG2 hO2 hb2 HP3
      have hG2 := HG2.out
      have z0 := BoxN.cell hG2 0 _ rfl
      have z1 := BoxN.cell hG2 1 _ rfl
      have z2 := BoxN.cell hG2 2 _ rfl
      have z3 := BoxN.cell hG2 3 _ rfl
      have HTl := Lib.hid (titTo_length f k)
      have HTs := Lib.hid (titTo_succ f k)
      rw [HTz.out] at HTs
      generalize titTo f k = T at *
      have HO3 := Lib.hid (OwnK.kept HO2.out (World.grownBy_alloc (W.setCell ⟨G, 3, none⟩ (.int .i64 (tl + 1 + th))) (.cells (titleR ⟨tu, to, tl, tl + 1 + th⟩) 97) none) (fun g h => by cases h))
      have HB3 := Lib.hid (HB2.out.alloc HB2.out.size (.cells (titleR ⟨tu, to, tl, tl + 1 + th⟩) 97))
      have hzz : w.heap.size ≤ ((W.setCell ⟨G, 3, none⟩ (.int .i64 (tl + 1 + th))).alloc (.cells (titleR ⟨tu, to, tl, tl + 1 + th⟩) 97)).heap.size := HB3.out.size
      clear hG2
      go_wp2_with (at_builtin; refine append_KK titleOk rfl _ _ rfl w.heap.size _ _ _ T [⟨tu, to, tl, tl + 1 + th⟩] rfl rfl HO3.out (rowT_lit (W.setCell ⟨G, 3, none⟩ (.int .i64 (tl + 1 + th))) ⟨tu, to, tl, tl + 1 + th⟩ _ (by simp)) (by rw [HTl.out, List.length_singleton]; omega) hzz w HB3.out ?_; intro v' w9 hown' hgrow hbelow; obtain ⟨a', c', hsh, _, _⟩ := hown'.shape; rw [List.length_append, List.length_singleton, HTl.out] at hsh; subst hsh)
      have HOg := Lib.hid hown'
      have HBg := Lib.hid hbelow
      clear hown' hgrow hbelow q3 qf z0 z1 z2 z3 HO3 HB3
      go_roundw
      case rel => exact ⟨k + 1, by omega, by omega, by go_num, ⟨_, _, rfl⟩, by rw [HTs.out]; exact HOg, HBg⟩
      case measure => simp [intOf]; omega
    · obtain rfl : k = N := by omega
      have d1 : decide ((k : Int) < (k : Int)) = false := by simp
      have HF : Hid (OwnK titleK w.heap.size wr (.slice ra k rc) (titlesZ k f)) := by show OwnK _ _ _ _ _; rw [HE.out, show min k 8 = k from by omega]; exact HO.out
      clear HO
      go_wp2
      go_ret
      exact ⟨_, rfl, HF.out, HB.out⟩
end Go.Proofs.YteicimmdcdjagaaGreatDoor
