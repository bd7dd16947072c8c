/- The reference's Codes. -/
import Derived.Test.YtcgopilkajfghaaGreatDoorITag
import Derived.Test.YtcgopilkajfghaaGreatDoorMRefB
set_option linter.unusedVariables false
set_option linter.unusedSimpArgs false
namespace Go.Proofs.YtcgopilkajfghaaGreatDoor
open Go.RowKit Go.Shelf

theorem bs_catB (a b : List UInt8) : bs a ++ bs b = bs (a ++ b) := by
  apply ByteArray.ext
  simp [bs]
set_option maxRecDepth 100000 in
set_option maxHeartbeats 4000000 in
theorem rcodes_any (v : Value) (l : List ICard) (w : World) (h : RowsAt cardK w.heap.size w v l) (hl : l.length ≤ 1000) :
    Calls Tryz.prog 59 #[v] w fun e w' => ∃ v', e = .returned v' ∧ OwnK strK w.heap.size w' v' (codesC l) ∧ Below w.heap.size w w' := by
  have HR := Lib.hid h
  obtain ⟨oa, oc, rfl, hlc, hcm⟩ := h.shape
  unfold maxLen at hcm
  clear h
  generalize hn : l.length = n at *
  have HN := Lib.hid hn
  clear hn
  go_enter Tryz.func59, Tryz.ntmps59
  go_wp2
  go_loopw [3, 4] (fun v i wr => ∃ k : Nat, k ≤ n ∧ i = .int .i64 k ∧ (∃ ta tn tc, v = .slice ta tn tc) ∧ Hid (OwnK strK w.heap.size wr v (codesC (l.take k))) ∧ Hid (Below w.heap.size w wr)) (fun _ i _ => n - (intOf i).toNat)
  case atStart => exact ⟨0, Nat.zero_le _, rfl, ⟨_, _, _, rfl⟩, Lib.hid (OwnK.nil _ _), Lib.hid (Below.refl _ _)⟩
  case round =>
    obtain ⟨k, hk, rfl, ⟨ta, tn, tc, rfl⟩, HO, HB⟩ := hrel
    by_cases hlt : k < n
    · have kk : (k : Int) < (n : Int) := by omega
      have kz : 0 ≤ (k : Int) := by omega
      obtain ⟨c, hc⟩ : ∃ c, c = l.getD k default := ⟨_, rfl⟩
      have hget : l[k]? = some c := by rw [hc, List.getD_eq_getElem?_getD, List.getElem?_eq_getElem (by rw [HN.out]; exact hlt)]; rfl
      have HNx : Hid (codesC (l.take (k + 1)) = codesC (l.take k) ++ [codeC c]) := by
        show _ = _
        rw [List.take_add_one, hget]
        simp [codesC]
      have HLc : Hid ((codesC (l.take k)).length + 1 < 1000000) := by show _ < _; unfold codesC; rw [List.length_map, List.length_take]; omega
      obtain ⟨gb, off, hae, hgb, e0, e1, e2, e3, e4⟩ := cards_at (HR.out.later HB.out (Nat.le_refl _)) k c hget
      subst hae
      have HQ : Hid (∀ W, wr.grownBy W none → W.cell? ⟨gb, off + k * 5, none⟩ = some (.int .i64 c.id) ∧ W.cell? ⟨gb, off + k * 5 + 1, none⟩ = some (.int .i64 c.unit) ∧ W.cell? ⟨gb, off + k * 5 + 2, none⟩ = some (.int .i64 c.kind) ∧ W.cell? ⟨gb, off + k * 5 + 3, none⟩ = some (.int .i64 c.beg) ∧ W.cell? ⟨gb, off + k * 5 + 3 + 1, none⟩ = some (.int .i64 c.fin) ∧ W.cell? ⟨gb, off + k * 5 + 4, none⟩ = some (.int .i64 c.fin)) := fun W hW =>
        ⟨hW.cell e0 (by simp), hW.cell e1 (by simp), hW.cell e2 (by simp), hW.cell e3 (by simp), hW.cell e4 (by simp), hW.cell e4 (by simp)⟩
      clear hget hc e0 e1 e2 e3 e4 hgb
      go_wp2
      refine wp_region_calm (tagPl [27] [(27, .own intK wr.heap.size (numsC c))] 1000) (by kernel_rfl) (by kernel_rfl) (by kernel_rfl) tag_c0 tag_hst ?_
      iterate 27 (refine calm_quiet (v := ?_) (by rfl) (by rfl) (fun W hW hD => ?_) ?_; rotate_left; (· (obtain ⟨r0, r1, r2, r3, r4, r5⟩ := HQ.out W hW; clear hD hW; go_simp; try with_reducible rfl)); simp only [Act.put, List.setIfInBounds_toArray, List.set_cons_zero, List.set_cons_succ, Nat.reduceAdd, Nat.zero_add])
      refine calm_makes (by rfl) (by rfl) (fun W hW hD Kc hK => ?_) (fun vl => ?_)
      · have hz := hW.size
        have ho := ownK_lit intOk W (numsC c) #[.int .i64 c.id, .int .i64 c.unit, .int .i64 c.kind, .int .i64 c.beg, .int .i64 c.fin] rfl (by simp [numsC])
        refine wp_of_run (v := .slice (some ⟨W.heap.size, 0, none⟩) 5 5) (w' := W.alloc (.cells #[.int .i64 c.id, .int .i64 c.unit, .int .i64 c.kind, .int .i64 c.beg, .int .i64 c.fin] 3)) ?_ (hK _ _ (made_below (OwnK.mono ho hz) ((Below.refl _ _).alloc (Nat.le_refl _) _) (World.ownsRow.lt ho)))
        clear hD hW hK ho
        go_simp
        try rfl
      simp only [Act.put, List.setIfInBounds_toArray, List.set_cons_zero, List.set_cons_succ, Nat.reduceAdd, Nat.zero_add]
      refine calm_quiet (v := .int .i64 5) (by rfl) (by rfl) (fun W hW hD => ?_) ?_
      · obtain ⟨sa, sc, hs, _, _⟩ := (show OwnK intK wr.heap.size W vl (numsC c) from hD [] 27 (by kernel_rfl) (by kernel_rfl) (by kernel_rfl)).shape
        rw [show (numsC c).length = 5 from rfl] at hs
        subst hs
        clear hD hW
        go_simp
        try rfl
      simp only [Act.put, List.setIfInBounds_toArray, List.set_cons_zero, List.set_cons_succ, Nat.reduceAdd, Nat.zero_add]
      iterate 1 (refine calm_quiet (v := ?_) (by rfl) (by rfl) (fun W hW hD => ?_) ?_; rotate_left; (· (clear hD hW; go_simp; try with_reducible rfl)); simp only [Act.put, List.setIfInBounds_toArray, List.set_cons_zero, List.set_cons_succ, Nat.reduceAdd, Nat.zero_add])
      refine calm_nil fun W hW hF => ?_
      have ho : OwnK intK wr.heap.size W vl (numsC c) := hF 27 (by kernel_rfl) (by kernel_rfl)
      obtain ⟨sa, sc, hs, hsl, hsm⟩ := ho.shape
      rw [show (numsC c).length = 5 from rfl] at hs hsl
      subst hs
      unfold maxLen at hsm
      have HNr := Lib.hid (ho.rows intOk)
      have HBW := Lib.hid (HB.out.trans ((grown_below hW).mono HB.out.size))
      have HO1 : Hid (OwnK strK w.heap.size W (.slice ta tn tc) (codesC (l.take k))) := HO.out.below (grown_below hW) (Nat.le_refl _)
      clear hF hW ho HQ HO HB
      go_wp2
      go_loopw [5, 45] (fun s i wq => ∃ j : Nat, j ≤ 5 ∧ i = .int .i64 j ∧ s = .string (bs (catC ((numsC c).take j))) ∧ Hid (Below W.heap.size W wq)) (fun _ i _ => 5 - (intOf i).toNat)
      case atStart => exact ⟨0, by omega, rfl, rfl, Lib.hid (Below.refl _ _)⟩
      case round =>
        obtain ⟨j, hj, rfl, rfl, HBj⟩ := hrel
        by_cases hj5 : j < 5
        · have jj : (j : Int) < 5 := by omega
          have j0 : 0 ≤ (j : Int) := by omega
          obtain ⟨z, hz⟩ : ∃ z, z = numAt c j := ⟨_, rfl⟩
          have hzg : (numsC c)[j]? = some z := by rw [hz]; unfold numAt; rw [List.getD_eq_getElem?_getD, List.getElem?_eq_getElem (show j < (numsC c).length from hj5)]; rfl
          obtain ⟨ib, io, hie, hib, x0⟩ := intsK_at (HNr.out.later HBj.out (Nat.le_refl _)) j z hzg
          subst hie
          have HCN : Hid (catC ((numsC c).take (j + 1)) = catC ((numsC c).take j) ++ (putInt (numAt c j)).1) := catC_next _ j hj5
          rw [← hz] at HCN
          have HP := Lib.hid (fun W => refPutInt_any z W)
          obtain ⟨pc, hpc⟩ : ∃ p, p = (putInt z).1 := ⟨_, rfl⟩
          rw [← hpc] at HP HCN
          have hpl : pc.length ≤ 10 := by rw [hpc]; exact putInt_len z
          have hal : (catC ((numsC c).take j)).length ≤ 50 := by
            have h1 := catC_len ((numsC c).take j)
            have h2 : ((numsC c).take j).length ≤ 5 := by rw [List.length_take]; exact Nat.min_le_right _ _
            omega
          have hbl : (bs (catC ((numsC c).take j))).size ≤ 50 := by rw [bs_size]; exact hal
          generalize (putInt z).2 = pe at HP
          generalize catC ((numsC c).take j) = acc at *
          clear hpc hz hzg hib
          have hcat : bs acc ++ bs pc = bs (catC ((numsC c).take (j + 1))) := by rw [HCN.out]; exact bs_catB _ _
          go_wp2_with fail
          refine (HP.out _).mono ?_
          rintro e w5 ⟨rfl, hb5⟩
          have HB5 := Lib.hid (HBj.out.trans (hb5.mono HBj.out.size))
          clear hb5 HBj x0
          go_wp2
          go_roundw
          case rel => exact ⟨j + 1, by omega, by go_num, by rw [← hcat]; rfl, HB5⟩
          case measure => simp [intOf]; omega
        · obtain rfl : j = 5 := by omega
          have jj : ¬ (((5 : Nat) : Int) < 5) := by omega
          rw [show catC ((numsC c).take 5) = codeC c from rfl]
          obtain ⟨pc, hpc⟩ : ∃ p, p = codeC c := ⟨_, rfl⟩
          rw [← hpc] at HNx ⊢
          have HO5 : Hid (OwnK strK w.heap.size wr (.slice ta tn tc) (codesC (l.take k))) := HO1.out.below HBj.out (Nat.le_refl _)
          have HB5 : Hid (Below w.heap.size w wr) := HBW.out.trans (HBj.out.mono HBW.out.size)
          have HA1 : Hid (OwnK strK w.heap.size (wr.alloc (.cells #[.string (bs pc)] 9)) (.slice ta tn tc) (codesC (l.take k))) := HO5.out.kept (World.grownBy_alloc _ _ none) (fun g h => by cases h)
          have HA2 : Hid (RowsAt strK (wr.heap.size + 1) (wr.alloc (.cells #[.string (bs pc)] 9)) (.slice (some ⟨wr.heap.size, 0, none⟩) 1 1) [pc]) := by
            have h := (ownK_lit strOk wr [pc] #[.string (bs pc)] rfl (by simp)).rows strOk
            rw [World.size_alloc] at h
            exact h
          have HA3 : Hid (w.heap.size ≤ (wr.alloc (.cells #[.string (bs pc)] 9)).heap.size) := by show _ ≤ _; rw [World.size_alloc]; have := HB5.out.size; omega
          clear hpc HBj HO1 HBW HNr
          go_wp2_with (at_builtin; refine append_K3 strOk rfl _ _ rfl w.heap.size _ _ _ (codesC (l.take k)) [pc] rfl rfl HA1.out HA2.out HLc.out HA3.out ?_; intro v' w7 ho7 hg7 hr7)
          have HB7 : Hid (Below w.heap.size w w7) := (HB5.out.alloc HB5.out.size _).grown hg7 HA3.out (fun j hj => (World.ownsRow.lt HA1.out j hj).1)
          rw [← HNx.out] at ho7
          obtain ⟨za, zc, hv7, _, _⟩ := ho7.shape
          subst hv7
          have HO7 := Lib.hid ho7
          clear ho7 hg7 hr7
          go_roundw
          case rel => exact ⟨k + 1, by omega, by go_num, ⟨_, _, _, rfl⟩, HO7, HB7⟩
          case measure => simp [intOf]; omega
    · obtain rfl : k = n := by omega
      have kk : ¬ ((k : Int) < (k : Int)) := by omega
      have HOe : Hid (OwnK strK w.heap.size wr (.slice ta tn tc) (codesC l)) := by
        have h := HO.out
        rwa [List.take_of_length_le (by rw [HN.out]; exact Nat.le_refl _)] at h
      clear hlt hk HO
      go_wp2
      go_ret
      exact ⟨_, rfl, HOe.out, HB.out⟩
end Go.Proofs.YtcgopilkajfghaaGreatDoor
