/- cut of the statements on logbook. -/
import Derived.Test.YthfenbdlolbikaaGreatDoorGBentP
set_option linter.unusedVariables false
set_option linter.unusedSimpArgs false
namespace Go.Proofs.YthfenbdlolbikaaGreatDoor
open Go.RowKit Go.Shelf

def cutR (x : LRec) : LRec := { x with text := x.text.take 201 }
def cutB (b : LBook) : LBook := ⟨b.office, (b.recs.take 3).map cutR⟩
theorem cutL_succ (l : List LRec) (k : Nat) (h : k < l.length) : (l.take (k + 1)).map cutR = (l.take k).map cutR ++ [cutR (l.getD k default)] := by
  rw [take_getD l default k h, List.map_append]
  rfl
set_option maxRecDepth 100000 in
set_option maxHeartbeats 4000000 in
theorem cut_any (o : Int) (rv : Value) (l : List LRec) (w : World) (hR : RecsAt w.heap.size w rv l) :
    Calls Tryz.prog 9 #[bookV o rv] w fun e w' => ∃ rv', e = .returned (bookV (cutB ⟨o, l⟩).office rv') ∧ OwnG w.heap.size w' rv' (cutB ⟨o, l⟩).recs ∧ Below w.heap.size w w' := by
  obtain ⟨ra, rc, rfl, hrc, hrm⟩ := hR.shape
  unfold maxLen at hrm
  have HR := Lib.hid hR
  have HC : Hid (cutB ⟨o, l⟩ = ⟨o, (l.take 3).map cutR⟩) := rfl
  obtain ⟨m, hm⟩ : ∃ m, m = l.length := ⟨_, rfl⟩
  rw [← hm] at hrc ⊢
  obtain ⟨V, hV⟩ : ∃ V, V = ((w.alloc (.cells #[.int .i64 o, .slice ra m rc] 25)).alloc (.cells #[.int .i64 0, .slice none 0 0] 25)).alloc (.cells #[.int .i64 o, .slice none 0 0] 25) := ⟨_, rfl⟩
  have hBV : Below w.heap.size w V := by rw [hV]; exact (((Below.refl _ _).alloc (Nat.le_refl _) _).alloc (by simp) _).alloc (by simp; omega) _
  have hVs : V.heap.size = w.heap.size + 3 := by rw [hV]; simp
  have hX0 : LogBox V w.heap.size o (.slice ra m rc) := by rw [hV]; exact (logBox_new w o (.slice ra m rc)).below (((Below.refl (w.heap.size + 1) _).alloc (by simp) _).alloc (by simp) _) (by omega)
  have hR0 : LogBox V (w.heap.size + 1) 0 (.slice none 0 0) := by
    rw [hV]
    have := logBox_new (w.alloc (.cells #[.int .i64 o, .slice ra m rc] 25)) 0 (.slice none 0 0)
    rw [World.size_alloc] at this
    exact this.below ((Below.refl (w.heap.size + 2) _).alloc (by simp) _) (by omega)
  have hO0 : LogBox V (w.heap.size + 2) o (.slice none 0 0) := by
    rw [hV]
    have := logBox_new ((w.alloc (.cells #[.int .i64 o, .slice ra m rc] 25)).alloc (.cells #[.int .i64 0, .slice none 0 0] 25)) o (.slice none 0 0)
    rwa [World.size_alloc, World.size_alloc] at this
  have q0 := (logBox_new w o (.slice ra m rc)).below ((Below.refl (w.heap.size + 1) _).alloc (by simp) (.cells #[.int .i64 0, .slice none 0 0] 25)) (by omega)
  have q1 := q0.c1
  have q0 := q0.c0
  have HM := Lib.hid hm
  have HBV := Lib.hid hBV
  have HVs := Lib.hid hVs
  have HX0 := Lib.hid hX0
  have HR0 := Lib.hid hR0
  have HO0 := Lib.hid hO0
  have HVE := Lib.hid hV
  clear hR hV hBV hVs hX0 hR0 hO0 hm
  go_enter Tryz.func9, Tryz.ntmps9
  go_wp2
  clear q0 q1
  simp only [Nat.add_assoc, Nat.reduceAdd]
  go_loopw [4] (fun i wr => ∃ (k : Nat) (rv : Value), k ≤ m ∧ k ≤ 3 ∧ i = .int .i64 k ∧ LogBox wr w.heap.size o (.slice ra m rc) ∧ LogBox wr (w.heap.size + 1) 0 (.slice none 0 0) ∧ LogBox wr (w.heap.size + 2) o rv ∧ OwnG (w.heap.size + 3) wr rv ((l.take k).map cutR) ∧ Below w.heap.size w wr ∧ w.heap.size + 3 ≤ wr.heap.size) (fun i _ => m - (intOf i).toNat)
  case atStart => exact ⟨0, _, Nat.zero_le _, Nat.zero_le _, rfl, by rw [← HVE.out]; exact HX0.out, by rw [← HVE.out]; exact HR0.out, by rw [← HVE.out]; exact HO0.out, World.ownsRow_nil _ _ _ _, by rw [← HVE.out]; exact HBV.out, by rw [← HVE.out, HVs.out]; exact Nat.le_refl _⟩
  case round =>
    clear HX0 HR0 HO0 HBV HVs HVE
    obtain ⟨k, rv, hk, hk3, rfl, hX, hRx, hO, hG, hB, hz⟩ := hrel
    have x0 := hX.c0
    have x1 := hX.c1
    by_cases h1 : k < m
    · by_cases h3 : k < 3
      · have d1 : (k : Int) < (m : Int) := by omega
        have d3 : (k : Int) < 3 := by omega
        have k0 : 0 ≤ (k : Int) := by omega
        obtain ⟨b, off, hae, hb, hat⟩ := HR.out.at k (by rw [← HM.out]; exact h1)
        subst hae
        obtain ⟨c0, c1, c2, c3, c4⟩ := hat.below hB hb
        have HS := Lib.hid (cutL_succ l k (by rw [← HM.out]; exact h1))
        have hml : ((l.take k).map cutR).length = k := by rw [List.length_map, List.length_take, ← HM.out]; omega
        have HML := Lib.hid hml
        have HL2 : Hid (((l.take (k + 1)).map cutR).length = k + 1) := by show _ = _; rw [List.length_map, List.length_take, ← HM.out]; omega
        generalize (l.take k).map cutR = L at *
        have HCr : Hid (cutR (l.getD k default) = { l.getD k default with text := (l.getD k default).text.take 201 }) := rfl
        generalize l.getD k default = x at *
        obtain ⟨s, kd, p, q, t⟩ := x
        simp only at c0 c1 c2 c3 c4 HCr
        obtain ⟨mt, emt, hm1, hm2⟩ := cut_min (bs t) 201 (by omega)
        have hex : (bs t).extract 0 mt = bs (t.take 201) := by
          rw [extract_bs]
          rw [bs_size] at emt hm1
          congr 1
          rw [List.take_eq_take_iff]
          omega
        have HEx := Lib.hid hex
        have mt1 : (mt : Int) ≤ ((bs t).size : Int) := by omega
        have mt0 : 0 ≤ (mt : Int) := by omega
        obtain ⟨va, vc, hrv, hv1, hv2⟩ := hG.shape
        subst hrv
        rw [HML.out] at hv1 hO hG
        unfold maxLen at hv2
        obtain ⟨Z, hZe⟩ : ∃ Z, Z = wr.alloc (.cells #[.int .i64 s, .int .i64 kd, .int .i64 p, .int .i64 q, .string ((bs t).extract 0 mt)] 48) := ⟨_, rfl⟩
        have hbZ : Below wr.heap.size wr Z := by rw [hZe]; exact (Below.refl _ _).alloc (Nat.le_refl _) _
        have hZn : RecBox Z wr.heap.size ⟨s, kd, p, q, t.take 201⟩ := by rw [hZe, hex]; exact recBox_new wr ⟨s, kd, p, q, t.take 201⟩
        have hOz := hO.below hbZ hO.lt
        obtain ⟨a0, a1, a2, a3, a4⟩ := (recBox_new wr ⟨s, kd, p, q, t⟩).cells
        obtain ⟨z0, z1, z2, z3, z4⟩ := hZn.cells
        simp only at a0 a1 a2 a3 a4 z0 z1 z2 z3 z4
        rw [← hex] at z4
        have o0 := hOz.c0
        have o1 := hOz.c1
        have of_ := hOz.frozen
        rw [hZe] at z0 z1 z2 z3 z4 o0 o1 of_
        have HLit : Hid (OwnG Z.heap.size (Z.alloc (.cells #[.int .i64 s, .int .i64 kd, .int .i64 p, .int .i64 q, .string ((bs t).extract 0 mt)] 48)) (.slice (some ⟨wr.heap.size + 1, 0, none⟩) 1 1) [⟨s, kd, p, q, t.take 201⟩]) := by
          have h := ownG_lit1 Z ⟨s, kd, p, q, t.take 201⟩
          have hzs : Z.heap.size = wr.heap.size + 1 := by rw [hZe]; simp
          rw [hzs] at h
          rw [hzs, hex]
          exact h
        have HZE : Hid (Z = wr.alloc (.cells #[.int .i64 s, .int .i64 kd, .int .i64 p, .int .i64 q, .string ((bs t).extract 0 mt)] 48)) := hZe
        have HGz := Lib.hid (hG.below hbZ (Nat.le_refl _))
        have HOz := Lib.hid hOz
        have HXz := Lib.hid (hX.below hbZ hX.lt)
        have HRz := Lib.hid (hRx.below hbZ hRx.lt)
        have HBz := Lib.hid (hB.trans (hbZ.mono hB.size))
        have hZs : wr.heap.size ≤ Z.heap.size := hbZ.size
        clear hZe hbZ hZn hOz hat hX hRx hO hG hB hex hml
        go_wp2_with (at_builtin; go_loud (rw [← HZE.out]; refine append_GG rfl _ _ rfl (w.heap.size + 3) _ _ _ L [⟨s, kd, p, q, t.take 201⟩] rfl rfl (HGz.out.below ((Below.refl _ _).alloc (Nat.le_refl _) _) (Nat.le_refl _)) HLit.out.recs (by rw [HML.out]; simp; omega) (by simp; omega) Z ((Below.refl _ _).alloc (by omega) _) ?_; intro vn w3 hO3 hg3 hb3; rw [← HCr.out] at hO3; rw [← HS.out] at hO3; obtain ⟨na, nc, hvn, hn1, hn2⟩ := hO3.shape; rw [HL2.out] at hvn; subst hvn; have hO4 := HOz.out.below hb3 (by have := HOz.out.lt; omega); have p0 := hO4.c0; have p1 := hO4.c1; have pf := hO4.frozen; have HO3 := Lib.hid hO3; have HB3 := Lib.hid hb3; have HO4 := Lib.hid hO4; clear hO3 hg3 hb3 hO4))
        have hOf : LogBox (w3.setCell ⟨w.heap.size + 2, 1, none⟩ (.slice na (k + 1) nc)) (w.heap.size + 2) o (.slice na (k + 1) nc) := heap_set HO4.out 1 _
        have hXf : LogBox (w3.setCell ⟨w.heap.size + 2, 1, none⟩ (.slice na (k + 1) nc)) w.heap.size o (.slice (some ⟨b, off, none⟩) m rc) := (heap_set_ne w3 (show w.heap.size ≠ w.heap.size + 2 by omega) 1 _).trans (HXz.out.below HB3.out (by omega))
        have hRf : LogBox (w3.setCell ⟨w.heap.size + 2, 1, none⟩ (.slice na (k + 1) nc)) (w.heap.size + 1) 0 (.slice none 0 0) := (heap_set_ne w3 (show w.heap.size + 1 ≠ w.heap.size + 2 by omega) 1 _).trans (HRz.out.below HB3.out (by omega))
        have hGf : OwnG (w.heap.size + 3) (w3.setCell ⟨w.heap.size + 2, 1, none⟩ (.slice na (k + 1) nc)) (.slice na (k + 1) nc) ((l.take (k + 1)).map cutR) := HO3.out.set HO4.out (by decide) 1 _
        have hBf : Below w.heap.size w (w3.setCell ⟨w.heap.size + 2, 1, none⟩ (.slice na (k + 1) nc)) := (HBz.out.trans (HB3.out.mono (by omega))).setCell (p := ⟨w.heap.size + 2, 1, none⟩) (by show w.heap.size ≤ w.heap.size + 2; omega) _
        have hzf : w.heap.size + 3 ≤ (w3.setCell ⟨w.heap.size + 2, 1, none⟩ (.slice na (k + 1) nc)).heap.size := by have := HB3.out.size; simp; omega
        exact ⟨⟨k + 1, _, by omega, by omega, by go_num, hXf, hRf, hOf, hGf, hBf, hzf⟩, by simp [intOf]; omega⟩
      · obtain rfl : k = 3 := by omega
        have d3 : ¬ ((3 : Int) < 3) := by omega
        have d1 : ((3 : Int) < (m : Int)) := by omega
        obtain ⟨va, vc, hrv, hv1, hv2⟩ := hG.shape
        subst hrv
        generalize ((l.take 3).map cutR).length = vn at *
        have o0 := hO.c0
        have o1 := hO.c1
        have r0 := hRx.c0
        have r1 := hRx.c1
        have rf := hRx.frozen
        have hF := hRx.set o (.slice va vn vc)
        obtain ⟨WF, hWF⟩ : ∃ W, W = (wr.setCell ⟨w.heap.size + 1, 0, none⟩ (.int .i64 o)).setCell ⟨w.heap.size + 1, 1, none⟩ (.slice va vn vc) := ⟨_, rfl⟩
        have hGf : OwnG (w.heap.size + 3) WF (.slice va vn vc) ((l.take 3).map cutR) := by rw [hWF]; exact (hG.set hRx (by decide) 0 (.int .i64 o)).set (heap_set hRx 0 (.int .i64 o)) (by decide) 1 _
        have hBf : Below w.heap.size w WF := by rw [hWF]; exact (hB.setCell (p := ⟨w.heap.size + 1, 0, none⟩) (by show w.heap.size ≤ w.heap.size + 1; omega) _).setCell (p := ⟨w.heap.size + 1, 1, none⟩) (by show w.heap.size ≤ w.heap.size + 1; omega) _
        rw [← hWF] at hF
        have HWF := Lib.hid hWF
        have HF := Lib.hid hF
        have HGf := Lib.hid (OwnG.mono hGf (show w.heap.size ≤ w.heap.size + 3 by omega))
        have HBf := Lib.hid hBf
        clear hWF hF hGf hBf hG hX hO hRx hB
        go_wp2
        rw [← HWF.out]
        have hEn := HF.out
        exact bodyPost_ret (v := bookV o (.slice va vn vc)) (by simp [results, Tryz.results9, go_sem, hEn.c0, hEn.c1]) rfl ⟨_, by rw [HC.out], by rw [HC.out]; exact HGf.out, HBf.out⟩
    · obtain rfl : k = m := by omega
      have hle : l.take k = l.take 3 := by
        rw [List.take_of_length_le (by rw [← HM.out]; exact Nat.le_refl _), List.take_of_length_le (by rw [← HM.out]; exact hk3)]
      rw [hle] at hG
      clear hle
      obtain ⟨va, vc, hrv, hv1, hv2⟩ := hG.shape
      subst hrv
      generalize ((l.take 3).map cutR).length = vn at *
      have o0 := hO.c0
      have o1 := hO.c1
      have r0 := hRx.c0
      have r1 := hRx.c1
      have rf := hRx.frozen
      have hF := hRx.set o (.slice va vn vc)
      obtain ⟨WF, hWF⟩ : ∃ W, W = (wr.setCell ⟨w.heap.size + 1, 0, none⟩ (.int .i64 o)).setCell ⟨w.heap.size + 1, 1, none⟩ (.slice va vn vc) := ⟨_, rfl⟩
      have hGf : OwnG (w.heap.size + 3) WF (.slice va vn vc) ((l.take 3).map cutR) := by rw [hWF]; exact (hG.set hRx (by decide) 0 (.int .i64 o)).set (heap_set hRx 0 (.int .i64 o)) (by decide) 1 _
      have hBf : Below w.heap.size w WF := by rw [hWF]; exact (hB.setCell (p := ⟨w.heap.size + 1, 0, none⟩) (by show w.heap.size ≤ w.heap.size + 1; omega) _).setCell (p := ⟨w.heap.size + 1, 1, none⟩) (by show w.heap.size ≤ w.heap.size + 1; omega) _
      rw [← hWF] at hF
      have HWF := Lib.hid hWF
      have HF := Lib.hid hF
      have HGf := Lib.hid (OwnG.mono hGf (show w.heap.size ≤ w.heap.size + 3 by omega))
      have HBf := Lib.hid hBf
      clear hWF hF hGf hBf hG hX hO hRx hB
      go_wp2
      rw [← HWF.out]
      have hEn := HF.out
      exact bodyPost_ret (v := bookV o (.slice va vn vc)) (by simp [results, Tryz.results9, go_sem, hEn.c0, hEn.c1]) rfl ⟨_, by rw [HC.out], by rw [HC.out]; exact HGf.out, HBf.out⟩
end Go.Proofs.YthfenbdlolbikaaGreatDoor
