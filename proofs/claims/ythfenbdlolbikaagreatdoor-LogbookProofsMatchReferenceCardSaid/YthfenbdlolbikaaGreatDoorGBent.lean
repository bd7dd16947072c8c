/- The reference's Bent. -/
import Derived.Test.YthfenbdlolbikaaGreatDoorGBentP
set_option linter.unusedVariables false
set_option linter.unusedSimpArgs false
namespace Go.Proofs.YthfenbdlolbikaaGreatDoor
open Go.RowKit Go.Shelf

theorem mkN (N : Nat) (hN : N ≤ 1000) (W : World) : ∃ W1, (Instr.makeSlice 68 (.int .i64 (N : Int)) (.int .i64 (N : Int))).run Tryz.prog W = .ok (.slice (some ⟨W.heap.size, 0, none⟩) N N) W1 ∧ Below W.heap.size W W1 ∧ W.heap.size < W1.heap.size ∧
    ∀ W2, Below W1.heap.size W1 W2 → (convert 68 9 (.slice (some ⟨W.heap.size, 0, none⟩) N N)).run Tryz.prog W2 = .ok (.string (bs (List.replicate N 0))) W2 := by
  obtain ⟨i0, hi, hz0, hz1, hz2⟩ := info_parts info_u8
  obtain ⟨W1, h1, h2, h3⟩ := run_makeSlice_full (P := Tryz.prog) (w := W) W.heap.size 68 5 i0 (.int .u8 0) 1 Tryz.underlying68 hi hz0 hz1 .i64 .i64 N (by omega) (by rw [hz2]; omega) (by unfold maxLen; omega) (Nat.le_refl _)
  refine ⟨W1, h1, ⟨h3.os, h3.tape, h3.output, h3.size, fun k hk => h3.block k hk (by simp)⟩, (World.ownsRow.lt h2 W.heap.size rfl).2, fun W2 hW => ?_⟩
  have hl : (List.replicate N (0 : UInt8)).length = N := List.length_replicate
  have := run_convert_bytes_back W2 68 9 5 ⟨W.heap.size, 0, none⟩ N (List.replicate N 0) Tryz.underlying68 Tryz.underlying5 Tryz.underlying9 fun j hj => by
    have hj' : j < N := by rwa [hl] at hj
    have hlt := (World.ownsRow.lt h2 W.heap.size rfl).2
    have hc := World.ownsRow.cellAt h2 j (by omega)
    rw [Addr.add_mid, Nat.zero_add, hW.cell (p := ⟨W.heap.size, j, none⟩) hlt, hc]
    have hm : (madeCells (Value.int .u8 0).cells (N * 1)).toList = List.replicate N (.int .u8 0) := by rw [Nat.mul_one]; exact toList_madeCells_one _ _
    rw [hm, List.getElem?_replicate, if_pos hj']
    have hz : (List.replicate N (0 : UInt8))[j] = 0 := List.getElem_replicate ..
    exact congrArg (fun z : UInt8 => some (Value.int .u8 (z.toNat : Int))) hz.symm
  rw [hl] at this
  exact this
/-- What the steps of the region leave. -/
def BntF (N : Nat) (p : Int) : Nat → Value → World → Prop := fun k v W =>
  if k = 4 then v = .int .i64 p else ∃ g, v = .slice (some ⟨g, 0, none⟩) N N ∧ ∀ W2, Below W.heap.size W W2 → (convert 68 9 (.slice (some ⟨g, 0, none⟩) N N)).run Tryz.prog W2 = .ok (.string (bs (List.replicate N 0))) W2
theorem bntF_kept {N : Nat} {p : Int} {k : Nat} {v : Value} {W W' : World} {cc : Option Nat} (h : BntF N p k v W) (hg : W.grownBy W' cc) (hc : ∀ g, cc = some g → False) : BntF N p k v W' := by
  have hcn : cc = none := by
    cases cc with
    | none => rfl
    | some g => exact absurd rfl (fun e => hc g e)
  subst hcn
  unfold BntF at h ⊢
  split at h
  · rename_i hk; rw [if_pos hk]; exact h
  · rename_i hk; rw [if_neg hk]
    obtain ⟨g, rfl, hb⟩ := h
    exact ⟨g, rfl, fun W2 h2 => hb W2 ((grown_below hg).trans (h2.mono hg.size))⟩
/-- The end: the book goes into the result. -/
theorem bent_end {w W : World} {H : Nat} {o : Int} {a : Option Addr} {m c : Nat} {L : List LRec} (hH : H = w.heap.size) (hX : LogBox W H o (.slice a m c)) (hR : LogBox W (H + 1) 0 (.slice none 0 0)) (hO : OwnG (H + 2) W (.slice a m c) L) (hB : Below H w W) :
    LogBox ((W.setCell ⟨H + 1, 0, none⟩ (.int .i64 o)).setCell ⟨H + 1, 1, none⟩ (.slice a m c)) (H + 1) o (.slice a m c) ∧ OwnG H ((W.setCell ⟨H + 1, 0, none⟩ (.int .i64 o)).setCell ⟨H + 1, 1, none⟩ (.slice a m c)) (.slice a m c) L ∧ Below H w ((W.setCell ⟨H + 1, 0, none⟩ (.int .i64 o)).setCell ⟨H + 1, 1, none⟩ (.slice a m c)) :=
  ⟨hR.set o (.slice a m c), OwnG.mono ((hO.set hR (by decide) 0 (.int .i64 o)).set (heap_set hR 0 (.int .i64 o)) (by decide) 1 (.slice a m c)) (by omega), (hB.setCell (p := ⟨H + 1, 0, none⟩) (by show H ≤ H + 1; omega) _).setCell (p := ⟨H + 1, 1, none⟩) (by show H ≤ H + 1; omega) _⟩
set_option maxRecDepth 100000 in
set_option maxHeartbeats 8000000 in
theorem bent_any (o : Int) (rv : Value) (l : List LRec) (how n at_ : Int) (w : World) (hR : RecsAt w.heap.size w rv l) (hl : l.length ≤ 100000) (hh : I64 how) (hn : I64 n) (ha : I64 at_) :
    Calls Tryz.prog 8 #[bookV o rv, .int .i64 how, .int .i64 n, .int .i64 at_] w fun e w' => ∃ rv', e = .returned (bookV (bentB ⟨o, l⟩ how n at_).office rv') ∧ OwnG w.heap.size w' rv' (bentB ⟨o, l⟩ how n at_).recs ∧ Below w.heap.size w w' := by
  obtain ⟨ra, rc, rfl, hrc, hrm⟩ := hR.shape
  unfold maxLen at hrm
  have HR := Lib.hid hR
  have HBe : Hid (bentB ⟨o, l⟩ how n at_ = if pickZ how 6 = 0 then ⟨n, bentRecs ⟨o, l⟩ n⟩
    else if pickZ how 6 ≤ 4 then ⟨o, (bentRecs ⟨o, l⟩ n).set (bentAt ⟨o, l⟩ at_) (setF ((bentRecs ⟨o, l⟩ n).getD (bentAt ⟨o, l⟩ at_) default) ((pickZ how 6).toNat - 1) n)⟩
    else ⟨o, (bentRecs ⟨o, l⟩ n).set (bentAt ⟨o, l⟩ at_) { (bentRecs ⟨o, l⟩ n).getD (bentAt ⟨o, l⟩ at_) default with text := List.replicate (150 + pickZ n 100).toNat 0 }⟩) := rfl
  have hp6 := pickZ_bd how 6 (by omega)
  have hp100 := pickZ_bd n 100 (by omega)
  have HP6 := Lib.hid (fun W => gpickR_any how 6 W hh.1 hh.2 (by omega) (by omega))
  have HP100 := Lib.hid (fun W => gpickR_any n 100 W hn.1 hn.2 (by omega) (by omega))
  have HPa := Lib.hid (fun (h : 0 < l.length) (W : World) => gpickR_any at_ l.length W ha.1 ha.2 (by omega) (by omega))
  have HPz := Lib.hid (fun (h : 0 < l.length) => pickZ_bd at_ l.length (by omega))
  generalize pickZ how 6 = P at *
  obtain ⟨q, hq⟩ := Int.eq_ofNat_of_zero_le hp100.1
  rw [hq] at HP100 HBe hp100
  have e150 : (150 + (q : Int)).toNat = 150 + q := by omega
  rw [e150] at HBe
  clear hq e150 hR hh hn ha
  have hV : ∃ V, V = (w.alloc (.cells #[.int .i64 o, .slice ra l.length rc] 25)).alloc (.cells #[.int .i64 0, .slice none 0 0] 25) := ⟨_, rfl⟩
  obtain ⟨V, hV⟩ := hV
  have hBV : Below w.heap.size w V := by rw [hV]; exact ((Below.refl _ _).alloc (Nat.le_refl _) _).alloc (by simp) _
  have hVs : V.heap.size = w.heap.size + 2 := by rw [hV]; simp
  have hX0 : LogBox V w.heap.size o (.slice ra l.length rc) := by rw [hV]; exact (logBox_new w o (.slice ra l.length rc)).below ((Below.refl (w.heap.size + 1) _).alloc (by simp) _) (by omega)
  have hR0 : LogBox V (w.heap.size + 1) 0 (.slice none 0 0) := by
    rw [hV]
    have := logBox_new (w.alloc (.cells #[.int .i64 o, .slice ra l.length rc] 25)) 0 (.slice none 0 0)
    rwa [World.size_alloc] at this
  have HRV := Lib.hid (HR.out.later hBV (Nat.le_refl _))
  have HBV := Lib.hid hBV
  have HX0 := Lib.hid hX0
  have HR0 := Lib.hid hR0
  have HVs := Lib.hid hVs
  have HVE := Lib.hid hV
  have q0 := hX0.c0
  have q1 := hX0.c1
  rw [hV] at q0 q1
  have HLit : Hid (OwnG V.heap.size (V.alloc (.cells #[] 48)) (.slice (some ⟨w.heap.size + 1 + 1, 0, none⟩) 0 0) []) := by
    rw [show (⟨w.heap.size + 1 + 1, 0, none⟩ : Addr) = ⟨V.heap.size, 0, none⟩ from by rw [HVs.out]]
    exact ownG_lit0 V
  have hcase : l.length = 0 ∨ 0 < l.length := by omega
  clear hBV hX0 hR0 hVs hV
  rcases hcase with h0 | h0
  · have HBr : Hid (bentRecs ⟨o, l⟩ n = [⟨n, 1, 0, 0, []⟩]) := by show _ = _; unfold bentRecs; rw [if_pos h0]
    have HBa : Hid (bentAt ⟨o, l⟩ at_ = 0) := by show _ = _; unfold bentAt; rw [if_pos h0]
    rw [HBr.out, HBa.out] at HBe
    obtain ⟨m, hm⟩ : ∃ m, m = l.length := ⟨_, rfl⟩
    have HM := Lib.hid hm
    have m0 : ¬ ((0 : Int) < (m : Int)) := by omega
    rw [← hm] at hrc hl HX0 HVE HRV q0 q1 ⊢
    clear hm h0 HPa HPz HBr HBa
    go_enter Tryz.func8, Tryz.ntmps8
    go_wp2_with (at_builtin; rw [← HVE.out]; refine append_GG rfl _ _ rfl V.heap.size V.heap.size _ _ [] l rfl rfl HLit.out (HRV.out.below ((Below.refl _ _).alloc (Nat.le_refl _) _) (Nat.le_refl _)) (by simp only [List.length_nil]; rw [← HM.out]; omega) (by simp) V ((Below.refl _ _).alloc (Nat.le_refl _) _) ?_; intro vn w3 hO3 hg3 hb3; rw [List.nil_append] at hO3; obtain ⟨na, nc, hvn, hn1, hn2⟩ := hO3.shape; rw [← HM.out] at hvn hn1; subst hvn; have hX3 := HX0.out.below hb3 HX0.out.lt; have p0 := hX3.c0; have p1 := hX3.c1; have pf := hX3.frozen; have hX4 : LogBox (w3.setCell ⟨w.heap.size, 1, none⟩ (.slice na m nc)) w.heap.size o (.slice na m nc) := heap_set hX3 1 _; have s0 := hX4.c0; have s1 := hX4.c1; have sf := hX4.frozen; have hX5 : LogBox ((w3.setCell ⟨w.heap.size, 1, none⟩ (.slice na m nc)).alloc (.cells #[.int .i64 n, .int .i64 1, .int .i64 0, .int .i64 0, .string (⟨#[]⟩ : ByteArray)] 48)) w.heap.size o (.slice na m nc) := hX4.below ((Below.refl _ _).alloc (Nat.le_refl _) _) hX4.lt; have t0 := hX5.c0; have t1 := hX5.c1; have tf := hX5.frozen; have HX5 := Lib.hid hX5; clear hX5; have HO3 := Lib.hid hO3; have HB3 := Lib.hid hb3; have HX4 := Lib.hid hX4; have hz3 := hb3.size; clear hO3 hg3 hb3 hX3 hX4)
    obtain ⟨g, hg⟩ : ∃ g, g = w3.heap.size := ⟨_, rfl⟩
    obtain ⟨L, hLl⟩ : ∃ L : List LRec, L = [⟨n, 1, 0, 0, []⟩] := ⟨_, rfl⟩
    obtain ⟨W1, hW1⟩ : ∃ W, W = ((w3.setCell ⟨w.heap.size, 1, none⟩ (.slice na m nc)).alloc (.cells #[.int .i64 n, .int .i64 1, .int .i64 0, .int .i64 0, .string (⟨#[]⟩ : ByteArray)] 48)).setCell ⟨w.heap.size, 1, none⟩ (.slice (some ⟨w3.heap.size, 0, none⟩) 1 1) := ⟨_, rfl⟩
    have hlt := HX4.out.lt
    have hVw := HVs.out
    have hsz : (w3.setCell ⟨w.heap.size, 1, none⟩ (.slice na m nc)).heap.size = w3.heap.size := by simp
    have HX1 : Hid (LogBox W1 w.heap.size o (.slice (some ⟨g, 0, none⟩) 1 1)) := by rw [hW1, hg]; exact heap_set HX5.out 1 _
    have hRw3 : LogBox w3 (w.heap.size + 1) 0 (.slice none 0 0) := HR0.out.below HB3.out HR0.out.lt
    have HR1 : Hid (LogBox W1 (w.heap.size + 1) 0 (.slice none 0 0)) := by
      rw [hW1]
      refine (heap_set_ne _ (show w.heap.size + 1 ≠ w.heap.size by omega) _ _).trans ?_
      refine LogBox.below (B := w3.heap.size) ((heap_set_ne w3 (show w.heap.size + 1 ≠ w.heap.size by omega) 1 (.slice na m nc)).trans hRw3) ?_ hRw3.lt
      rw [← hsz]
      exact (Below.refl _ _).alloc (Nat.le_refl _) _
    have HO1 : Hid (OwnG (w.heap.size + 2) W1 (.slice (some ⟨g, 0, none⟩) 1 1) L) := by
      rw [hW1, hg, hLl]
      have h := ownG_lit1 (w3.setCell ⟨w.heap.size, 1, none⟩ (.slice na m nc)) ⟨n, 1, 0, 0, []⟩
      rw [hsz] at h
      exact OwnG.mono (h.set HX5.out (by decide) 1 _) (by omega)
    have HB1 : Hid (Below w.heap.size w W1) := by
      rw [hW1]
      have h0 : Below w.heap.size w w3 := HBV.out.trans (HB3.out.mono (by omega))
      exact ((h0.setCell (p := ⟨w.heap.size, 1, none⟩) (Nat.le_refl _) _).alloc (by rw [hsz]; omega) _).setCell (p := ⟨w.heap.size, 1, none⟩) (Nat.le_refl _) _
    have HL : Hid (L.length = 1) := by rw [hLl]; rfl
    have HRec : Hid (RecAt W1 g 0 (L.getD 0 default)) := by
      obtain ⟨b', o', ha', _, hc'⟩ := HO1.out.recs.at 0 (by rw [HL.out]; omega)
      cases ha'
      exact hc'
    have HFz : Hid (∀ j, W1.frozen? ⟨g, j, none⟩ = false) := fun j => World.ownsRow.frozenAt (show W1.ownsRow (w.heap.size + 2) 48 5 (.slice (some ⟨g, 0, none⟩) 1 1) 1 (cellsG L) from by have h := HO1.out; unfold OwnG at h; rwa [HL.out] at h) j
    have hgz : w.heap.size + 2 ≤ g := by omega
    rw [← hLl] at HBe
    have HW1 := Lib.hid hW1
    have HG := Lib.hid hg
    rw [← hW1, ← hg]
    clear hW1 hg hLl hlt hVw hsz hRw3 p0 p1 pf s0 s1 sf t0 t1 tf HX5 HX4 HO3 HB3 HR0 HX0 HBV HVE hz3 HLit HRV HR m0
    have hcs : P = 0 ∨ P = 1 ∨ P = 2 ∨ P = 3 ∨ P = 4 ∨ P = 5 := by omega
    rcases hcs with rfl | rfl | rfl | rfl | rfl | rfl
    · have HE : Hid (bentB ⟨o, l⟩ how n at_ = ⟨n, L⟩) := by show _ = _; rw [HBe.out]; rw [if_pos rfl]
      have hX2 : LogBox (W1.setCell ⟨w.heap.size, 0, none⟩ (.int .i64 n)) w.heap.size n (.slice (some ⟨g, 0, none⟩) 1 1) := heap_set HX1.out 0 (.int .i64 n)
      have hR2 : LogBox (W1.setCell ⟨w.heap.size, 0, none⟩ (.int .i64 n)) (w.heap.size + 1) 0 (.slice none 0 0) := (heap_set_ne W1 (show w.heap.size + 1 ≠ w.heap.size by omega) _ _).trans HR1.out
      have hO2 : OwnG (w.heap.size + 2) (W1.setCell ⟨w.heap.size, 0, none⟩ (.int .i64 n)) (.slice (some ⟨g, 0, none⟩) 1 1) L := HO1.out.set HX1.out (by decide) 0 (.int .i64 n)
      have hB2 : Below w.heap.size w (W1.setCell ⟨w.heap.size, 0, none⟩ (.int .i64 n)) := HB1.out.setCell (p := ⟨w.heap.size, 0, none⟩) (by exact Nat.le_refl _) _
      have hE := bent_end rfl hX2 hR2 hO2 hB2
      have e0 := hX2.c0
      have e1 := hX2.c1
      have r0 := hR2.c0
      have r1 := hR2.c1
      have rf := hR2.frozen
      obtain ⟨WF, hWF⟩ : ∃ W, W = ((W1.setCell ⟨w.heap.size, 0, none⟩ (.int .i64 n)).setCell ⟨w.heap.size + 1, 0, none⟩ (.int .i64 n)).setCell ⟨w.heap.size + 1, 1, none⟩ (.slice (some ⟨g, 0, none⟩) 1 1) := ⟨_, rfl⟩
      rw [← hWF] at hE
      have HWF := Lib.hid hWF
      have HEn := Lib.hid hE
      have b0 := HX1.out.c0
      have b1 := HX1.out.c1
      have bf := HX1.out.frozen
      skip
      have yf := HFz.out
      clear hWF hE hX2 hR2 hO2 hB2
      go_wp2_with fail
      refine (HP6.out _).mono ?_
      rintro e w' ⟨rfl, rfl⟩
      go_wp2
      rw [← HWF.out]
      have hEn := HEn.out
      exact bodyPost_ret (v := bookV n (.slice (some ⟨g, 0, none⟩) 1 1)) (by simp [results, Tryz.results8, go_sem, hEn.1.c0, hEn.1.c1]) rfl ⟨_, by rw [HE.out], by rw [HE.out]; exact hEn.2.1, hEn.2.2⟩
    · have HE : Hid (bentB ⟨o, l⟩ how n at_ = ⟨o, (L.set 0 (setF (L.getD 0 default) 0 n))⟩) := by show _ = _; rw [HBe.out]; rw [if_neg (by decide), if_pos (by decide)]; rfl
      have hX2 : LogBox (W1.setCell ⟨g, 0, none⟩ (.int .i64 n)) w.heap.size o (.slice (some ⟨g, 0, none⟩) 1 1) := (heap_set_ne W1 (show w.heap.size ≠ g by omega) _ _).trans HX1.out
      have hR2 : LogBox (W1.setCell ⟨g, 0, none⟩ (.int .i64 n)) (w.heap.size + 1) 0 (.slice none 0 0) := (heap_set_ne W1 (show w.heap.size + 1 ≠ g by omega) _ _).trans HR1.out
      have hO2 : OwnG (w.heap.size + 2) (W1.setCell ⟨g, 0, none⟩ (.int .i64 n)) (.slice (some ⟨g, 0, none⟩) 1 1) (L.set 0 (setF (L.getD 0 default) 0 n)) := by have h := HO1.out.storeN (by rw [HL.out]) 0 0 (by rw [HL.out]; omega) (by decide) n; simpa using h
      have hB2 : Below w.heap.size w (W1.setCell ⟨g, 0, none⟩ (.int .i64 n)) := HB1.out.setCell (p := ⟨g, 0, none⟩) (by show w.heap.size ≤ g; omega) _
      have hE := bent_end rfl hX2 hR2 hO2 hB2
      have e0 := hX2.c0
      have e1 := hX2.c1
      have r0 := hR2.c0
      have r1 := hR2.c1
      have rf := hR2.frozen
      obtain ⟨WF, hWF⟩ : ∃ W, W = ((W1.setCell ⟨g, 0, none⟩ (.int .i64 n)).setCell ⟨w.heap.size + 1, 0, none⟩ (.int .i64 o)).setCell ⟨w.heap.size + 1, 1, none⟩ (.slice (some ⟨g, 0, none⟩) 1 1) := ⟨_, rfl⟩
      rw [← hWF] at hE
      have HWF := Lib.hid hWF
      have HEn := Lib.hid hE
      have b0 := HX1.out.c0
      have b1 := HX1.out.c1
      have bf := HX1.out.frozen
      obtain ⟨y0, y1, y2, y3, y4⟩ := HRec.out
      have yf := HFz.out
      clear hWF hE hX2 hR2 hO2 hB2
      go_wp2_with fail
      refine (HP6.out _).mono ?_
      rintro e w' ⟨rfl, rfl⟩
      go_wp2
      rw [← HWF.out]
      have hEn := HEn.out
      exact bodyPost_ret (v := bookV o (.slice (some ⟨g, 0, none⟩) 1 1)) (by simp [results, Tryz.results8, go_sem, hEn.1.c0, hEn.1.c1]) rfl ⟨_, by rw [HE.out], by rw [HE.out]; exact hEn.2.1, hEn.2.2⟩
    · have HE : Hid (bentB ⟨o, l⟩ how n at_ = ⟨o, (L.set 0 (setF (L.getD 0 default) 1 n))⟩) := by show _ = _; rw [HBe.out]; rw [if_neg (by decide), if_pos (by decide)]; rfl
      have hX2 : LogBox (W1.setCell ⟨g, 1, none⟩ (.int .i64 n)) w.heap.size o (.slice (some ⟨g, 0, none⟩) 1 1) := (heap_set_ne W1 (show w.heap.size ≠ g by omega) _ _).trans HX1.out
      have hR2 : LogBox (W1.setCell ⟨g, 1, none⟩ (.int .i64 n)) (w.heap.size + 1) 0 (.slice none 0 0) := (heap_set_ne W1 (show w.heap.size + 1 ≠ g by omega) _ _).trans HR1.out
      have hO2 : OwnG (w.heap.size + 2) (W1.setCell ⟨g, 1, none⟩ (.int .i64 n)) (.slice (some ⟨g, 0, none⟩) 1 1) (L.set 0 (setF (L.getD 0 default) 1 n)) := by have h := HO1.out.storeN (by rw [HL.out]) 0 1 (by rw [HL.out]; omega) (by decide) n; simpa using h
      have hB2 : Below w.heap.size w (W1.setCell ⟨g, 1, none⟩ (.int .i64 n)) := HB1.out.setCell (p := ⟨g, 1, none⟩) (by show w.heap.size ≤ g; omega) _
      have hE := bent_end rfl hX2 hR2 hO2 hB2
      have e0 := hX2.c0
      have e1 := hX2.c1
      have r0 := hR2.c0
      have r1 := hR2.c1
      have rf := hR2.frozen
      obtain ⟨WF, hWF⟩ : ∃ W, W = ((W1.setCell ⟨g, 1, none⟩ (.int .i64 n)).setCell ⟨w.heap.size + 1, 0, none⟩ (.int .i64 o)).setCell ⟨w.heap.size + 1, 1, none⟩ (.slice (some ⟨g, 0, none⟩) 1 1) := ⟨_, rfl⟩
      rw [← hWF] at hE
      have HWF := Lib.hid hWF
      have HEn := Lib.hid hE
      have b0 := HX1.out.c0
      have b1 := HX1.out.c1
      have bf := HX1.out.frozen
      obtain ⟨y0, y1, y2, y3, y4⟩ := HRec.out
      have yf := HFz.out
      clear hWF hE hX2 hR2 hO2 hB2
      go_wp2_with fail
      refine (HP6.out _).mono ?_
      rintro e w' ⟨rfl, rfl⟩
      go_wp2
      rw [← HWF.out]
      have hEn := HEn.out
      exact bodyPost_ret (v := bookV o (.slice (some ⟨g, 0, none⟩) 1 1)) (by simp [results, Tryz.results8, go_sem, hEn.1.c0, hEn.1.c1]) rfl ⟨_, by rw [HE.out], by rw [HE.out]; exact hEn.2.1, hEn.2.2⟩
    · have HE : Hid (bentB ⟨o, l⟩ how n at_ = ⟨o, (L.set 0 (setF (L.getD 0 default) 2 n))⟩) := by show _ = _; rw [HBe.out]; rw [if_neg (by decide), if_pos (by decide)]; rfl
      have hX2 : LogBox (W1.setCell ⟨g, 2, none⟩ (.int .i64 n)) w.heap.size o (.slice (some ⟨g, 0, none⟩) 1 1) := (heap_set_ne W1 (show w.heap.size ≠ g by omega) _ _).trans HX1.out
      have hR2 : LogBox (W1.setCell ⟨g, 2, none⟩ (.int .i64 n)) (w.heap.size + 1) 0 (.slice none 0 0) := (heap_set_ne W1 (show w.heap.size + 1 ≠ g by omega) _ _).trans HR1.out
      have hO2 : OwnG (w.heap.size + 2) (W1.setCell ⟨g, 2, none⟩ (.int .i64 n)) (.slice (some ⟨g, 0, none⟩) 1 1) (L.set 0 (setF (L.getD 0 default) 2 n)) := by have h := HO1.out.storeN (by rw [HL.out]) 0 2 (by rw [HL.out]; omega) (by decide) n; simpa using h
      have hB2 : Below w.heap.size w (W1.setCell ⟨g, 2, none⟩ (.int .i64 n)) := HB1.out.setCell (p := ⟨g, 2, none⟩) (by show w.heap.size ≤ g; omega) _
      have hE := bent_end rfl hX2 hR2 hO2 hB2
      have e0 := hX2.c0
      have e1 := hX2.c1
      have r0 := hR2.c0
      have r1 := hR2.c1
      have rf := hR2.frozen
      obtain ⟨WF, hWF⟩ : ∃ W, W = ((W1.setCell ⟨g, 2, none⟩ (.int .i64 n)).setCell ⟨w.heap.size + 1, 0, none⟩ (.int .i64 o)).setCell ⟨w.heap.size + 1, 1, none⟩ (.slice (some ⟨g, 0, none⟩) 1 1) := ⟨_, rfl⟩
      rw [← hWF] at hE
      have HWF := Lib.hid hWF
      have HEn := Lib.hid hE
      have b0 := HX1.out.c0
      have b1 := HX1.out.c1
      have bf := HX1.out.frozen
      obtain ⟨y0, y1, y2, y3, y4⟩ := HRec.out
      have yf := HFz.out
      clear hWF hE hX2 hR2 hO2 hB2
      go_wp2_with fail
      refine (HP6.out _).mono ?_
      rintro e w' ⟨rfl, rfl⟩
      go_wp2
      rw [← HWF.out]
      have hEn := HEn.out
      exact bodyPost_ret (v := bookV o (.slice (some ⟨g, 0, none⟩) 1 1)) (by simp [results, Tryz.results8, go_sem, hEn.1.c0, hEn.1.c1]) rfl ⟨_, by rw [HE.out], by rw [HE.out]; exact hEn.2.1, hEn.2.2⟩
    · have HE : Hid (bentB ⟨o, l⟩ how n at_ = ⟨o, (L.set 0 (setF (L.getD 0 default) 3 n))⟩) := by show _ = _; rw [HBe.out]; rw [if_neg (by decide), if_pos (by decide)]; rfl
      have hX2 : LogBox (W1.setCell ⟨g, 3, none⟩ (.int .i64 n)) w.heap.size o (.slice (some ⟨g, 0, none⟩) 1 1) := (heap_set_ne W1 (show w.heap.size ≠ g by omega) _ _).trans HX1.out
      have hR2 : LogBox (W1.setCell ⟨g, 3, none⟩ (.int .i64 n)) (w.heap.size + 1) 0 (.slice none 0 0) := (heap_set_ne W1 (show w.heap.size + 1 ≠ g by omega) _ _).trans HR1.out
      have hO2 : OwnG (w.heap.size + 2) (W1.setCell ⟨g, 3, none⟩ (.int .i64 n)) (.slice (some ⟨g, 0, none⟩) 1 1) (L.set 0 (setF (L.getD 0 default) 3 n)) := by have h := HO1.out.storeN (by rw [HL.out]) 0 3 (by rw [HL.out]; omega) (by decide) n; simpa using h
      have hB2 : Below w.heap.size w (W1.setCell ⟨g, 3, none⟩ (.int .i64 n)) := HB1.out.setCell (p := ⟨g, 3, none⟩) (by show w.heap.size ≤ g; omega) _
      have hE := bent_end rfl hX2 hR2 hO2 hB2
      have e0 := hX2.c0
      have e1 := hX2.c1
      have r0 := hR2.c0
      have r1 := hR2.c1
      have rf := hR2.frozen
      obtain ⟨WF, hWF⟩ : ∃ W, W = ((W1.setCell ⟨g, 3, none⟩ (.int .i64 n)).setCell ⟨w.heap.size + 1, 0, none⟩ (.int .i64 o)).setCell ⟨w.heap.size + 1, 1, none⟩ (.slice (some ⟨g, 0, none⟩) 1 1) := ⟨_, rfl⟩
      rw [← hWF] at hE
      have HWF := Lib.hid hWF
      have HEn := Lib.hid hE
      have b0 := HX1.out.c0
      have b1 := HX1.out.c1
      have bf := HX1.out.frozen
      obtain ⟨y0, y1, y2, y3, y4⟩ := HRec.out
      have yf := HFz.out
      clear hWF hE hX2 hR2 hO2 hB2
      go_wp2_with fail
      refine (HP6.out _).mono ?_
      rintro e w' ⟨rfl, rfl⟩
      go_wp2
      rw [← HWF.out]
      have hEn := HEn.out
      exact bodyPost_ret (v := bookV o (.slice (some ⟨g, 0, none⟩) 1 1)) (by simp [results, Tryz.results8, go_sem, hEn.1.c0, hEn.1.c1]) rfl ⟨_, by rw [HE.out], by rw [HE.out]; exact hEn.2.1, hEn.2.2⟩
    · have HE : Hid (bentB ⟨o, l⟩ how n at_ = ⟨o, (L.set 0 { L.getD 0 default with text := List.replicate (150 + q) 0 })⟩) := by show _ = _; rw [HBe.out]; rw [if_neg (by decide), if_neg (by decide)]
      have HQ : Hid (∀ W, W1.grownBy W none → W.cell? ⟨w.heap.size, 1, none⟩ = some (.slice (some ⟨g, 0, none⟩) 1 1)) := fun W hW => (HX1.out.below (grown_below hW) HX1.out.lt).c1
      have b0 := HX1.out.c0
      have b1 := HX1.out.c1
      have w150 : IntKind.i64.wrap (150 + (q : Int)) = ((150 + q : Nat) : Int) := by rw [IntWalk.i64_in _ (by omega)]; omega
      go_wp2_with fail
      refine (HP6.out _).mono ?_
      rintro e w' ⟨rfl, rfl⟩
      go_wp2
      clear b0 b1
      refine wp_region_calm ⟨[4, 6], BntF (150 + q) q, fun _ => [], 99, none, 10⟩ (by kernel_rfl) (by kernel_rfl) (by kernel_rfl) (fun g h => by cases h) (fun k hk v W W' c h hg hc => bntF_kept h hg fun g hh => ?_) ?_
      · obtain ⟨_, _, i, j, u, hd, _⟩ := hc g hh
        simp at hd
      iterate 4 (refine calm_quiet (v := ?_) (by rfl) (by rfl) (fun W hW hD => ?_) ?_; rotate_left; (· (have z0 := HQ.out W hW; clear hD hW; go_simp; try with_reducible rfl)); simp only [Act.put, List.setIfInBounds_toArray, List.set_cons_zero, List.set_cons_succ, Nat.reduceAdd, Nat.zero_add])
      refine calm_makes (by rfl) (by rfl) (fun W hW hD Kc hK => ?_) (fun v34 => ?_)
      · refine wp_of_call (f := 38) ?_ ((HP100.out W).mono ?_)
        · clear hD hW hK
          go_simp
        · rintro e w5 ⟨rfl, rfl⟩
          exact ⟨_, rfl, hK _ _ (made_plain rfl (Below.refl _ _) rfl)⟩
      simp only [Act.put, List.setIfInBounds_toArray, List.set_cons_zero, List.set_cons_succ, Nat.reduceAdd, Nat.zero_add]
      refine calm_quiet (v := .int .i64 ((150 + q : Nat) : Int)) (by rfl) (by rfl) (fun W hW hD => ?_) ?_
      · obtain rfl : v34 = .int .i64 (q : Int) := hD [] 4 (by kernel_rfl) (by kernel_rfl) (by kernel_rfl)
        clear hD hW
        rw [← w150]
        go_simp
        try rfl
      simp only [Act.put, List.setIfInBounds_toArray, List.set_cons_zero, List.set_cons_succ, Nat.reduceAdd, Nat.zero_add]
      refine calm_makes (by rfl) (by rfl) (fun W hW hD Kc hK => ?_) (fun v36 => ?_)
      · obtain ⟨Wm, hrun, hb1, hlt, hcv⟩ := mkN (150 + q) (by omega) W
        refine wp_of_run (v := .slice (some ⟨W.heap.size, 0, none⟩) (150 + q) (150 + q)) (w' := Wm) ?_ (hK _ _ (made_below ⟨W.heap.size, rfl, hcv⟩ hb1 (fun g hg => ?_)))
        · clear hD hW hK hcv w150
          generalize ((150 + q : Nat) : Int) = Z at *
          go_simp
        · have hg' : some W.heap.size = some g := hg
          cases hg'
          exact ⟨Nat.le_refl _, hlt⟩
      simp only [Act.put, List.setIfInBounds_toArray, List.set_cons_zero, List.set_cons_succ, Nat.reduceAdd, Nat.zero_add]
      refine calm_quiet (v := .string (bs (List.replicate (150 + q) 0))) (by rfl) (by rfl) (fun W hW hD => ?_) ?_
      · obtain ⟨g2, rfl, hcv⟩ : ∃ g, v36 = .slice (some ⟨g, 0, none⟩) (150 + q) (150 + q) ∧ ∀ W2, Below W.heap.size W W2 → (convert 68 9 (.slice (some ⟨g, 0, none⟩) (150 + q) (150 + q))).run Tryz.prog W2 = .ok (.string (bs (List.replicate (150 + q) 0))) W2 := hD [] 6 (by kernel_rfl) (by kernel_rfl) (by kernel_rfl)
        have hcv2 := hcv W (Below.refl _ _)
        clear hD hW hcv w150
        go_simp
      simp only [Act.put, List.setIfInBounds_toArray, List.set_cons_zero, List.set_cons_succ, Nat.reduceAdd, Nat.zero_add]
      iterate 2 (refine calm_quiet (v := ?_) (by rfl) (by rfl) (fun W hW hD => ?_) ?_; rotate_left; (· (clear hD hW; go_simp; try with_reducible rfl)); simp only [Act.put, List.setIfInBounds_toArray, List.set_cons_zero, List.set_cons_succ, Nat.reduceAdd, Nat.zero_add])
      refine calm_tail (by rfl) fun W hW hF => ?_
      have hbW := grown_below hW
      have hXw := HX1.out.below hbW HX1.out.lt
      have hRw := HR1.out.below hbW HR1.out.lt
      have hOw := HO1.out.below hbW (Nat.le_refl _)
      have hBw := HB1.out.trans (hbW.mono HB1.out.size)
      have yy : W.cell? ⟨g, 4, none⟩ = some (.string (bs (L.getD 0 default).text)) := by
        obtain ⟨b', o', ha', _, hc'⟩ := hOw.recs.at 0 (by rw [HL.out]; omega)
        cases ha'
        have h := hc'.2.2.2.2
        exact h
      have yf : ∀ j, W.frozen? ⟨g, j, none⟩ = false := fun j => World.ownsRow.frozenAt (show W.ownsRow (w.heap.size + 2) 48 5 (.slice (some ⟨g, 0, none⟩) 1 1) 1 (cellsG L) from by have h := hOw; unfold OwnG at h; rwa [HL.out] at h) j
      have hX2 : LogBox (W.setCell ⟨g, 4, none⟩ (.string (bs (List.replicate (150 + q) 0)))) w.heap.size o (.slice (some ⟨g, 0, none⟩) 1 1) := (heap_set_ne W (show w.heap.size ≠ g by omega) _ _).trans hXw
      have hR2 : LogBox (W.setCell ⟨g, 4, none⟩ (.string (bs (List.replicate (150 + q) 0)))) (w.heap.size + 1) 0 (.slice none 0 0) := (heap_set_ne W (show w.heap.size + 1 ≠ g by omega) _ _).trans hRw
      have hO2 : OwnG (w.heap.size + 2) (W.setCell ⟨g, 4, none⟩ (.string (bs (List.replicate (150 + q) 0)))) (.slice (some ⟨g, 0, none⟩) 1 1) (L.set 0 { L.getD 0 default with text := List.replicate (150 + q) 0 }) := by have h := hOw.storeT (by rw [HL.out]) 0 (by rw [HL.out]; omega) (List.replicate (150 + q) 0); simpa using h
      have hB2 : Below w.heap.size w (W.setCell ⟨g, 4, none⟩ (.string (bs (List.replicate (150 + q) 0)))) := hBw.setCell (p := ⟨g, 4, none⟩) (by show w.heap.size ≤ g; omega) _
      have hE := bent_end rfl hX2 hR2 hO2 hB2
      have e0 := hX2.c0
      have e1 := hX2.c1
      have r0 := hR2.c0
      have r1 := hR2.c1
      have rf := hR2.frozen
      obtain ⟨WF, hWF⟩ : ∃ X, X = ((W.setCell ⟨g, 4, none⟩ (.string (bs (List.replicate (150 + q) 0)))).setCell ⟨w.heap.size + 1, 0, none⟩ (.int .i64 o)).setCell ⟨w.heap.size + 1, 1, none⟩ (.slice (some ⟨g, 0, none⟩) 1 1) := ⟨_, rfl⟩
      rw [← hWF] at hE
      have HWF := Lib.hid hWF
      have HEn := Lib.hid hE
      clear hWF hE hX2 hR2 hO2 hB2 hXw hRw hOw hBw hbW hF hW HQ w150
      go_wp2
      rw [← HWF.out]
      have hEn := HEn.out
      exact bodyPost_ret (v := bookV o (.slice (some ⟨g, 0, none⟩) 1 1)) (by simp [results, Tryz.results8, go_sem, hEn.1.c0, hEn.1.c1]) rfl ⟨_, by rw [HE.out], by rw [HE.out]; exact hEn.2.1, hEn.2.2⟩
  · have HBr : Hid (bentRecs ⟨o, l⟩ n = l) := by show _ = _; unfold bentRecs; rw [if_neg (by show ¬ l.length = 0; omega)]
    have hpz := HPz.out h0
    have HPm := Lib.hid (HPa.out h0)
    obtain ⟨k, hk⟩ := Int.eq_ofNat_of_zero_le hpz.1
    have HBa : Hid (bentAt ⟨o, l⟩ at_ = k) := by show _ = _; unfold bentAt; rw [if_neg (by show ¬ l.length = 0; omega)]; show (pickZ at_ (l.length : Nat)).toNat = k; rw [hk]; rfl
    rw [hk] at HPm hpz
    rw [HBr.out, HBa.out] at HBe
    clear hk HPa HPz HBr HBa
    obtain ⟨m, hm⟩ : ∃ m, m = l.length := ⟨_, rfl⟩
    have HM := Lib.hid hm
    have m0 : (0 : Int) < (m : Int) := by omega
    have k0 : 0 ≤ (k : Int) := by omega
    have km : (k : Int) < (m : Int) := by omega
    rw [← hm] at HPm hrc hl HX0 HVE HRV q0 q1 ⊢
    clear hm hpz h0
    go_enter Tryz.func8, Tryz.ntmps8
    go_wp2_with (at_builtin; rw [← HVE.out]; refine append_GG rfl _ _ rfl V.heap.size V.heap.size _ _ [] l rfl rfl HLit.out (HRV.out.below ((Below.refl _ _).alloc (Nat.le_refl _) _) (Nat.le_refl _)) (by simp only [List.length_nil]; rw [← HM.out]; omega) (by simp) V ((Below.refl _ _).alloc (Nat.le_refl _) _) ?_; intro vn w3 hO3 hg3 hb3; rw [List.nil_append] at hO3; obtain ⟨na, nc, hvn, hn1, hn2⟩ := hO3.shape; rw [← HM.out] at hvn hn1; subst hvn; have hX3 := HX0.out.below hb3 HX0.out.lt; have p0 := hX3.c0; have p1 := hX3.c1; have pf := hX3.frozen; have hX4 : LogBox (w3.setCell ⟨w.heap.size, 1, none⟩ (.slice na m nc)) w.heap.size o (.slice na m nc) := heap_set hX3 1 _; have s0 := hX4.c0; have s1 := hX4.c1; have sf := hX4.frozen; have HO3 := Lib.hid hO3; have HB3 := Lib.hid hb3; have HX4 := Lib.hid hX4; have hz3 := hb3.size; clear hO3 hg3 hb3 hX3 hX4)
    obtain ⟨g, hna, hgl⟩ : ∃ g, na = some ⟨g, 0, none⟩ ∧ V.heap.size ≤ g := by
      rcases HO3.out.2 with ⟨_, h1⟩ | ⟨g, cap, cur, h1, h2, _⟩
      · rw [← HM.out] at h1; omega
      · injection h1 with h1 _ _
        exact ⟨g, h1, h2⟩
    subst hna
    obtain ⟨L, hLl⟩ : ∃ L : List LRec, L = l := ⟨_, rfl⟩
    obtain ⟨W1, hW1⟩ : ∃ W, W = w3.setCell ⟨w.heap.size, 1, none⟩ (.slice (some ⟨g, 0, none⟩) m nc) := ⟨_, rfl⟩
    have hVw := HVs.out
    have HX1 : Hid (LogBox W1 w.heap.size o (.slice (some ⟨g, 0, none⟩) m nc)) := by rw [hW1]; exact HX4.out
    have hRw3 : LogBox w3 (w.heap.size + 1) 0 (.slice none 0 0) := HR0.out.below HB3.out HR0.out.lt
    have HR1 : Hid (LogBox W1 (w.heap.size + 1) 0 (.slice none 0 0)) := by rw [hW1]; exact (heap_set_ne w3 (show w.heap.size + 1 ≠ w.heap.size by omega) 1 _).trans hRw3
    have HO1 : Hid (OwnG (w.heap.size + 2) W1 (.slice (some ⟨g, 0, none⟩) m nc) L) := by
      rw [hW1, hLl]
      have hX3 := HX0.out.below HB3.out HX0.out.lt
      exact OwnG.mono (HO3.out.set hX3 (by decide) 1 _) (by omega)
    have HB1 : Hid (Below w.heap.size w W1) := by
      rw [hW1]
      have h0 : Below w.heap.size w w3 := HBV.out.trans (HB3.out.mono (by omega))
      exact h0.setCell (p := ⟨w.heap.size, 1, none⟩) (Nat.le_refl _) _
    have HL : Hid (L.length = m) := by rw [hLl]; exact HM.out.symm
    have kml : k < m := by omega
    have HRec : Hid (RecAt W1 g (k * 5) (L.getD k default)) := by
      obtain ⟨b', o', ha', _, hc'⟩ := HO1.out.recs.at k (by rw [HL.out]; omega)
      cases ha'
      rwa [Nat.zero_add] at hc'
    have HFz : Hid (∀ j, W1.frozen? ⟨g, j, none⟩ = false) := fun j => World.ownsRow.frozenAt (show W1.ownsRow (w.heap.size + 2) 48 5 (.slice (some ⟨g, 0, none⟩) m nc) m (cellsG L) from by have h := HO1.out; unfold OwnG at h; rwa [HL.out] at h) j
    have hgz : w.heap.size + 2 ≤ g := by omega
    have HBe2 : Hid (bentB ⟨o, l⟩ how n at_ = if P = 0 then ⟨n, L⟩ else if P ≤ 4 then ⟨o, L.set k (setF (L.getD k default) (P.toNat - 1) n)⟩ else ⟨o, L.set k { L.getD k default with text := List.replicate (150 + q) 0 }⟩) := by rw [hLl]; exact HBe.out
    have HBe := HBe2
    have HW1 := Lib.hid hW1
    rw [← hW1]
    clear hW1 hLl hVw hRw3 p0 p1 pf s0 s1 sf HX4 HO3 HB3 HR0 HX0 HBV HVE hz3 HLit HRV HR HBe2
    refine (HPm.out _).mono ?_
    rintro e w' ⟨rfl, rfl⟩
    have hcs : P = 0 ∨ P = 1 ∨ P = 2 ∨ P = 3 ∨ P = 4 ∨ P = 5 := by omega
    rcases hcs with rfl | rfl | rfl | rfl | rfl | rfl
    · have HE : Hid (bentB ⟨o, l⟩ how n at_ = ⟨n, L⟩) := by show _ = _; rw [HBe.out]; rw [if_pos rfl]
      have hX2 : LogBox (W1.setCell ⟨w.heap.size, 0, none⟩ (.int .i64 n)) w.heap.size n (.slice (some ⟨g, 0, none⟩) m nc) := heap_set HX1.out 0 (.int .i64 n)
      have hR2 : LogBox (W1.setCell ⟨w.heap.size, 0, none⟩ (.int .i64 n)) (w.heap.size + 1) 0 (.slice none 0 0) := (heap_set_ne W1 (show w.heap.size + 1 ≠ w.heap.size by omega) _ _).trans HR1.out
      have hO2 : OwnG (w.heap.size + 2) (W1.setCell ⟨w.heap.size, 0, none⟩ (.int .i64 n)) (.slice (some ⟨g, 0, none⟩) m nc) L := HO1.out.set HX1.out (by decide) 0 (.int .i64 n)
      have hB2 : Below w.heap.size w (W1.setCell ⟨w.heap.size, 0, none⟩ (.int .i64 n)) := HB1.out.setCell (p := ⟨w.heap.size, 0, none⟩) (by exact Nat.le_refl _) _
      have hE := bent_end rfl hX2 hR2 hO2 hB2
      have e0 := hX2.c0
      have e1 := hX2.c1
      have r0 := hR2.c0
      have r1 := hR2.c1
      have rf := hR2.frozen
      obtain ⟨WF, hWF⟩ : ∃ W, W = ((W1.setCell ⟨w.heap.size, 0, none⟩ (.int .i64 n)).setCell ⟨w.heap.size + 1, 0, none⟩ (.int .i64 n)).setCell ⟨w.heap.size + 1, 1, none⟩ (.slice (some ⟨g, 0, none⟩) m nc) := ⟨_, rfl⟩
      rw [← hWF] at hE
      have HWF := Lib.hid hWF
      have HEn := Lib.hid hE
      have b0 := HX1.out.c0
      have b1 := HX1.out.c1
      have bf := HX1.out.frozen
      skip
      have yf := HFz.out
      clear hWF hE hX2 hR2 hO2 hB2
      go_wp2_with fail
      refine (HP6.out _).mono ?_
      rintro e w' ⟨rfl, rfl⟩
      go_wp2
      rw [← HWF.out]
      have hEn := HEn.out
      exact bodyPost_ret (v := bookV n (.slice (some ⟨g, 0, none⟩) m nc)) (by simp [results, Tryz.results8, go_sem, hEn.1.c0, hEn.1.c1]) rfl ⟨_, by rw [HE.out], by rw [HE.out]; exact hEn.2.1, hEn.2.2⟩
    · have HE : Hid (bentB ⟨o, l⟩ how n at_ = ⟨o, (L.set k (setF (L.getD k default) 0 n))⟩) := by show _ = _; rw [HBe.out]; rw [if_neg (by decide), if_pos (by decide)]; rfl
      have hX2 : LogBox (W1.setCell ⟨g, k * 5, none⟩ (.int .i64 n)) w.heap.size o (.slice (some ⟨g, 0, none⟩) m nc) := (heap_set_ne W1 (show w.heap.size ≠ g by omega) _ _).trans HX1.out
      have hR2 : LogBox (W1.setCell ⟨g, k * 5, none⟩ (.int .i64 n)) (w.heap.size + 1) 0 (.slice none 0 0) := (heap_set_ne W1 (show w.heap.size + 1 ≠ g by omega) _ _).trans HR1.out
      have hO2 : OwnG (w.heap.size + 2) (W1.setCell ⟨g, k * 5, none⟩ (.int .i64 n)) (.slice (some ⟨g, 0, none⟩) m nc) (L.set k (setF (L.getD k default) 0 n)) := by have h := HO1.out.storeN (by rw [HL.out]) k 0 (by rw [HL.out]; omega) (by decide) n; simpa using h
      have hB2 : Below w.heap.size w (W1.setCell ⟨g, k * 5, none⟩ (.int .i64 n)) := HB1.out.setCell (p := ⟨g, k * 5, none⟩) (by show w.heap.size ≤ g; omega) _
      have hE := bent_end rfl hX2 hR2 hO2 hB2
      have e0 := hX2.c0
      have e1 := hX2.c1
      have r0 := hR2.c0
      have r1 := hR2.c1
      have rf := hR2.frozen
      obtain ⟨WF, hWF⟩ : ∃ W, W = ((W1.setCell ⟨g, k * 5, none⟩ (.int .i64 n)).setCell ⟨w.heap.size + 1, 0, none⟩ (.int .i64 o)).setCell ⟨w.heap.size + 1, 1, none⟩ (.slice (some ⟨g, 0, none⟩) m nc) := ⟨_, rfl⟩
      rw [← hWF] at hE
      have HWF := Lib.hid hWF
      have HEn := Lib.hid hE
      have b0 := HX1.out.c0
      have b1 := HX1.out.c1
      have bf := HX1.out.frozen
      obtain ⟨y0, y1, y2, y3, y4⟩ := HRec.out
      have yf := HFz.out
      clear hWF hE hX2 hR2 hO2 hB2
      go_wp2_with fail
      refine (HP6.out _).mono ?_
      rintro e w' ⟨rfl, rfl⟩
      go_wp2
      rw [← HWF.out]
      have hEn := HEn.out
      exact bodyPost_ret (v := bookV o (.slice (some ⟨g, 0, none⟩) m nc)) (by simp [results, Tryz.results8, go_sem, hEn.1.c0, hEn.1.c1]) rfl ⟨_, by rw [HE.out], by rw [HE.out]; exact hEn.2.1, hEn.2.2⟩
    · have HE : Hid (bentB ⟨o, l⟩ how n at_ = ⟨o, (L.set k (setF (L.getD k default) 1 n))⟩) := by show _ = _; rw [HBe.out]; rw [if_neg (by decide), if_pos (by decide)]; rfl
      have hX2 : LogBox (W1.setCell ⟨g, k * 5 + 1, none⟩ (.int .i64 n)) w.heap.size o (.slice (some ⟨g, 0, none⟩) m nc) := (heap_set_ne W1 (show w.heap.size ≠ g by omega) _ _).trans HX1.out
      have hR2 : LogBox (W1.setCell ⟨g, k * 5 + 1, none⟩ (.int .i64 n)) (w.heap.size + 1) 0 (.slice none 0 0) := (heap_set_ne W1 (show w.heap.size + 1 ≠ g by omega) _ _).trans HR1.out
      have hO2 : OwnG (w.heap.size + 2) (W1.setCell ⟨g, k * 5 + 1, none⟩ (.int .i64 n)) (.slice (some ⟨g, 0, none⟩) m nc) (L.set k (setF (L.getD k default) 1 n)) := by have h := HO1.out.storeN (by rw [HL.out]) k 1 (by rw [HL.out]; omega) (by decide) n; simpa using h
      have hB2 : Below w.heap.size w (W1.setCell ⟨g, k * 5 + 1, none⟩ (.int .i64 n)) := HB1.out.setCell (p := ⟨g, k * 5 + 1, none⟩) (by show w.heap.size ≤ g; omega) _
      have hE := bent_end rfl hX2 hR2 hO2 hB2
      have e0 := hX2.c0
      have e1 := hX2.c1
      have r0 := hR2.c0
      have r1 := hR2.c1
      have rf := hR2.frozen
      obtain ⟨WF, hWF⟩ : ∃ W, W = ((W1.setCell ⟨g, k * 5 + 1, none⟩ (.int .i64 n)).setCell ⟨w.heap.size + 1, 0, none⟩ (.int .i64 o)).setCell ⟨w.heap.size + 1, 1, none⟩ (.slice (some ⟨g, 0, none⟩) m nc) := ⟨_, rfl⟩
      rw [← hWF] at hE
      have HWF := Lib.hid hWF
      have HEn := Lib.hid hE
      have b0 := HX1.out.c0
      have b1 := HX1.out.c1
      have bf := HX1.out.frozen
      obtain ⟨y0, y1, y2, y3, y4⟩ := HRec.out
      have yf := HFz.out
      clear hWF hE hX2 hR2 hO2 hB2
      go_wp2_with fail
      refine (HP6.out _).mono ?_
      rintro e w' ⟨rfl, rfl⟩
      go_wp2
      rw [← HWF.out]
      have hEn := HEn.out
      exact bodyPost_ret (v := bookV o (.slice (some ⟨g, 0, none⟩) m nc)) (by simp [results, Tryz.results8, go_sem, hEn.1.c0, hEn.1.c1]) rfl ⟨_, by rw [HE.out], by rw [HE.out]; exact hEn.2.1, hEn.2.2⟩
    · have HE : Hid (bentB ⟨o, l⟩ how n at_ = ⟨o, (L.set k (setF (L.getD k default) 2 n))⟩) := by show _ = _; rw [HBe.out]; rw [if_neg (by decide), if_pos (by decide)]; rfl
      have hX2 : LogBox (W1.setCell ⟨g, k * 5 + 2, none⟩ (.int .i64 n)) w.heap.size o (.slice (some ⟨g, 0, none⟩) m nc) := (heap_set_ne W1 (show w.heap.size ≠ g by omega) _ _).trans HX1.out
      have hR2 : LogBox (W1.setCell ⟨g, k * 5 + 2, none⟩ (.int .i64 n)) (w.heap.size + 1) 0 (.slice none 0 0) := (heap_set_ne W1 (show w.heap.size + 1 ≠ g by omega) _ _).trans HR1.out
      have hO2 : OwnG (w.heap.size + 2) (W1.setCell ⟨g, k * 5 + 2, none⟩ (.int .i64 n)) (.slice (some ⟨g, 0, none⟩) m nc) (L.set k (setF (L.getD k default) 2 n)) := by have h := HO1.out.storeN (by rw [HL.out]) k 2 (by rw [HL.out]; omega) (by decide) n; simpa using h
      have hB2 : Below w.heap.size w (W1.setCell ⟨g, k * 5 + 2, none⟩ (.int .i64 n)) := HB1.out.setCell (p := ⟨g, k * 5 + 2, none⟩) (by show w.heap.size ≤ g; omega) _
      have hE := bent_end rfl hX2 hR2 hO2 hB2
      have e0 := hX2.c0
      have e1 := hX2.c1
      have r0 := hR2.c0
      have r1 := hR2.c1
      have rf := hR2.frozen
      obtain ⟨WF, hWF⟩ : ∃ W, W = ((W1.setCell ⟨g, k * 5 + 2, none⟩ (.int .i64 n)).setCell ⟨w.heap.size + 1, 0, none⟩ (.int .i64 o)).setCell ⟨w.heap.size + 1, 1, none⟩ (.slice (some ⟨g, 0, none⟩) m nc) := ⟨_, rfl⟩
      rw [← hWF] at hE
      have HWF := Lib.hid hWF
      have HEn := Lib.hid hE
      have b0 := HX1.out.c0
      have b1 := HX1.out.c1
      have bf := HX1.out.frozen
      obtain ⟨y0, y1, y2, y3, y4⟩ := HRec.out
      have yf := HFz.out
      clear hWF hE hX2 hR2 hO2 hB2
      go_wp2_with fail
      refine (HP6.out _).mono ?_
      rintro e w' ⟨rfl, rfl⟩
      go_wp2
      rw [← HWF.out]
      have hEn := HEn.out
      exact bodyPost_ret (v := bookV o (.slice (some ⟨g, 0, none⟩) m nc)) (by simp [results, Tryz.results8, go_sem, hEn.1.c0, hEn.1.c1]) rfl ⟨_, by rw [HE.out], by rw [HE.out]; exact hEn.2.1, hEn.2.2⟩
    · have HE : Hid (bentB ⟨o, l⟩ how n at_ = ⟨o, (L.set k (setF (L.getD k default) 3 n))⟩) := by show _ = _; rw [HBe.out]; rw [if_neg (by decide), if_pos (by decide)]; rfl
      have hX2 : LogBox (W1.setCell ⟨g, k * 5 + 3, none⟩ (.int .i64 n)) w.heap.size o (.slice (some ⟨g, 0, none⟩) m nc) := (heap_set_ne W1 (show w.heap.size ≠ g by omega) _ _).trans HX1.out
      have hR2 : LogBox (W1.setCell ⟨g, k * 5 + 3, none⟩ (.int .i64 n)) (w.heap.size + 1) 0 (.slice none 0 0) := (heap_set_ne W1 (show w.heap.size + 1 ≠ g by omega) _ _).trans HR1.out
      have hO2 : OwnG (w.heap.size + 2) (W1.setCell ⟨g, k * 5 + 3, none⟩ (.int .i64 n)) (.slice (some ⟨g, 0, none⟩) m nc) (L.set k (setF (L.getD k default) 3 n)) := by have h := HO1.out.storeN (by rw [HL.out]) k 3 (by rw [HL.out]; omega) (by decide) n; simpa using h
      have hB2 : Below w.heap.size w (W1.setCell ⟨g, k * 5 + 3, none⟩ (.int .i64 n)) := HB1.out.setCell (p := ⟨g, k * 5 + 3, none⟩) (by show w.heap.size ≤ g; omega) _
      have hE := bent_end rfl hX2 hR2 hO2 hB2
      have e0 := hX2.c0
      have e1 := hX2.c1
      have r0 := hR2.c0
      have r1 := hR2.c1
      have rf := hR2.frozen
      obtain ⟨WF, hWF⟩ : ∃ W, W = ((W1.setCell ⟨g, k * 5 + 3, none⟩ (.int .i64 n)).setCell ⟨w.heap.size + 1, 0, none⟩ (.int .i64 o)).setCell ⟨w.heap.size + 1, 1, none⟩ (.slice (some ⟨g, 0, none⟩) m nc) := ⟨_, rfl⟩
      rw [← hWF] at hE
      have HWF := Lib.hid hWF
      have HEn := Lib.hid hE
      have b0 := HX1.out.c0
      have b1 := HX1.out.c1
      have bf := HX1.out.frozen
      obtain ⟨y0, y1, y2, y3, y4⟩ := HRec.out
      have yf := HFz.out
      clear hWF hE hX2 hR2 hO2 hB2
      go_wp2_with fail
      refine (HP6.out _).mono ?_
      rintro e w' ⟨rfl, rfl⟩
      go_wp2
      rw [← HWF.out]
      have hEn := HEn.out
      exact bodyPost_ret (v := bookV o (.slice (some ⟨g, 0, none⟩) m nc)) (by simp [results, Tryz.results8, go_sem, hEn.1.c0, hEn.1.c1]) rfl ⟨_, by rw [HE.out], by rw [HE.out]; exact hEn.2.1, hEn.2.2⟩
    · have HE : Hid (bentB ⟨o, l⟩ how n at_ = ⟨o, (L.set k { L.getD k default with text := List.replicate (150 + q) 0 })⟩) := by show _ = _; rw [HBe.out]; rw [if_neg (by decide), if_neg (by decide)]
      have HQ : Hid (∀ W, W1.grownBy W none → W.cell? ⟨w.heap.size, 1, none⟩ = some (.slice (some ⟨g, 0, none⟩) m nc)) := fun W hW => (HX1.out.below (grown_below hW) HX1.out.lt).c1
      have b0 := HX1.out.c0
      have b1 := HX1.out.c1
      have w150 : IntKind.i64.wrap (150 + (q : Int)) = ((150 + q : Nat) : Int) := by rw [IntWalk.i64_in _ (by omega)]; omega
      go_wp2_with fail
      refine (HP6.out _).mono ?_
      rintro e w' ⟨rfl, rfl⟩
      go_wp2
      clear b0 b1
      refine wp_region_calm ⟨[4, 6], BntF (150 + q) q, fun _ => [], 99, none, 10⟩ (by kernel_rfl) (by kernel_rfl) (by kernel_rfl) (fun g h => by cases h) (fun k hk v W W' c h hg hc => bntF_kept h hg fun g hh => ?_) ?_
      · obtain ⟨_, _, i, j, u, hd, _⟩ := hc g hh
        simp at hd
      iterate 4 (refine calm_quiet (v := ?_) (by rfl) (by rfl) (fun W hW hD => ?_) ?_; rotate_left; (· (have z0 := HQ.out W hW; clear hD hW; go_simp; try with_reducible rfl)); simp only [Act.put, List.setIfInBounds_toArray, List.set_cons_zero, List.set_cons_succ, Nat.reduceAdd, Nat.zero_add])
      refine calm_makes (by rfl) (by rfl) (fun W hW hD Kc hK => ?_) (fun v34 => ?_)
      · refine wp_of_call (f := 38) ?_ ((HP100.out W).mono ?_)
        · clear hD hW hK
          go_simp
        · rintro e w5 ⟨rfl, rfl⟩
          exact ⟨_, rfl, hK _ _ (made_plain rfl (Below.refl _ _) rfl)⟩
      simp only [Act.put, List.setIfInBounds_toArray, List.set_cons_zero, List.set_cons_succ, Nat.reduceAdd, Nat.zero_add]
      refine calm_quiet (v := .int .i64 ((150 + q : Nat) : Int)) (by rfl) (by rfl) (fun W hW hD => ?_) ?_
      · obtain rfl : v34 = .int .i64 (q : Int) := hD [] 4 (by kernel_rfl) (by kernel_rfl) (by kernel_rfl)
        clear hD hW
        rw [← w150]
        go_simp
        try rfl
      simp only [Act.put, List.setIfInBounds_toArray, List.set_cons_zero, List.set_cons_succ, Nat.reduceAdd, Nat.zero_add]
      refine calm_makes (by rfl) (by rfl) (fun W hW hD Kc hK => ?_) (fun v36 => ?_)
      · obtain ⟨Wm, hrun, hb1, hlt, hcv⟩ := mkN (150 + q) (by omega) W
        refine wp_of_run (v := .slice (some ⟨W.heap.size, 0, none⟩) (150 + q) (150 + q)) (w' := Wm) ?_ (hK _ _ (made_below ⟨W.heap.size, rfl, hcv⟩ hb1 (fun g hg => ?_)))
        · clear hD hW hK hcv w150
          generalize ((150 + q : Nat) : Int) = Z at *
          go_simp
        · have hg' : some W.heap.size = some g := hg
          cases hg'
          exact ⟨Nat.le_refl _, hlt⟩
      simp only [Act.put, List.setIfInBounds_toArray, List.set_cons_zero, List.set_cons_succ, Nat.reduceAdd, Nat.zero_add]
      refine calm_quiet (v := .string (bs (List.replicate (150 + q) 0))) (by rfl) (by rfl) (fun W hW hD => ?_) ?_
      · obtain ⟨g2, rfl, hcv⟩ : ∃ g, v36 = .slice (some ⟨g, 0, none⟩) (150 + q) (150 + q) ∧ ∀ W2, Below W.heap.size W W2 → (convert 68 9 (.slice (some ⟨g, 0, none⟩) (150 + q) (150 + q))).run Tryz.prog W2 = .ok (.string (bs (List.replicate (150 + q) 0))) W2 := hD [] 6 (by kernel_rfl) (by kernel_rfl) (by kernel_rfl)
        have hcv2 := hcv W (Below.refl _ _)
        clear hD hW hcv w150
        go_simp
      simp only [Act.put, List.setIfInBounds_toArray, List.set_cons_zero, List.set_cons_succ, Nat.reduceAdd, Nat.zero_add]
      iterate 2 (refine calm_quiet (v := ?_) (by rfl) (by rfl) (fun W hW hD => ?_) ?_; rotate_left; (· (clear hD hW; go_simp; try with_reducible rfl)); simp only [Act.put, List.setIfInBounds_toArray, List.set_cons_zero, List.set_cons_succ, Nat.reduceAdd, Nat.zero_add])
      refine calm_tail (by rfl) fun W hW hF => ?_
      have hbW := grown_below hW
      have hXw := HX1.out.below hbW HX1.out.lt
      have hRw := HR1.out.below hbW HR1.out.lt
      have hOw := HO1.out.below hbW (Nat.le_refl _)
      have hBw := HB1.out.trans (hbW.mono HB1.out.size)
      have yy : W.cell? ⟨g, k * 5 + 4, none⟩ = some (.string (bs (L.getD k default).text)) := by
        obtain ⟨b', o', ha', _, hc'⟩ := hOw.recs.at k (by rw [HL.out]; omega)
        cases ha'
        have h := hc'.2.2.2.2
        rwa [Nat.zero_add] at h
      have yf : ∀ j, W.frozen? ⟨g, j, none⟩ = false := fun j => World.ownsRow.frozenAt (show W.ownsRow (w.heap.size + 2) 48 5 (.slice (some ⟨g, 0, none⟩) m nc) m (cellsG L) from by have h := hOw; unfold OwnG at h; rwa [HL.out] at h) j
      have hX2 : LogBox (W.setCell ⟨g, k * 5 + 4, none⟩ (.string (bs (List.replicate (150 + q) 0)))) w.heap.size o (.slice (some ⟨g, 0, none⟩) m nc) := (heap_set_ne W (show w.heap.size ≠ g by omega) _ _).trans hXw
      have hR2 : LogBox (W.setCell ⟨g, k * 5 + 4, none⟩ (.string (bs (List.replicate (150 + q) 0)))) (w.heap.size + 1) 0 (.slice none 0 0) := (heap_set_ne W (show w.heap.size + 1 ≠ g by omega) _ _).trans hRw
      have hO2 : OwnG (w.heap.size + 2) (W.setCell ⟨g, k * 5 + 4, none⟩ (.string (bs (List.replicate (150 + q) 0)))) (.slice (some ⟨g, 0, none⟩) m nc) (L.set k { L.getD k default with text := List.replicate (150 + q) 0 }) := by have h := hOw.storeT (by rw [HL.out]) k (by rw [HL.out]; omega) (List.replicate (150 + q) 0); simpa using h
      have hB2 : Below w.heap.size w (W.setCell ⟨g, k * 5 + 4, none⟩ (.string (bs (List.replicate (150 + q) 0)))) := hBw.setCell (p := ⟨g, k * 5 + 4, none⟩) (by show w.heap.size ≤ g; omega) _
      have hE := bent_end rfl hX2 hR2 hO2 hB2
      have e0 := hX2.c0
      have e1 := hX2.c1
      have r0 := hR2.c0
      have r1 := hR2.c1
      have rf := hR2.frozen
      obtain ⟨WF, hWF⟩ : ∃ X, X = ((W.setCell ⟨g, k * 5 + 4, none⟩ (.string (bs (List.replicate (150 + q) 0)))).setCell ⟨w.heap.size + 1, 0, none⟩ (.int .i64 o)).setCell ⟨w.heap.size + 1, 1, none⟩ (.slice (some ⟨g, 0, none⟩) m nc) := ⟨_, rfl⟩
      rw [← hWF] at hE
      have HWF := Lib.hid hWF
      have HEn := Lib.hid hE
      clear hWF hE hX2 hR2 hO2 hB2 hXw hRw hOw hBw hbW hF hW HQ w150
      go_wp2
      rw [← HWF.out]
      have hEn := HEn.out
      exact bodyPost_ret (v := bookV o (.slice (some ⟨g, 0, none⟩) m nc)) (by simp [results, Tryz.results8, go_sem, hEn.1.c0, hEn.1.c1]) rfl ⟨_, by rw [HE.out], by rw [HE.out]; exact hEn.2.1, hEn.2.2⟩
end Go.Proofs.YthfenbdlolbikaaGreatDoor
