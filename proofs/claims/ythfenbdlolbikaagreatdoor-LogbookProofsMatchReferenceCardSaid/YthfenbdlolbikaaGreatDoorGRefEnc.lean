/- The reference's valid, Encode, Codes. -/
import Derived.Test.YthfenbdlolbikaaGreatDoorGCom
import Derived.Test.YthfenbdlolbikaaGreatDoorDMore
set_option linter.unusedVariables false
set_option linter.unusedSimpArgs false
namespace Go.Proofs.YthfenbdlolbikaaGreatDoor
open Go.RowKit Go.Shelf

set_option maxHeartbeats 2000000 in
set_option maxRecDepth 100000 in
theorem refvalid_any (x : LRec) (w : World) :
    Calls Tryz.prog 79 #[recV x] w fun e w' => e = .returned (.bool (recB x)) ∧ Below w.heap.size w w' := by
  have HR : Hid (recB x = (inZ x.sec 0 10000000 && inZ x.kind 1 20 && inZ x.a (-1) 99999999 && inZ x.b (-1) 99999999 && decide (x.text.length ≤ 200))) := rfl
  have hsz := bs_size x.text
  have HB : Hid (∀ o : Obj, Below w.heap.size w (w.alloc o)) := fun o => (Below.refl _ _).alloc (Nat.le_refl _) o
  obtain ⟨s, k, a, b, t⟩ := x
  simp only at HR hsz ⊢
  by_cases hl0 : 0 ≤ s
  rotate_left
  · have d0 : decide (0 ≤ s) = false := by simp; omega
    have HF : Hid (recB ⟨s, k, a, b, t⟩ = false) := by
      show _ = _
      rw [HR.out, show inZ s 0 10000000 = false from by rw [Bool.eq_false_iff]; intro h; have := inZ_iff.1 h; omega]
      simp
    clear HR hsz
    go_enter Tryz.func79, Tryz.ntmps79
    go_wp2
    go_ret
    exact ⟨by rw [HF.out]; try rfl, HB.out _⟩
  by_cases hh0 : s ≤ 10000000
  rotate_left
  · have d0 : decide (0 ≤ s) = true := by simp; omega
    have e0 : decide (s ≤ 10000000) = false := by simp; omega
    have HF : Hid (recB ⟨s, k, a, b, t⟩ = false) := by
      show _ = _
      rw [HR.out, show inZ s 0 10000000 = false from by rw [Bool.eq_false_iff]; intro h; have := inZ_iff.1 h; omega]
      simp
    clear HR hsz
    go_enter Tryz.func79, Tryz.ntmps79
    go_wp2
    go_ret
    exact ⟨by rw [HF.out]; try rfl, HB.out _⟩
  have d0 : decide (0 ≤ s) = true := by simp; omega
  have e0 : decide (s ≤ 10000000) = true := by simp; omega
  by_cases hl1 : 1 ≤ k
  rotate_left
  · have d1 : decide (1 ≤ k) = false := by simp; omega
    have HF : Hid (recB ⟨s, k, a, b, t⟩ = false) := by
      show _ = _
      rw [HR.out, show inZ k 1 20 = false from by rw [Bool.eq_false_iff]; intro h; have := inZ_iff.1 h; omega]
      simp
    clear HR hsz
    go_enter Tryz.func79, Tryz.ntmps79
    go_wp2
    go_ret
    exact ⟨by rw [HF.out]; try rfl, HB.out _⟩
  by_cases hh1 : k ≤ 20
  rotate_left
  · have d1 : decide (1 ≤ k) = true := by simp; omega
    have e1 : decide (k ≤ 20) = false := by simp; omega
    have HF : Hid (recB ⟨s, k, a, b, t⟩ = false) := by
      show _ = _
      rw [HR.out, show inZ k 1 20 = false from by rw [Bool.eq_false_iff]; intro h; have := inZ_iff.1 h; omega]
      simp
    clear HR hsz
    go_enter Tryz.func79, Tryz.ntmps79
    go_wp2
    go_ret
    exact ⟨by rw [HF.out]; try rfl, HB.out _⟩
  have d1 : decide (1 ≤ k) = true := by simp; omega
  have e1 : decide (k ≤ 20) = true := by simp; omega
  by_cases hl2 : (-1) ≤ a
  rotate_left
  · have d2 : decide ((-1) ≤ a) = false := by simp; omega
    have HF : Hid (recB ⟨s, k, a, b, t⟩ = false) := by
      show _ = _
      rw [HR.out, show inZ a (-1) 99999999 = false from by rw [Bool.eq_false_iff]; intro h; have := inZ_iff.1 h; omega]
      simp
    clear HR hsz
    go_enter Tryz.func79, Tryz.ntmps79
    go_wp2
    go_ret
    exact ⟨by rw [HF.out]; try rfl, HB.out _⟩
  by_cases hh2 : a ≤ 99999999
  rotate_left
  · have d2 : decide ((-1) ≤ a) = true := by simp; omega
    have e2 : decide (a ≤ 99999999) = false := by simp; omega
    have HF : Hid (recB ⟨s, k, a, b, t⟩ = false) := by
      show _ = _
      rw [HR.out, show inZ a (-1) 99999999 = false from by rw [Bool.eq_false_iff]; intro h; have := inZ_iff.1 h; omega]
      simp
    clear HR hsz
    go_enter Tryz.func79, Tryz.ntmps79
    go_wp2
    go_ret
    exact ⟨by rw [HF.out]; try rfl, HB.out _⟩
  have d2 : decide ((-1) ≤ a) = true := by simp; omega
  have e2 : decide (a ≤ 99999999) = true := by simp; omega
  by_cases hl3 : (-1) ≤ b
  rotate_left
  · have d3 : decide ((-1) ≤ b) = false := by simp; omega
    have HF : Hid (recB ⟨s, k, a, b, t⟩ = false) := by
      show _ = _
      rw [HR.out, show inZ b (-1) 99999999 = false from by rw [Bool.eq_false_iff]; intro h; have := inZ_iff.1 h; omega]
      simp
    clear HR hsz
    go_enter Tryz.func79, Tryz.ntmps79
    go_wp2
    go_ret
    exact ⟨by rw [HF.out]; try rfl, HB.out _⟩
  by_cases hh3 : b ≤ 99999999
  rotate_left
  · have d3 : decide ((-1) ≤ b) = true := by simp; omega
    have e3 : decide (b ≤ 99999999) = false := by simp; omega
    have HF : Hid (recB ⟨s, k, a, b, t⟩ = false) := by
      show _ = _
      rw [HR.out, show inZ b (-1) 99999999 = false from by rw [Bool.eq_false_iff]; intro h; have := inZ_iff.1 h; omega]
      simp
    clear HR hsz
    go_enter Tryz.func79, Tryz.ntmps79
    go_wp2
    go_ret
    exact ⟨by rw [HF.out]; try rfl, HB.out _⟩
  have d3 : decide ((-1) ≤ b) = true := by simp; omega
  have e3 : decide (b ≤ 99999999) = true := by simp; omega
  have HF : Hid (recB ⟨s, k, a, b, t⟩ = decide (((bs t).size : Int) ≤ 200)) := by
    show _ = _
    rw [HR.out, inZ_iff.2 ⟨hl0, hh0⟩, inZ_iff.2 ⟨hl1, hh1⟩, inZ_iff.2 ⟨hl2, hh2⟩, inZ_iff.2 ⟨hl3, hh3⟩, ← hsz]
    simp only [Bool.true_and]
    exact decide_eq_decide.2 (by omega)
  clear HR hsz
  go_enter Tryz.func79, Tryz.ntmps79
  go_wp2
  go_ret
  exact ⟨by rw [HF.out]; try rfl, HB.out _⟩
/-- A row of four ints. -/
def FourRow (W : World) (g : Nat) (x : LRec) : Prop := W.heap[g]? = some (.cells #[.int .i64 x.sec, .int .i64 x.kind, .int .i64 x.a, .int .i64 x.b] 3 (0, 0))
def ints4 (x : LRec) : List Int := [x.sec, x.kind, x.a, x.b]
theorem FourRow.cell {W : World} {g : Nat} {x : LRec} (h : FourRow W g x) (j : Nat) (hj : j < 4) : W.cell? ⟨g, j, none⟩ = some (.int .i64 ((ints4 x).getD j 0)) := by
  rw [Lib.cell_of_heap (show W.heap[g]? = _ from h)]
  match j, hj with
  | 0, _ => rfl
  | 1, _ => rfl
  | 2, _ => rfl
  | 3, _ => rfl
theorem rec_ints {x : LRec} (h : recB x = true) (j : Nat) (hj : j < 4) : -4611686018427387903 ≤ (ints4 x).getD j 0 ∧ (ints4 x).getD j 0 ≤ 4611686018427387903 := by
  obtain ⟨h0, h1, h2, h3, _⟩ := recB_fits h
  match j, hj with
  | 0, _ => exact h0
  | 1, _ => exact h1
  | 2, _ => exact h2
  | 3, _ => exact h3
set_option maxRecDepth 100000 in
set_option maxHeartbeats 2000000 in
theorem refEncode_any (x : LRec) (w : World) (hx : x.text.length ≤ 1000000) :
    Calls Tryz.prog 58 #[recV x] w fun e w' => e = .returned (.tuple #[.string (bs (encE x).1), .int .i64 (encE x).2]) ∧ Below w.heap.size w w' := by
  have hb0 : Below w.heap.size w (w.alloc (.cells #[.int .i64 x.sec, .int .i64 x.kind, .int .i64 x.a, .int .i64 x.b, .string (bs x.text)] 48)) := (Below.refl _ _).alloc (Nat.le_refl _) _
  have hbx := recBox_new w x
  cases hr : recB x
  · have HE : Hid (encE x = ([], 380)) := by show _ = _; rw [encE, hr]; rfl
    obtain ⟨d0, d1, d2, d3, d4⟩ := hbx.cells
    have HB0 := Lib.hid hb0
    have HRv := Lib.hid (fun W => refvalid_any x W)
    rw [hr] at HRv
    clear hr hb0 hbx
    go_enter Tryz.func58, Tryz.ntmps58
    go_wp2_with fail
    refine (HRv.out _).mono ?_
    rintro e w1 ⟨rfl, hb⟩
    have HB1 := Lib.hid (HB0.out.trans (hb.mono HB0.out.size))
    clear hb d0 d1 d2 d3 d4
    go_wp2
    go_ret2
    exact ⟨by rw [HE.out]; rfl, HB1.out⟩
  · have HE : Hid (encE x = (encR x, 0)) := by show _ = _; rw [encE, hr]; rfl
    have HI := Lib.hid (rec_ints hr)
    have htl : x.text.length ≤ 200 := by unfold recB at hr; simp only [Bool.and_eq_true, decide_eq_true_eq] at hr; exact hr.2
    have HFin : Hid (bs (numsB (ints4 x)) ++ bs (encS x.text) = bs (encR x)) := by
      show _ = _
      rw [cat_bs]
      congr 1
      unfold encR
      rw [← numsB_rec]
      rfl
    have HPs : Hid (∀ W, Calls Tryz.prog 94 #[.string (bs x.text)] W fun e w' => e = .returned (.tuple #[.string (bs (encS x.text)), .int .i64 0]) ∧ Below W.heap.size W w') := fun W => by
      have h := refPutString_any (bs x.text) W (by rw [bs_size]; unfold maxLen; omega)
      rw [bs_list] at h
      have e : putStr x.text = (encS x.text, 0) := by unfold putStr; rw [if_pos (by omega)]; rfl
      rw [e] at h
      exact h
    have hes : (bs (encS x.text)).size ≤ 1000 := by
      rw [bs_size]
      have := enc_length (zz x.text.length)
      simp only [encS, List.length_append]
      omega
    obtain ⟨d0, d1, d2, d3, d4⟩ := hbx.cells
    have HB0 := Lib.hid hb0
    have HBx := Lib.hid hbx
    have HRv := Lib.hid (fun W => refvalid_any x W)
    rw [hr] at HRv
    clear hr hb0 hbx
    go_enter Tryz.func58, Tryz.ntmps58
    go_wp2_with fail
    refine (HRv.out _).mono ?_
    rintro e w1 ⟨rfl, hb⟩
    have hB1 := HB0.out.trans (hb.mono HB0.out.size)
    have hbx1 := HBx.out.below hb HBx.out.lt
    clear d0 d1 d2 d3 d4
    obtain ⟨d0, d1, d2, d3, d4⟩ := hbx1.cells
    have hz1 := hb.size
    have hrow : FourRow (w1.alloc (.cells #[.int .i64 x.sec, .int .i64 x.kind, .int .i64 x.a, .int .i64 x.b] 3)) w1.heap.size x := heap_alloc_new w1 _
    have hbx2 : RecBox (w1.alloc (.cells #[.int .i64 x.sec, .int .i64 x.kind, .int .i64 x.a, .int .i64 x.b] 3)) w.heap.size x := hbx1.below ((Below.refl _ _).alloc (Nat.le_refl _) _) hbx1.lt
    have hB2 : Below w.heap.size w (w1.alloc (.cells #[.int .i64 x.sec, .int .i64 x.kind, .int .i64 x.a, .int .i64 x.b] 3)) := hB1.alloc hB1.size _
    have hwlt : w.heap.size < w1.heap.size := hbx1.lt
    have HRow := Lib.hid hrow
    have HBx2 := Lib.hid hbx2
    have HB2 := Lib.hid hB2
    clear hb hB1 hbx1 hrow hbx2 hB2 HBx HB0
    go_wp2
    clear d0 d1 d2 d3 d4
    obtain ⟨g, hg⟩ : ∃ g, g = w1.heap.size := ⟨_, rfl⟩
    rw [← hg] at HRow hwlt ⊢
    clear hg
    have hz0 : numsB ((ints4 x).take 0) = [] := rfl
    go_loopw [4, 24] (fun sv i wr => ∃ j : Nat, j ≤ 4 ∧ i = .int .i64 j ∧ sv = .string (bs (numsB ((ints4 x).take j))) ∧ FourRow wr g x ∧ RecBox wr w.heap.size x ∧ Below w.heap.size w wr) (fun _ i _ => 4 - (intOf i).toNat)
    case atStart => exact ⟨0, by omega, rfl, by rw [hz0]; rfl, HRow.out, HBx2.out, HB2.out⟩
    case round =>
      clear HRow HBx2 HB2 hz0
      obtain ⟨j, hj, rfl, rfl, hR, hX, hW⟩ := hrel
      by_cases h1 : j < 4
      · have c0 := hR.cell j h1
        have hn := HI.out j h1
        have HN := Lib.hid (numsB_succ (ints4 x) j (show j < 4 from h1))
        have hl := numsB_length ((ints4 x).take j)
        rw [List.length_take] at hl
        have HP : Hid (∀ W, Calls Tryz.prog 44 #[.int .i64 ((ints4 x).getD j 0)] W fun e w' => e = .returned (.tuple #[.string (bs (enc (zz ((ints4 x).getD j 0)))), .int .i64 0]) ∧ Below W.heap.size W w') := fun W => refPutInt_yes _ W hn.1 hn.2
        have hel := enc_length (zz ((ints4 x).getD j 0))
        have n1 : ¬ (9223372036854775807 < (bs (numsB ((ints4 x).take j))).size + (bs (enc (zz ((ints4 x).getD j 0)))).size) := by rw [bs_size, bs_size]; omega
        have HC := Lib.hid (cat_bs (numsB ((ints4 x).take j)) (enc (zz ((ints4 x).getD j 0))))
        rw [← HN.out] at HC
        have jj : (j : Int) < 4 := by omega
        have j0 : 0 ≤ (j : Int) := by omega
        have HRx := Lib.hid hR
        have HXx := Lib.hid hX
        have HWx := Lib.hid hW
        generalize (ints4 x).getD j 0 = z at *
        generalize bs (enc (zz z)) = E at *
        generalize bs (numsB ((ints4 x).take j)) = A at *
        clear hR hX hW hl hel hn
        go_wp2_with fail
        refine (HP.out _).mono ?_
        rintro e w2 ⟨rfl, hb⟩
        have HR2 : Hid (FourRow w2 g x) := (hb.block g (Array.getElem?_eq_some_iff.1 (show wr.heap[g]? = _ from HRx.out)).1).trans HRx.out
        have HX2 := Lib.hid (HXx.out.below hb HXx.out.lt)
        have HB2 := Lib.hid (HWx.out.trans (hb.mono HWx.out.size))
        clear hb c0 HRx HXx HWx
        go_wp2
        go_roundw
        case rel => exact ⟨j + 1, by omega, by go_num, by rw [HC.out], HR2.out, HX2.out, HB2.out⟩
        case measure => simp [intOf]; omega
      · obtain rfl : j = 4 := by omega
        rw [show (ints4 x).take 4 = ints4 x from rfl]
        obtain ⟨d0, d1, d2, d3, d4⟩ := hX.cells
        have hl := numsB_length (ints4 x)
        have n1 : ¬ (9223372036854775807 < (bs (numsB (ints4 x))).size + (bs (encS x.text)).size) := by rw [bs_size, bs_size] at *; rw [show (ints4 x).length = 4 from rfl] at hl; omega
        generalize bs (numsB (ints4 x)) = A at *
        generalize bs (encS x.text) = E at *
        have HWx := Lib.hid hW
        clear hR hX hW hl hes
        go_wp2_with fail
        refine (HPs.out _).mono ?_
        rintro e w2 ⟨rfl, hb⟩
        have HB2 := Lib.hid (HWx.out.trans (hb.mono HWx.out.size))
        clear hb d0 d1 d2 d3 d4 HWx
        go_wp2
        go_ret2
        exact ⟨by rw [HE.out, ← HFin.out]; rfl, HB2.out⟩
/-- The encodings of all records of a list. -/
def codesR (l : List LRec) : List Bytes := l.map fun x => (encE x).1
theorem codesR_ok {l : List LRec} (h : ∀ x ∈ l, recB x = true) : codesR l = l.map encR := by
  unfold codesR
  exact List.map_congr_left fun x hx => by unfold encE; rw [h x hx]; rfl
set_option maxRecDepth 100000 in
set_option maxHeartbeats 2000000 in
theorem refCodes_any (o : Int) (rv : Value) (l : List LRec) (w : World) (hR : RecsAt w.heap.size w rv l) (hl : l.length ≤ 1000000) (ht : ∀ x ∈ l, x.text.length ≤ 1000000) :
    Calls Tryz.prog 29 #[bookV o rv] w fun e w' => ∃ v, e = .returned v ∧ OwnS w.heap.size w' v (codesR l) ∧ Below w.heap.size w w' := by
  obtain ⟨ra, rc, rfl, hrc, hrm⟩ := hR.shape
  unfold maxLen at hrm
  have HRa := Lib.hid hR
  have HTx := Lib.hid ht
  obtain ⟨V, hV⟩ : ∃ V, V = w.alloc (.cells #[.int .i64 o, .slice ra l.length rc] 25) := ⟨_, rfl⟩
  have hL0 : LogBox V w.heap.size o (.slice ra l.length rc) := by rw [hV]; exact logBox_new w o (.slice ra l.length rc)
  have hB0 : Below w.heap.size w V := by rw [hV]; exact (Below.refl _ _).alloc (Nat.le_refl _) _
  have hVs : V.heap.size = w.heap.size + 1 := by rw [hV]; simp
  have HL0 := Lib.hid hL0
  have HB0 := Lib.hid hB0
  have HV := Lib.hid hV
  have HVs := Lib.hid hVs
  clear hR ht hL0 hV hVs hB0
  generalize hn : l.length = n at *
  have Hn := Lib.hid hn
  clear hn
  go_enter Tryz.func29, Tryz.ntmps29
  go_wp2
  rw [← HV.out]
  clear HV
  go_loopw [3, 4] (fun sv i wr => ∃ k : Nat, k ≤ n ∧ i = .int .i64 k ∧ OwnS V.heap.size wr sv (codesR (l.take k)) ∧ Below V.heap.size V wr) (fun _ i _ => n - (intOf i).toNat)
  case atStart => exact ⟨0, Nat.zero_le _, rfl, OwnS.nil _ _, Below.refl _ _⟩
  case round =>
    obtain ⟨k, hk, rfl, hO, hW⟩ := hrel
    have hX := HL0.out.below hW HL0.out.lt
    have q0 := hX.c0
    have q1 := hX.c1
    have hz := hW.size
    have HO := Lib.hid hO
    clear hO hX
    by_cases h1 : k < n
    · obtain ⟨b, off, hae, hb, hat⟩ := HRa.out.at k (by rw [Hn.out]; exact h1)
      subst hae
      obtain ⟨p0, p1, p2, p3, p4⟩ := (hat.below HB0.out hb).below hW (by rw [HVs.out]; omega)
      have hyl := HTx.out (l.getD k default) (by rw [List.getD_eq_getElem?_getD, List.getElem?_eq_getElem (by rw [Hn.out]; exact h1)]; exact List.getElem_mem _)
      have HS1 : Hid (codesR (l.take (k + 1)) = codesR (l.take k) ++ [(encE (l.getD k default)).1]) := by
        show _ = _
        rw [take_getD l default k (by rw [Hn.out]; exact h1)]
        simp [codesR]
      have HMl : Hid ((codesR (l.take k)).length = k) := by show _ = _; unfold codesR; rw [List.length_map, List.length_take, Hn.out]; omega
      have HSm := Lib.hid (fun W : World => refEncode_any (l.getD k default) W hyl)
      generalize codesR (l.take k) = sl at *
      generalize l.getD k default = x at *
      generalize (encE x).2 = ev at *
      generalize (encE x).1 = z at *
      have HW := Lib.hid hW
      have kk1 : (k : Int) < (n : Int) := by omega
      have k0 : 0 ≤ (k : Int) := by omega
      have HLit := Lib.hid (fun (W : World) (h : V.heap.size ≤ W.heap.size) => ownS_lit W V.heap.size z h)
      clear hW hat
      go_wp2_with fail
      refine (HSm.out _).mono ?_
      rintro e w2 ⟨rfl, hb2⟩
      have hz2 := hb2.size
      have HO2 := Lib.hid (HO.out.below hb2 (Nat.le_refl _))
      have HB2 := Lib.hid (HW.out.trans (hb2.mono hz))
      clear hb2 q0 q1 p0 p1 p2 p3 p4
      go_wp2_with (at_builtin; refine append_SS rfl _ _ rfl V.heap.size V.heap.size u3 _ sl [z] rfl rfl (World.ownsRow.alloc HO2.out _) (HLit.out _ (by omega)) (by rw [HMl.out]; simp; omega) (by simp; omega) V (HB2.out.alloc (by omega) _) ?_; intro v5 w3 hO3 hg3 hb3; have HO3 := Lib.hid hO3; clear hO3)
      go_roundw
      case rel => exact ⟨k + 1, by omega, by go_num, by rw [HS1.out]; exact HO3.out, hb3⟩
      case measure => simp [intOf]; omega
    · obtain rfl : k = n := by omega
      have hO := HO.out
      rw [List.take_of_length_le (by rw [Hn.out]; exact Nat.le_refl _)] at hO
      have HOf := Lib.hid (OwnS.mono hO HB0.out.size)
      have HBf := Lib.hid (HB0.out.trans (hW.mono HB0.out.size))
      clear hO HO
      go_wp2
      go_ret
      exact ⟨_, rfl, HOf.out, HBf.out⟩
end Go.Proofs.YthfenbdlolbikaaGreatDoor
