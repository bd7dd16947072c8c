/- The reference's Head, Grown, Prove. -/
import Derived.Test.YthfenbdlolbikaaGreatDoorGRefVal
import Derived.Test.YthfenbdlolbikaaGreatDoorGProvedP
import Derived.Test.YthfenbdlolbikaaGreatDoorDRefP
set_option linter.unusedVariables false
set_option linter.unusedSimpArgs false
namespace Go.Proofs.YthfenbdlolbikaaGreatDoor
open Go.RowKit Go.Shelf

set_option maxRecDepth 100000 in
set_option maxHeartbeats 1000000 in
theorem refHead_any (o : Int) (rv : Value) (l : List LRec) (w : World) (hR : RecsAt w.heap.size w rv l) (hl : l.length ≤ 1000000) :
    Calls Tryz.prog 11 #[bookV o rv] w fun e w' => e = .returned (.tuple #[.string (bs (headE ⟨o, l⟩).1), .int .i64 (headE ⟨o, l⟩).2]) ∧ Below w.heap.size w w' := by
  obtain ⟨ra, rc, rfl, hrc, hrm⟩ := hR.shape
  have HR := Lib.hid hR
  have hb0 : Below w.heap.size w (w.alloc (.cells #[.int .i64 o, .slice ra l.length rc] 25)) := (Below.refl _ _).alloc (Nat.le_refl _) _
  have HV := Lib.hid (refValid_any o _ l _ (hR.later hb0 (Nat.le_refl _)) hl)
  have HB0 := Lib.hid hb0
  have HX0 := Lib.hid (logBox_new w o (.slice ra l.length rc))
  clear hR hb0
  cases hv : bookB ⟨o, l⟩
  · have HE : Hid (headE ⟨o, l⟩ = ([], 380)) := by show _ = _; rw [headE, hv]; rfl
    rw [hv] at HV
    clear hv
    go_enter Tryz.func11, Tryz.ntmps11
    go_wp2_with fail
    refine HV.out.mono ?_
    rintro e w1 ⟨rfl, hb1⟩
    have HB1 := Lib.hid (HB0.out.trans (hb1.mono (by simp)))
    clear hb1
    go_wp2
    go_ret2
    exact ⟨by rw [HE.out]; rfl, HB1.out⟩
  · have hE : headE ⟨o, l⟩ = (rootL (codesL ⟨o, l⟩), 0) := by rw [headE, hv]; rfl
    have HSm := Lib.hid (codesL_sm hv)
    have HTx : Hid (∀ x ∈ l, x.text.length ≤ 1000000) := fun x hx => by have := book_recs hv x hx; unfold recB at this; simp only [Bool.and_eq_true, decide_eq_true_eq] at this; omega
    have HCo : Hid (codesR l = codesL ⟨o, l⟩) := codesR_ok (book_recs hv)
    rw [hv] at HV
    clear hv
    generalize codesL ⟨o, l⟩ = C at *
    have HE := Lib.hid hE
    clear hE
    go_enter Tryz.func11, Tryz.ntmps11
    go_wp2_with fail
    refine HV.out.mono ?_
    rintro e w1 ⟨rfl, hb1⟩
    have hX1 := HX0.out.below hb1 (by simp)
    have q0 := hX1.c0
    have q1 := hX1.c1
    have HB1 := Lib.hid (HB0.out.trans (hb1.mono (by simp)))
    clear hb1 hX1
    go_wp2_with fail
    refine (refCodes_any o _ l _ (HR.out.later HB1.out (Nat.le_refl _)) hl HTx.out).mono ?_
    rintro e w2 ⟨v, rfl, hO, hb2⟩
    rw [HCo.out] at hO
    obtain ⟨a, c, hv, _, _⟩ := hO.shape2
    subst hv
    have HO := Lib.hid hO
    have HB2 := Lib.hid (HB1.out.trans (hb2.mono HB1.out.size))
    clear hO hb2 q0 q1
    go_wp2_with fail
    refine (refRoot_any C.length C _ w2 (Nat.le_refl _) HSm.out HO.out.strs).mono ?_
    rintro e w3 ⟨rfl, hb3⟩
    have HB3 := Lib.hid (HB2.out.trans (hb3.mono HB2.out.size))
    clear hb3
    go_wp2
    go_ret2
    exact ⟨by rw [HE.out]; rfl, HB3.out⟩
set_option maxRecDepth 100000 in
set_option maxHeartbeats 1000000 in
theorem refGrown_any (o : Int) (rv : Value) (l : List LRec) (i : Int) (w : World) (hR : RecsAt w.heap.size w rv l) (hl : l.length ≤ 1000000) :
    Calls Tryz.prog 21 #[bookV o rv, .int .i64 i] w fun e w' => ∃ v, e = .returned (.tuple #[v, .int .i64 (grownE ⟨o, l⟩ i).2]) ∧ OwnS w.heap.size w' v (grownE ⟨o, l⟩ i).1 ∧ Below w.heap.size w w' := by
  obtain ⟨ra, rc, rfl, hrc, hrm⟩ := hR.shape
  have HR := Lib.hid hR
  have hb0 : Below w.heap.size w (w.alloc (.cells #[.int .i64 o, .slice ra l.length rc] 25)) := (Below.refl _ _).alloc (Nat.le_refl _) _
  have HV := Lib.hid (refValid_any o _ l _ (hR.later hb0 (Nat.le_refl _)) hl)
  have HB0 := Lib.hid hb0
  have HX0 := Lib.hid (logBox_new w o (.slice ra l.length rc))
  clear hR hb0
  cases hv : bookB ⟨o, l⟩
  · have HE : Hid (grownE ⟨o, l⟩ i = ([], 380)) := by show _ = _; rw [grownE, hv]; rfl
    rw [hv] at HV
    clear hv
    go_enter Tryz.func21, Tryz.ntmps21
    go_wp2_with fail
    refine HV.out.mono ?_
    rintro e w1 ⟨rfl, hb1⟩
    have HB1 := Lib.hid (HB0.out.trans (hb1.mono (by simp)))
    clear hb1
    go_wp2
    go_ret2
    exact ⟨.slice none 0 0, by rw [HE.out]; rfl, by rw [HE.out]; exact OwnS.nil _ _, HB1.out⟩
  · have hE : grownE ⟨o, l⟩ i = if decide ((extE (codesL ⟨o, l⟩) i).2 = 0) then ((extE (codesL ⟨o, l⟩) i).1, 0) else ([], 380) := by rw [grownE, hv, Bool.true_and]
    have HSm := Lib.hid (codesL_sm hv)
    have HTx : Hid (∀ x ∈ l, x.text.length ≤ 1000000) := fun x hx => by have := book_recs hv x hx; unfold recB at this; simp only [Bool.and_eq_true, decide_eq_true_eq] at this; omega
    have HCo : Hid (codesR l = codesL ⟨o, l⟩) := codesR_ok (book_recs hv)
    rw [hv] at HV
    clear hv
    generalize codesL ⟨o, l⟩ = C at *
    have HE := Lib.hid hE
    clear hE
    go_enter Tryz.func21, Tryz.ntmps21
    go_wp2_with fail
    refine HV.out.mono ?_
    rintro e w1 ⟨rfl, hb1⟩
    have hX1 := HX0.out.below hb1 (by simp)
    have q0 := hX1.c0
    have q1 := hX1.c1
    have HB1 := Lib.hid (HB0.out.trans (hb1.mono (by simp)))
    clear hb1 hX1
    go_wp2_with fail
    refine (refCodes_any o _ l _ (HR.out.later HB1.out (Nat.le_refl _)) hl HTx.out).mono ?_
    rintro e w2 ⟨v, rfl, hO, hb2⟩
    rw [HCo.out] at hO
    obtain ⟨a, c, hv, _, _⟩ := hO.shape2
    subst hv
    have HO := Lib.hid hO
    have HB2 := Lib.hid (HB1.out.trans (hb2.mono HB1.out.size))
    clear hO hb2 q0 q1
    go_wp2_with fail
    refine (refExt_any C i _ w2 HSm.out HO.out.strs).mono ?_
    rintro e w3 ⟨vp, rfl, hO3, hb3⟩
    have HB3 := Lib.hid (HB2.out.trans (hb3.mono HB2.out.size))
    have HO3 := Lib.hid (hO3.mono (base' := w.heap.size) HB2.out.size)
    obtain ⟨a2, c2, hv2, _, _⟩ := hO3.shape2
    subst hv2
    have herr := grownE_err C i
    clear hb3 hO3
    rcases herr with herr | herr
    · rw [herr, decide_eq_true rfl, if_pos rfl] at HE
      rw [herr]
      generalize (extE C i).1 = L at *
      clear herr
      go_wp2
      go_ret2
      exact ⟨_, by rw [HE.out]; rfl, by rw [HE.out]; exact HO3.out, HB3.out⟩
    · rw [herr, decide_eq_false (by decide), if_neg (by decide)] at HE
      rw [herr]
      generalize (extE C i).1 = L at *
      clear herr
      go_wp2
      go_ret2
      exact ⟨.slice none 0 0, by rw [HE.out]; rfl, by rw [HE.out]; exact OwnS.nil _ _, HB3.out⟩
end Go.Proofs.YthfenbdlolbikaaGreatDoor
