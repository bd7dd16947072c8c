/- The reference's Root and Proof. -/
import Derived.Test.YthfenbdlolbikaaGreatDoorMRefB
import Derived.Test.YthfenbdlolbikaaGreatDoorDMore
set_option linter.unusedVariables false
set_option linter.unusedSimpArgs false
namespace Go.Proofs.YthfenbdlolbikaaGreatDoor
open Go.RowKit Go.Shelf

set_option maxRecDepth 100000 in
set_option maxHeartbeats 2000000 in
theorem refRoot_step (l : List Bytes) (v : Value) (w : World) (hS : Sm l) (hL : StrsAt w.heap.size w v l)
    (hrec : ∀ (l' : List Bytes) (v' : Value) (W : World), l'.length < l.length → Sm l' → StrsAt W.heap.size W v' l' → Calls Tryz.prog 43 #[v'] W fun e w' => e = .returned (.string (bs (rootL l'))) ∧ Below W.heap.size W w') :
    Calls Tryz.prog 43 #[v] w fun e w' => e = .returned (.string (bs (rootL l))) ∧ Below w.heap.size w w' := by
  obtain ⟨a, c, rfl, hlc, hcm⟩ := hL.shape
  unfold maxLen at hcm
  by_cases h0 : l.length = 0
  · have HR : Hid (rootL l = sha []) := by rw [List.eq_nil_of_length_eq_zero h0]; rfl
    have HSm := Lib.hid (refSum_any (⟨#[]⟩ : ByteArray) w (by decide))
    rw [show ((⟨#[]⟩ : ByteArray).data.toList) = [] from rfl] at HSm
    rw [h0]
    clear hrec hS hL
    go_enter Tryz.func43, Tryz.ntmps43
    go_wp2_with (go_at_call 45; refine HSm.out.mono ?_; rintro e w9 ⟨rfl, hb9⟩)
    go_ret
    exact ⟨by rw [HR.out]; rfl, hb9⟩
  · by_cases h1 : l.length = 1
    · obtain ⟨b, off, rfl, hb, hcl⟩ := hL.at 0 (by omega)
      have HR : Hid (rootL l = leafB (l.getD 0 [])) := by
        match l, h1 with
        | [x], _ => exact rootL_one x
      have hxl := hS.2 _ (getD_mem' l [] 0 (by omega))
      have HLf := Lib.hid (refLeaf_any (bs (l.getD 0 [])) w (by rw [bs_size]; omega))
      rw [bs_list] at HLf
      rw [h1]
      have hcl' : w.cell? ⟨b, off, none⟩ = some (.string (bs (l.getD 0 []))) := hcl
      clear hrec hS hL
      generalize l.getD 0 [] = x at *
      generalize bs x = X at *
      go_enter Tryz.func43, Tryz.ntmps43
      go_wp2_with (go_at_call 80; refine HLf.out.mono ?_; rintro e w9 ⟨rfl, hb9⟩)
      go_ret
      exact ⟨by rw [HR.out]; rfl, hb9⟩
    · have h2 : 2 ≤ l.length := by omega
      have hlb := leftN_bd h2
      obtain ⟨b, off, ha⟩ := hL.addr (by omega)
      subst ha
      have hTk := hL.take (leftN l.length) (by omega)
      have hDr := hL.drop (leftN l.length) (by omega)
      have HT1 := Lib.hid (fun W (hW : Below w.heap.size w W) => (hrec (l.take (leftN l.length)) _ W (by rw [List.length_take]; omega) (hS.take _) (hTk.later hW (Nat.le_refl _))).mono fun e w' (h : _ ∧ _) => And.intro h.1 (hW.trans (h.2.mono hW.size)))
      have HT2 := Lib.hid (fun W (hW : Below w.heap.size w W) => (hrec (l.drop (leftN l.length)) _ W (by rw [List.length_drop]; omega) (hS.drop _) (hDr.later hW (Nat.le_refl _))).mono fun e w' (h : _ ∧ _) => And.intro h.1 (hW.trans (h.2.mono hW.size)))
      have HR := Lib.hid (rootL_split h2)
      have hln := hS.1
      clear hrec hS hTk hDr hL
      have HNd := Lib.hid (fun W (hW : Below w.heap.size w W) => (refNode_any (bs (rootL (l.take (leftN l.length)))) (bs (rootL (l.drop (leftN l.length)))) W (by rw [bs_size, rootL_length]; decide) (by rw [bs_size, rootL_length]; decide)).mono fun e w' (h : _ ∧ _) => And.intro h.1 (hW.trans (h.2.mono hW.size)))
      rw [bs_list, bs_list] at HNd
      have HLt := Lib.hid (fun W => refLeft_any l.length W h2 (by omega))
      generalize l.length = N at *
      generalize leftN N = K at *
      generalize rootL (l.take K) = r1 at *
      generalize rootL (l.drop K) = r2 at *
      have e1 : (K : Int) ≤ (N : Int) := by omega
      have e3 : (K : Int) ≤ (c : Int) := by omega
      have e4 : (N : Int) ≤ (c : Int) := by omega
      have hn0 : ((N : Int) == 0) = false := by simp; omega
      have hn1 : ((N : Int) == 1) = false := by simp; omega
      have hB0 := Below.refl w.heap.size w
      go_enter Tryz.func43, Tryz.ntmps43
      go_wp2_with (go_at_call 61; refine (HLt.out _).mono ?_; rintro e w' ⟨rfl, rfl⟩)
      go_region_held3 (fun W => Below w.heap.size w W) (first | exact hBc | exact hB0.drew)
        (first
          | (go_at_call 43; (with_reducible refine (HT1.out _ (by assumption)).mono ?_); rintro e wc ⟨rfl, hBc⟩)
          | (go_at_call 43; (with_reducible refine (HT2.out _ (by assumption)).mono ?_); rintro e wc ⟨rfl, hBc⟩)
          | (go_at_call 62; (with_reducible refine (HNd.out _ (by assumption)).mono ?_); rintro e wc ⟨rfl, hBc⟩))
      all_goals go_wp2
      all_goals go_ret
      all_goals exact ⟨by rw [HR.out]; rfl, hBc⟩
theorem refRoot_any : ∀ (N : Nat) (l : List Bytes) (v : Value) (w : World), l.length ≤ N → Sm l → StrsAt w.heap.size w v l →
    Calls Tryz.prog 43 #[v] w fun e w' => e = .returned (.string (bs (rootL l))) ∧ Below w.heap.size w w'
  | 0, l, v, w, hN, hS, hL => refRoot_step l v w hS hL (fun l' v' W h _ _ => absurd h (by omega))
  | N + 1, l, v, w, hN, hS, hL => refRoot_step l v w hS hL (fun l' v' W h hS' hL' => refRoot_any N l' v' W (by omega) hS' hL')
set_option maxRecDepth 100000 in
set_option maxHeartbeats 2000000 in
theorem refProof_step (l : List Bytes) (i : Int) (v : Value) (w : World) (hS : Sm l) (hL : StrsAt w.heap.size w v l) (hi : I64 i)
    (hrec : ∀ (l' : List Bytes) (i' : Nat) (v' : Value) (W : World), l'.length < l.length → (i' : Int) ≤ i → Sm l' → StrsAt W.heap.size W v' l' → Calls Tryz.prog 52 #[v', .int .i64 i'] W fun e w' => ∃ vp, e = .returned (.tuple #[vp, .int .i64 (proofE l' i').2]) ∧ OwnS W.heap.size w' vp (proofE l' i').1 ∧ Below W.heap.size W w') :
    Calls Tryz.prog 52 #[v, .int .i64 i] w fun e w' => ∃ vp, e = .returned (.tuple #[vp, .int .i64 (proofE l i).2]) ∧ OwnS w.heap.size w' vp (proofE l i).1 ∧ Below w.heap.size w w' := by
  obtain ⟨a, c, rfl, hlc, hcm⟩ := hL.shape
  unfold maxLen at hcm
  by_cases hin : 0 ≤ i ∧ i < (l.length : Int)
  · obtain ⟨hi0, hi1⟩ := hin
    obtain ⟨j, rfl⟩ := Int.eq_ofNat_of_zero_le hi0
    have hjl : j < l.length := by omega
    have HE : Hid (proofE l j = (proofL l j, 0)) := by
      show _ = _
      unfold proofE
      rw [if_pos ⟨by omega, by omega⟩, Int.toNat_natCast]
    by_cases h1 : l.length = 1
    · have HP : Hid (proofL l j = []) := proofL_one (by omega) j
      rw [HP.out] at HE
      rw [h1] at hi1 ⊢
      clear hrec hS hL
      have d0 : decide ((j : Int) < 0) = false := by simp
      have d1 : ¬ (1 ≤ (j : Int)) := by omega
      have d2 : decide (1 ≤ j) = false := by simp; omega
      go_enter Tryz.func52, Tryz.ntmps52
      go_wp2
      go_ret2
      exact ⟨_, by rw [HE.out]; rfl, by rw [HE.out]; exact OwnS.nil _ _, Below.refl _ _⟩
    · have h2 : 2 ≤ l.length := by omega
      have hlb := leftN_bd h2
      obtain ⟨b, off, ha⟩ := hL.addr (by omega)
      subst ha
      have hTk := hL.take (leftN l.length) (by omega)
      have hDr := hL.drop (leftN l.length) (by omega)
      have HLo := Lib.hid (fun h => proofL_lo (l := l) (i := j) h2 h)
      have HHi := Lib.hid (fun h => proofL_hi (l := l) (i := j) h2 h)
      have HTk := Lib.hid (fun W (hW : Below w.heap.size w W) => hTk.later hW (Nat.le_refl _))
      have HDr := Lib.hid (fun W (hW : Below w.heap.size w W) => hDr.later hW (Nat.le_refl _))
      have HRk := Lib.hid (fun W (hW : Below w.heap.size w W) => (refRoot_any l.length (l.take (leftN l.length)) _ W (by rw [List.length_take]; omega) (hS.take _) (hTk.later hW (Nat.le_refl _))).mono fun e w' (h : _ ∧ _) => And.intro h.1 h.2)
      have HRd := Lib.hid (fun W (hW : Below w.heap.size w W) => (refRoot_any l.length (l.drop (leftN l.length)) _ W (by rw [List.length_drop]; omega) (hS.drop _) (hDr.later hW (Nat.le_refl _))).mono fun e w' (h : _ ∧ _) => And.intro h.1 h.2)
      have HP1 := Lib.hid (fun h : j < leftN l.length => hrec (l.take (leftN l.length)) j _ w (by rw [List.length_take]; omega) (Int.le_refl _) (hS.take _) hTk)
      have HP2 := Lib.hid (fun h : ¬ j < leftN l.length => hrec (l.drop (leftN l.length)) (j - leftN l.length) _ w (by rw [List.length_drop]; omega) (by omega) (hS.drop _) hDr)
      have HE1 : Hid (j < leftN l.length → proofE (l.take (leftN l.length)) j = (proofL (l.take (leftN l.length)) j, 0)) := fun h => by
        unfold proofE
        rw [if_pos ⟨by omega, by rw [List.length_take]; omega⟩, Int.toNat_natCast]
      have HE2 : Hid (¬ j < leftN l.length → proofE (l.drop (leftN l.length)) ((j - leftN l.length : Nat) : Int) = (proofL (l.drop (leftN l.length)) (j - leftN l.length), 0)) := fun h => by
        unfold proofE
        rw [if_pos ⟨by omega, by rw [List.length_drop]; omega⟩, Int.toNat_natCast]
      have hpl1 : (proofL (l.take (leftN l.length)) j).length ≤ 100000 := Nat.le_trans (proofL_short l.length _ _ 17 (by rw [List.length_take]; omega) (by rw [List.length_take]; have := hS.1; show _ ≤ 131072; omega)) (by decide)
      have hpl2 : (proofL (l.drop (leftN l.length)) (j - leftN l.length)).length ≤ 100000 := Nat.le_trans (proofL_short l.length _ _ 17 (by rw [List.length_drop]; omega) (by rw [List.length_drop]; have := hS.1; show _ ≤ 131072; omega)) (by decide)
      have HLt := Lib.hid (fun W => refLeft_any l.length W h2 (by omega))
      clear hrec hS hTk hDr hL
      generalize l.length = N at *
      generalize leftN N = K at *
      generalize l.take K = lt at *
      generalize l.drop K = ld at *
      have e1 : (K : Int) ≤ (N : Int) := by omega
      have e3 : (K : Int) ≤ (c : Int) := by omega
      have e4 : (N : Int) ≤ (c : Int) := by omega
      have hn1 : ((N : Int) == 1) = false := by simp; omega
      have d0 : decide ((j : Int) < 0) = false := by simp
      have d1 : decide (N ≤ j) = false := by simp; omega
      by_cases hjk : j < K
      · have HP := Lib.hid (HP1.out hjk)
        rw [HE1.out hjk] at HP
        have HPl := Lib.hid (HLo.out hjk)
        have djk : decide ((j : Int) < (K : Int)) = true := by simp; omega
        clear HP1 HP2 HE1 HE2 HLo HHi
        generalize proofL lt j = p at *
        go_enter Tryz.func52, Tryz.ntmps52
        go_wp2_with (go_at_call 61; refine (HLt.out _).mono ?_; rintro e w' ⟨rfl, rfl⟩)
        refine HP.out.mono ?_
        rintro e w2 ⟨vp, rfl, hO, hb2⟩
        have HO := Lib.hid hO
        have HB2 := Lib.hid hb2
        clear hO
        go_wp2_with fail
        refine (HRd.out w2 HB2.out).mono ?_
        rintro e w3 ⟨rfl, hb3⟩
        have HO3 := Lib.hid (HO.out.below hb3 (Nat.le_refl _))
        have hB3 : Below w.heap.size w w3 := HB2.out.trans (hb3.mono HB2.out.size)
        go_wp2_with (at_builtin; refine append_S rfl _ _ rfl w.heap.size vp p (rootL ld) rfl rfl HO3.out (by omega) hB3.size w hB3 ?_; intro v5 w5 hO5 hg5 hb5)
        go_ret2
        exact ⟨_, by rw [HE.out]; rfl, by rw [HE.out, HPl.out]; exact hO5, hb5⟩
      · have HP := Lib.hid (HP2.out hjk)
        rw [HE2.out hjk] at HP
        have HPl := Lib.hid (HHi.out hjk)
        have djk : decide ((j : Int) < (K : Int)) = false := by simp; omega
        have w3' : IntKind.i64.wrap ((j : Int) - (K : Int)) = ((j - K : Nat) : Int) := by rw [IntWalk.i64_in _ (by omega)]; omega
        clear HP1 HP2 HE1 HE2 HLo HHi
        generalize j - K = j' at *
        generalize proofL ld j' = p at *
        go_enter Tryz.func52, Tryz.ntmps52
        go_wp2_with (go_at_call 61; refine (HLt.out _).mono ?_; rintro e w' ⟨rfl, rfl⟩)
        refine HP.out.mono ?_
        rintro e w2 ⟨vp, rfl, hO, hb2⟩
        have HO := Lib.hid hO
        have HB2 := Lib.hid hb2
        clear hO
        go_wp2_with fail
        refine (HRk.out w2 HB2.out).mono ?_
        rintro e w3 ⟨rfl, hb3⟩
        have HO3 := Lib.hid (HO.out.below hb3 (Nat.le_refl _))
        have hB3 : Below w.heap.size w w3 := HB2.out.trans (hb3.mono HB2.out.size)
        go_wp2_with (at_builtin; refine append_S rfl _ _ rfl w.heap.size vp p (rootL lt) rfl rfl HO3.out (by omega) hB3.size w hB3 ?_; intro v5 w5 hO5 hg5 hb5)
        go_ret2
        exact ⟨_, by rw [HE.out]; rfl, by rw [HE.out, HPl.out]; exact hO5, hb5⟩
  · have HE : Hid (proofE l i = ([], 2)) := by show _ = _; unfold proofE; rw [if_neg hin]
    clear hrec hS hL
    by_cases h0 : i < 0
    · have d0 : decide (i < 0) = true := by simp; omega
      go_enter Tryz.func52, Tryz.ntmps52
      go_wp2
      go_ret2
      exact ⟨_, by rw [HE.out]; rfl, by rw [HE.out]; exact OwnS.nil _ _, Below.refl _ _⟩
    · have d0 : decide (i < 0) = false := by simp; omega
      have d1 : decide ((l.length : Int) ≤ i) = true := by simp; omega
      generalize l.length = N at *
      go_enter Tryz.func52, Tryz.ntmps52
      go_wp2
      go_ret2
      exact ⟨_, by rw [HE.out]; rfl, by rw [HE.out]; exact OwnS.nil _ _, Below.refl _ _⟩
theorem refProof_any : ∀ (N : Nat) (l : List Bytes) (i : Int) (v : Value) (w : World), l.length ≤ N → Sm l → StrsAt w.heap.size w v l → I64 i →
    Calls Tryz.prog 52 #[v, .int .i64 i] w fun e w' => ∃ vp, e = .returned (.tuple #[vp, .int .i64 (proofE l i).2]) ∧ OwnS w.heap.size w' vp (proofE l i).1 ∧ Below w.heap.size w w'
  | 0, l, i, v, w, hN, hS, hL, hi => refProof_step l i v w hS hL hi (fun l' i' v' W h _ _ _ => absurd h (by omega))
  | N + 1, l, i, v, w, hN, hS, hL, hi => refProof_step l i v w hS hL hi (fun l' i' v' W h hi' hS' hL' => refProof_any N l' i' v' W (by omega) hS' hL' (by unfold I64 at *; omega))
end Go.Proofs.YthfenbdlolbikaaGreatDoor
