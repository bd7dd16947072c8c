/- digest.Extension. -/
import Derived.Test.YteemhemnkdgehaaDoorDProof
namespace Go.Proofs.YteemhemnkdgehaaDoor
open Go.RowKit Go.Shelf

theorem rev_any (base : Nat) (v : Value) (out : List Bytes) (w : World) (h : OwnS base w v out) (hlen : out.length ≤ 2000000) :
    Calls Tryd.prog 41 #[v] w fun e w' => e = .returned (.tuple #[]) ∧ OwnS base w' v out.reverse ∧ ∀ B w0, B ≤ base → Below B w0 w → Below B w0 w' := by
  rcases h.shape with ⟨rfl, rfl⟩ | ⟨g6, cp6, rfl, h7, h8, _, _⟩
  · refine (Tryd.slices_Reverse_string_empty none 0 w).mono ?_
    rintro e w2 ⟨rfl, rfl⟩
    exact ⟨rfl, h, fun B w0 _ hb => hb⟩
  · have h1 := Tryd.slices_Reverse_string_cells g6 0 out.length cp6 (gB out) w (by omega) (fun i hi => by rw [Nat.zero_add]; exact h.cell i hi) (fun i hi => by rw [Nat.zero_add]; exact ownS_free h i)
    rw [strsOf_gB] at h1
    refine h1.mono ?_
    rintro e w2 ⟨rfl, q, rfl⟩
    have h2 := h.reversed q
    rw [List.length_reverse] at h2
    exact ⟨rfl, h2, fun B w0 hB hb => below_setCells _ _ (below_drewN0 hb q) (Nat.le_trans hB h7)⟩
/-- What Extension returns. -/
def extE (l : List Bytes) (m : Int) : List Bytes × Int := if 0 ≤ m ∧ m ≤ (l.length : Int) then (if m = 0 then ([], 0) else (partL l m.toNat true, 0)) else ([], 2)
set_option maxRecDepth 100000 in
set_option maxHeartbeats 1000000 in
theorem ext_any (v : Value) (l : List Bytes) (i : Int) (w : World) (hL : StrsAt w.heap.size w v l) (hlen : l.length ≤ 1000000) (hel : ∀ x ∈ l, x.length ≤ 274877906944) (hT : Rounds w) :
    Calls Tryd.prog 16 #[v, .int .i64 i] w fun e w' => ∃ vp, e = .returned (.tuple #[vp, .int .i64 (extE l i).2]) ∧ OwnS w.heap.size w' vp (extE l i).1 ∧ Below w.heap.size w w' := by
  obtain ⟨av, cv, rfl, hcv1, hcv2⟩ := hL.shape
  unfold maxLen at hcv2
  have HE : Hid (extE l i = if 0 ≤ i ∧ i ≤ (l.length : Int) then (if i = 0 then ([], 0) else (partL l i.toNat true, 0)) else ([], 2)) := rfl
  have HL := Lib.hid hL
  have HEl := Lib.hid hel
  have HT := Lib.hid hT
  clear hL hel hT
  generalize hn : l.length = n at *
  have Hn := Lib.hid hn
  clear hn
  by_cases h0 : 0 ≤ i
  · by_cases h1 : i ≤ (n : Int)
    · rw [if_pos ⟨h0, h1⟩] at HE
      obtain ⟨j, rfl⟩ := Int.eq_ofNat_of_zero_le h0
      rw [Int.toNat_natCast] at HE
      have d0 : decide ((j : Int) < 0) = false := by simp
      have d1 : decide (n < j) = false := by simp; omega
      by_cases hj0 : j = 0
      · subst hj0
        rw [if_pos (show ((0 : Nat) : Int) = 0 from rfl)] at HE
        go_enter Tryd.func16, Tryd.ntmps16
        go_wp2
        go_ret2
        exact ⟨_, by rw [HE.out]; rfl, by rw [HE.out]; exact OwnS.nil _ _, Below.refl _ _⟩
      · rw [if_neg (by omega)] at HE
        have d2 : (((j : Nat) : Int) == 0) = false := by simp; omega
        go_enter Tryd.func16, Tryd.ntmps16
        go_wp2
        clear d0 d1 d2 h0
        go_loopw [0, 1, 6, 7] (fun v0 v1 v6 v7 wr => ∃ (l' : List Bytes) (m : Nat) (out : List Bytes) (wh : Bool), v1 = .int .i64 m ∧ v7 = .bool wh ∧ StrsAt w.heap.size wr v0 l' ∧ 1 ≤ m ∧ m ≤ l'.length ∧ l'.length ≤ n ∧ (∀ x ∈ l', x ∈ l) ∧ OwnS w.heap.size wr v6 out ∧ out.length + l'.length ≤ n ∧ Hid (partL l j true = partL l' m wh ++ out.reverse) ∧ Below w.heap.size w wr) (fun v0 _ _ _ _ => lenOf v0)
        case atStart => exact ⟨l, j, [], true, rfl, rfl, HL.out, by omega, by rw [Hn.out]; omega, by rw [Hn.out]; exact Nat.le_refl _, fun x hx => hx, OwnS.nil _ _, by rw [Hn.out]; simp, by show _ = _; simp, Below.refl _ _⟩
        case round =>
          obtain ⟨l', m, out, wh, rfl, rfl, hS, hm1, hml, hl'n, hsub, hO, hol, HPr, hB⟩ := hrel
          obtain ⟨a0, c0, hv0, hc1, hc2⟩ := hS.shape
          unfold maxLen at hc2
          have hzB := hB.size
          have HSub := Lib.hid hsub
          have HO := Lib.hid hO
          clear hsub hO
          generalize hN : l'.length = N at *
          have HN := Lib.hid hN
          clear hN
          subst hv0
          have HS := Lib.hid hS
          by_cases hN1 : m = N
          · have HP1 : Hid (partL l j true = (if wh then [] else [rootL l']) ++ out.reverse) := by show _ = _; rw [HPr.out, partL_all hm1 (by rw [HN.out]; exact hN1)]
            have hlt : ¬ (m : Int) < (N : Int) := by omega
            have hlt' : ¬ m < N := by omega
            cases wh
            · go_wp2_with fail
              refine (root_any _ l' _ (HS.out.mono hzB) (by rw [HN.out]; omega) (fun x hx => HEl.out x (HSub.out x hx)) (HT.out.below hB (Nat.le_refl _))).mono ?_
              rintro e w2 ⟨rfl, hb2⟩
              have hz2 := hb2.size
              have HB2 : Hid (Below w.heap.size w w2) := hB.trans (hb2.mono hzB)
              have HO2 := Lib.hid (HO.out.below hb2 (Nat.le_refl _))
              clear hb2 HO
              go_wp2_with (first | (at_builtin; refine append_S rfl _ _ rfl w.heap.size u6 out (rootL l') rfl rfl HO2.out (by omega) (by omega) w HB2.out ?_; intro v5 w3 hO3 hg3 hb3; have HRv := Lib.hid (rev_any w.heap.size v5 _ w3 hO3 (by rw [List.length_append, List.length_singleton]; omega))) | (go_at_call 41; refine HRv.out.mono ?_; rintro e w4 ⟨rfl, hO4, hb4⟩))
              go_ret2
              exact ⟨_, by rw [HE.out]; rfl, by rw [HE.out]; show OwnS _ _ _ (partL l j true); rw [HP1.out]; rw [List.reverse_append] at hO4; exact hO4, hb4 _ _ (Nat.le_refl _) hb3⟩
            · have HRv := Lib.hid (rev_any w.heap.size u6 _ wr HO.out (by omega))
              go_wp2_with (go_at_call 41; refine HRv.out.mono ?_; rintro e w4 ⟨rfl, hO4, hb4⟩)
              go_ret2
              exact ⟨_, by rw [HE.out]; rfl, by rw [HE.out]; show OwnS _ _ _ (partL l j true); rw [HP1.out]; exact hO4, hb4 _ _ (Nat.le_refl _) hB⟩
          · have hlt : m < N := by omega
            obtain ⟨b0, off, ha0⟩ := hS.addr (by rw [HN.out]; omega)
            subst ha0
            have hb := leftN_bd (n := N) (by omega)
            have hLf := fun W => left_any (N : Int) W (by omega) (by omega)
            have HLf := Lib.hid hLf
            rw [Int.toNat_natCast] at HLf
            have HLo := Lib.hid (fun (h : m ≤ leftN l'.length) => partL_lo (l := l') (whole := wh) hm1 (by rw [HN.out]; omega) h)
            have HHi := Lib.hid (fun (h : ¬ m ≤ leftN l'.length) => partL_hi (l := l') (whole := wh) hm1 (by rw [HN.out]; omega) h)
            rw [HN.out] at HLo HHi
            generalize leftN N = K at *
            clear hLf hS
            have HTk := Lib.hid (HS.out.take K (by rw [HN.out]; omega))
            have HDr := Lib.hid (HS.out.drop K (by rw [HN.out]; omega))
            have e1 : (0 : Int) ≤ (K : Int) := by omega
            have e2 : (K : Int) ≤ (N : Int) := by omega
            have e3 : (K : Int) ≤ (c0 : Int) := by omega
            have e4 : (N : Int) ≤ (c0 : Int) := by omega
            by_cases hik : m ≤ K
            · have dk : decide (K < m) = false := by simp; omega
              go_wp2_with (go_at_call 40; refine (HLf.out _).mono ?_; rintro e w' ⟨rfl, rfl⟩)
              go_quiet (fail)
              go_wp2_with fail
              refine (root_any _ (l'.drop K) _ (show StrsAt (wr.drewN _).heap.size (wr.drewN _) _ _ from HDr.out.mono hzB) (by rw [List.length_drop, HN.out]; omega) (fun x hx => HEl.out x (HSub.out x (List.mem_of_mem_drop hx))) (HT.out.below (below_drewN0 hB _) (Nat.le_refl _))).mono ?_
              rintro e w2 ⟨rfl, hb2⟩
              have hb2' : Below wr.heap.size wr w2 := (below_drewN0 (Below.refl _ _) _).trans hb2
              have hz2 := hb2'.size
              have HB2 : Hid (Below w.heap.size w w2) := hB.trans (hb2'.mono hzB)
              have HO2 := Lib.hid (HO.out.below hb2' (Nat.le_refl _))
              have HTk2 := Lib.hid (HTk.out.below hb2' hzB)
              clear hb2 HO HTk
              go_wp2_with (at_builtin; refine append_S rfl _ _ rfl w.heap.size u6 out (rootL (l'.drop K)) rfl rfl HO2.out (by omega) (by omega) w HB2.out ?_; intro v5 w3 hO3 hg3 hb3)
              go_roundw
              case rel => exact ⟨l'.take K, m, out ++ [rootL (l'.drop K)], wh, rfl, rfl, HTk2.out.below (below_of_append (by omega) hg3 HO2.out) (Nat.le_refl _), hm1, by rw [List.length_take, HN.out]; omega, by rw [List.length_take, HN.out]; omega, fun x hx => HSub.out x (List.mem_of_mem_take hx), hO3, by rw [List.length_append, List.length_singleton, List.length_take, HN.out]; omega, by show _ = _; rw [HPr.out, HLo.out hik]; simp, hb3⟩
              case measure => simp [lenOf]; omega
            · have dk : decide (K < m) = true := by simp; omega
              have dw : IntKind.i64.wrap ((m : Int) - (K : Int)) = (m : Int) - (K : Int) := IntWalk.i64_in _ (by omega)
              go_wp2_with (go_at_call 40; refine (HLf.out _).mono ?_; rintro e w' ⟨rfl, rfl⟩)
              go_quiet (fail)
              go_wp2_with fail
              refine (root_any _ (l'.take K) _ (show StrsAt (wr.drewN _).heap.size (wr.drewN _) _ _ from HTk.out.mono hzB) (by rw [List.length_take, HN.out]; omega) (fun x hx => HEl.out x (HSub.out x (List.mem_of_mem_take hx))) (HT.out.below (below_drewN0 hB _) (Nat.le_refl _))).mono ?_
              rintro e w2 ⟨rfl, hb2⟩
              have hb2' : Below wr.heap.size wr w2 := (below_drewN0 (Below.refl _ _) _).trans hb2
              have hz2 := hb2'.size
              have HB2 : Hid (Below w.heap.size w w2) := hB.trans (hb2'.mono hzB)
              have HO2 := Lib.hid (HO.out.below hb2' (Nat.le_refl _))
              have HDr2 := Lib.hid (HDr.out.below hb2' hzB)
              clear hb2 HO HDr
              go_wp2_with (at_builtin; refine append_S rfl _ _ rfl w.heap.size u6 out (rootL (l'.take K)) rfl rfl HO2.out (by omega) (by omega) w HB2.out ?_; intro v5 w3 hO3 hg3 hb3)
              go_roundw
              case rel => exact ⟨l'.drop K, m - K, out ++ [rootL (l'.take K)], false, congrArg (Value.int .i64) (by omega), rfl, HDr2.out.below (below_of_append (by omega) hg3 HO2.out) (Nat.le_refl _), by omega, by rw [List.length_drop, HN.out]; omega, by rw [List.length_drop, HN.out]; omega, fun x hx => HSub.out x (List.mem_of_mem_drop hx), hO3, by rw [List.length_append, List.length_singleton, List.length_drop, HN.out]; omega, by show _ = _; rw [HPr.out, HHi.out hik]; simp, hb3⟩
              case measure => simp [lenOf]; omega
    · rw [if_neg (fun h => h1 h.2)] at HE
      have d0 : decide (i < 0) = false := by simp; omega
      have d1 : decide ((n : Int) < i) = true := by simp; omega
      go_enter Tryd.func16, Tryd.ntmps16
      go_wp2
      go_ret2
      exact ⟨_, by rw [HE.out]; rfl, by rw [HE.out]; exact OwnS.nil _ _, Below.refl _ _⟩
  · rw [if_neg (fun h => h0 h.1)] at HE
    have d0 : decide (i < 0) = true := by simp; omega
    go_enter Tryd.func16, Tryd.ntmps16
    go_wp2
    go_ret2
    exact ⟨_, by rw [HE.out]; rfl, by rw [HE.out]; exact OwnS.nil _ _, Below.refl _ _⟩
end Go.Proofs.YteemhemnkdgehaaDoor
