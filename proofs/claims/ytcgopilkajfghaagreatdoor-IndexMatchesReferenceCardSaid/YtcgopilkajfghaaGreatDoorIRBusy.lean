/- The reference's Busiest. -/
import Derived.Test.YtcgopilkajfghaaGreatDoorIRProf
set_option linter.unusedVariables false
set_option linter.unusedSimpArgs false
namespace Go.Proofs.YtcgopilkajfghaaGreatDoor
open Go.RowKit Go.Shelf

def busG (b q : ILev) : ILev := if b.cnt < q.cnt then q else b
/-- As the reference goes: from the first level on. -/
def busH (L : List ILev) : ILev := L.foldl busG (L.getD 0 default)
theorem busH_next {L : List ILev} {k : Nat} (h : k < L.length) (b : ILev) : (L.take (k + 1)).foldl busG b = busG ((L.take k).foldl busG b) (L.getD k default) := by
  have e : L.take (k + 1) = L.take k ++ [L.getD k default] := by
    rw [List.take_add_one, List.getD_eq_getElem?_getD, List.getElem?_eq_getElem h]
    rfl
  rw [e, List.foldl_append]
  rfl
theorem busG_fold : ∀ (L : List ILev) (b : ILev), 0 < b.fin → (∀ q ∈ L, 0 < q.fin) → L.foldl busG b = L.foldl busS b
  | [], _, _, _ => rfl
  | q :: L, b, hb, h => by
    have e : busG b q = busS b q := by
      unfold busG busS
      by_cases h1 : b.cnt < q.cnt
      · rw [if_pos h1, if_pos (.inl h1)]
      · rw [if_neg h1, if_neg (by omega)]
    have hq := h q (by simp)
    show List.foldl busG (busG b q) L = List.foldl busS (busS b q) L
    rw [e]
    refine busG_fold L _ ?_ fun x hx => h x (by simp [hx])
    unfold busS
    split <;> assumption
theorem busH_eq {L : List ILev} (hn : 0 < L.length) (h : ∀ q ∈ L, 0 < q.fin) : busH L = busE L := by
  match L, hn with
  | q :: L, _ =>
    have hq := h q (by simp)
    unfold busH busE
    show List.foldl busG (busG q q) L = List.foldl busS (busS ⟨0, 0, 0⟩ q) L
    have e1 : busG q q = q := by unfold busG; rw [if_neg (by omega)]
    have e2 : busS ⟨0, 0, 0⟩ q = q := by unfold busS; rw [if_pos (.inr rfl)]
    rw [e1, e2]
    exact busG_fold L q hq fun x hx => h x (by simp [hx])
theorem levs_pos (f : Nat → Int) (m : Nat) : ∀ q ∈ levsR f m, 0 < q.fin := fun q hq => by
  obtain ⟨i, hi, rfl⟩ := List.getElem_of_mem hq
  obtain ⟨h1, _⟩ := (levs_ok f m).chain.1 i hi
  omega
theorem levs_some (f : Nat → Int) {m : Nat} (hm : 0 < m) : 0 < (levsR f m).length := by
  rcases Nat.eq_zero_or_pos (levsR f m).length with h | h
  · have := (levs_ok f m).chain.2.1 (List.eq_nil_of_length_eq_zero h)
    omega
  · exact h
theorem rb_drewN {B : Nat} {w W : World} (h : Below B w W) (n : Nat) : Below B w (W.drewN n) := ⟨h.os, h.tape, h.output, h.size, h.block⟩
set_option maxRecDepth 100000 in
set_option maxHeartbeats 2000000 in
theorem rbusy_gen (p : Value) (L : List ILev) (w : World) (hl : L.length ≤ 2100) (h0 : 0 < L.length) (hp : ∀ V, Below w.heap.size w V → Calls Tryz.prog 29 #[p] V fun e w' => ∃ v, e = .returned v ∧ OwnK levK V.heap.size w' v L ∧ Below V.heap.size V w') :
    Calls Tryz.prog 31 #[p] w fun e w' => e = .returned (levV (busH L)) ∧ Below w.heap.size w w' := by
  obtain ⟨V, hV⟩ : ∃ V, V = w.alloc (.cells #[.int .i64 0, .int .i64 0, .int .i64 0] 60) := ⟨_, rfl⟩
  have HB0 : Hid (Below w.heap.size w V) := by show Below _ _ _; rw [hV]; exact (Below.refl _ _).alloc (Nat.le_refl _) _
  have HR0 : Hid (BoxN w.heap.size 60 #[.int .i64 0, .int .i64 0, .int .i64 0] V) := by show BoxN _ _ _ _; rw [hV]; exact box_new w 60 _
  have HP := Lib.hid (hp V HB0.out)
  have HVe := Lib.hid hV
  clear hp hV
  go_enter Tryz.func31, Tryz.ntmps31
  go_wp2_with fail
  rw [← HVe.out]
  refine HP.out.mono ?_
  rintro e w1 ⟨v, rfl, ho, hb⟩
  have hVs : V.heap.size = w.heap.size + 1 := by rw [HVe.out]; simp
  have HR1 : Hid (BoxN w.heap.size 60 #[.int .i64 0, .int .i64 0, .int .i64 0] w1) := BoxN.below HR0.out hb (by omega)
  have HB1 := Lib.hid (HB0.out.trans (hb.mono HB0.out.size))
  have hw1 : w.heap.size + 1 ≤ w1.heap.size := by have := hb.size; omega
  have HO1 := Lib.hid (ho.mono (show w.heap.size + 1 ≤ V.heap.size by omega))
  obtain ⟨oa, oc, hov, hlc, hcm⟩ := ho.shape
  subst hov
  unfold maxLen at hcm
  obtain ⟨q0, hq0⟩ : ∃ q, q = L.getD 0 default := ⟨_, rfl⟩
  have hg0 : L[0]? = some q0 := by rw [hq0, List.getD_eq_getElem?_getD, List.getElem?_eq_getElem h0]; rfl
  obtain ⟨gb, off, hae, hgb, e0, e1, e2⟩ := levs_at (ho.rows levKOk) 0 q0 hg0
  rw [Nat.zero_mul, Nat.add_zero] at e0 e1 e2
  subst hae
  have HQ0 : Hid (L.getD 0 default = q0) := hq0.symm
  obtain ⟨qb, hqb⟩ : ∃ x : Int, x = (q0.beg : Nat) := ⟨_, rfl⟩
  obtain ⟨qf, hqf⟩ : ∃ x : Int, x = (q0.fin : Nat) := ⟨_, rfl⟩
  obtain ⟨qc, hqc⟩ : ∃ x : Int, x = q0.cnt := ⟨_, rfl⟩
  rw [← hqb] at e0
  rw [← hqf] at e1
  rw [← hqc] at e2
  have HQQ := Lib.hid (⟨hqb, hqf, hqc⟩ : _ ∧ _ ∧ _)
  clear ho hb hVs HP HR0 HB0 hq0 hg0 hqb hqf hqc
  have HL := Lib.hid hl
  generalize hn : L.length = n at *
  have HN := Lib.hid hn
  clear hn
  have n0 : (0 : Int) < (n : Int) := by omega
  obtain ⟨W2, hW2⟩ : ∃ W, W = w1.alloc (.cells #[.int .i64 qb, .int .i64 qf, .int .i64 qc] 60) := ⟨_, rfl⟩
  have HW2 := Lib.hid hW2
  have HM2 : Hid (BoxN w1.heap.size 60 (levC q0) W2) := by
    show BoxN _ _ _ _
    obtain ⟨h1, h2, h3⟩ := HQQ.out
    rw [HW2.out]
    have h := box_new w1 60 #[.int .i64 qb, .int .i64 qf, .int .i64 qc]
    rw [h1, h2, h3] at h ⊢
    exact h
  have HR2 : Hid (BoxN w.heap.size 60 #[.int .i64 0, .int .i64 0, .int .i64 0] W2) := by show BoxN _ _ _ _; rw [HW2.out]; exact HR1.out.alloc _
  have HO2 : Hid (OwnK levK (w.heap.size + 1) W2 (.slice (some ⟨gb, off, none⟩) n oc) L) := by show OwnK _ _ _ _ _; rw [HW2.out]; exact HO1.out.kept (World.grownBy_alloc _ _ none) (fun g h => by cases h)
  have HB2 : Hid (Below w.heap.size w W2) := by show Below _ _ _; rw [HW2.out]; exact HB1.out.alloc (by omega) _
  obtain ⟨mb, hmb⟩ : ∃ b, b = w1.heap.size := ⟨_, rfl⟩
  have HMb : Hid (w.heap.size < mb ∧ gb < mb ∧ gb ≠ w.heap.size) := by
    have h2 := World.ownsRow.lt HO1.out gb rfl
    show _ ∧ _ ∧ _
    omega
  clear hW2 HR1 HO1 HB1
  go_wp2
  rw [← HW2.out]
  rw [← hmb] at HM2 ⊢
  clear HW2 e0 e1 e2 hmb
  go_loopw [5] (fun i wr => ∃ (k : Nat) (B : ILev), k ≤ n ∧ i = .int .i64 k ∧ Hid ((L.take k).foldl busG q0 = B) ∧ Hid (BoxN mb 60 (levC B) wr) ∧ Hid (BoxN w.heap.size 60 #[.int .i64 0, .int .i64 0, .int .i64 0] wr) ∧ Hid (OwnK levK (w.heap.size + 1) wr (.slice (some ⟨gb, off, none⟩) n oc) L) ∧ Hid (Below w.heap.size w wr)) (fun i _ => n - (intOf i).toNat)
  case atStart => exact ⟨0, q0, Nat.zero_le _, rfl, Lib.hid rfl, HM2, HR2, HO2, HB2⟩
  case round =>
    obtain ⟨k, B, hk, rfl, HE, HM, HR, HO, HB⟩ := hrel
    obtain ⟨bb, hbb⟩ : ∃ bb : Int, bb = (B.beg : Nat) := ⟨_, rfl⟩
    obtain ⟨bf, hbf⟩ : ∃ bf : Int, bf = (B.fin : Nat) := ⟨_, rfl⟩
    obtain ⟨bc, hbc⟩ : ∃ bc : Int, bc = B.cnt := ⟨_, rfl⟩
    have hm : BoxN mb 60 #[.int .i64 bb, .int .i64 bf, .int .i64 bc] wr := by rw [hbb, hbf, hbc]; exact HM.out
    have HBB := Lib.hid (⟨hbb, hbf, hbc⟩ : _ ∧ _ ∧ _)
    have HMa := Lib.hid hm
    obtain ⟨m0, m1, m2⟩ : wr.cell? ⟨mb, 0, none⟩ = some (.int .i64 bb) ∧ wr.cell? ⟨mb, 1, none⟩ = some (.int .i64 bf) ∧ wr.cell? ⟨mb, 2, none⟩ = some (.int .i64 bc) := ⟨BoxN.cell hm 0 _ rfl, BoxN.cell hm 1 _ rfl, BoxN.cell hm 2 _ rfl⟩
    have mf := BoxN.frozen hm
    by_cases hlt : k < n
    · have kk : (k : Int) < (n : Int) := by omega
      have kz : 0 ≤ (k : Int) := by omega
      obtain ⟨q, hq⟩ : ∃ q, q = L.getD k default := ⟨_, rfl⟩
      have hget : L[k]? = some q := by rw [hq, List.getD_eq_getElem?_getD, List.getElem?_eq_getElem (by rw [HN.out]; exact hlt)]; rfl
      obtain ⟨gb', off', hae, hgb', e0, e1, e2⟩ := levs_at (HO.out.rows levKOk) k q hget
      cases hae
      have HNx : Hid ((L.take (k + 1)).foldl busG q0 = busG B q) := by show _ = _; rw [busH_next (by rw [HN.out]; exact hlt), HE.out, ← hq]
      obtain ⟨qb, hqb⟩ : ∃ x : Int, x = (q.beg : Nat) := ⟨_, rfl⟩
      obtain ⟨qf, hqf⟩ : ∃ x : Int, x = (q.fin : Nat) := ⟨_, rfl⟩
      obtain ⟨qc, hqc⟩ : ∃ x : Int, x = q.cnt := ⟨_, rfl⟩
      rw [← hqb] at e0
      rw [← hqf] at e1
      rw [← hqc] at e2
      have HQQ := Lib.hid (⟨hqb, hqf, hqc⟩ : _ ∧ _ ∧ _)
      clear hm hqb hqf hqc hbb hbf hbc hq hget HE hgb'
      by_cases h1 : bc < qc
      · have HNx2 : Hid ((L.take (k + 1)).foldl busG q0 = q) := by
          show _ = _
          rw [HNx.out, busG, if_pos]
          obtain ⟨e1, e2, e3⟩ := HBB.out
          obtain ⟨f1, f2, f3⟩ := HQQ.out
          omega
        have HWb : Hid (∀ W, W = (((wr.setCell ⟨mb, 0, none⟩ (.int .i64 qb)).setCell ⟨mb, 1, none⟩ (.int .i64 qf)).setCell ⟨mb, 2, none⟩ (.int .i64 qc)) → BoxN mb 60 (levC q) W ∧ BoxN w.heap.size 60 #[.int .i64 0, .int .i64 0, .int .i64 0] W ∧ OwnK levK (w.heap.size + 1) W (.slice (some ⟨gb, off, none⟩) n oc) L ∧ Below w.heap.size w W) := by
          rintro W rfl
          obtain ⟨h1, h2, h3⟩ := HQQ.out
          have hmb := HMb.out
          refine ⟨?_, other_set3 HR.out (by omega), own_set3 HO.out (fun e => by have h : gb = mb := Option.some.inj e; omega), below_set3 HB.out (by omega)⟩
          have h := box_set3 (x := .int .i64 qb) (y := .int .i64 qf) (z := .int .i64 qc) HMa.out
          rw [h1, h2, h3] at h ⊢
          exact h
        go_wp2
        go_quiet (fail)
        go_wp2
        clear m0 m1 m2 mf e0 e1 e2
        obtain ⟨g1, g2, g3, g4⟩ := HWb.out _ rfl
        go_roundw
        case rel => exact ⟨k + 1, q, by omega, by go_num, HNx2, Lib.hid g1, Lib.hid g2, Lib.hid g3, ⟨g4.os, g4.tape, g4.output, g4.size, g4.block⟩⟩
        case measure => simp [intOf]; omega
      · have HNx2 : Hid ((L.take (k + 1)).foldl busG q0 = B) := by
          show _ = _
          rw [HNx.out, busG, if_neg]
          obtain ⟨e1, e2, e3⟩ := HBB.out
          obtain ⟨f1, f2, f3⟩ := HQQ.out
          omega
        go_wp2
        go_quiet (fail)
        go_wp2
        clear m0 m1 m2 mf e0 e1 e2
        go_roundw
        case rel => exact ⟨k + 1, B, by omega, by go_num, HNx2, HM, HR, HO, Lib.hid (rb_drewN HB.out _)⟩
        case measure => simp [intOf]; omega
    · obtain rfl : k = n := by omega
      have kk : ¬ ((k : Int) < (k : Int)) := by omega
      have HEe : Hid (busH L = B) := by
        have h := HE.out
        rw [List.take_of_length_le (by rw [HN.out]; exact Nat.le_refl _)] at h
        show _ = _
        unfold busH
        rw [HQ0.out]; exact h
      obtain ⟨r0, r1, r2⟩ : wr.cell? ⟨w.heap.size, 0, none⟩ = some (.int .i64 0) ∧ wr.cell? ⟨w.heap.size, 1, none⟩ = some (.int .i64 0) ∧ wr.cell? ⟨w.heap.size, 2, none⟩ = some (.int .i64 0) := ⟨BoxN.cell HR.out 0 _ rfl, BoxN.cell HR.out 1 _ rfl, BoxN.cell HR.out 2 _ rfl⟩
      have rf := BoxN.frozen HR.out
      have hne : w.heap.size ≠ mb := by have := HMb.out; omega
      have HWb : Hid (∀ W, W = (((wr.setCell ⟨w.heap.size, 0, none⟩ (.int .i64 bb)).setCell ⟨w.heap.size, 1, none⟩ (.int .i64 bf)).setCell ⟨w.heap.size, 2, none⟩ (.int .i64 bc)) → BoxN w.heap.size 60 (levC B) W ∧ Below w.heap.size w W) := by
        rintro W rfl
        obtain ⟨h1, h2, h3⟩ := HBB.out
        refine ⟨?_, below_set3 HB.out (Nat.le_refl _)⟩
        have h := box_set3 (x := .int .i64 bb) (y := .int .i64 bf) (z := .int .i64 bc) HR.out
        rw [h1, h2, h3] at h ⊢
        exact h
      clear hm hbb hbf hbc hlt
      go_wp2
      clear m0 m1 m2 r0 r1 r2 rf mf
      obtain ⟨g1, g2⟩ := HWb.out _ rfl
      refine bodyPost_ret (v := .agg (levC B)) (results_cell_row rfl _ _ w.heap.size 60 (levC B) (0, 0) _ rfl g1 Tryz.underlying60 rfl (by kernel_rfl)) rfl ⟨?_, g2⟩
      rw [HEe.out]
theorem rbusiest_any (v : Value) (l : List ICard) (w : World) (h : RowsAt cardK w.heap.size w v l) (hok : IOk l) :
    Calls Tryz.prog 31 #[v] w fun e w' => e = .returned (levV (busE (levsR (fun y : Nat => (cntY l (y : Int) : Int)) 2100))) ∧ Below w.heap.size w w' := by
  have h1 := rbusy_gen v _ w (levs_len (fun y : Nat => (cntY l (y : Int) : Int)) 2100) (levs_some _ (by omega)) fun V hV => rprofile_any v l V (h.later hV (Nat.le_refl _)) hok
  rw [busH_eq (levs_some _ (by omega)) (levs_pos _ _)] at h1
  exact h1
end Go.Proofs.YtcgopilkajfghaaGreatDoor
