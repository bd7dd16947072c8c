/- Busiest of an index. -/
import Derived.Test.YtcgopilkajfghaaGreatDoorIProf
set_option linter.unusedVariables false
set_option linter.unusedSimpArgs false
namespace Go.Proofs.YtcgopilkajfghaaGreatDoor
open Go.RowKit Go.Shelf

abbrev levV (q : ILev) : Value := .agg #[.int .i64 (q.beg : Nat), .int .i64 (q.fin : Nat), .int .i64 q.cnt]
abbrev levC (q : ILev) : Array Value := #[.int .i64 (q.beg : Nat), .int .i64 (q.fin : Nat), .int .i64 q.cnt]
def busS (b q : ILev) : ILev := if b.cnt < q.cnt ∨ b.fin = 0 then q else b
/-- The first level with the greatest count. -/
def busE (L : List ILev) : ILev := L.foldl busS ⟨0, 0, 0⟩
theorem busE_next {L : List ILev} {k : Nat} (h : k < L.length) : busE (L.take (k + 1)) = busS (busE (L.take k)) (L.getD k default) := by
  have e : L.take (k + 1) = L.take k ++ [L.getD k default] := by
    rw [List.take_add_one, List.getD_eq_getElem?_getD, List.getElem?_eq_getElem h]
    rfl
  unfold busE
  rw [e, List.foldl_append]
  rfl
theorem levs_at {B : Nat} {w : World} {a : Option Addr} {n c : Nat} {l : List ILev} (h : RowsAt levK B w (.slice a n c) l) (j : Nat) (x : ILev) (hj : l[j]? = some x) : ∃ b off, a = some ⟨b, off, none⟩ ∧ b < B ∧ w.cell? ⟨b, off + j * 3, none⟩ = some (.int .i64 (x.beg : Nat)) ∧ w.cell? ⟨b, off + j * 3 + 1, none⟩ = some (.int .i64 (x.fin : Nat)) ∧ w.cell? ⟨b, off + j * 3 + 2, none⟩ = some (.int .i64 x.cnt) := by
  obtain ⟨b, off, ha, hb, hc⟩ := h.at j x hj
  exact ⟨b, off, ha, hb, hc 0 _ rfl, hc 1 _ rfl, hc 2 _ rfl⟩
theorem box_set3 {g : Nat} {t : TypeId} {a b c x y z : Value} {W : World} (h : BoxN g t #[a, b, c] W) : BoxN g t #[x, y, z] (((W.setCell ⟨g, 0, none⟩ x).setCell ⟨g, 1, none⟩ y).setCell ⟨g, 2, none⟩ z) := ((h.set 0 x).set 1 y).set 2 z
theorem other_set3 {g g' : Nat} {t : TypeId} {cs : Array Value} {x y z : Value} {W : World} (h : BoxN g t cs W) (hne : g ≠ g') : BoxN g t cs (((W.setCell ⟨g', 0, none⟩ x).setCell ⟨g', 1, none⟩ y).setCell ⟨g', 2, none⟩ z) := ((h.other hne).other hne).other hne
theorem own_set3 {α : Type} {K : SK α} {base g : Nat} {x y z v : Value} {l : List α} {W : World} (h : OwnK K base W v l) (hne : v.ownBlock ≠ some g) : OwnK K base (((W.setCell ⟨g, 0, none⟩ x).setCell ⟨g, 1, none⟩ y).setCell ⟨g, 2, none⟩ z) v l := ((h.setOther hne 0 x).setOther hne 1 y).setOther hne 2 z
theorem below_set3 {B g : Nat} {x y z : Value} {w W : World} (h : Below B w W) (hg : B ≤ g) : Below B w (((W.setCell ⟨g, 0, none⟩ x).setCell ⟨g, 1, none⟩ y).setCell ⟨g, 2, none⟩ z) :=
  ((h.setCell (p := ⟨g, 0, none⟩) hg _).setCell (p := ⟨g, 1, none⟩) hg _).setCell (p := ⟨g, 2, none⟩) hg _
theorem size_set3 {g : Nat} {x y z : Value} {W : World} : (((W.setCell ⟨g, 0, none⟩ x).setCell ⟨g, 1, none⟩ y).setCell ⟨g, 2, none⟩ z).heap.size = W.heap.size := by rw [World.size_setCell, World.size_setCell, World.size_setCell]
set_option maxRecDepth 100000 in
set_option maxHeartbeats 2000000 in
theorem busy_gen (p : Value) (L : List ILev) (w : World) (hl : L.length ≤ 2100) (hp : ∀ V, Below w.heap.size w V → Calls Tryz.prog 28 #[p] V fun e w' => ∃ v, e = .returned v ∧ OwnK levK V.heap.size w' v L ∧ Below V.heap.size V w') :
    Calls Tryz.prog 30 #[p] w fun e w' => e = .returned (levV (busE L)) ∧ Below w.heap.size w w' := by
  obtain ⟨V, hV⟩ : ∃ V, V = (w.alloc (.cells #[.int .i64 0, .int .i64 0, .int .i64 0] 60)).alloc (.cells #[.int .i64 0, .int .i64 0, .int .i64 0] 60) := ⟨_, rfl⟩
  have HB0 : Hid (Below w.heap.size w V) := by show Below _ _ _; rw [hV]; exact ((Below.refl _ _).alloc (Nat.le_refl _) _).alloc (by simp) _
  have HR0 : Hid (BoxN w.heap.size 60 #[.int .i64 0, .int .i64 0, .int .i64 0] V) := by show BoxN _ _ _ _; rw [hV]; exact (box_new w 60 _).alloc _
  have HM0 : Hid (BoxN (w.heap.size + 1) 60 #[.int .i64 0, .int .i64 0, .int .i64 0] V) := by
    show BoxN _ _ _ _
    have h := box_new (w.alloc (.cells #[.int .i64 0, .int .i64 0, .int .i64 0] 60)) 60 #[.int .i64 0, .int .i64 0, .int .i64 0]
    rw [World.size_alloc] at h
    rw [hV]; exact h
  have HP := Lib.hid (hp V HB0.out)
  have HVe := Lib.hid hV
  clear hp hV
  go_enter Tryz.func30, Tryz.ntmps30
  go_wp2_with fail
  rw [← HVe.out]
  refine HP.out.mono ?_
  rintro e w1 ⟨v, rfl, ho, hb⟩
  have hVs : V.heap.size = w.heap.size + 2 := by rw [HVe.out]; simp
  have HR1 : Hid (BoxN w.heap.size 60 #[.int .i64 0, .int .i64 0, .int .i64 0] w1) := BoxN.below HR0.out hb (by omega)
  have HM1 : Hid (BoxN (w.heap.size + 1) 60 #[.int .i64 0, .int .i64 0, .int .i64 0] w1) := BoxN.below HM0.out hb (by omega)
  have HO1 : Hid (OwnK levK (w.heap.size + 2) w1 v L) := ho.mono (by omega)
  have HB1 := Lib.hid (HB0.out.trans (hb.mono HB0.out.size))
  have hs1 := hb.size
  have HVs := Lib.hid hVs
  have HW1 : Hid (w.heap.size + 2 ≤ w1.heap.size) := by show _ ≤ _; omega
  obtain ⟨oa, oc, hov, hlc, hcm⟩ := ho.shape
  subst hov
  unfold maxLen at hcm
  clear ho hb hVs hs1 HP HR0 HM0 HB0
  have HL := Lib.hid hl
  generalize hn : L.length = n at *
  have HN := Lib.hid hn
  clear hn
  go_wp2
  clear HVe
  go_loopw [9] (fun i wr => ∃ (k : Nat) (B : ILev), k ≤ n ∧ i = .int .i64 k ∧ Hid (busE (L.take k) = B) ∧ Hid (BoxN (w.heap.size + 1) 60 (levC B) wr) ∧ Hid (BoxN w.heap.size 60 #[.int .i64 0, .int .i64 0, .int .i64 0] wr) ∧ Hid (OwnK levK (w.heap.size + 2) wr (.slice oa n oc) L) ∧ Hid (Below w.heap.size w wr)) (fun i _ => n - (intOf i).toNat)
  case atStart => exact ⟨0, ⟨0, 0, 0⟩, Nat.zero_le _, rfl, Lib.hid rfl, HM1, HR1, HO1, HB1⟩
  case round =>
    obtain ⟨k, B, hk, rfl, HE, HM, HR, HO, HB⟩ := hrel
    obtain ⟨bb, hbb⟩ : ∃ bb : Int, bb = (B.beg : Nat) := ⟨_, rfl⟩
    obtain ⟨bf, hbf⟩ : ∃ bf : Int, bf = (B.fin : Nat) := ⟨_, rfl⟩
    obtain ⟨bc, hbc⟩ : ∃ bc : Int, bc = B.cnt := ⟨_, rfl⟩
    have hm : BoxN (w.heap.size + 1) 60 #[.int .i64 bb, .int .i64 bf, .int .i64 bc] wr := by rw [hbb, hbf, hbc]; exact HM.out
    have HBB := Lib.hid (⟨hbb, hbf, hbc⟩ : _ ∧ _ ∧ _)
    by_cases hlt : k < n
    · have kk : (k : Int) < (n : Int) := by omega
      have kz : 0 ≤ (k : Int) := by omega
      obtain ⟨q, hq⟩ : ∃ q, q = L.getD k default := ⟨_, rfl⟩
      have hget : L[k]? = some q := by rw [hq, List.getD_eq_getElem?_getD, List.getElem?_eq_getElem (by rw [HN.out]; exact hlt)]; rfl
      obtain ⟨gb, off, hae, hgb, e0, e1, e2⟩ := levs_at (HO.out.rows levKOk) k q hget
      subst hae
      have HNx : Hid (busE (L.take (k + 1)) = busS B q) := by show _ = _; rw [busE_next (by rw [HN.out]; exact hlt), HE.out, ← hq]
      obtain ⟨qb, hqb⟩ : ∃ x : Int, x = (q.beg : Nat) := ⟨_, rfl⟩
      obtain ⟨qf, hqf⟩ : ∃ x : Int, x = (q.fin : Nat) := ⟨_, rfl⟩
      obtain ⟨qc, hqc⟩ : ∃ x : Int, x = q.cnt := ⟨_, rfl⟩
      rw [← hqb] at e0
      rw [← hqf] at e1
      rw [← hqc] at e2
      have HQQ := Lib.hid (⟨hqb, hqf, hqc⟩ : _ ∧ _ ∧ _)
      have hwr : w.heap.size + 2 ≤ wr.heap.size := by have := HO.out; have h1 := hm.lt; have := HB.out.size; have h2 := World.ownsRow.lt HO.out gb rfl; omega
      have hne1 : wr.heap.size ≠ w.heap.size + 1 := by omega
      have hne2 : wr.heap.size ≠ w.heap.size := by omega
      obtain ⟨Wa, hWa⟩ : ∃ Wa, Wa = wr.alloc (.cells #[.int .i64 qb, .int .i64 qf, .int .i64 qc] 60) := ⟨_, rfl⟩
      have hma : BoxN (w.heap.size + 1) 60 #[.int .i64 bb, .int .i64 bf, .int .i64 bc] Wa := by rw [hWa]; exact hm.alloc _
      have HRa : Hid (BoxN w.heap.size 60 #[.int .i64 0, .int .i64 0, .int .i64 0] Wa) := by show BoxN _ _ _ _; rw [hWa]; exact HR.out.alloc _
      have HOa : Hid (OwnK levK (w.heap.size + 2) Wa (.slice (some ⟨gb, off, none⟩) n oc) L) := by show OwnK _ _ _ _ _; rw [hWa]; exact HO.out.kept (World.grownBy_alloc _ _ none) (fun g h => by cases h)
      have HBa : Hid (Below w.heap.size w Wa) := by show Below _ _ _; rw [hWa]; exact HB.out.alloc (by omega) _
      have HMa := Lib.hid hma
      obtain ⟨m0, m1, m2⟩ : Wa.cell? ⟨w.heap.size + 1, 0, none⟩ = some (.int .i64 bb) ∧ Wa.cell? ⟨w.heap.size + 1, 1, none⟩ = some (.int .i64 bf) ∧ Wa.cell? ⟨w.heap.size + 1, 2, none⟩ = some (.int .i64 bc) := ⟨BoxN.cell hma 0 _ rfl, BoxN.cell hma 1 _ rfl, BoxN.cell hma 2 _ rfl⟩
      have mf := BoxN.frozen hma
      have HWa := Lib.hid hWa
      rw [hWa] at m0 m1 m2 mf
      clear hm hma hWa hqb hqf hqc hbb hbf hbc hq hget
      have hcs : (bc < qc) ∨ (¬ (bc < qc) ∧ bf = 0) ∨ (¬ (bc < qc) ∧ ¬ bf = 0) := by omega
      rcases hcs with h1 | ⟨h1, h2⟩ | ⟨h1, h2⟩
      · have HNx2 : Hid (busE (L.take (k + 1)) = q) := by
          show _ = _
          rw [HNx.out, busS, if_pos]
          obtain ⟨e1, e2, e3⟩ := HBB.out
          obtain ⟨f1, f2, f3⟩ := HQQ.out
          left; omega
        have HWb : Hid (∀ W, W = (((Wa.setCell ⟨w.heap.size + 1, 0, none⟩ (.int .i64 qb)).setCell ⟨w.heap.size + 1, 1, none⟩ (.int .i64 qf)).setCell ⟨w.heap.size + 1, 2, none⟩ (.int .i64 qc)) → BoxN (w.heap.size + 1) 60 (levC q) W ∧ BoxN w.heap.size 60 #[.int .i64 0, .int .i64 0, .int .i64 0] W ∧ OwnK levK (w.heap.size + 2) W (.slice (some ⟨gb, off, none⟩) n oc) L ∧ Below w.heap.size w W) := by
          rintro W rfl
          obtain ⟨h1, h2, h3⟩ := HQQ.out
          refine ⟨?_, other_set3 HRa.out (by omega), own_set3 HOa.out (fun e => by have h := World.ownsRow.lt HOa.out _ e; omega), below_set3 HBa.out (by omega)⟩
          have h := box_set3 (x := .int .i64 qb) (y := .int .i64 qf) (z := .int .i64 qc) HMa.out
          rw [h1, h2, h3] at h ⊢
          exact h
        go_wp2
        rw [← HWa.out]
        clear m0 m1 m2 mf
        obtain ⟨g1, g2, g3, g4⟩ := HWb.out _ rfl
        go_roundw
        case rel => exact ⟨k + 1, q, by omega, by go_num, HNx2, Lib.hid g1, Lib.hid g2, Lib.hid g3, Lib.hid g4⟩
        case measure => simp [intOf]; omega
      · have HNx2 : Hid (busE (L.take (k + 1)) = q) := by
          show _ = _
          rw [HNx.out, busS, if_pos]
          obtain ⟨e1, e2, e3⟩ := HBB.out
          right; omega
        have d1 : decide (bf = 0) = true := decide_eq_true h2
        have d2 : (bf == 0) = true := by simpa using h2
        clear h2
        have HWb : Hid (∀ W, W = (((Wa.setCell ⟨w.heap.size + 1, 0, none⟩ (.int .i64 qb)).setCell ⟨w.heap.size + 1, 1, none⟩ (.int .i64 qf)).setCell ⟨w.heap.size + 1, 2, none⟩ (.int .i64 qc)) → BoxN (w.heap.size + 1) 60 (levC q) W ∧ BoxN w.heap.size 60 #[.int .i64 0, .int .i64 0, .int .i64 0] W ∧ OwnK levK (w.heap.size + 2) W (.slice (some ⟨gb, off, none⟩) n oc) L ∧ Below w.heap.size w W) := by
          rintro W rfl
          obtain ⟨h1, h2, h3⟩ := HQQ.out
          refine ⟨?_, other_set3 HRa.out (by omega), own_set3 HOa.out (fun e => by have h := World.ownsRow.lt HOa.out _ e; omega), below_set3 HBa.out (by omega)⟩
          have h := box_set3 (x := .int .i64 qb) (y := .int .i64 qf) (z := .int .i64 qc) HMa.out
          rw [h1, h2, h3] at h ⊢
          exact h
        go_wp2
        rw [← HWa.out]
        clear m0 m1 m2 mf
        obtain ⟨g1, g2, g3, g4⟩ := HWb.out _ rfl
        go_roundw
        case rel => exact ⟨k + 1, q, by omega, by go_num, HNx2, Lib.hid g1, Lib.hid g2, Lib.hid g3, Lib.hid g4⟩
        case measure => simp [intOf]; omega
      · have HNx2 : Hid (busE (L.take (k + 1)) = B) := by
          show _ = _
          rw [HNx.out, busS, if_neg]
          obtain ⟨e1, e2, e3⟩ := HBB.out
          obtain ⟨f1, f2, f3⟩ := HQQ.out
          omega
        have hMb : Hid (BoxN (w.heap.size + 1) 60 (levC B) Wa) := by
          obtain ⟨e1, e2, e3⟩ := HBB.out
          show BoxN _ _ _ _
          have h := HMa.out
          rw [e1, e2, e3] at h
          exact h
        go_wp2
        rw [← HWa.out]
        clear m0 m1 m2 mf
        go_roundw
        case rel => exact ⟨k + 1, B, by omega, by go_num, HNx2, hMb, HRa, HOa, HBa⟩
        case measure => simp [intOf]; omega
    · obtain rfl : k = n := by omega
      have kk : ¬ ((k : Int) < (k : Int)) := by omega
      have HEe : Hid (busE L = B) := by
        have h := HE.out
        rwa [List.take_of_length_le (by rw [HN.out]; exact Nat.le_refl _)] at h
      obtain ⟨m0, m1, m2⟩ : wr.cell? ⟨w.heap.size + 1, 0, none⟩ = some (.int .i64 bb) ∧ wr.cell? ⟨w.heap.size + 1, 1, none⟩ = some (.int .i64 bf) ∧ wr.cell? ⟨w.heap.size + 1, 2, none⟩ = some (.int .i64 bc) := ⟨BoxN.cell hm 0 _ rfl, BoxN.cell hm 1 _ rfl, BoxN.cell hm 2 _ rfl⟩
      obtain ⟨r0, r1, r2⟩ : wr.cell? ⟨w.heap.size, 0, none⟩ = some (.int .i64 0) ∧ wr.cell? ⟨w.heap.size, 1, none⟩ = some (.int .i64 0) ∧ wr.cell? ⟨w.heap.size, 2, none⟩ = some (.int .i64 0) := ⟨BoxN.cell HR.out 0 _ rfl, BoxN.cell HR.out 1 _ rfl, BoxN.cell HR.out 2 _ rfl⟩
      have rf := BoxN.frozen HR.out
      have hne : w.heap.size ≠ w.heap.size + 1 := by omega
      have HWb : Hid (∀ W, W = (((wr.setCell ⟨w.heap.size, 0, none⟩ (.int .i64 bb)).setCell ⟨w.heap.size, 1, none⟩ (.int .i64 bf)).setCell ⟨w.heap.size, 2, none⟩ (.int .i64 bc)) → BoxN w.heap.size 60 (levC B) W ∧ Below w.heap.size w W) := by
        rintro W rfl
        obtain ⟨h1, h2, h3⟩ := HBB.out
        refine ⟨?_, below_set3 HB.out (Nat.le_refl _)⟩
        have h := box_set3 (x := .int .i64 bb) (y := .int .i64 bf) (z := .int .i64 bc) HR.out
        rw [h1, h2, h3] at h ⊢
        exact h
      clear hm hbb hbf hbc hlt
      go_wp2
      clear m0 m1 m2 r0 r1 r2 rf
      obtain ⟨g1, g2⟩ := HWb.out _ rfl
      refine bodyPost_ret (v := .agg (levC B)) (results_cell_row rfl _ _ w.heap.size 60 (levC B) (0, 0) _ rfl g1 Tryz.underlying60 rfl (by kernel_rfl)) rfl ⟨?_, g2⟩
      rw [HEe.out]
theorem busiest_any {S : Nat → Prop} {X : Nat} {l : List ICard} (w : World) (hN : IdxN S X l w) :
    Calls Tryz.prog 30 #[.pointer (some ⟨X, 0, none⟩)] w fun e w' => e = .returned (levV (busE (levsR (fun y : Nat => (cntY l (y : Int) : Int)) 2100))) ∧ Below w.heap.size w w' :=
  busy_gen _ _ w (levs_len _ 2100) fun V hV => profile_any V (hN.below hV)
set_option maxRecDepth 100000 in
theorem profile_nil (w : World) : Calls Tryz.prog 28 #[.pointer none] w fun e w' => e = .returned (.slice none 0 0) ∧ w' = w := by
  go_enter Tryz.func28, Tryz.ntmps28
  go_wp2
  go_ret
  exact ⟨rfl, rfl⟩
theorem busiest_nil (w : World) : Calls Tryz.prog 30 #[.pointer none] w fun e w' => e = .returned (levV ⟨0, 0, 0⟩) ∧ Below w.heap.size w w' :=
  busy_gen _ [] w (by simp) fun V hV => (profile_nil V).mono fun e w' ⟨h1, h2⟩ => ⟨_, h1, OwnK.nil _ _, by rw [h2]; exact Below.refl _ _⟩
end Go.Proofs.YtcgopilkajfghaaGreatDoor
