/- slices.Delete at one card. -/
import Derived.Test.YtcgopilkajfghaaGreatDoorIPlace
import Derived.WalkSpells
import Derived.Deep.RegionLaw
import Derived.Lib.SliceRun
import Derived.Lib.LazyBuf
set_option linter.unusedVariables false
set_option linter.unusedSimpArgs false
namespace Go.Proofs.YtcgopilkajfghaaGreatDoor
open Go.RowKit Go.Shelf

theorem own_of_heap {α : Type} {K : SK α} (ok : K.Ok) {base g cap : Nat} {W : World} {l : List α} {R : List Value} (h : W.heap[g]? = some (.cells (cellsK K l ++ R).toArray K.ty (0, 0))) (hb : base ≤ g) (hcap : l.length ≤ cap) (hm : cap ≤ maxLen) (hR : R.length = (cap - l.length) * K.size) :
    OwnK K base W (.slice (some ⟨g, 0, none⟩) l.length cap) l := by
  have hlc := cellsK_length ok l
  refine ⟨hlc, .inr ⟨g, cap, _, rfl, hb, h, hcap, hm, ?_, ?_⟩⟩
  · rw [List.size_toArray, List.length_append, hlc, hR, ← Nat.add_mul]
    congr 1
    omega
  · rw [← hlc, List.take_left]
/-- How a row stands when an element's later ones were copied over it and the last one was cleared. -/
theorem del_row {α : Type} {K : SK α} (ok : K.Ok) {base g cap i : Nat} {W : World} {l : List α} {S Z : List Value} (hg : W.heap[g]? = some (.cells (cellsK K l ++ S).toArray K.ty (0, 0))) (hi : i < l.length) (hb : base ≤ g) (hcap : l.length ≤ cap) (hm : cap ≤ maxLen) (hS : S.length = (cap - l.length) * K.size) (hZ : Z.length = K.size) :
    OwnK K base ((W.setCells g (i * K.size) (cellsK K (l.drop (i + 1)))).setCells g ((i + (l.length - (i + 1))) * K.size) Z) (.slice (some ⟨g, 0, none⟩) (i + (l.length - (i + 1))) cap) (l.take i ++ l.drop (i + 1)) := by
  have hA : (cellsK K (l.take i)).length = i * K.size := by rw [cellsK_length ok, List.length_take, Nat.min_eq_left (by omega)]
  have hB : (cellsK K (l.drop (i + 1))).length = (l.length - (i + 1)) * K.size := by rw [cellsK_length ok, List.length_drop]
  have hD : (cellsK K (l.drop i)).length = (l.length - (i + 1)) * K.size + K.size := by
    rw [cellsK_length ok, List.length_drop, ← Nat.succ_mul]
    congr 1
    omega
  obtain ⟨P, Y, hP, hPl, hY⟩ := take_drop_len hD
  have hAD : cellsK K l = cellsK K (l.take i) ++ cellsK K (l.drop i) := by rw [← cellsK_append, List.take_append_drop]
  rw [hAD, hP, List.append_assoc, List.append_assoc] at hg
  have g1 := heap_setMid (cellsK K (l.drop (i + 1))) (cellsK K (l.take i)) P (Y ++ S) W hg (by rw [hB, hPl])
  rw [hA, ← List.append_assoc] at g1
  have g2 := heap_setMid Z (cellsK K (l.take i) ++ cellsK K (l.drop (i + 1))) Y S _ g1 (by rw [hZ, hY])
  rw [List.length_append, hA, hB, ← Nat.add_mul, ← cellsK_append] at g2
  have hl : (l.take i ++ l.drop (i + 1)).length = i + (l.length - (i + 1)) := by rw [List.length_append, List.length_take, List.length_drop, Nat.min_eq_left (by omega)]
  have h := own_of_heap ok (cap := cap) (base := base) g2 hb (by rw [hl]; omega) hm (by
    rw [List.length_append, hZ, hS, hl, show cap - (i + (l.length - (i + 1))) = cap - l.length + 1 by omega, Nat.succ_mul]; omega)
  rw [hl] at h
  exact h
theorem run_clear_K {P : Program} (w : World) (t e ty : TypeId) (z : Value) (Z : List Value) (ht : P.underlying t = some (.slice e)) (hv : ∀ w, (zeroValue e).run P w = .ok z w) (b o n c : Nat) (hn : n = 1) (hZ : (Builtin.zeroCells z.cells 1).toList = Z) (h1 : ∀ u ∈ Z, u.oneCell' = true)
    (hc : ∀ j, j < Z.length → (w.cell? ⟨b, o + j, none⟩).isSome = true) (hf : ∀ j, j < Z.length → w.frozen? ⟨b, o + j, none⟩ = false) :
    (Builtin.clear_ #[t] ty #[.slice (some ⟨b, o, none⟩) n c]).run P w = .ok (.tuple #[]) (w.setCells b o Z) := by
  subst hn
  have hst := run_storeCells_cells (P := P) b o Z 0 w (by simpa using hc) (by simpa using hf) h1
  simp only [Nat.add_zero] at hst
  simp [Builtin.clear_, run_underlying ht, hv, hZ, hst]
set_option maxRecDepth 100000 in
set_option maxHeartbeats 4000000 in
theorem delete_any (g c : Nat) (l : List ICard) (i base : Nat) (w : World) (h : OwnK cardK base w (.slice (some ⟨g, 0, none⟩) l.length c) l) (hi : i < l.length) (hl : l.length ≤ 1000) :
    Calls Tryz.prog 47 #[.slice (some ⟨g, 0, none⟩) l.length c, .int .i64 i, .int .i64 ((i : Int) + 1)] w fun e w' => ∃ v', e = .returned v' ∧ OwnK cardK base w' v' (l.take i ++ l.drop (i + 1)) ∧ w.grownBy w' (some g) ∧ v'.ownBlock = some g := by
  obtain ⟨S, hg, _, hbg, hlc, hcm, hS⟩ := own_block cardOk h
  obtain ⟨i0, hi0, hz0, hz1, hz2⟩ := info_parts cardOk.info
  have hz1 : i0.size = 5 := hz1
  have hi0 : Tryz.prog.info? 35 = some i0 := hi0
  have hsz : (cellsK cardK l ++ S).length = c * 5 := by
    rw [List.length_append, hS, cellsK_length cardOk, ← Nat.add_mul]
    show _ * 5 = _
    congr 1
    omega
  have hcell : ∀ t, t < c * 5 → (w.drew.cell? ⟨g, t, none⟩).isSome = true ∧ w.drew.frozen? ⟨g, t, none⟩ = false := fun t ht => ⟨cells_some (W := w.drew) hg _ (by rw [hsz]; exact ht), Lib.frozen_of_heap (w := w.drew) hg _⟩
  obtain ⟨news, hnews⟩ : ∃ news, news = cellsK cardK (l.drop (i + 1)) := ⟨_, rfl⟩
  have hlen : news.length = (l.length - (i + 1)) * 5 := by rw [hnews, cellsK_length cardOk, List.length_drop]; rfl
  obtain ⟨A, hA, hsrc⟩ : ∃ A : Addr, (if c = i + 1 then some (⟨g, 0, none⟩ : Addr) else some ⟨g, (i + 1) * 5, none⟩) = some A ∧ Hid (∀ t u, news[t]? = some u → w.drew.cell? (A.add t) = some u) := by
    by_cases h : c = i + 1
    · refine ⟨⟨g, 0, none⟩, by simp [h], fun t u hu => ?_⟩
      have h0 : news.length = 0 := by rw [hlen]; omega
      rw [List.length_eq_zero_iff.1 h0] at hu
      simp at hu
    · refine ⟨⟨g, (i + 1) * 5, none⟩, by simp [h], fun t u hu => ?_⟩
      rw [hnews] at hu
      rw [Addr.add_lit]
      exact card_from (W := w.drew) hg (by omega) hu
  have s1 : Hid (news.length = (l.length - (i + 1)) * 5) := hlen
  have s2 : Hid (∀ u ∈ news, u.oneCell' = true) := fun u hu => by
    rw [hnews] at hu
    exact cellsK_one cardOk _ u hu
  have s3 : Hid (∀ t, t < news.length → (w.drew.cell? ⟨g, 0 + i * 5 + t, none⟩).isSome = true ∧ w.drew.frozen? ⟨g, 0 + i * 5 + t, none⟩ = false) := fun t ht => by
    rw [hlen] at ht
    exact hcell (0 + i * 5 + t) (by omega)
  obtain ⟨W1, hW1⟩ : ∃ W1, W1 = w.drew.setCells g (0 + i * 5) news := ⟨_, rfl⟩
  obtain ⟨Z, hZ⟩ : ∃ Z : List Value, Z = [.int .i64 0, .int .i64 0, .int .i64 0, .int .i64 0, .int .i64 0] := ⟨_, rfl⟩
  have hZl : Z.length = 5 := by rw [hZ]; rfl
  have hsp1 : ∀ k, k < c * 5 → (W1.cell? ⟨g, k, none⟩).isSome = true := fun k hk => by
    rw [hW1]
    exact isSome_setsK g _ _ w.drew (fun j hj => (s3.out j hj).1) _ (hcell k hk).1
  have hfr : ∀ x, W1.frozen? x = w.drew.frozen? x := fun x => by rw [hW1, World.frozen?_setCells]
  have hzv : ∀ w, (zeroValue 35).run Tryz.prog w = .ok (cardV cardZ) w := fun w => by
    obtain ⟨i1, hi1, hz3, _⟩ := info_parts cardOk.info
    have hi1 : Tryz.prog.info? 35 = some i1 := hi1
    simp [zeroValue, typeInfo, hi1, hz3]
    first | rfl | simp [cardK]
  have hcl : ∀ ty, (Builtin.clear_ #[23] ty #[.slice (some ⟨g, (i + (l.length - (i + 1))) * 5, none⟩) (l.length - (i + (l.length - (i + 1)))) (c - (i + (l.length - (i + 1))))]).run Tryz.prog W1 = .ok (.tuple #[]) (W1.setCells g ((i + (l.length - (i + 1))) * 5) Z) :=
    fun ty => run_clear_K W1 _ 35 ty (cardV cardZ) Z Tryz.underlying23 hzv g _ _ _ (by omega) (by rw [hZ]; first | kernel_rfl | (simp [Builtin.zeroCells, Value.cells]; rfl)) (by rw [hZ]; intro u hu; simp at hu; rw [hu]; rfl) (fun j hj => hsp1 _ (by omega)) (fun j hj => by rw [hfr]; exact (hcell _ (by omega)).2)
  have HF : Hid (OwnK cardK base (W1.setCells g ((i + (l.length - (i + 1))) * 5) Z) (.slice (some ⟨g, 0, none⟩) (i + (l.length - (i + 1))) c) (l.take i ++ l.drop (i + 1))) := by
    show OwnK _ _ _ _ _
    rw [hW1, hnews, Nat.zero_add]
    exact del_row cardOk (W := w.drew) hg hi hbg hlc hcm hS hZl
  have HBl : Hid (w.grownBy (W1.setCells g ((i + (l.length - (i + 1))) * 5) Z) (some g)) := by
    show w.grownBy _ _
    rw [hW1]
    exact grown_setsK _ _ (grown_setsK _ _ (grown_drew w _))
  have hW : Hid (W1 = w.drew.setCells g (0 + i * 5) news) := hW1
  have hic : i ≤ c := by omega
  have hjc : i + 1 ≤ c := by omega
  have hne : ((i : Int) == (i : Int) + 1) = false := by rw [beq_eq_false_iff_ne]; omega
  have hp0 : (0 : Int) ≤ (i : Int) + 1 := by omega
  have hp1 : (i : Int) + 1 ≤ (l.length : Int) := by omega
  have hii : ((i : Int) + 1).toNat = i + 1 := by omega
  have hcn : ¬ (c = i + (l.length - (i + 1))) := by omega
  unfold maxLen at hcm
  clear hW1 hfr hcell hnews hlen hg hS hsz hsp1 hzv hZ hZl hz2 h hz0
  go_enter Tryz.func47, Tryz.ntmps47
  go_wp2_with fail
  go_region_law (refine step_append_room rfl (.tmp 22) (.tmp 25) 23 rfl 35 i0 5 Tryz.underlying23 hi0 hz1 g 0 i c (by simp [Act.eval, Act.put]) A (l.length - (i + 1)) (c - (i + 1)) news (by simp [Act.eval, Act.put]) s1.out hsrc.out s2.out (by omega) s3.out ?_; rw [← hW.out])
  go_wp2
  go_ret
  exact ⟨_, rfl, HF.out, HBl.out, rfl⟩
end Go.Proofs.YtcgopilkajfghaaGreatDoor
