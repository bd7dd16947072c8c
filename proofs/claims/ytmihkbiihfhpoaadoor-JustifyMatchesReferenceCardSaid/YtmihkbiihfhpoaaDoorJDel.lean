/- slices.Clone and slices.Delete at ints: a copy of a slice without one element. -/
import Derived.Test.YtmihkbiihfhpoaaDoorJSets
import Derived.WalkSpells
import Derived.Deep.RegionLaw
import Derived.Lib.SliceRun
import Derived.Lib.LazyBuf
namespace Go.Proofs.YtmihkbiihfhpoaaDoor
open Go.RowKit Go.Shelf

set_option maxRecDepth 100000 in
set_option maxHeartbeats 1000000 in
theorem clone_any (v : Value) (l : List Int) (w : World) (hl : IntsAt w.heap.size w v l) (h0 : 0 < l.length) (hm : l.length < 1000000) :
    Calls Tryd.prog 58 #[v] w fun e w' => ∃ v', e = .returned v' ∧ OwnI w.heap.size w' v' l ∧ Below w.heap.size w w' := by
  obtain ⟨i0, hi, hz0, hz1, hz2⟩ := info_parts info_int
  obtain ⟨a, c, rfl, hlc, hcm, hcells⟩ := hl
  obtain ⟨b, off, rfl, hb, hc⟩ := hcells h0
  clear hcells
  have hown : (w.alloc (.cells #[] 3)).ownsRow w.heap.size 3 1 (.slice (some ⟨w.heap.size, 0, none⟩) 0 0) 0 [] :=
    ⟨rfl, .inr ⟨w.heap.size, 0, #[], rfl, Nat.le_refl _, World.alloc_heap_new w _, Nat.le_refl _, Nat.zero_le _, rfl, rfl⟩⟩
  have HO := Lib.hid hown
  have HC : Hid (∀ j u, (l.map (Value.int .i64))[j]? = some u → (w.alloc (.cells #[] 3)).cell? ((⟨b, off, none⟩ : Addr).add j) = some u) := fun j u hu => by
    obtain ⟨hj, rfl⟩ := List.getElem?_eq_some_iff.1 hu
    rw [List.length_map] at hj
    rw [Addr.add_lit, Below.cell ((Below.refl w.heap.size w).alloc (Nat.le_refl _) _) (p := ⟨b, off + j, none⟩) hb, hc j hj]
    simp [List.getD_eq_getElem?_getD, hj]
  have HB : Hid (Below w.heap.size w (w.alloc (.cells #[] 3))) := (Below.refl w.heap.size w).alloc (Nat.le_refl _) _
  have HL : Hid (∀ W (v' : Value), W.ownsRow w.heap.size 3 1 v' (0 + l.length) ([] ++ l.map (Value.int .i64)) → OwnI w.heap.size W v' l) := fun W v' h => by
    unfold OwnI
    simpa using h
  clear hc hown
  unfold maxLen at hcm
  generalize hn : l.length = n at *
  have Hn := Lib.hid hn
  clear hn
  have hnil : ∀ W, (binOp .eql 26 (.slice (some ⟨b, off, none⟩) n c) (.slice none 0 0)).run Tryd.prog W = .ok (.bool false) W := fun W => Lib.run_eql_slice_nil W _ _ _ _ _ _ _ Tryd.underlying26
  go_enter Tryd.func58, Tryd.ntmps58
  go_wp2_with (at_builtin; refine wpList_append_own _ rfl _ _ 26 rfl w.heap.size 3 i0 (.int .i64 0) 1 8 Tryd.underlying26 hi hz0 hz1 hz2 rfl (by decide) (.slice (some ⟨w.heap.size, 0, none⟩) 0 0) 0 [] rfl HO.out ⟨b, off, none⟩ n c (l.map (Value.int .i64)) rfl (by rw [List.length_map, Hn.out, Nat.mul_one]) HC.out (by simp [Value.oneCell']) (by unfold maxLen; omega) (by omega) (by simp) ?_; intro v' w1 hown1 hg1 _)
  go_ret
  refine ⟨v', rfl, HL.out _ _ hown1, HB.out.grown hg1 (by simp) fun k hk => ?_⟩
  cases hk
  exact Nat.le_refl _

/-- What a row of ints holds behind the copying of its end and the clearing of its last cell. -/
theorem eraseIdx_getD (l : List Int) (i t : Nat) : (l.eraseIdx i).getD t 0 = if t < i then l.getD t 0 else l.getD (t + 1) 0 := by
  simp only [List.getD_eq_getElem?_getD, List.getElem?_eraseIdx]
  split <;> rfl
set_option maxRecDepth 100000 in
set_option maxHeartbeats 1000000 in
theorem delete_any (v : Value) (l : List Int) (base i : Nat) (w : World) (hl : OwnI base w v l) (hi : i < l.length) (hm : l.length < 1000000) :
    Calls Tryd.prog 57 #[v, .int .i64 i, .int .i64 ((i : Int) + 1)] w fun e w' => ∃ v', e = .returned v' ∧ IntsAt w'.heap.size w' v' (l.eraseIdx i) ∧ ∀ B w0, B ≤ base → Below B w0 w → Below B w0 w' := by
  obtain ⟨i0, hi0, hz0, hz1, hz2⟩ := info_parts info_int
  rcases hl.2 with ⟨rfl, h0⟩ | ⟨g, cap, cur, rfl, hg, hgg, hlc, hcm, hcs, htake⟩
  · omega
  have hcell : ∀ t, t < cap → (w.cell? ⟨g, t, none⟩).isSome = true ∧ w.frozen? ⟨g, t, none⟩ = false := fun t ht => by
    rw [Nat.mul_one] at hcs
    constructor
    · simp [World.cell?, hgg, hcs, ht]
    · simp [World.frozen?, hgg]
  have hval : ∀ t, t < l.length → w.cell? ⟨g, t, none⟩ = some (.int .i64 (l.getD t 0)) := fun t ht => by
    have := hl.cells (g := g) rfl t (.int .i64 (l.getD t 0)) (by simp [ht])
    rw [Addr.add_lit, Nat.zero_add] at this
    exact this
  obtain ⟨news, hnews⟩ : ∃ news, news = (l.drop (i + 1)).map (Value.int .i64) := ⟨_, rfl⟩
  have hlen : news.length = l.length - (i + 1) := by rw [hnews]; simp
  have hget : ∀ t, t < l.length - (i + 1) → news[t]? = some (.int .i64 (l.getD (i + 1 + t) 0)) := fun t ht => by
    rw [hnews]
    simp [List.getD_eq_getElem?_getD, show i + 1 + t < l.length from by omega]
  obtain ⟨A, hA, hsrc⟩ : ∃ A : Addr, (if cap = i + 1 then some (⟨g, 0, none⟩ : Addr) else some ⟨g, i + 1, none⟩) = some A ∧ Hid (∀ t u, news[t]? = some u → w.drew.cell? (A.add t) = some u) := by
    by_cases h : cap = i + 1
    · refine ⟨⟨g, 0, none⟩, by simp [h], fun t u hu => ?_⟩
      have h0 : news.length = 0 := by omega
      rw [List.length_eq_zero_iff.1 h0] at hu
      simp at hu
    · refine ⟨⟨g, i + 1, none⟩, by simp [h], fun t u hu => ?_⟩
      have ht : t < l.length - (i + 1) := by have := (List.getElem?_eq_some_iff.1 hu).1; omega
      rw [hget t ht] at hu
      rw [Addr.add_lit]
      exact (hval (i + 1 + t) (by omega)).trans hu
  have s1 : Hid (news.length = (l.length - (i + 1)) * 1) := by show _ = _; rw [Nat.mul_one]; exact hlen
  have s2 : Hid (∀ u ∈ news, u.oneCell' = true) := fun u hu => by
    rw [hnews] at hu
    obtain ⟨x, _, rfl⟩ := List.mem_map.1 hu
    rfl
  have s3 : Hid (∀ t, t < news.length → (w.drew.cell? ⟨g, 0 + i * 1 + t, none⟩).isSome = true ∧ w.drew.frozen? ⟨g, 0 + i * 1 + t, none⟩ = false) := fun t ht => by
    rw [Nat.mul_one, Nat.zero_add]
    exact hcell (i + t) (by omega)
  obtain ⟨W1, hW1⟩ : ∃ W1, W1 = w.drew.setCells g (0 + i * 1) news := ⟨_, rfl⟩
  have hin : ∀ t, t < l.length - (i + 1) → W1.cell? ⟨g, i + t, none⟩ = some (.int .i64 (l.getD (i + 1 + t) 0)) := fun t ht => by
    have h1 := World.cell?_setCells_in g news (0 + i * 1) w.drew (fun j hj => (s3.out j hj).1) t (by omega)
    rw [← hW1, Nat.mul_one, Nat.zero_add] at h1
    rw [h1]
    have := hget t ht
    rw [List.getElem?_eq_getElem (by omega)] at this
    exact this
  have hout : ∀ t, t < i ∨ l.length - 1 ≤ t → W1.cell? ⟨g, t, none⟩ = w.cell? ⟨g, t, none⟩ := fun t ht => by
    rw [hW1]
    exact World.cell?_setCells_out g news (0 + i * 1) w.drew ⟨g, t, none⟩ fun _ _ => by show t < 0 + i * 1 ∨ 0 + i * 1 + news.length ≤ t; omega
  have hfr : ∀ x, W1.frozen? x = w.frozen? x := fun x => by rw [hW1, World.frozen?_setCells]; rfl
  have hcl : ∀ ty, (Builtin.clear_ #[26] ty #[.slice (some ⟨g, i + (l.length - (i + 1)), none⟩) (l.length - (i + (l.length - (i + 1)))) (cap - (i + (l.length - (i + 1))))]).run Tryd.prog W1 = .ok (.tuple #[]) (W1.setCells g (i + (l.length - (i + 1))) (List.replicate (l.length - (i + (l.length - (i + 1)))) (.int .i64 0))) :=
    fun ty => Lib.run_clear_slice W1 _ _ ty _ Tryd.underlying26 (fun _ => by kernel_rfl) rfl rfl g _ _ _ (by omega) (fun t ht => by rw [hout _ (by omega)]; exact (hcell _ (by omega)).1) (fun t ht => by rw [hfr]; exact (hcell _ (by omega)).2)
  have HF : Hid (∀ W2, W2 = W1.setCells g (i + (l.length - (i + 1))) (List.replicate (l.length - (i + (l.length - (i + 1)))) (.int .i64 0)) → IntsAt W2.heap.size W2 (.slice (some ⟨g, 0, none⟩) (i + (l.length - (i + 1))) cap) (l.eraseIdx i) ∧ ∀ B w0, B ≤ base → Below B w0 w → Below B w0 W2) := by
    intro W2 hW2
    have hB : ∀ B w0, B ≤ base → Below B w0 w → Below B w0 W2 := fun B w0 hB hb => by
      rw [hW2, hW1]
      exact below_setCells (Nat.le_trans hB hg) _ _ _ (below_setCells (Nat.le_trans hB hg) _ _ _ hb.drew)
    have hle : (l.eraseIdx i).length = l.length - 1 := List.length_eraseIdx_of_lt hi
    refine ⟨⟨some ⟨g, 0, none⟩, cap, by rw [hle, show i + (l.length - (i + 1)) = l.length - 1 from by omega], by omega, hcm, fun _ => ⟨g, 0, rfl, ?_, fun t ht => ?_⟩⟩, hB⟩
    · have h1 := (Array.getElem?_eq_some_iff.1 hgg).1
      have h2 := (hB 0 w (Nat.zero_le _) (Below.refl 0 w)).size
      omega
    · rw [hle] at ht
      rw [eraseIdx_getD l i t, hW2, show (⟨g, 0 + t, none⟩ : Addr) = ⟨g, t, none⟩ from by rw [Nat.zero_add], World.cell?_setCells_out g _ _ W1 ⟨g, t, none⟩ (fun _ _ => by show t < i + (l.length - (i + 1)) ∨ _; omega)]
      by_cases h : t < i
      · rw [if_pos h, hout t (.inl h)]
        exact hval t (by omega)
      · rw [if_neg h]
        have := hin (t - i) (by omega)
        rwa [show i + (t - i) = t from by omega, show i + 1 + (t - i) = t + 1 from by omega] at this
  have hW : Hid (W1 = w.drew.setCells g (0 + i * 1) news) := hW1
  have hic : i ≤ cap := by omega
  have hjc : i + 1 ≤ cap := by omega
  have hne : ((i : Int) == (i : Int) + 1) = false := by rw [beq_eq_false_iff_ne]; omega
  have hp0 : (0 : Int) ≤ (i : Int) + 1 := by omega
  have hp1 : (i : Int) + 1 ≤ (l.length : Int) := by omega
  have hii : ((i : Int) + 1).toNat = i + 1 := by omega
  unfold maxLen at hcm
  clear hW1 hin hout hfr hcell hval hget hnews hlen hl hgg hcs htake
  go_enter Tryd.func57, Tryd.ntmps57
  go_wp2_with fail
  go_region_law (refine step_append_room rfl (.tmp 22) (.tmp 25) 26 rfl 3 i0 1 Tryd.underlying26 hi0 hz1 g 0 i cap (by simp [Act.eval, Act.put]) A (l.length - (i + 1)) (cap - (i + 1)) news (by simp [Act.eval, Act.put]) s1.out hsrc.out s2.out (by omega) s3.out ?_; rw [← hW.out])
  go_wp2
  go_ret
  obtain ⟨f1, f2⟩ := HF.out _ rfl
  exact ⟨_, rfl, f1, f2⟩
end Go.Proofs.YtmihkbiihfhpoaaDoor
