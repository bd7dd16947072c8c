/- Where a card stands in an index; slices.Delete at one card. -/
import Derived.Test.YtcgopilkajfghaaGreatDoorISrch
set_option linter.unusedVariables false
set_option linter.unusedSimpArgs false
namespace Go.Proofs.YtcgopilkajfghaaGreatDoor
open Go.RowKit Go.Shelf

set_option maxRecDepth 100000 in
set_option maxHeartbeats 1000000 in
theorem place_any {X : Nat} {l : List ICard} {m : Nat} {ov : Value} {T : Nat → Int} (c : ICard) (w : World) (hX : BoxN X 81 (idxC m ov T) w) (ho : OwnK cardK 0 w ov l) (hk : IOk l) :
    Calls Tryz.prog 45 #[.pointer (some ⟨X, 0, none⟩), cardV c] w fun e w' => e = .returned (.int .i64 (placeC l c : Nat)) ∧ Below w.heap.size w w' := by
  have hb0 : Below w.heap.size w (w.alloc (.cells (cardR c) 35)) := (Below.refl _ _).alloc (Nat.le_refl _) _
  have HXI : Hid (BoxN X 81 (idxC m ov T) (w.alloc (.cells (cardR c) 35))) := hX.alloc _
  have HI : Hid (OwnK cardK 0 (w.alloc (.cells (cardR c) 35)) ov l) := ho.kept (World.grownBy_alloc _ _ none) (fun g h => by cases h)
  have HK := Lib.hid hk
  have HB0 := Lib.hid hb0
  have HX0 : Hid (CardN w.heap.size c (w.alloc (.cells (cardR c) 35))) := box_new w 35 (cardR c)
  obtain ⟨oa, oc, hov, _, _⟩ := ho.shape
  have HF := Lib.hid (show l.length ≤ 1000000 by have := hk.few; omega)
  obtain ⟨pl, hpl⟩ : ∃ p, p = placeC l c := ⟨_, rfl⟩
  rw [← hpl]
  have HPl := Lib.hid hpl
  subst hov
  clear hX ho hk hb0 hpl
  generalize hn : l.length = n at *
  have HN := Lib.hid hn
  clear hn
  go_enter Tryz.func45, Tryz.ntmps45
  go_wp2
  generalize w.alloc (.cells (cardR c) 35) = W0 at *
  have HQ : Hid (∀ W, W0.grownBy W none → W.cell? ⟨X, 1, none⟩ = some (.slice oa n oc) ∧ W.cell? ⟨w.heap.size, 0, none⟩ = some (.int .i64 c.id) ∧ W.cell? ⟨w.heap.size, 1, none⟩ = some (.int .i64 c.unit) ∧ W.cell? ⟨w.heap.size, 2, none⟩ = some (.int .i64 c.kind) ∧ W.cell? ⟨w.heap.size, 3, none⟩ = some (.int .i64 c.beg) ∧ W.cell? ⟨w.heap.size, 4, none⟩ = some (.int .i64 c.fin)) := fun W hW =>
    ⟨BoxN.cell (BoxN.grown HXI.out hW (by simp)) 1 _ idxC_1, CardN.cells (BoxN.grown HX0.out hW (by simp))⟩
  refine wp_region_calm ⟨[5], fun k v _ => ∃ b, v = .tuple #[.int .i64 pl, .bool b], fun _ => [], 99, none, 1000⟩ (by kernel_rfl) (by kernel_rfl) (by kernel_rfl) (fun g h => by cases h) (fun k hk v W W' c h hg hc => h) ?_
  iterate 5 (refine calm_quiet (v := ?_) (by rfl) (by rfl) (fun W hW hD => ?_) ?_; rotate_left; (· (obtain ⟨y, z0, z1, z2, z3, z4⟩ := HQ.out W hW; clear hD hW; go_simp; try with_reducible rfl)); simp only [Act.put, List.setIfInBounds_toArray, List.set_cons_zero, List.set_cons_succ, Nat.reduceAdd, Nat.zero_add])
  refine calm_makes (by rfl) (by rfl) (fun W hW hD Kc hK => ?_) (fun v13 => ?_)
  · have hr : RowsAt cardK W.heap.size W (.slice oa n oc) l := (HI.out.kept hW (fun g h => by cases h)).rows cardOk
    refine wp_of_call (f := 64) ?_ ((search_any _ l c W hr (by rw [HN.out]; exact HF.out) HK.out.sorted).mono ?_)
    · clear hD hW hK
      go_simp
    · rintro e w5 ⟨is, rfl, hb5⟩
      exact ⟨_, rfl, hK _ _ (made_plain ⟨is, by rw [← HPl.out]; rfl⟩ hb5 rfl)⟩
  simp only [Act.put, List.setIfInBounds_toArray, List.set_cons_zero, List.set_cons_succ, Nat.reduceAdd, Nat.zero_add]
  refine calm_quiet (v := v13) (by rfl) (by rfl) (fun W hW hD => ?_) ?_
  · obtain ⟨b, rfl⟩ : ∃ b, v13 = .tuple #[.int .i64 pl, .bool b] := hD [] 5 (by kernel_rfl) (by kernel_rfl) (by kernel_rfl)
    clear hD hW
    go_simp
  simp only [Act.put, List.setIfInBounds_toArray, List.set_cons_zero, List.set_cons_succ, Nat.reduceAdd, Nat.zero_add]
  refine calm_quiet (v := vtupAt v13 0) (by rfl) (by rfl) (fun W hW hD => ?_) ?_
  · obtain ⟨b, rfl⟩ : ∃ b, v13 = .tuple #[.int .i64 pl, .bool b] := hD [6] 5 (by kernel_rfl) (by kernel_rfl) (by kernel_rfl)
    clear hD hW
    go_simp
    rfl
  simp only [Act.put, List.setIfInBounds_toArray, List.set_cons_zero, List.set_cons_succ, Nat.reduceAdd, Nat.zero_add]
  refine calm_quiet (v := vtupAt v13 1) (by rfl) (by rfl) (fun W hW hD => ?_) ?_
  · obtain ⟨b, rfl⟩ : ∃ b, v13 = .tuple #[.int .i64 pl, .bool b] := hD [6] 5 (by kernel_rfl) (by kernel_rfl) (by kernel_rfl)
    clear hD hW
    go_simp
    rfl
  simp only [Act.put, List.setIfInBounds_toArray, List.set_cons_zero, List.set_cons_succ, Nat.reduceAdd, Nat.zero_add]
  iterate 2 (refine calm_quiet (v := ?_) (by rfl) (by rfl) (fun W hW hD => ?_) ?_; rotate_left; (· (clear hD hW; go_simp; try with_reducible rfl)); simp only [Act.put, List.setIfInBounds_toArray, List.set_cons_zero, List.set_cons_succ, Nat.reduceAdd, Nat.zero_add])
  refine calm_nil fun W hW hF => ?_
  obtain ⟨b, rfl⟩ : ∃ b, v13 = .tuple #[.int .i64 pl, .bool b] := hF 5 (by kernel_rfl) (by kernel_rfl)
  have HBf := Lib.hid (HB0.out.trans ((grown_below hW).mono HB0.out.size))
  clear hF hW HQ
  go_wp2
  go_ret
  exact ⟨rfl, HBf.out⟩
end Go.Proofs.YtcgopilkajfghaaGreatDoor
