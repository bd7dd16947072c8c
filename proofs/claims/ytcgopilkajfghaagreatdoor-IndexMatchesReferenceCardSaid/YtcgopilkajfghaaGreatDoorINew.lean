/- A new index. -/
import Derived.Test.YtcgopilkajfghaaGreatDoorIDel
import Derived.Carry
set_option linter.unusedVariables false
set_option linter.unusedSimpArgs false
namespace Go.Proofs.YtcgopilkajfghaaGreatDoor
open Go.RowKit Go.Shelf

theorem idx_zero (m : Nat) : (Tryz.zeroCells81.setIfInBounds 0 (.map (some m))).setIfInBounds 1 (.slice none 0 0) = idxC m (.slice none 0 0) fun _ => 0 := by kernel_rfl
theorem ownsMap_size {w : World} {b n : Nat} {D : DataW Unit} (h : w.ownsMap Tryz.prog 3 cardElem b n D) : w.ownsMap Tryz.prog 3 cardElem b (Go.Maps.size D) D := by
  obtain ⟨es, clock, hb, F, hs, rfl⟩ := h
  exact ⟨es, clock, hb, F, by simp [Go.Maps.size, Go.length_sorted], rfl⟩
set_option maxRecDepth 100000 in
set_option maxHeartbeats 1000000 in
theorem new_any (w : World) : Calls Tryz.prog 34 #[] w fun e w' => ∃ S X, e = .returned (.pointer (some ⟨X, 0, none⟩)) ∧ IdxN S X [] w' ∧ Below w.heap.size w w' ∧ ∀ k, S k → w.heap.size ≤ k := by
  have hm := World.ownsMap_made w Tryz.prog 3 cardElem
  obtain ⟨m, hmm⟩ : ∃ m, m = w.heap.size := ⟨_, rfl⟩
  rw [← hmm] at hm
  obtain ⟨W1, hW1⟩ : ∃ W1, W1 = w.alloc (.map #[] 0) := ⟨_, rfl⟩
  rw [← hW1] at hm
  have hb1 : Below w.heap.size w W1 := by rw [hW1]; exact (Below.refl _ _).alloc (Nat.le_refl _) _
  have hsz : w.heap.size < W1.heap.size := by rw [hW1]; simp
  have hb2 : Below w.heap.size w (W1.alloc (.cells (idxC m (.slice none 0 0) fun _ => 0) 81)) := hb1.alloc hb1.size _
  have hx := box_new W1 81 (idxC m (.slice none 0 0) fun _ => 0)
  have hm2 := hm.alloc (.cells (idxC m (.slice none 0 0) fun _ => 0) 81)
  have hlt : W1.heap.size < (W1.alloc (.cells (idxC m (.slice none 0 0) fun _ => 0) 81)).heap.size := by simp
  have HF : Hid (∀ W, W = W1.alloc (.cells (idxC m (.slice none 0 0) fun _ => 0) 81) → IdxN (fun k => k = m ∨ k = W1.heap.size) W1.heap.size [] W ∧ Below w.heap.size w W ∧ ∀ k, (k = m ∨ k = W1.heap.size) → w.heap.size ≤ k) := by
    rintro W rfl
    refine ⟨⟨m, _, _, _, ⟨hx, hm2, OwnK.nil _ _, mapOk_nil, tree_empty, iok_nil, .inr rfl, .inl rfl, (fun g hg => by cases hg), ?_⟩⟩, hb2, ?_⟩
    · rintro k (rfl | rfl)
      · omega
      · exact hlt
    · rintro k (rfl | rfl) <;> omega
  have hmk : (Instr.makeMap 74 none).run Tryz.prog w = .ok (.map (some m)) W1 := by rw [hmm, hW1]; rfl
  have HW1 := Lib.hid hW1
  have HM := Lib.hid hmm
  clear hm hm2 hx hb1 hb2 hlt hsz hW1 hmm
  go_enter Tryz.func34, Tryz.ntmps34
  go_wp2
  go_ret
  exact ⟨_, W1.heap.size, rfl, HF.out _ (by rw [idx_zero])⟩
end Go.Proofs.YtcgopilkajfghaaGreatDoor
