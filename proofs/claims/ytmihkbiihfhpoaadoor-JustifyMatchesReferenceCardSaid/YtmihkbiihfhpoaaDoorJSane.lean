/- The examples of the statements on justify hold. -/
import Derived.Test.YtmihkbiihfhpoaaDoorJMadeP
namespace Go.Proofs.YtmihkbiihfhpoaaDoor
open Go.RowKit Go.Shelf

def exRules : List JRule := [⟨[0, 1], 3⟩, ⟨[2], 3⟩, ⟨[3], 4⟩, ⟨[0, 4], 5⟩]
def exT : JTh := ⟨3, 3, exRules⟩
theorem ints_lit (W : World) (l : List Int) (h : l.length ≤ 1000) : IntsAt (W.alloc (.cells (l.map (Value.int .i64)).toArray 3)).heap.size (W.alloc (.cells (l.map (Value.int .i64)).toArray 3)) (.slice (some ⟨W.heap.size, 0, none⟩) l.length l.length) l := by
  refine ⟨some ⟨W.heap.size, 0, none⟩, l.length, rfl, Nat.le_refl _, by unfold maxLen; omega, fun _ => ⟨W.heap.size, 0, rfl, by simp, fun i hi => ?_⟩⟩
  unfold World.cell?
  rw [World.alloc_heap_new W]
  simp [hi]
theorem cell_alloc_at (W : World) (cs : Array Value) (t : TypeId) (j : Nat) (v : Value) (h : cs[j]? = some v) : (W.alloc (.cells cs t)).cell? ⟨W.heap.size, j, none⟩ = some v := by
  unfold World.cell?
  rw [World.alloc_heap_new W (.cells cs t)]
  exact h
theorem IntsAt.alloc {w : World} {v : Value} {l : List Int} (h : IntsAt w.heap.size w v l) (o : Obj) : IntsAt (w.alloc o).heap.size (w.alloc o) v l := h.later ((Below.refl _ _).alloc (Nat.le_refl _) o) (Nat.le_refl _)
theorem rule_lit {w : World} {b off i : Nat} {nv : Value} {g : Int} {l : List Int} (h0 : w.cell? ⟨b, off + i * 2, none⟩ = some nv) (h1 : w.cell? ⟨b, off + i * 2 + 1, none⟩ = some (.int .i64 g)) (hi : IntsAt w.heap.size w nv l) :
    ∃ nv, w.cell? ⟨b, off + i * 2, none⟩ = some nv ∧ w.cell? ⟨b, off + i * 2 + 1, none⟩ = some (.int .i64 (JRule.mk l g).gives) ∧ IntsAt w.heap.size w nv (JRule.mk l g).needs := ⟨nv, h0, h1, hi⟩
theorem ex_world (w : World) (T : Obj) :
    RulesAt ((((((w.alloc T).alloc (.cells #[.int .i64 0, .int .i64 1] 3)).alloc (.cells #[.int .i64 2] 3)).alloc (.cells #[.int .i64 3] 3)).alloc (.cells #[.int .i64 0, .int .i64 4] 3)).alloc (.cells #[.slice (some ⟨w.heap.size + 1, 0, none⟩) 2 2, .int .i64 3, .slice (some ⟨w.heap.size + 1 + 1, 0, none⟩) 1 1, .int .i64 3, .slice (some ⟨w.heap.size + 1 + 1 + 1, 0, none⟩) 1 1, .int .i64 4, .slice (some ⟨w.heap.size + 1 + 1 + 1 + 1, 0, none⟩) 2 2, .int .i64 5] 48)).heap.size
      ((((((w.alloc T).alloc (.cells #[.int .i64 0, .int .i64 1] 3)).alloc (.cells #[.int .i64 2] 3)).alloc (.cells #[.int .i64 3] 3)).alloc (.cells #[.int .i64 0, .int .i64 4] 3)).alloc (.cells #[.slice (some ⟨w.heap.size + 1, 0, none⟩) 2 2, .int .i64 3, .slice (some ⟨w.heap.size + 1 + 1, 0, none⟩) 1 1, .int .i64 3, .slice (some ⟨w.heap.size + 1 + 1 + 1, 0, none⟩) 1 1, .int .i64 4, .slice (some ⟨w.heap.size + 1 + 1 + 1 + 1, 0, none⟩) 2 2, .int .i64 5] 48))
      (.slice (some ⟨w.heap.size + 1 + 1 + 1 + 1 + 1, 0, none⟩) 4 4) exRules := by
  obtain ⟨X0, h0⟩ : ∃ X, X = w.alloc T := ⟨_, rfl⟩
  obtain ⟨X1, h1⟩ : ∃ X, X = X0.alloc (.cells #[.int .i64 0, .int .i64 1] 3) := ⟨_, rfl⟩
  obtain ⟨X2, h2⟩ : ∃ X, X = X1.alloc (.cells #[.int .i64 2] 3) := ⟨_, rfl⟩
  obtain ⟨X3, h3⟩ : ∃ X, X = X2.alloc (.cells #[.int .i64 3] 3) := ⟨_, rfl⟩
  obtain ⟨X4, h4⟩ : ∃ X, X = X3.alloc (.cells #[.int .i64 0, .int .i64 4] 3) := ⟨_, rfl⟩
  have z0 : X0.heap.size = w.heap.size + 1 := by rw [h0]; simp
  have z1 : X1.heap.size = w.heap.size + 1 + 1 := by rw [h1]; simp [z0]
  have z2 : X2.heap.size = w.heap.size + 1 + 1 + 1 := by rw [h2]; simp [z1]
  have z3 : X3.heap.size = w.heap.size + 1 + 1 + 1 + 1 := by rw [h3]; simp [z2]
  have z4 : X4.heap.size = w.heap.size + 1 + 1 + 1 + 1 + 1 := by rw [h4]; simp [z3]
  have i1 : IntsAt X1.heap.size X1 (.slice (some ⟨w.heap.size + 1, 0, none⟩) 2 2) [0, 1] := by rw [h1, ← z0]; exact ints_lit X0 [0, 1] (by decide)
  have i2 : IntsAt X2.heap.size X2 (.slice (some ⟨w.heap.size + 1 + 1, 0, none⟩) 1 1) [2] := by rw [h2, ← z1]; exact ints_lit X1 [2] (by decide)
  have i3 : IntsAt X3.heap.size X3 (.slice (some ⟨w.heap.size + 1 + 1 + 1, 0, none⟩) 1 1) [3] := by rw [h3, ← z2]; exact ints_lit X2 [3] (by decide)
  have i4 : IntsAt X4.heap.size X4 (.slice (some ⟨w.heap.size + 1 + 1 + 1 + 1, 0, none⟩) 2 2) [0, 4] := by rw [h4, ← z3]; exact ints_lit X3 [0, 4] (by decide)
  have j1 : IntsAt X4.heap.size X4 (.slice (some ⟨w.heap.size + 1, 0, none⟩) 2 2) [0, 1] := by have := ((i1.alloc (.cells #[.int .i64 2] 3)).alloc (.cells #[.int .i64 3] 3)).alloc (.cells #[.int .i64 0, .int .i64 4] 3); rw [← h2, ← h3, ← h4] at this; exact this
  have j2 : IntsAt X4.heap.size X4 (.slice (some ⟨w.heap.size + 1 + 1, 0, none⟩) 1 1) [2] := by have := (i2.alloc (.cells #[.int .i64 3] 3)).alloc (.cells #[.int .i64 0, .int .i64 4] 3); rw [← h3, ← h4] at this; exact this
  have j3 : IntsAt X4.heap.size X4 (.slice (some ⟨w.heap.size + 1 + 1 + 1, 0, none⟩) 1 1) [3] := by have := i3.alloc (.cells #[.int .i64 0, .int .i64 4] 3); rw [← h4] at this; exact this
  rw [← h0, ← h1, ← h2, ← h3, ← h4, ← z4]
  clear h0 h1 h2 h3 h4 i1 i2 i3
  refine ⟨_, 4, rfl, by decide, by unfold maxLen; omega, fun _ => ⟨X4.heap.size, 0, rfl, by simp, fun i hi => ?_⟩⟩
  have hi' : i < 4 := hi
  match i, hi' with
  | 0, _ => exact rule_lit (l := [0, 1]) (g := 3) (cell_alloc_at X4 _ _ 0 _ rfl) (cell_alloc_at X4 _ _ 1 _ rfl) (j1.alloc _)
  | 1, _ => exact rule_lit (l := [2]) (g := 3) (cell_alloc_at X4 _ _ 2 _ rfl) (cell_alloc_at X4 _ _ 3 _ rfl) (j2.alloc _)
  | 2, _ => exact rule_lit (l := [3]) (g := 4) (cell_alloc_at X4 _ _ 4 _ rfl) (cell_alloc_at X4 _ _ 5 _ rfl) (j3.alloc _)
  | 3, _ => exact rule_lit (l := [0, 4]) (g := 5) (cell_alloc_at X4 _ _ 6 _ rfl) (cell_alloc_at X4 _ _ 7 _ rfl) (i4.alloc _)
set_option maxRecDepth 100000 in
set_option maxHeartbeats 2000000 in
theorem example_any (w : World) :
    Calls Tryd.prog 36 #[] w fun e w' => ∃ rv, e = .returned (thV 3 3 rv) ∧ RulesAt w'.heap.size w' rv exRules ∧ Below w.heap.size w w' := by
  go_enter Tryd.func36, Tryd.ntmps36
  go_wp2
  exact bodyPost_ret (v := thV 3 3 (.slice (some ⟨w.heap.size + 1 + 1 + 1 + 1 + 1, 0, none⟩) 4 4)) (by simp [results, Tryd.results36, go_sem]) rfl ⟨_, rfl, ex_world w _, ((((((Below.refl _ _).alloc (Nat.le_refl _) _).alloc (by simp) _).alloc (by simp; omega) _).alloc (by simp; omega) _).alloc (by simp; omega) _).alloc (by simp; omega) _⟩
end Go.Proofs.YtmihkbiihfhpoaaDoor
