/- What the laws on logbook share. -/
import Derived.Test.YthfenbdlolbikaaGreatDoorMMade
import Derived.Test.YthfenbdlolbikaaGreatDoorGEq
set_option linter.unusedVariables false
set_option linter.unusedSimpArgs false
namespace Go.Proofs.YthfenbdlolbikaaGreatDoor
open Go.RowKit Go.Shelf

theorem madeB_len (o : Int) (N : Nat) (f : Nat → Nat → Int) : (madeBook o N f).recs.length ≤ 12 := by
  show (madeRecs f (min N 12)).length ≤ 12
  rw [madeRecs_length]
  omega
theorem keep_five {W : World} {v : Value} {n : Nat} {f : Nat → Nat → Int} (h : FiveAt W.heap.size W v n f) : ∀ W', Below W.heap.size W W' → FiveAt W'.heap.size W' v n f := fun _ hb => h.later hb
theorem keep_four {W : World} {n : Nat} {g : Nat → Int} (h : FourBox W n g) : ∀ W', Below W.heap.size W W' → FourBox W' n g := fun _ hb => h.below hb h.lt
theorem four_new (W : World) (g : Nat → Int) : FourBox (W.alloc (.cells #[.int .i64 (g 0), .int .i64 (g 1), .int .i64 (g 2), .int .i64 (g 3)] 67)) W.heap.size g := heap_alloc_new W _
def FiveN (v : Value) (n : Nat) (f : Nat → Nat → Int) (W : World) : Prop := FiveAt W.heap.size W v n f
def FourN (n : Nat) (g : Nat → Int) (W : World) : Prop := FourBox W n g
end Go.Proofs.YthfenbdlolbikaaGreatDoor
