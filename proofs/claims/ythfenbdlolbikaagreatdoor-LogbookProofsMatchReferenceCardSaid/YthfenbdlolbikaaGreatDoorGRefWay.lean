/- The reference's Way: the strings that are hashed for a proof that was accepted. -/
import Derived.Test.YthfenbdlolbikaaGreatDoorDMore
set_option linter.unusedVariables false
set_option linter.unusedSimpArgs false
namespace Go.Proofs.YthfenbdlolbikaaGreatDoor
open Go.RowKit Go.Shelf

/-- The way, the last string last. -/
def wayF (q : List Bytes) (n i : Nat) (s : Bytes) : List Bytes × Bytes := ((wayR q n i s).1.reverse, (wayR q n i s).2)
theorem wayF_step (x : Bytes) (t : List Bytes) (n i : Nat) (s : Bytes) (h : 2 ≤ n) : wayF (x :: t) n i s = if i < leftN n then ((wayF t (leftN n) i s).1 ++ [1 :: ((wayF t (leftN n) i s).2 ++ x)], nodeB (wayF t (leftN n) i s).2 x)
          else ((wayF t (n - leftN n) (i - leftN n) s).1 ++ [1 :: (x ++ (wayF t (n - leftN n) (i - leftN n) s).2)], nodeB x (wayF t (n - leftN n) (i - leftN n) s).2) := by
  unfold wayF
  rw [wayR, if_neg (by omega)]
  split <;> simp
theorem wayF_len (q : List Bytes) (n i : Nat) (s : Bytes) : (wayF q n i s).1.length ≤ q.length + 1 ∧ (wayF q n i s).2.length = 32 := by
  have := wayR_len q n i s
  unfold wayF
  simpa using this
end Go.Proofs.YthfenbdlolbikaaGreatDoor
