/- The reference's Add and Find of logbook. -/
import Derived.Test.YthfenbdlolbikaaGreatDoorGRefVal
set_option linter.unusedVariables false
set_option linter.unusedSimpArgs false
namespace Go.Proofs.YthfenbdlolbikaaGreatDoor
open Go.RowKit Go.Shelf

theorem findDn_bd (l : List LRec) (k s : Int) : ∀ j : Nat, -1 ≤ findDn l k s j ∧ findDn l k s j < j
  | 0 => by simp [findDn]
  | j + 1 => by
    rw [findDn]
    have := findDn_bd l k s j
    split <;> omega
end Go.Proofs.YthfenbdlolbikaaGreatDoor
