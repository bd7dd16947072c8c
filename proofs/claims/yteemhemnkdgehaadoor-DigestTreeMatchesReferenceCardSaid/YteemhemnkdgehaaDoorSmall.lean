/- Small lemmas on strings, results and quiet calls. -/
import Derived.WalkKit
import Derived.Deep.QuietTactic
namespace Go.Proofs.YteemhemnkdgehaaDoor
open Go.RowKit

theorem size_lit (l : List UInt8) : (⟨l.toArray⟩ : ByteArray).size = l.length := by simp [ByteArray.size]
theorem blist (s : ByteArray) : s.data.toList.length = s.size := by rw [Array.length_toList]; rfl
theorem toList_append (s t : ByteArray) : (s ++ t).data.toList = s.data.toList ++ t.data.toList := by
  rw [ByteArray.data_append, Array.toList_append]
/-- The length to which a string is cut. -/
theorem cut_at (s : ByteArray) (N : Int) (hN : 0 ≤ N) : ∃ m : Nat, (if N < (s.size : Int) then N else (s.size : Int)) = (m : Int) ∧ m ≤ s.size ∧ (m : Int) ≤ N := by
  refine ⟨min N.toNat s.size, ?_, by omega, by omega⟩
  split <;> omega
theorem quiet_same {P : Program} {f : FuncId} {args : Array Value} {w : World} {n : Nat} {v : Value}
    (h : Calls P f args (w.drewN n) fun e w' => e = .returned v ∧ w.drewN n = w') : Calls P f args (w.drewN n) fun e w'' => e = .returned v ∧ ∃ m, w'' = w.drewN m :=
  h.mono fun _ _ ⟨he, hm⟩ => ⟨he, n, hm.symm⟩
theorem ret_bool {x y : Bool} (h : x = y) : Ending.returned (.bool x) = .returned (.bool y) := by rw [h]
theorem list_getD (s : ByteArray) (k : Nat) (h : k < s.size) : s.data.toList.getD k 0 = s[k] := by
  rw [List.getD_eq_getElem?_getD, List.getElem?_eq_getElem (by rw [blist]; exact h)]
  rfl
end Go.Proofs.YteemhemnkdgehaaDoor
