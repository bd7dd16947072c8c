/- The reference's test of a least set is minB. -/
import Derived.Test.YtmihkbiihfhpoaaDoorJRefHolds
import Derived.Test.YtmihkbiihfhpoaaDoorJSets
namespace Go.Proofs.YtmihkbiihfhpoaaDoor
open Go.RowKit Go.Shelf

def refMin (n : Nat) (p : Nat → Bool) (s : Nat) : Bool := p s && (List.range n).all fun i => !s.testBit i || !p (sdiff s (2 ^ i))
theorem refMin_eq {n s : Nat} {p : Nat → Bool} (hn : 2 ^ n ≤ 4294967296) (hs : s < 2 ^ n) : refMin n p s = minB p s := by
  rw [Bool.eq_iff_iff]
  constructor
  · intro h
    unfold refMin at h
    rw [Bool.and_eq_true, List.all_eq_true] at h
    unfold minB
    rw [Bool.and_eq_true, List.all_eq_true]
    refine ⟨h.1, fun i hi => ?_⟩
    have hb := (mem_bitsN s (by omega) i).1 hi
    have hin : i < n := by
      rcases Nat.lt_or_ge i n with h1 | h1
      · exact h1
      · rw [Nat.testBit_lt_two_pow (Nat.lt_of_lt_of_le hs (Nat.pow_le_pow_right (by decide) h1))] at hb
        cases hb
    have h2 := h.2 i (List.mem_range.2 hin)
    rw [hb] at h2
    simpa using h2
  · intro h
    unfold refMin
    rw [Bool.and_eq_true, List.all_eq_true]
    refine ⟨minB_p h, fun i _ => ?_⟩
    cases hb : s.testBit i
    · rfl
    · rw [minB_parts (by omega) h hb]; rfl
end Go.Proofs.YtmihkbiihfhpoaaDoor
