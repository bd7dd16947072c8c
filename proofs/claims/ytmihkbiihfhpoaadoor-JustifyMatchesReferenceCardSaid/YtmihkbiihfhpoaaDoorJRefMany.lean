/- The reference's many. -/
import Derived.Test.YtmihkbiihfhpoaaDoorJRefHolds
import Derived.Test.YtmihkbiihfhpoaaDoorJCopy
namespace Go.Proofs.YtmihkbiihfhpoaaDoor
open Go.RowKit Go.Shelf

set_option maxRecDepth 100000 in
theorem refMany_any (S : Nat) (w : World) (hS : S < 4294967296) :
    Calls Tryd.prog 53 #[.int .i64 S] w fun e w' => e = .returned (.int .i64 ((listB S).length : Nat)) ∧ Below w.heap.size w w' := by
  have HLi := Lib.hid (listedR_any S w hS)
  generalize listB S = l at *
  go_enter Tryd.func53, Tryd.ntmps53
  go_wp2_with (go_at_call 38; refine HLi.out.mono ?_; rintro e w2 ⟨v, rfl, hO, hb⟩; obtain ⟨na, nc, rfl, _⟩ := hO.shape)
  go_ret
  exact ⟨rfl, hb⟩
end Go.Proofs.YtmihkbiihfhpoaaDoor
