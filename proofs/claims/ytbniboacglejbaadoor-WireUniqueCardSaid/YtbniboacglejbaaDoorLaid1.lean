/- What the listed table gives, and a world that holds it. -/
import Derived.Test.YtbniboacglejbaaDoorFrame
import Derived.Test.YtbniboacglejbaaDoorSum
namespace Go.Proofs.YtbniboacglejbaaDoor
open Go.ChangeShapes Go.WideShapes Go.ChangeAt Go.RowKit

theorem gTab : Tryd.prog.globalNamed "putlog/wire.nibbles" = some 0 := by kernel_rfl
theorem gTabType : (Tryd.prog.globals[0]?).map (·.type) = some 52 := by kernel_rfl
theorem cellsTab : Tryd.prog.cellsOf 52 = 16 := by kernel_rfl
theorem cellsU32 : Tryd.prog.cellsOf 43 = 1 := by kernel_rfl
def tabZ : List Int := nibTab.map w32
theorem table {W : World} (h : laidMetH Tryd.prog [("putlog/wire.nibbles", Rows.laid_putlog_wire_nibbles)] W) : Lib.TabIs Tryd.prog W "putlog/wire.nibbles" .u32 tabZ :=
  Lib.tabIs_of_head (rest := []) gTab gTabType Tryd.underlying52 Tryd.underlying43 cellsU32 cellsTab h
theorem nibs_of {W : World} (h : laidMetH Tryd.prog [("putlog/wire.nibbles", Rows.laid_putlog_wire_nibbles)] W) : Nibs W ∧ 0 < W.heap.size := by
  have ht := table h
  have hN : Nibs W := by
    intro x
    have h16 : (w32 (x &&& 15)).toNat < 16 := by
      have := u32_and15_lt x
      have h2 := u32_nonneg (x &&& 15)
      have h1 : w32 (x &&& 15) < 16 := of_eq_true this
      omega
    have := ht.cell gTab (w32 (x &&& 15)).toNat (by simpa [tabZ, nibTab] using h16)
    rw [this]
    have e : (w32 (x &&& 15)).toNat = (x &&& 15).toNat := by unfold w32; simp
    rw [e] at h16 ⊢
    generalize hj : (x &&& 15).toNat = j at h16
    rw [show nib x = nibTab.getD j 0 from by rw [nib, hj]]
    have h16' : j < nibTab.length := h16
    rw [tabZ, List.getD_eq_getElem?_getD, List.getElem?_map, List.getElem?_eq_getElem h16', List.getD_eq_getElem?_getD, List.getElem?_eq_getElem h16']
    rfl
  refine ⟨hN, ?_⟩
  have h0 := hN 0
  unfold World.cell? at h0
  rcases Nat.lt_or_ge 0 W.heap.size with hlt | hge
  · exact hlt
  · rw [Array.getElem?_eq_none hge] at h0
    cases h0
/-- The settled world, the table holding what its initialiser lays. -/
noncomputable def laidWorld (os : Os) : World :=
  { World.holding Tryd.prog os ⟨#[], #[], []⟩ with heap := (World.holding Tryd.prog os ⟨#[], #[], []⟩).heap.modify 0 fun
      | .cells _ t frozen => .cells #[.int .u32 0, .int .u32 274646895, .int .u32 549293790, .int .u32 820201905, .int .u32 1098587580, .int .u32 1361435347, .int .u32 1640403810, .int .u32 1905808397, .int .u32 2197175160, .int .u32 2460548119, .int .u32 2722870694, .int .u32 2987750089, .int .u32 3280807620, .int .u32 3553878443, .int .u32 3811616794, .int .u32 4084100981] t frozen
      | o => o }
end Go.Proofs.YtbniboacglejbaaDoor
