/- What the listed table gives, a world that holds it, and how a slice of strings is opened. -/
import Derived.Test.YteemhemnkdgehaaDoorFrame
import Derived.Test.YteemhemnkdgehaaDoorDLive
import Derived.LaidSub
namespace Go.Proofs.YteemhemnkdgehaaDoor
open Go.ChangeShapes Go.WideShapes Go.ChangeAt Go.RowKit Go.Shelf

theorem gTab : Tryd.prog.globalNamed "putlog/digest.round" = some 0 := by kernel_rfl
theorem gTabType : (Tryd.prog.globals[0]?).map (·.type) = some 88 := by kernel_rfl
theorem cellsTab : Tryd.prog.cellsOf 88 = 64 := by kernel_rfl
theorem cellsU32 : Tryd.prog.cellsOf 69 = 1 := by kernel_rfl
def tabZ : List Int := kTab.map w32
theorem table {W : World} (h : laidMetH Tryd.prog [("putlog/digest.round", Rows.laid_putlog_digest_round)] W) : Lib.TabIs Tryd.prog W "putlog/digest.round" .u32 tabZ :=
  Lib.tabIs_of_head (rest := []) gTab gTabType Tryd.underlying88 Tryd.underlying69 cellsU32 cellsTab h
theorem rounds_of {W : World} (h : laidMetH Tryd.prog [("putlog/digest.round", Rows.laid_putlog_digest_round)] W) : Rounds W := by
  have ht := table h
  intro j hj
  have := ht.cell gTab j (by simpa [tabZ, kTab] using hj)
  rw [this, tabZ, List.getD_eq_getElem?_getD, List.getElem?_map, List.getElem?_eq_getElem hj, List.getD_eq_getElem?_getD, List.getElem?_eq_getElem hj]
  rfl
/-- The cells of a block become these. -/
def putCells (cs : Array Value) : Obj → Obj
  | .cells _ t frozen => .cells cs t frozen
  | o => o
/-- The settled world, the table holding what its initialiser lays. -/
noncomputable def laidWorld (os : Os) : World :=
  { World.holding Tryd.prog os ⟨#[], #[], []⟩ with heap := (World.holding Tryd.prog os ⟨#[], #[], []⟩).heap.modify 0 (putCells (uCells kTab)) }
/-- A slice of strings. -/
theorem open_strsAt {H : Type} {enc : TypeId × Value → H} {P : Program} {w : World} {r : Reach} {b0 : Nat} {t e : TypeId} {v : Value} {d : DataW H} {p : List MemPlace}
    (ht : P.underlying t = some (.slice e)) (he : P.underlying e = some .string) (hc : P.cellsOf e = 1) (hv : Value.okWide P w r b0 t v) (hd : DataW.Trod enc P w 0 (fun _ => true) true t v d p) :
    ∃ l, StrsAt w.heap.size w v l := by
  obtain ⟨a, len, cap, rfl⟩ := okWide_slice ht hv
  obtain ⟨fuel, hf⟩ := hd
  rcases open_strings ht he hc hf with ⟨hcs, _⟩ | ⟨a', len', cap', ss, hcs, _, hl, hm, hz, _, hcell, hwf⟩
  · simp [Value.cells] at hcs
    obtain ⟨rfl, rfl, rfl⟩ := hcs
    exact ⟨[], StrsAt.nil _ _⟩
  · simp [Value.cells] at hcs
    obtain ⟨rfl, rfl, rfl⟩ := hcs
    rw [if_pos rfl] at hz
    have hlen : ((ss.take len).map (·.data.toList)).length = len := by rw [List.length_map, List.length_take]; omega
    refine ⟨(ss.take len).map (·.data.toList), some a', cap, by rw [hlen], by omega, hm, fun h => ?_⟩
    rw [hlen] at h
    obtain ⟨b, off, spot⟩ := a'
    have h0 := hcell 0 (by omega)
    obtain rfl : spot = none := by simpa [Addr.add] using World.cell?_spot h0
    have e : ∀ i, (⟨b, off, none⟩ : Addr).add i = ⟨b, off + i, none⟩ := fun i => by unfold Addr.add; split <;> simp_all
    refine ⟨b, off, rfl, cell_lt h0, fun i hi => ?_⟩
    rw [hlen] at hi
    have := hcell i (by omega)
    rw [e] at this
    rw [this]
    have hi' : i < ss.length := by omega
    simp [List.getD_eq_getElem?_getD, hi, hi', bs_of]
end Go.Proofs.YteemhemnkdgehaaDoor
