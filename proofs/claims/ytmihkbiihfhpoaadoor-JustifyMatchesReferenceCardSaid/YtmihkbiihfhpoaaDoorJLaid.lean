/- What the listed tables give, a world that holds them, and how arrays of four ints are opened. -/
import Derived.Test.YtmihkbiihfhpoaaDoorFrame
import Derived.Test.YtmihkbiihfhpoaaDoorJMade
import Derived.LaidSub
namespace Go.Proofs.YtmihkbiihfhpoaaDoor
open Go.ChangeShapes Go.WideShapes Go.ChangeAt Go.RowKit Go.Shelf

theorem gTab : Tryd.prog.globalNamed "math/bits.deBruijn64tab" = some 1 := by kernel_rfl
theorem gTabType : (Tryd.prog.globals[1]?).map (·.type) = some 84 := by kernel_rfl
theorem cellsTab : Tryd.prog.cellsOf 84 = 64 := by kernel_rfl
theorem cellsU8 : Tryd.prog.cellsOf 5 = 1 := by kernel_rfl
def tabZ : List Int := Lib.deBruijn64tab.map fun (i : Nat) => (i : Int)
theorem table {W : World} (h : laidMetH Tryd.prog [("math/bits.deBruijn32tab", Rows.laid_math_bits_deBruijn32tab), ("math/bits.deBruijn64tab", Rows.laid_math_bits_deBruijn64tab)] W) : Lib.TabIs Tryd.prog W "math/bits.deBruijn64tab" .u8 tabZ := by
  have h2 : laidMetH Tryd.prog [("math/bits.deBruijn64tab", Rows.laid_math_bits_deBruijn64tab)] W := laidMetH.filter (fun x => x.1 == "math/bits.deBruijn64tab") h
  exact Lib.tabIs_of_head (rest := []) gTab gTabType Tryd.underlying84 Tryd.underlying5 cellsU8 cellsTab h2
theorem tabs_of {W : World} (h : laidMetH Tryd.prog [("math/bits.deBruijn32tab", Rows.laid_math_bits_deBruijn32tab), ("math/bits.deBruijn64tab", Rows.laid_math_bits_deBruijn64tab)] W) : Tabs W := by
  have ht := table h
  have hT : TabAt 1 Lib.deBruijn64tab W := by
    intro j hj
    have := ht.cell gTab j (by simpa [tabZ] using hj)
    rw [this, tabZ, List.getD_eq_getElem?_getD, List.getElem?_map, List.getElem?_eq_getElem hj, List.getD_eq_getElem?_getD, List.getElem?_eq_getElem hj]
    rfl
  refine ⟨hT, ?_⟩
  have h0 := hT 0 (by decide)
  unfold World.cell? at h0
  rcases Nat.lt_or_ge 1 W.heap.size with hlt | hge
  · exact hlt
  · rw [Array.getElem?_eq_none hge] at h0
    cases h0
def tab32 : Array Value := #[0, 1, 28, 2, 29, 14, 24, 3, 30, 22, 20, 15, 25, 17, 4, 8, 31, 27, 13, 23, 21, 19, 16, 7, 26, 12, 18, 6, 11, 5, 10, 9].map (Value.int .u8)
def tab64 : Array Value := #[0, 1, 56, 2, 57, 49, 28, 3, 61, 58, 42, 50, 38, 29, 17, 4, 62, 47, 59, 36, 45, 43, 51, 22, 53, 39, 33, 30, 24, 18, 12, 5, 63, 55, 48, 27, 60, 41, 37, 16, 46, 35, 44, 21, 52, 32, 23, 11, 54, 26, 40, 15, 34, 20, 31, 10, 25, 14, 19, 9, 13, 8, 7, 6].map (Value.int .u8)
/-- The cells of a block become these. -/
def putCells (cs : Array Value) : Obj → Obj
  | .cells _ t frozen => .cells cs t frozen
  | o => o
/-- The settled world, the tables holding what their initialisers lay. -/
noncomputable def laidWorld (os : Os) : World :=
  { World.holding Tryd.prog os ⟨#[], #[], []⟩ with heap := ((World.holding Tryd.prog os ⟨#[], #[], []⟩).heap.modify 0 (putCells tab32)).modify 1 (putCells tab64) }

/-- A slice of arrays of four ints. -/
theorem open_four {H : Type} {enc : TypeId × Value → H} {P : Program} {w : World} {r : Reach} {b0 : Nat} {t e i : TypeId} {v : Value} {d : DataW H} {p : List MemPlace}
    (ht : P.underlying t = some (.slice e)) (he : P.underlying e = some (.array 4 i)) (hi : P.underlying i = some (.int .i64)) (hce : P.cellsOf e = 4) (hci : P.cellsOf i = 1) (hv : Value.okWide P w r b0 t v) (hd : DataW.Trod enc P w 0 (fun _ => true) true t v d p) :
    ∃ n f, FourAt w.heap.size w v n f := by
  obtain ⟨a, len, cap, rfl⟩ := okWide_slice ht hv
  obtain ⟨fuel, hf⟩ := hd
  rcases DataW.trod_slice ht hf with ⟨hcs, _⟩ | ⟨a', len', cap', elems, rest, n, _, hcs, _, _, hl, hm, hlen, hel, _, _⟩
  · simp [Value.cells] at hcs
    obtain ⟨rfl, rfl, rfl⟩ := hcs
    exact ⟨0, fun _ _ => 0, ⟨none, 0, rfl, Nat.le_refl _, Nat.zero_le _, fun h => by omega⟩, fun i k h => by omega⟩
  · simp [Value.cells] at hcs
    obtain ⟨rfl, rfl, rfl⟩ := hcs
    have each : ∀ j k, j < len → k < 4 → ∃ z : Int, w.cell? ((a'.add (j * 4)).add k) = some (.int .i64 z) ∧ -9223372036854775808 ≤ z ∧ z ≤ 9223372036854775807 := by
      intro j k hj hk
      have h1 := hel j hj
      rw [List.getElem?_eq_getElem (by omega), hce, Option.bind_eq_some_iff] at h1
      obtain ⟨cs', h2, h3⟩ := h1
      obtain ⟨xs, m, _, _, hcl, hxl, hall⟩ := DataW.trod_array he h3
      have hcells := World.cells?_some h2
      rw [hci] at hall
      rw [hce] at hcl
      have h4 := hall k hk
      rw [List.getElem?_eq_getElem (by omega)] at h4
      obtain ⟨z, hz, _, hwf⟩ := DataW.trod_int hi h4
      refine ⟨z, ?_, bounds_i64 hwf⟩
      rw [hcells.2.2 k hk]
      have h5 := congrArg (fun l : List Value => l[0]?) hz
      simpa [List.getElem?_take, List.getElem?_drop] using h5
    refine ⟨len, fun j k => if h : j < len ∧ k < 4 then (each j k h.1 h.2).choose else 0, ⟨some a', cap, rfl, hl, hm, fun hp => ?_⟩, fun j k hj hk => ?_⟩
    · obtain ⟨b, off, spot⟩ := a'
      obtain ⟨z, h0, _⟩ := each 0 0 hp (by omega)
      obtain rfl : spot = none := by simpa [Addr.add] using World.cell?_spot h0
      have e : ∀ x y, ((⟨b, off, none⟩ : Addr).add x).add y = ⟨b, off + x + y, none⟩ := fun x y => by rw [Addr.add_lit, Addr.add_lit]
      refine ⟨b, off, rfl, cell_lt h0, fun j k hj hk => ?_⟩
      have := (each j k hj hk).choose_spec.1
      simp only [hj, hk, and_self, dif_pos]
      exact (congrArg w.cell? (e (j * 4) k)).symm.trans this
    · simp only [hj, hk, and_self, dif_pos]
      exact (each j k hj hk).choose_spec.2
/-- A slice of ints. -/
theorem open_intsAt {H : Type} {enc : TypeId × Value → H} {P : Program} {w : World} {r : Reach} {b0 : Nat} {t e : TypeId} {v : Value} {d : DataW H} {p : List MemPlace}
    (ht : P.underlying t = some (.slice e)) (he : P.underlying e = some (.int .i64)) (hc : P.cellsOf e = 1) (hv : Value.okWide P w r b0 t v) (hd : DataW.Trod enc P w 0 (fun _ => true) true t v d p) :
    ∃ l, IntsAt w.heap.size w v l ∧ ∀ z ∈ l, -9223372036854775808 ≤ z ∧ z ≤ 9223372036854775807 := by
  obtain ⟨a, len, cap, rfl⟩ := okWide_slice ht hv
  obtain ⟨fuel, hf⟩ := hd
  rcases open_ints ht he hc hf with ⟨hcs, _⟩ | ⟨a', len', cap', zs, hcs, _, hl, hm, hz, _, hcell, hwf⟩
  · simp [Value.cells] at hcs
    obtain ⟨rfl, rfl, rfl⟩ := hcs
    exact ⟨[], IntsAt.nil _ _, fun z hz => by simp at hz⟩
  · simp [Value.cells] at hcs
    obtain ⟨rfl, rfl, rfl⟩ := hcs
    rw [if_pos rfl] at hz
    have hlen : (zs.take len).length = len := by rw [List.length_take]; omega
    refine ⟨zs.take len, ⟨some a', cap, by rw [hlen], by omega, hm, fun h => ?_⟩, fun z hz => bounds_i64 (hwf z (List.mem_of_mem_take hz))⟩
    rw [hlen] at h
    obtain ⟨b, off, rfl, hc'⟩ := ints_at hcell (by omega)
    refine ⟨b, off, rfl, cell_lt (hc' 0 (by omega)), fun i hi => ?_⟩
    rw [hlen] at hi
    rw [hc' i (by omega), List.getD_eq_getElem?_getD, List.getD_eq_getElem?_getD, List.getElem?_take, if_pos hi]
/-- An array of four ints. -/
theorem open_arr4 {H : Type} {enc : TypeId × Value → H} {P : Program} {w : World} {base : Nat} {sp : Nat → Bool} {held : Bool} {r : Reach} {b0 : Nat} {t e : TypeId} {v : Value} {d : DataW H} {p : List MemPlace}
    (ht : P.underlying t = some (.array 4 e)) (he : P.underlying e = some (.int .i64)) (hC : P.cellsOf t = 4) (hc : P.cellsOf e = 1)
    (hv : Value.okWide P w r b0 t v) (hd : DataW.Trod enc P w base sp held t v d p) : ∃ f : Nat → Int, v = .agg #[.int .i64 (f 0), .int .i64 (f 1), .int .i64 (f 2), .int .i64 (f 3)] ∧ ∀ i, i < 4 → -9223372036854775808 ≤ f i ∧ f i ≤ 9223372036854775807 := by
  simp only [Value.okWide, ht] at hv
  obtain ⟨cs, rfl, hsz, _⟩ := hv
  obtain ⟨c0, c1, c2, c3, rfl⟩ : ∃ c0 c1 c2 c3, cs = #[c0, c1, c2, c3] := by
    rw [hC] at hsz
    match cs, hsz with
    | ⟨[c0, c1, c2, c3]⟩, _ => exact ⟨c0, c1, c2, c3, rfl⟩
  obtain ⟨fuel, hf⟩ := hd
  obtain ⟨xs, m, rfl, hx, hl, hxl, hall⟩ := DataW.trod_array ht hf
  rw [hc] at hall
  have h0 := hall 0 (by omega)
  have h1 := hall 1 (by omega)
  have h2 := hall 2 (by omega)
  have h3 := hall 3 (by omega)
  rw [List.getElem?_eq_getElem (by omega)] at h0 h1 h2 h3
  obtain ⟨z0, e0, _, w0⟩ := DataW.trod_int he h0
  obtain ⟨z1, e1, _, w1⟩ := DataW.trod_int he h1
  obtain ⟨z2, e2, _, w2⟩ := DataW.trod_int he h2
  obtain ⟨z3, e3, _, w3⟩ := DataW.trod_int he h3
  simp [Value.cells] at e0 e1 e2 e3
  subst e0 e1 e2 e3
  refine ⟨fun i => [z0, z1, z2, z3].getD i 0, rfl, fun i hi => ?_⟩
  match i, hi with
  | 0, _ => exact bounds_i64 w0
  | 1, _ => exact bounds_i64 w1
  | 2, _ => exact bounds_i64 w2
  | 3, _ => exact bounds_i64 w3
end Go.Proofs.YtmihkbiihfhpoaaDoor
