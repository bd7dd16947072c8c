import Derived.Test.YtcgopilkajfghaaGreatDoorCards
import Derived.Test.YtcgopilkajfghaaGreatDoorTie
import Derived.WalkKit
import Derived.ProofKit
import Derived.OpenShut
import Derived.Deep.DeepHandedRow
import Derived.Lib.LaidTab
import Derived.SliceStrings
import Derived.LaidSub
import Derived.Test.YtcgopilkajfghaaGreatDoorIBase
import Derived.Deep.Strs
set_option linter.unusedVariables false
set_option linter.unusedSimpArgs false

section
set_option linter.unusedVariables false
set_option linter.unusedSimpArgs false

section
/- The frame of a statement: a law that returns true and turns nothing that was there leaves every argument as it read. -/
namespace Go.Proofs.YtcgopilkajfghaaGreatDoor
open Go.ChangeShapes Go.WideShapes Go.ChangeAt Go.RowKit

theorem own : ownKnob Tryz.prog.godebug = none := by kernel_rfl
theorem laidOutP : laidOutB Tryz.prog = true := by kernel_rfl

theorem trodAll_below {H : Type} {enc : TypeId × Value → H} {P : Program} (hl : laidOutB P = true) {W W' : World} (hb : Below W.heap.size W W') :
    ∀ {ts : List TypeId} {vs : List Value} {ds : List (DataW H)} {ps : List MemPlace}, (∀ t ∈ ts, P.readableRec t = true ∧ t < P.types.size) → DataW.TrodAll enc P W 0 (fun _ => true) true ts vs ds ps → (∀ x ∈ ps, x.block < W.heap.size) →
      DataW.TrodAll enc P W' 0 (fun b => decide (b < W.heap.size)) true ts vs ds ps
  | [], _, _, _, _, h, _ => by
    obtain ⟨rfl, rfl, rfl⟩ := trodAll_nil h
    exact trodAll_mk0
  | t :: ts, _, _, _, ht, h, hlt => by
    obtain ⟨v, vs, d, ds, p, q, rfl, rfl, rfl, h0, r0⟩ := trodAll_cons h
    exact trodAll_cons_mk (Below.trod hl (ht t (by simp)).1 (ht t (by simp)).2 h0 hb fun x hx => hlt x (by simp [hx])) (trodAll_below hl hb (fun t h => ht t (by simp [h])) r0 fun x hx => hlt x (by simp [hx]))

/-- What is owed of a law's call. -/
theorem law_post {H : Type} {enc : TypeId × Value → H} {P : Program} (hl : laidOutB P = true) {f : Func} {s : ChangeSpec} {tb : TypeId} (hres : f.resultTypes = #[tb]) (hbool : P.underlying tb = some .bool) (hvars : s.vars = [])
    (hts : ∀ t ∈ f.params.toList, P.readableRec t = true ∧ t < P.types.size) {W W' : World} {args : Array Value} {ds gs : List (DataW H)} {before : List MemPlace}
    (hW : DataW.Whole enc P f.params.toList s.vars false W args.toList ds gs before) (hs : s.fn H ds = { results := [.lit (.bool true)], args := ds }) (hb : Below W.heap.size W W') :
    s.post enc P f false true false false W args (.bool true) W' := by
  have hW' := hW
  obtain ⟨p, q, hA, hV, rfl, hfz, hnd⟩ := hW
  rw [hvars] at hV
  obtain ⟨rfl, rfl⟩ := trodVars_none hV
  have hlt := hW'.lt
  rw [List.append_nil] at hlt
  refine ⟨ds, [], p ++ [], [], p, [], hW', ?_, ?_, ?_, hb.frame _, fun h => by cases h⟩
  · rw [List.append_nil, hs, hres]
    exact trodAll_mk1 (shut_bool hbool true)
  · rw [List.append_nil, hs]
    exact trodAll_below hl hb hts hA hlt
  · rw [List.append_nil, hs, hvars]
    rfl

theorem u8_of {n : Int} (h : 0 ≤ n ∧ n ≤ 255) : ∃ x : UInt8, n = (x.toNat : Int) := ⟨UInt8.ofNat n.toNat, by rw [UInt8.toNat_ofNat']; omega⟩
theorem u32_of {n : Int} (h : 0 ≤ n ∧ n ≤ 4294967295) : ∃ x : UInt32, n = (x.toNat : Int) := ⟨UInt32.ofNat n.toNat, by rw [UInt32.toNat_ofNat']; omega⟩
/-- An array of two strings. -/
theorem open_strs2 {H : Type} {enc : TypeId × Value → H} {P : Program} {w : World} {base : Nat} {sp : Nat → Bool} {held : Bool} {r : Reach} {b0 : Nat} {t e : TypeId} {v : Value} {d : DataW H} {p : List MemPlace}
    (ht : P.underlying t = some (.array 2 e)) (he : P.underlying e = some .string) (hC : P.cellsOf t = 2) (hc : P.cellsOf e = 1)
    (hv : Value.okWide P w r b0 t v) (hd : DataW.Trod enc P w base sp held t v d p) : ∃ a b : ByteArray, v = .agg #[.string a, .string b] ∧ a.size ≤ maxLen ∧ b.size ≤ maxLen := by
  simp only [Value.okWide, ht] at hv
  obtain ⟨cs, rfl, hsz, _⟩ := hv
  obtain ⟨c0, c1, rfl⟩ : ∃ c0 c1, cs = #[c0, c1] := by
    rw [hC] at hsz
    match cs, hsz with
    | ⟨[c0, c1]⟩, _ => exact ⟨c0, c1, rfl⟩
  obtain ⟨fuel, hf⟩ := hd
  obtain ⟨xs, m, rfl, hx, hl, hxl, hall⟩ := DataW.trod_array ht hf
  rw [hc] at hall
  have h0 := hall 0 (by omega)
  have h1 := hall 1 (by omega)
  rw [List.getElem?_eq_getElem (by omega)] at h0 h1
  obtain ⟨a, ea, _, wa⟩ := DataW.trod_string he h0
  obtain ⟨b, eb, _, wb⟩ := DataW.trod_string he h1
  simp [Value.cells] at ea eb
  subst ea
  subst eb
  exact ⟨a, b, rfl, wa, wb⟩

theorem cell_lt {W : World} {a : Addr} {v : Value} (h : W.cell? a = some v) : a.block < W.heap.size := by
  unfold World.cell? at h
  rcases Nat.lt_or_ge a.block W.heap.size with hlt | hge
  · exact hlt
  · rw [Array.getElem?_eq_none hge] at h
    cases h
/-- A slice of ints. -/
theorem open_intS {H : Type} {enc : TypeId × Value → H} {P : Program} {w : World} {r : Reach} {b0 : Nat} {t e : TypeId} {v : Value} {d : DataW H} {p : List MemPlace}
    (ht : P.underlying t = some (.slice e)) (he : P.underlying e = some (.int .i64)) (hc : P.cellsOf e = 1) (hv : Value.okWide P w r b0 t v) (hd : DataW.Trod enc P w 0 (fun _ => true) true t v d p) :
    ∃ (a : Option Addr) (len cap : Nat) (zs : Nat → Int), v = .slice a len cap ∧ len ≤ maxLen ∧ (0 < len → ∃ b off, a = some ⟨b, off, none⟩ ∧ b < w.heap.size ∧ ∀ i, i < len → w.cell? ⟨b, off + i, none⟩ = some (.int .i64 (zs i))) ∧
      ∀ i, i < len → -9223372036854775808 ≤ zs i ∧ zs i ≤ 9223372036854775807 := by
  obtain ⟨a, len, cap, rfl⟩ := okWide_slice ht hv
  obtain ⟨fuel, hf⟩ := hd
  rcases open_ints ht he hc hf with ⟨hcs, _⟩ | ⟨a', len', cap', zs, hcs, _, hl, hm, hz, _, hcell, hwf⟩
  · simp [Value.cells] at hcs
    obtain ⟨rfl, rfl, rfl⟩ := hcs
    exact ⟨none, 0, 0, fun _ => 0, rfl, by unfold maxLen; omega, fun h => by omega, fun i h => by omega⟩
  · simp [Value.cells] at hcs
    obtain ⟨rfl, rfl, rfl⟩ := hcs
    rw [if_pos rfl] at hz
    refine ⟨some a', len, cap, fun i => zs.getD i 0, rfl, Nat.le_trans hl hm, fun h => ?_, fun i hi => ?_⟩
    · obtain ⟨b, off, rfl, hc'⟩ := ints_at hcell (by omega)
      exact ⟨b, off, rfl, cell_lt (hc' 0 (by omega)), fun i hi => hc' i (by omega)⟩
    · have hi' : i < zs.length := by omega
      dsimp only
      rw [List.getD_eq_getElem?_getD, List.getElem?_eq_getElem hi']
      exact bounds_i64 (hwf _ (List.getElem_mem hi'))
/-- A slice of strings. -/
theorem open_strS {H : Type} {enc : TypeId × Value → H} {P : Program} {w : World} {r : Reach} {b0 : Nat} {t e : TypeId} {v : Value} {d : DataW H} {p : List MemPlace}
    (ht : P.underlying t = some (.slice e)) (he : P.underlying e = some .string) (hc : P.cellsOf e = 1) (hv : Value.okWide P w r b0 t v) (hd : DataW.Trod enc P w 0 (fun _ => true) true t v d p) :
    ∃ (a : Option Addr) (len cap : Nat) (ss : Nat → ByteArray), v = .slice a len cap ∧ len ≤ maxLen ∧ (0 < len → ∃ b off, a = some ⟨b, off, none⟩ ∧ b < w.heap.size ∧ ∀ i, i < len → w.cell? ⟨b, off + i, none⟩ = some (.string (ss i))) ∧
      ∀ i, i < len → (ss i).size ≤ maxLen := by
  obtain ⟨a, len, cap, rfl⟩ := okWide_slice ht hv
  obtain ⟨fuel, hf⟩ := hd
  rcases open_strings ht he hc hf with ⟨hcs, _⟩ | ⟨a', len', cap', ss, hcs, _, hl, hm, hz, _, hcell, hwf⟩
  · simp [Value.cells] at hcs
    obtain ⟨rfl, rfl, rfl⟩ := hcs
    exact ⟨none, 0, 0, fun _ => ByteArray.empty, rfl, by unfold maxLen; omega, fun h => by omega, fun i h => by omega⟩
  · simp [Value.cells] at hcs
    obtain ⟨rfl, rfl, rfl⟩ := hcs
    rw [if_pos rfl] at hz
    refine ⟨some a', len, cap, fun i => ss.getD i ByteArray.empty, rfl, Nat.le_trans hl hm, fun h => ?_, fun i hi => ?_⟩
    · obtain ⟨b, off, spot⟩ := a'
      have h0 := hcell 0 (by omega)
      obtain rfl : spot = none := by simpa [Addr.add] using World.cell?_spot h0
      have e : ∀ i, (⟨b, off, none⟩ : Addr).add i = ⟨b, off + i, none⟩ := fun i => by unfold Addr.add; split <;> simp_all
      exact ⟨b, off, rfl, cell_lt h0, fun i hi => by have := hcell i (by omega); rwa [e] at this⟩
    · have hi' : i < ss.length := by omega
      dsimp only
      rw [List.getD_eq_getElem?_getD, List.getElem?_eq_getElem hi']
      exact hwf _ (List.getElem_mem hi')
end Go.Proofs.YtcgopilkajfghaaGreatDoor
end

section
/- What the listed table gives, a world that holds it, and how a slice of strings is opened. -/
namespace Go.Proofs.YtcgopilkajfghaaGreatDoor
open Go.ChangeShapes Go.WideShapes Go.ChangeAt Go.RowKit Go.Shelf

theorem gTab : Tryz.prog.globalNamed "putlog/digest.round" = some 0 := by kernel_rfl
theorem gTabType : (Tryz.prog.globals[0]?).map (·.type) = some 146 := by kernel_rfl
theorem cellsTab : Tryz.prog.cellsOf 146 = 64 := by kernel_rfl
theorem cellsU32 : Tryz.prog.cellsOf 129 = 1 := by kernel_rfl
def tabZ : List Int := kTab.map w32
theorem table {W : World} (h : laidMetH Tryz.prog [("putlog/digest.round", Rows.laid_putlog_digest_round)] W) : Lib.TabIs Tryz.prog W "putlog/digest.round" .u32 tabZ :=
  Lib.tabIs_of_head (rest := []) gTab gTabType Tryz.underlying146 Tryz.underlying129 cellsU32 cellsTab h
theorem rounds_of {W : World} (h : laidMetH Tryz.prog [("putlog/digest.round", Rows.laid_putlog_digest_round)] W) : Rounds W := by
  have ht := table h
  intro j hj
  have := ht.cell gTab j (by simpa [tabZ, kTab] using hj)
  rw [this, tabZ, List.getD_eq_getElem?_getD, List.getElem?_map, List.getElem?_eq_getElem hj, List.getD_eq_getElem?_getD, List.getElem?_eq_getElem hj]
  rfl
/-- The cells of a block become these. -/
def putCells (cs : Array Value) : Obj → Obj
  | .cells _ t frozen => .cells cs t frozen
  | o => o
/-- The settled world, the table holding what its initialiser lays. -/
noncomputable def laidWorld (os : Os) : World :=
  { World.holding Tryz.prog os ⟨#[], #[], []⟩ with heap := (World.holding Tryz.prog os ⟨#[], #[], []⟩).heap.modify 0 (putCells (uCells kTab)) }
/-- A slice of strings. -/
theorem open_strsAt {H : Type} {enc : TypeId × Value → H} {P : Program} {w : World} {r : Reach} {b0 : Nat} {t e : TypeId} {v : Value} {d : DataW H} {p : List MemPlace}
    (ht : P.underlying t = some (.slice e)) (he : P.underlying e = some .string) (hc : P.cellsOf e = 1) (hv : Value.okWide P w r b0 t v) (hd : DataW.Trod enc P w 0 (fun _ => true) true t v d p) :
    ∃ l, StrsAt w.heap.size w v l := by
  obtain ⟨a, len, cap, rfl⟩ := okWide_slice ht hv
  obtain ⟨fuel, hf⟩ := hd
  rcases open_strings ht he hc hf with ⟨hcs, _⟩ | ⟨a', len', cap', ss, hcs, _, hl, hm, hz, _, hcell, hwf⟩
  · simp [Value.cells] at hcs
    obtain ⟨rfl, rfl, rfl⟩ := hcs
    exact ⟨[], StrsAt.nil _ _⟩
  · simp [Value.cells] at hcs
    obtain ⟨rfl, rfl, rfl⟩ := hcs
    rw [if_pos rfl] at hz
    have hlen : ((ss.take len).map (·.data.toList)).length = len := by rw [List.length_map, List.length_take]; omega
    refine ⟨(ss.take len).map (·.data.toList), some a', cap, by rw [hlen], by omega, hm, fun h => ?_⟩
    rw [hlen] at h
    obtain ⟨b, off, spot⟩ := a'
    have h0 := hcell 0 (by omega)
    obtain rfl : spot = none := by simpa [Addr.add] using World.cell?_spot h0
    have e : ∀ i, (⟨b, off, none⟩ : Addr).add i = ⟨b, off + i, none⟩ := fun i => by unfold Addr.add; split <;> simp_all
    refine ⟨b, off, rfl, cell_lt h0, fun i hi => ?_⟩
    rw [hlen] at hi
    have := hcell i (by omega)
    rw [e] at this
    rw [this]
    have hi' : i < ss.length := by omega
    simp [List.getD_eq_getElem?_getD, hi, hi', bs_of]
end Go.Proofs.YtcgopilkajfghaaGreatDoor
end
section
/- How the arguments of the statements on indices are opened. -/
namespace Go.Proofs.YtcgopilkajfghaaGreatDoor
open Go.ChangeShapes Go.WideShapes Go.ChangeAt Go.RowKit Go.Shelf

/-- A slice of arrays of six ints. -/
theorem open_six {H : Type} {enc : TypeId × Value → H} {P : Program} {w : World} {r : Reach} {b0 : Nat} {t e i : TypeId} {v : Value} {d : DataW H} {p : List MemPlace}
    (ht : P.underlying t = some (.slice e)) (he : P.underlying e = some (.array 6 i)) (hi : P.underlying i = some (.int .i64)) (hce : P.cellsOf e = 6) (hci : P.cellsOf i = 1) (hv : Value.okWide P w r b0 t v) (hd : DataW.Trod enc P w 0 (fun _ => true) true t v d p) :
    ∃ n f, SixAt w.heap.size w v n f := by
  obtain ⟨a, len, cap, rfl⟩ := okWide_slice ht hv
  obtain ⟨fuel, hf⟩ := hd
  rcases DataW.trod_slice ht hf with ⟨hcs, _⟩ | ⟨a', len', cap', elems, rest, n, _, hcs, _, _, hl, hm, hlen, hel, _, _⟩
  · simp [Value.cells] at hcs
    obtain ⟨rfl, rfl, rfl⟩ := hcs
    exact ⟨0, fun _ _ => 0, ⟨none, 0, rfl, Nat.le_refl _, Nat.zero_le _, fun h => by omega⟩, fun i h => by omega⟩
  · simp [Value.cells] at hcs
    obtain ⟨rfl, rfl, rfl⟩ := hcs
    have each : ∀ j k, j < len → k < 6 → ∃ z : Int, w.cell? ((a'.add (j * 6)).add k) = some (.int .i64 z) ∧ -9223372036854775808 ≤ z ∧ z ≤ 9223372036854775807 := by
      intro j k hj hk
      have h1 := hel j hj
      rw [List.getElem?_eq_getElem (by omega), hce, Option.bind_eq_some_iff] at h1
      obtain ⟨cs', h2, h3⟩ := h1
      obtain ⟨xs, m, _, _, hcl, hxl, hall⟩ := DataW.trod_array he h3
      have hcells := World.cells?_some h2
      rw [hci] at hall
      rw [hce] at hcl
      have h4 := hall k hk
      rw [List.getElem?_eq_getElem (by omega)] at h4
      obtain ⟨z, hz, _, hwf⟩ := DataW.trod_int hi h4
      refine ⟨z, ?_, bounds_i64 hwf⟩
      rw [hcells.2.2 k hk]
      have h5 := congrArg (fun l : List Value => l[0]?) hz
      simpa [List.getElem?_take, List.getElem?_drop] using h5
    refine ⟨len, fun j k => if h : j < len ∧ k < 6 then (each j k h.1 h.2).choose else 0, ⟨some a', cap, rfl, hl, hm, fun hp => ?_⟩, fun j hj k hk => ?_⟩
    · obtain ⟨b, off, spot⟩ := a'
      obtain ⟨z, h0, _⟩ := each 0 0 hp (by omega)
      obtain rfl : spot = none := by simpa [Addr.add] using World.cell?_spot h0
      have e : ∀ x y, ((⟨b, off, none⟩ : Addr).add x).add y = ⟨b, off + x + y, none⟩ := fun x y => by rw [Addr.add_lit, Addr.add_lit]
      refine ⟨b, off, rfl, cell_lt h0, fun j k hj hk => ?_⟩
      have := (each j k hj hk).choose_spec.1
      simp only [hj, hk, and_self, dif_pos]
      exact (congrArg w.cell? (e (j * 6) k)).symm.trans this
    · simp only [hj, hk, and_self, dif_pos]
      exact (each j k hj hk).choose_spec.2
/-- A slice of arrays of fives ints. -/
theorem open_fives {H : Type} {enc : TypeId × Value → H} {P : Program} {w : World} {r : Reach} {b0 : Nat} {t e i : TypeId} {v : Value} {d : DataW H} {p : List MemPlace}
    (ht : P.underlying t = some (.slice e)) (he : P.underlying e = some (.array 5 i)) (hi : P.underlying i = some (.int .i64)) (hce : P.cellsOf e = 5) (hci : P.cellsOf i = 1) (hv : Value.okWide P w r b0 t v) (hd : DataW.Trod enc P w 0 (fun _ => true) true t v d p) :
    ∃ n f, FiveAt w.heap.size w v n f := by
  obtain ⟨a, len, cap, rfl⟩ := okWide_slice ht hv
  obtain ⟨fuel, hf⟩ := hd
  rcases DataW.trod_slice ht hf with ⟨hcs, _⟩ | ⟨a', len', cap', elems, rest, n, _, hcs, _, _, hl, hm, hlen, hel, _, _⟩
  · simp [Value.cells] at hcs
    obtain ⟨rfl, rfl, rfl⟩ := hcs
    exact ⟨0, fun _ _ => 0, ⟨none, 0, rfl, Nat.le_refl _, Nat.zero_le _, fun h => by omega⟩, fun i h => by omega⟩
  · simp [Value.cells] at hcs
    obtain ⟨rfl, rfl, rfl⟩ := hcs
    have each : ∀ j k, j < len → k < 5 → ∃ z : Int, w.cell? ((a'.add (j * 5)).add k) = some (.int .i64 z) ∧ -9223372036854775808 ≤ z ∧ z ≤ 9223372036854775807 := by
      intro j k hj hk
      have h1 := hel j hj
      rw [List.getElem?_eq_getElem (by omega), hce, Option.bind_eq_some_iff] at h1
      obtain ⟨cs', h2, h3⟩ := h1
      obtain ⟨xs, m, _, _, hcl, hxl, hall⟩ := DataW.trod_array he h3
      have hcells := World.cells?_some h2
      rw [hci] at hall
      rw [hce] at hcl
      have h4 := hall k hk
      rw [List.getElem?_eq_getElem (by omega)] at h4
      obtain ⟨z, hz, _, hwf⟩ := DataW.trod_int hi h4
      refine ⟨z, ?_, bounds_i64 hwf⟩
      rw [hcells.2.2 k hk]
      have h5 := congrArg (fun l : List Value => l[0]?) hz
      simpa [List.getElem?_take, List.getElem?_drop] using h5
    refine ⟨len, fun j k => if h : j < len ∧ k < 5 then (each j k h.1 h.2).choose else 0, ⟨some a', cap, rfl, hl, hm, fun hp => ?_⟩, fun j hj k hk => ?_⟩
    · obtain ⟨b, off, spot⟩ := a'
      obtain ⟨z, h0, _⟩ := each 0 0 hp (by omega)
      obtain rfl : spot = none := by simpa [Addr.add] using World.cell?_spot h0
      have e : ∀ x y, ((⟨b, off, none⟩ : Addr).add x).add y = ⟨b, off + x + y, none⟩ := fun x y => by rw [Addr.add_lit, Addr.add_lit]
      refine ⟨b, off, rfl, cell_lt h0, fun j k hj hk => ?_⟩
      have := (each j k hj hk).choose_spec.1
      simp only [hj, hk, and_self, dif_pos]
      exact (congrArg w.cell? (e (j * 5) k)).symm.trans this
    · simp only [hj, hk, and_self, dif_pos]
      exact (each j k hj hk).choose_spec.2
/-- An array of five ints. -/
theorem open_arr5 {H : Type} {enc : TypeId × Value → H} {P : Program} {w : World} {base : Nat} {sp : Nat → Bool} {held : Bool} {r : Reach} {b0 : Nat} {t e : TypeId} {v : Value} {d : DataW H} {p : List MemPlace}
    (ht : P.underlying t = some (.array 5 e)) (he : P.underlying e = some (.int .i64)) (hC : P.cellsOf t = 5) (hc : P.cellsOf e = 1)
    (hv : Value.okWide P w r b0 t v) (hd : DataW.Trod enc P w base sp held t v d p) : ∃ f : Nat → Int, v = .agg #[.int .i64 (f 0), .int .i64 (f 1), .int .i64 (f 2), .int .i64 (f 3), .int .i64 (f 4)] ∧ inAll 5 f := by
  simp only [Value.okWide, ht] at hv
  obtain ⟨cs, rfl, hsz, _⟩ := hv
  obtain ⟨c0, c1, c2, c3, c4, rfl⟩ : ∃ c0 c1 c2 c3 c4, cs = #[c0, c1, c2, c3, c4] := by
    rw [hC] at hsz
    match cs, hsz with
    | ⟨[c0, c1, c2, c3, c4]⟩, _ => exact ⟨c0, c1, c2, c3, c4, rfl⟩
  obtain ⟨fuel, hf⟩ := hd
  obtain ⟨xs, m, rfl, hx, hl, hxl, hall⟩ := DataW.trod_array ht hf
  rw [hc] at hall
  have h0 := hall 0 (by omega)
  have h1 := hall 1 (by omega)
  have h2 := hall 2 (by omega)
  have h3 := hall 3 (by omega)
  have h4 := hall 4 (by omega)
  rw [List.getElem?_eq_getElem (by omega)] at h0 h1 h2 h3 h4
  obtain ⟨z0, e0, _, w0⟩ := DataW.trod_int he h0
  obtain ⟨z1, e1, _, w1⟩ := DataW.trod_int he h1
  obtain ⟨z2, e2, _, w2⟩ := DataW.trod_int he h2
  obtain ⟨z3, e3, _, w3⟩ := DataW.trod_int he h3
  obtain ⟨z4, e4, _, w4⟩ := DataW.trod_int he h4
  simp [Value.cells] at e0 e1 e2 e3 e4
  subst e0 e1 e2 e3 e4
  refine ⟨fun i => [z0, z1, z2, z3, z4].getD i 0, rfl, fun i hi => ?_⟩
  match i, hi with
  | 0, _ => exact bounds_i64 w0
  | 1, _ => exact bounds_i64 w1
  | 2, _ => exact bounds_i64 w2
  | 3, _ => exact bounds_i64 w3
  | 4, _ => exact bounds_i64 w4
end Go.Proofs.YtcgopilkajfghaaGreatDoor
end
end

section
/- How cards and a spell among the arguments are opened. -/
set_option linter.unusedVariables false
set_option linter.unusedSimpArgs false
namespace Go.Proofs.YtcgopilkajfghaaGreatDoor
open Go.ChangeShapes Go.WideShapes Go.ChangeAt Go.RowKit Go.Shelf

theorem ilist2 {α : Type} : ∀ {l : List α}, l.length = 2 → ∃ a b, l = [a, b]
  | [a, b], _ => ⟨a, b, rfl⟩
theorem ilist4 {α : Type} : ∀ {l : List α}, l.length = 4 → ∃ a b c d, l = [a, b, c, d]
  | [a, b, c, d], _ => ⟨a, b, c, d, rfl⟩
theorem ilist5 {α : Type} : ∀ {l : List α}, l.length = 5 → ∃ a b c d e, l = [a, b, c, d, e]
  | [a, b, c, d, e], _ => ⟨a, b, c, d, e, rfl⟩
section
variable {H : Type} {enc : TypeId × Value → H} {w : World}
set_option maxRecDepth 1000000 in
theorem rowsP_trod {α : Type} [Inhabited α] {K : SK α} (p : α → Prop) (ok : K.Ok) (hc : Tryz.prog.cellsOf K.ty = K.size) (el : ∀ (cs : List Value) (x : DataW H × List MemPlace) (n : Nat), DataW.trod enc Tryz.prog w 0 (fun _ => true) true n K.ty cs = some x → ∃ r : α, cs = K.enc r ∧ p r)
    {cs : List Value} {x : DataW H × List MemPlace} {n : Nat} (h : DataW.trod enc Tryz.prog w 0 (fun _ => true) true n K.st cs = some x) : ∃ v l, cs = [v] ∧ RowsAt K w.heap.size w v l ∧ ∀ r ∈ l, p r := by
  rcases DataW.trod_slice ok.und h with ⟨hcs, _⟩ | ⟨a', len', cap', elems, rest, m, _, hcs, _, _, hl, hm, hlen, hel, _, _⟩
  · exact ⟨_, [], hcs, RowsAt.nil _ _, fun r hr => by cases hr⟩
  · refine ⟨.slice (some a') len' cap', ?_⟩
    rw [hc] at hel
    have each : ∀ j : Nat, ∃ r : α, j < len' → (∀ (k : Nat) (u : Value), (K.enc r)[k]? = some u → w.cell? ((a'.add (j * K.size)).add k) = some u) ∧ p r := fun j => by
      by_cases hj : j < len'
      · have h1 := hel j hj
        rw [List.getElem?_eq_getElem (by omega), Option.bind_eq_some_iff] at h1
        obtain ⟨cs', h2, h3⟩ := h1
        obtain ⟨r, e, hp⟩ := el _ _ _ h3
        have hcells := World.cells?_some h2
        subst e
        refine ⟨r, fun _ => ⟨fun k u hu => ?_, hp⟩⟩
        have hk : k < K.size := by have := (List.getElem?_eq_some_iff.1 hu).1; rwa [ok.len] at this
        have := hcells.2.2 k hk
        rw [this]
        first | exact hu | (rw [← hu]; simp [List.getElem?_eq_getElem, List.getD_eq_getElem?_getD]) | simpa using hu
      · exact ⟨default, fun h => absurd h hj⟩
    obtain ⟨f, hf⟩ := Classical.axiomOfChoice each
    have hl' : ((List.range len').map f).length = len' := by simp
    refine ⟨(List.range len').map f, hcs, ⟨some a', cap', by rw [hl'], by omega, hm, fun hp => ?_⟩, fun r hr => ?_⟩
    · rw [hl'] at hp
      obtain ⟨b, off, spot⟩ := a'
      obtain ⟨u0, hu0⟩ : ∃ u0, (K.enc (f 0))[0]? = some u0 := ⟨_, List.getElem?_eq_getElem (by rw [ok.len]; exact ok.pos)⟩
      have h0 := (hf 0 hp).1 0 u0 hu0
      obtain rfl : spot = none := by simpa [Addr.add] using World.cell?_spot h0
      have e : ∀ x y, ((⟨b, off, none⟩ : Addr).add x).add y = ⟨b, off + x + y, none⟩ := fun x y => by rw [Addr.add_lit, Addr.add_lit]
      rw [e] at h0
      refine ⟨b, off, rfl, cell_lt h0, fun i x hi k u hu => ?_⟩
      have hil : i < len' := by have := (List.getElem?_eq_some_iff.1 hi).1; rwa [hl'] at this
      have hx : f i = x := by simpa [hil] using hi
      have g := (hf i hil).1 k u (by rw [hx]; exact hu)
      rwa [e] at g
    · obtain ⟨i, hi, rfl⟩ := List.mem_map.1 hr
      exact (hf i (List.mem_range.1 hi)).2
set_option maxRecDepth 1000000 in
theorem spell_trod {cs : List Value} {x : DataW H × List MemPlace} {n : Nat} (h : DataW.trod enc Tryz.prog w 0 (fun _ => true) true n 25 cs = some x) : ∃ a b : Int, cs = [.int .i64 a, .int .i64 b] ∧ inI a ∧ inI b := by
  obtain ⟨xs, m, _, _, hl, hlen, hf⟩ := DataW.trod_struct Tryz.underlying25 h
  obtain ⟨y0, y1, rfl⟩ := ilist2 (hlen.trans rfl)
  have h0 := hf 0 _ rfl
  have h1 := hf 1 _ rfl
  obtain ⟨a, b, rfl⟩ := ilist2 (hl.trans (by kernel_rfl))
  have h0' : DataW.trod enc Tryz.prog w 0 (fun _ => true) true m 3 [a] = some y0 := h0
  have h1' : DataW.trod enc Tryz.prog w 0 (fun _ => true) true m 3 [b] = some y1 := h1
  clear h0 h1 hf
  obtain ⟨z0, e0, _, w0⟩ := DataW.trod_int Tryz.underlying3 h0'
  obtain ⟨z1, e1, _, w1⟩ := DataW.trod_int Tryz.underlying3 h1'
  cases e0; cases e1
  exact ⟨z0, z1, rfl, bounds_i64 w0, bounds_i64 w1⟩
set_option maxRecDepth 1000000 in
theorem card_trod {cs : List Value} {x : DataW H × List MemPlace} {n : Nat} (h : DataW.trod enc Tryz.prog w 0 (fun _ => true) true n 35 cs = some x) : ∃ r : ICard, cs = cardK.enc r ∧ inI r.id := by
  obtain ⟨xs, m, _, _, hl, hlen, hf⟩ := DataW.trod_struct Tryz.underlying35 h
  obtain ⟨y0, y1, y2, y3, rfl⟩ := ilist4 (hlen.trans rfl)
  have h0 := hf 0 _ rfl
  have h1 := hf 1 _ rfl
  have h2 := hf 2 _ rfl
  have h3 := hf 3 _ rfl
  obtain ⟨a, b, c, d, e, rfl⟩ := ilist5 (hl.trans (by kernel_rfl))
  have h0' : DataW.trod enc Tryz.prog w 0 (fun _ => true) true m 3 [a] = some y0 := h0
  have h1' : DataW.trod enc Tryz.prog w 0 (fun _ => true) true m 3 [b] = some y1 := h1
  have h2' : DataW.trod enc Tryz.prog w 0 (fun _ => true) true m 3 [c] = some y2 := h2
  have h3' : DataW.trod enc Tryz.prog w 0 (fun _ => true) true m 25 [d, e] = some y3 := h3
  clear h0 h1 h2 h3 hf
  obtain ⟨z0, e0, _, w0⟩ := DataW.trod_int Tryz.underlying3 h0'
  obtain ⟨z1, e1, _⟩ := DataW.trod_int Tryz.underlying3 h1'
  obtain ⟨z2, e2, _⟩ := DataW.trod_int Tryz.underlying3 h2'
  obtain ⟨z3, z4, e3, _⟩ := spell_trod h3'
  cases e0; cases e1; cases e2; cases e3
  exact ⟨⟨z0, z1, z2, z3, z4⟩, rfl, bounds_i64 w0⟩
set_option maxRecDepth 1000000 in
theorem open_spell {r : Reach} {b0 : Nat} {v : Value} {d : DataW H} {p : List MemPlace} (hv : Value.okWide Tryz.prog w r b0 25 v) (hd : DataW.Trod enc Tryz.prog w 0 (fun _ => true) true 25 v d p) :
    ∃ a b : Int, v = .agg #[.int .i64 a, .int .i64 b] ∧ inI a ∧ inI b := by
  simp only [Value.okWide, Tryz.underlying25] at hv
  obtain ⟨cs, rfl, hsz, _⟩ := hv
  obtain ⟨fuel, hf⟩ := hd
  obtain ⟨a, b, hx, ha, hb⟩ := spell_trod (cs := cs.toList) hf
  exact ⟨a, b, by rw [show cs = cs.toList.toArray from by simp, hx], ha, hb⟩
set_option maxRecDepth 1000000 in
theorem open_cards {r : Reach} {b0 : Nat} {v : Value} {d : DataW H} {p : List MemPlace} (hv : Value.okWide Tryz.prog w r b0 23 v) (hd : DataW.Trod enc Tryz.prog w 0 (fun _ => true) true 23 v d p) :
    ∃ l, RowsAt cardK w.heap.size w v l ∧ ∀ c ∈ l, inI c.id := by
  obtain ⟨a, len, cap, rfl⟩ := okWide_slice Tryz.underlying23 hv
  obtain ⟨fuel, hf⟩ := hd
  obtain ⟨v', l, e, h1, h2⟩ := rowsP_trod (fun c : ICard => inI c.id) cardOk (by kernel_rfl) (fun _ _ _ h => card_trod h) hf
  simp [Value.cells] at e
  subst e
  exact ⟨l, h1, h2⟩
end
end Go.Proofs.YtcgopilkajfghaaGreatDoor
end
