/- How a theory among the arguments is opened. -/
import Derived.Test.YtmihkbiihfhpoaaDoorJLaid
import Derived.Deep.Strs
namespace Go.Proofs.YtmihkbiihfhpoaaDoor
open Go.ChangeShapes Go.WideShapes Go.ChangeAt Go.RowKit Go.Shelf

section
variable {H : Type} {enc : TypeId × Value → H} {w : World}
theorem ints_trod {cs : List Value} {x : DataW H × List MemPlace} {n : Nat} (h : DataW.trod enc Tryd.prog w 0 (fun _ => true) true n 26 cs = some x) : ∃ nv l, cs = [nv] ∧ IntsAt w.heap.size w nv l := by
  rcases open_ints Tryd.underlying26 Tryd.underlying3 (by kernel_rfl) h with ⟨rfl, _⟩ | ⟨a', len', cap', zs, rfl, _, hl, hm, hz, _, hcell, hwf⟩
  · exact ⟨_, [], rfl, IntsAt.nil _ _⟩
  · rw [if_pos rfl] at hz
    have hlen : (zs.take len').length = len' := by rw [List.length_take]; omega
    refine ⟨_, zs.take len', rfl, some a', cap', by rw [hlen], by omega, hm, fun h => ?_⟩
    rw [hlen] at h
    obtain ⟨b, off, rfl, hc'⟩ := ints_at hcell (by omega)
    refine ⟨b, off, rfl, cell_lt (hc' 0 (by omega)), fun i hi => ?_⟩
    rw [hlen] at hi
    rw [hc' i (by omega), List.getD_eq_getElem?_getD, List.getD_eq_getElem?_getD, List.getElem?_take, if_pos hi]
theorem int_trod {cs : List Value} {x : DataW H × List MemPlace} {n : Nat} (h : DataW.trod enc Tryd.prog w 0 (fun _ => true) true n 3 cs = some x) : ∃ z : Int, cs = [.int .i64 z] := by
  obtain ⟨z, hz, _⟩ := DataW.trod_int Tryd.underlying3 h
  exact ⟨z, hz⟩
theorem rule_trod {cs : List Value} {x : DataW H × List MemPlace} {n : Nat} (h : DataW.trod enc Tryd.prog w 0 (fun _ => true) true n 48 cs = some x) : ∃ nv g l, cs = [nv, .int .i64 g] ∧ IntsAt w.heap.size w nv l := by
  obtain ⟨y0, y1, m, _, hl, h0, h1⟩ := Go.ChangeShapes.trod_struct2 Tryd.underlying48 h
  obtain ⟨nv, l, e0, hi⟩ := ints_trod h0
  obtain ⟨g, e1⟩ := int_trod h1
  have hl2 : cs.length = 2 := hl.trans (by kernel_rfl)
  match cs, hl2 with
  | [a, b], _ =>
    have e0' : [a] = [nv] := e0
    have e1' : [b] = [Value.int .i64 g] := e1
    cases e0'
    cases e1'
    exact ⟨_, g, l, rfl, hi⟩
theorem open_theory {r : Reach} {b0 : Nat} {v : Value} {d : DataW H} {p : List MemPlace} (hv : Value.okWide Tryd.prog w r b0 25 v) (hd : DataW.Trod enc Tryd.prog w 0 (fun _ => true) true 25 v d p) :
    ∃ s dd rv rs, v = thV s dd rv ∧ RulesAt w.heap.size w rv rs := by
  simp only [Value.okWide, Tryd.underlying25] at hv
  obtain ⟨cs, rfl, hsz, _⟩ := hv
  have hC : Tryd.prog.cellsOf 25 = 3 := by kernel_rfl
  obtain ⟨c0, c1, c2, rfl⟩ : ∃ c0 c1 c2, cs = #[c0, c1, c2] := by
    rw [hC] at hsz
    match cs, hsz with
    | ⟨[c0, c1, c2]⟩, _ => exact ⟨c0, c1, c2, rfl⟩
  obtain ⟨fuel, hf⟩ := hd
  obtain ⟨y0, y1, y2, m, _, hl, h0, h1, h2⟩ := Go.Deep.trod_struct3 Tryd.underlying25 hf
  obtain ⟨s, e0⟩ := int_trod h0
  obtain ⟨dd, e1⟩ := int_trod h1
  have e0' : [c0] = [Value.int .i64 s] := e0
  have e1' : [c1] = [Value.int .i64 dd] := e1
  cases e0'
  cases e1'
  have h2' : DataW.trod enc Tryd.prog w 0 (fun _ => true) true m 23 [c2] = some y2 := h2
  refine ⟨s, dd, c2, ?_⟩
  rcases DataW.trod_slice Tryd.underlying23 h2' with ⟨hcs, _⟩ | ⟨a', len', cap', elems, rest, n, _, hcs, _, _, hl, hm, hlen, hel, _, _⟩
  · cases hcs
    exact ⟨[], rfl, RulesAt.nil _ _⟩
  · cases hcs
    have hcr : Tryd.prog.cellsOf 48 = 2 := by kernel_rfl
    rw [hcr] at hel
    have each : ∀ j, j < len' → ∃ nv g l, w.cell? ((a'.add (j * 2)).add 0) = some nv ∧ w.cell? ((a'.add (j * 2)).add 1) = some (.int .i64 g) ∧ IntsAt w.heap.size w nv l := by
      intro j hj
      have h1 := hel j hj
      rw [List.getElem?_eq_getElem (by omega), Option.bind_eq_some_iff] at h1
      obtain ⟨cs', h2, h3⟩ := h1
      obtain ⟨nv, g, l, e, hi⟩ := rule_trod h3
      have hcells := World.cells?_some h2
      subst e
      exact ⟨nv, g, l, hcells.2.2 0 (by omega), hcells.2.2 1 (by omega), hi⟩
    have each' : ∀ j : Nat, ∃ r : JRule, j < len' → ∃ nv, w.cell? ((a'.add (j * 2)).add 0) = some nv ∧ w.cell? ((a'.add (j * 2)).add 1) = some (.int .i64 r.gives) ∧ IntsAt w.heap.size w nv r.needs := fun j => by
      by_cases hj : j < len'
      · obtain ⟨nv, g, l, h1, h2, h3⟩ := each j hj
        exact ⟨⟨l, g⟩, fun _ => ⟨nv, h1, h2, h3⟩⟩
      · exact ⟨default, fun h => absurd h hj⟩
    obtain ⟨f, hf⟩ := Classical.axiomOfChoice each'
    have hl' : ((List.range len').map f).length = len' := by simp
    refine ⟨(List.range len').map f, rfl, some a', cap', by rw [hl'], by omega, hm, fun hp => ?_⟩
    rw [hl'] at hp
    obtain ⟨b, off, spot⟩ := a'
    obtain ⟨nv0, h0, _⟩ := hf 0 hp
    obtain rfl : spot = none := by simpa [Addr.add] using World.cell?_spot h0
    have e : ∀ x y, ((⟨b, off, none⟩ : Addr).add x).add y = ⟨b, off + x + y, none⟩ := fun x y => by rw [Addr.add_lit, Addr.add_lit]
    refine ⟨b, off, rfl, cell_lt h0, fun i hi => ?_⟩
    rw [hl'] at hi
    obtain ⟨nv, h1, h2, h3⟩ := hf i hi
    have eg : ((List.range len').map f).getD i default = f i := by simp [List.getD_eq_getElem?_getD, hi]
    rw [eg]
    rw [e] at h1 h2
    exact ⟨nv, h1, h2, h3⟩
end
end Go.Proofs.YtmihkbiihfhpoaaDoor
