/- How a record and a logbook among the arguments are opened. -/
import Derived.Test.YthfenbdlolbikaaGreatDoorMFrame
import Derived.Test.YthfenbdlolbikaaGreatDoorGEq
import Derived.Deep.Strs
set_option linter.unusedVariables false
set_option linter.unusedSimpArgs false
namespace Go.Proofs.YthfenbdlolbikaaGreatDoor
open Go.ChangeShapes Go.WideShapes Go.ChangeAt Go.RowKit Go.Shelf

theorem list5 {α : Type} : ∀ {l : List α}, l.length = 5 → ∃ a b c d e, l = [a, b, c, d, e]
  | [a, b, c, d, e], _ => ⟨a, b, c, d, e, rfl⟩
section
variable {H : Type} {enc : TypeId × Value → H} {w : World}
set_option maxRecDepth 1000000 in
theorem rec_trod {cs : List Value} {x : DataW H × List MemPlace} {n : Nat} (h : DataW.trod enc Tryz.prog w 0 (fun _ => true) true n 48 cs = some x) : ∃ r : LRec, cs = recC r := by
  obtain ⟨xs, m, _, _, hl, hlen, hf⟩ := DataW.trod_struct Tryz.underlying48 h
  obtain ⟨y0, y1, y2, y3, y4, rfl⟩ := list5 (hlen.trans rfl)
  have h0 := hf 0 _ rfl
  have h1 := hf 1 _ rfl
  have h2 := hf 2 _ rfl
  have h3 := hf 3 _ rfl
  have h4 := hf 4 _ rfl
  obtain ⟨a, b, c, d, e, rfl⟩ := list5 (hl.trans (by kernel_rfl))
  have h0' : DataW.trod enc Tryz.prog w 0 (fun _ => true) true m 3 [a] = some y0 := h0
  have h1' : DataW.trod enc Tryz.prog w 0 (fun _ => true) true m 3 [b] = some y1 := h1
  have h2' : DataW.trod enc Tryz.prog w 0 (fun _ => true) true m 3 [c] = some y2 := h2
  have h3' : DataW.trod enc Tryz.prog w 0 (fun _ => true) true m 3 [d] = some y3 := h3
  have h4' : DataW.trod enc Tryz.prog w 0 (fun _ => true) true m 9 [e] = some y4 := h4
  clear h0 h1 h2 h3 h4 hf
  obtain ⟨z0, e0, _⟩ := DataW.trod_int Tryz.underlying3 h0'
  obtain ⟨z1, e1, _⟩ := DataW.trod_int Tryz.underlying3 h1'
  obtain ⟨z2, e2, _⟩ := DataW.trod_int Tryz.underlying3 h2'
  obtain ⟨z3, e3, _⟩ := DataW.trod_int Tryz.underlying3 h3'
  obtain ⟨s, e4, _⟩ := DataW.trod_string Tryz.underlying9 h4'
  cases e0; cases e1; cases e2; cases e3; cases e4
  exact ⟨⟨z0, z1, z2, z3, s.data.toList⟩, rfl⟩
set_option maxRecDepth 1000000 in
theorem open_rec {r : Reach} {b0 : Nat} {v : Value} {d : DataW H} {p : List MemPlace} (hv : Value.okWide Tryz.prog w r b0 48 v) (hd : DataW.Trod enc Tryz.prog w 0 (fun _ => true) true 48 v d p) :
    ∃ x : LRec, v = recV x := by
  simp only [Value.okWide, Tryz.underlying48] at hv
  obtain ⟨cs, rfl, hsz, _⟩ := hv
  obtain ⟨fuel, hf⟩ := hd
  obtain ⟨x, hx⟩ := rec_trod (cs := cs.toList) hf
  exact ⟨x, by rw [show cs = cs.toList.toArray from by simp, hx]; rfl⟩
set_option maxRecDepth 1000000 in
theorem recs_trod {cs : List Value} {x : DataW H × List MemPlace} {n : Nat} (h : DataW.trod enc Tryz.prog w 0 (fun _ => true) true n 23 cs = some x) : ∃ v l, cs = [v] ∧ RecsAt w.heap.size w v l := by
  rcases DataW.trod_slice Tryz.underlying23 h with ⟨hcs, _⟩ | ⟨a', len', cap', elems, rest, m, _, hcs, _, _, hl, hm, hlen, hel, _, _⟩
  · exact ⟨_, [], hcs, RecsAt.nil _ _⟩
  · refine ⟨.slice (some a') len' cap', ?_⟩
    have hcr : Tryz.prog.cellsOf 48 = 5 := by kernel_rfl
    rw [hcr] at hel
    have each : ∀ j : Nat, ∃ r : LRec, j < len' → w.cell? ((a'.add (j * 5)).add 0) = some (.int .i64 r.sec) ∧ w.cell? ((a'.add (j * 5)).add 1) = some (.int .i64 r.kind) ∧ w.cell? ((a'.add (j * 5)).add 2) = some (.int .i64 r.a) ∧ w.cell? ((a'.add (j * 5)).add 3) = some (.int .i64 r.b) ∧ w.cell? ((a'.add (j * 5)).add 4) = some (.string (bs r.text)) := fun j => by
      by_cases hj : j < len'
      · have h1 := hel j hj
        rw [List.getElem?_eq_getElem (by omega), Option.bind_eq_some_iff] at h1
        obtain ⟨cs', h2, h3⟩ := h1
        obtain ⟨r, e⟩ := rec_trod h3
        have hcells := World.cells?_some h2
        subst e
        exact ⟨r, fun _ => ⟨hcells.2.2 0 (by omega), hcells.2.2 1 (by omega), hcells.2.2 2 (by omega), hcells.2.2 3 (by omega), hcells.2.2 4 (by omega)⟩⟩
      · exact ⟨default, fun h => absurd h hj⟩
    obtain ⟨f, hf⟩ := Classical.axiomOfChoice each
    have hl' : ((List.range len').map f).length = len' := by simp
    refine ⟨(List.range len').map f, hcs, some a', cap', by rw [hl'], by omega, hm, fun hp => ?_⟩
    rw [hl'] at hp
    obtain ⟨b, off, spot⟩ := a'
    obtain ⟨h0, _⟩ := hf 0 hp
    obtain rfl : spot = none := by simpa [Addr.add] using World.cell?_spot h0
    have e : ∀ x y, ((⟨b, off, none⟩ : Addr).add x).add y = ⟨b, off + x + y, none⟩ := fun x y => by rw [Addr.add_lit, Addr.add_lit]
    refine ⟨b, off, rfl, cell_lt h0, fun i hi => ?_⟩
    rw [hl'] at hi
    obtain ⟨g0, g1, g2, g3, g4⟩ := hf i hi
    have eg : ((List.range len').map f).getD i default = f i := by simp [List.getD_eq_getElem?_getD, hi]
    rw [eg]
    rw [e] at g0 g1 g2 g3 g4
    exact ⟨g0, g1, g2, g3, g4⟩
set_option maxRecDepth 1000000 in
theorem open_book {r : Reach} {b0 : Nat} {v : Value} {d : DataW H} {p : List MemPlace} (hv : Value.okWide Tryz.prog w r b0 25 v) (hd : DataW.Trod enc Tryz.prog w 0 (fun _ => true) true 25 v d p) :
    ∃ o rv l, v = bookV o rv ∧ RecsAt w.heap.size w rv l := by
  simp only [Value.okWide, Tryz.underlying25] at hv
  obtain ⟨cs, rfl, hsz, _⟩ := hv
  have hC : Tryz.prog.cellsOf 25 = 2 := by kernel_rfl
  obtain ⟨c0, c1, rfl⟩ : ∃ c0 c1, cs = #[c0, c1] := by
    rw [hC] at hsz
    match cs, hsz with
    | ⟨[c0, c1]⟩, _ => exact ⟨c0, c1, rfl⟩
  obtain ⟨fuel, hf⟩ := hd
  obtain ⟨y0, y1, m, _, hl, h0, h1⟩ := Go.ChangeShapes.trod_struct2 Tryz.underlying25 hf
  have h0' : DataW.trod enc Tryz.prog w 0 (fun _ => true) true m 3 [c0] = some y0 := h0
  have h1' : DataW.trod enc Tryz.prog w 0 (fun _ => true) true m 23 [c1] = some y1 := h1
  obtain ⟨z0, e0, _⟩ := DataW.trod_int Tryz.underlying3 h0'
  obtain ⟨v1, l, e1, hr⟩ := recs_trod h1'
  cases e0
  cases e1
  exact ⟨z0, c1, l, rfl, hr⟩
end
end Go.Proofs.YthfenbdlolbikaaGreatDoor
