/- Rows of sides, and slices.Backward at them. -/
import Derived.Test.YteemhemnkdgehaaDoorDAll
namespace Go.Proofs.YteemhemnkdgehaaDoor
open Go.RowKit Go.Shelf
attribute [local go_sem] Oper.semAt_some

theorem infoSd : (Tryd.prog.info? 58).map (fun i => (i.zero, i.size, i.bytes)) = some (some (.agg #[.string (⟨#[]⟩ : ByteArray), .bool false]), 2, 24) := by kernel_rfl
/-- The cells of sides. -/
def sdCells (l : List (Bytes × Bool)) : List Value := l.flatMap fun p => [.string (bs p.1), .bool p.2]
theorem sdCells_length (l : List (Bytes × Bool)) : (sdCells l).length = l.length * 2 := by
  induction l with
  | nil => rfl
  | cons c t ih => simp only [sdCells, List.flatMap_cons, List.length_append, List.length_cons, List.length_nil] at *; omega
theorem sdCells_get : ∀ (l : List (Bytes × Bool)) (i : Nat) (h : i < l.length), (sdCells l)[i * 2]? = some (.string (bs l[i].1)) ∧ (sdCells l)[i * 2 + 1]? = some (.bool l[i].2)
  | c :: t, 0, _ => ⟨rfl, rfl⟩
  | c :: t, i + 1, h => by
    have := sdCells_get t i (by simpa using h)
    have e : sdCells (c :: t) = .string (bs c.1) :: .bool c.2 :: sdCells t := rfl
    rw [e, show (i + 1) * 2 = i * 2 + 1 + 1 from by omega, List.getElem?_cons_succ, List.getElem?_cons_succ, List.getElem?_cons_succ, List.getElem?_cons_succ]
    exact this
/-- A slice of sides of the call's own. -/
def OwnD (base : Nat) (w : World) (v : Value) (l : List (Bytes × Bool)) : Prop := w.ownsRow base 58 2 v l.length (sdCells l)
theorem OwnD.nil (base : Nat) (w : World) : OwnD base w (.slice none 0 0) [] := World.ownsRow_nil _ _ _ _
theorem OwnD.below {base B : Nat} {w w' : World} {v : Value} {l : List (Bytes × Bool)} (h : OwnD base w v l) (hb : Below B w w') (hB : w.heap.size ≤ B) : OwnD base w' v l := row_below h hb hB
def gS (l : List (Bytes × Bool)) (i : Nat) : ByteArray := bs (l.getD i ([], false)).1
def gF (l : List (Bytes × Bool)) (i : Nat) : Bool := (l.getD i ([], false)).2
theorem OwnD.cell {base : Nat} {w : World} {g n cap : Nat} {l : List (Bytes × Bool)} (h : OwnD base w (.slice (some ⟨g, 0, none⟩) n cap) l) (i : Nat) (hi : i < l.length) : w.cell? ⟨g, i * 2, none⟩ = some (.string (gS l i)) ∧ w.cell? ⟨g, i * 2 + 1, none⟩ = some (.bool (gF l i)) := by
  obtain ⟨e1, e2⟩ := sdCells_get l i hi
  have h1 := World.ownsRow.cells h (g := g) rfl (i * 2) _ e1
  have h2 := World.ownsRow.cells h (g := g) rfl (i * 2 + 1) _ e2
  rw [Addr.add_lit, Nat.zero_add] at h1 h2
  have ed : l.getD i ([], false) = l[i] := by rw [List.getD_eq_getElem?_getD, List.getElem?_eq_getElem hi]; rfl
  unfold gS gF
  rw [ed]
  exact ⟨h1, h2⟩
theorem OwnD.shape {base : Nat} {w : World} {v : Value} {l : List (Bytes × Bool)} (h : OwnD base w v l) : (v = .slice none 0 0 ∧ l = []) ∨ ∃ g cap, v = .slice (some ⟨g, 0, none⟩) l.length cap ∧ base ≤ g ∧ g < w.heap.size ∧ l.length ≤ cap ∧ cap ≤ maxLen := by
  rcases h.2 with ⟨h0, h1⟩ | ⟨g, cap, cur, h1, h2, h3, h4, h5, _⟩
  · exact .inl ⟨h0, List.eq_nil_of_length_eq_zero h1⟩
  · exact .inr ⟨g, cap, h1, h2, (Array.getElem?_eq_some_iff.1 h3).1, h4, h5⟩
theorem OwnD.shape4 {base : Nat} {w : World} {v : Value} {l : List (Bytes × Bool)} (h : OwnD base w v l) (hz : 0 < w.heap.size) : ∃ a g cap, v = .slice a l.length cap ∧ (0 < l.length → a = some ⟨g, 0, none⟩) ∧ g < w.heap.size ∧ ∀ i, i < l.length → w.cell? ⟨g, i * 2, none⟩ = some (.string (gS l i)) ∧ w.cell? ⟨g, i * 2 + 1, none⟩ = some (.bool (gF l i)) := by
  rcases h.shape with ⟨rfl, rfl⟩ | ⟨g, cap, rfl, _, hg, _, _⟩
  · exact ⟨none, 0, 0, rfl, fun h => by simp at h, hz, fun i hi => by simp at hi⟩
  · exact ⟨_, g, cap, rfl, fun _ => rfl, hg, fun i hi => h.cell i hi⟩
theorem append_side {ops : Array Oper} {rest : List Oper} {o : Oper} {a : Act} {Q : Exit → Act → World → Prop} {wr : World} (hgd : o.guard = none) (s x : Operand)
    (ho : o.op = .call { callee := .builtin .append, args := #[s, x], argTypes := #[54, 54] }) (base : Nat) (v : Value) (l : List (Bytes × Bool)) (z : Bytes) (f : Bool)
    (hs : a.eval s = v) (hx : a.eval x = .slice (some ⟨wr.heap.size, 0, none⟩) 1 1) (hown : OwnD base wr v l) (hlen : l.length < 1099511627776) (hbase : base ≤ wr.heap.size) (w0 : World) (hb : Below base w0 wr)
    (h : ∀ v' w', OwnD base w' v' (l ++ [(z, f)]) → (wr.alloc (.cells #[.string (bs z), .bool f] 58)).grownBy w' v.ownBlock → Below base w0 w' → wpList Tryd.prog ops Q rest (a.put o.dst v') w') : wpList Tryd.prog ops Q (o :: rest) a (wr.alloc (.cells #[.string (bs z), .bool f] 58)) := by
  obtain ⟨i0, hi, hz0, hz1, hz2⟩ := info_parts infoSd
  refine wpList_append_own _ hgd s x 54 ho base 58 i0 (.agg #[.string (⟨#[]⟩ : ByteArray), .bool false]) 2 24 Tryd.underlying54 hi hz0 hz1 hz2 rfl (by decide) v l.length _ hs (World.ownsRow.alloc hown _) ⟨wr.heap.size, 0, none⟩ 1 1 [.string (bs z), .bool f] hx rfl ?_ (by simp [Value.oneCell']) (by unfold maxLen; omega) (by omega) (by simp; omega) ?_
  · intro j u hj
    match j, hj with
    | 0, hj => simp at hj; subst hj; simp [Addr.add]
    | 1, hj => simp at hj; subst hj; simp [Addr.add]
  · intro v' w' hown' hg _
    refine h v' w' ?_ hg ((hb.alloc hbase _).grown hg (by simp; omega) fun k hk => (World.ownsRow.lt hown k hk).1)
    unfold OwnD sdCells
    rw [List.length_append, List.flatMap_append]
    exact hown'
theorem backS_any (v : Value) (hv : ∃ a n c, v = .slice a n c) (w : World) :
    Calls Tryd.prog 47 #[v] w fun e w' => e = .returned (.func (.func 63) #[] #[.pointer (some ⟨w.heap.size, 0, none⟩)]) ∧ w' = w.alloc (.cells #[v] 54) := by
  obtain ⟨a, n, c, rfl⟩ := hv
  go_enter Tryd.func47, Tryd.ntmps47
  go_wp2
  go_ret
  exact ⟨rfl, rfl⟩

set_option maxRecDepth 100000 in
set_option maxHeartbeats 400000 in
theorem backS1_seq (n Bs gb m C : Nat) (a : Option Addr) (R : Nat → ByteArray) (Fl : Nat → Bool) (Kp : World → World → Prop) (w : World) (hs : Boxed w Bs 54 (.slice a m C)) (hm : m ≤ 1099511627776)
    (ha : 0 < m → a = some ⟨gb, 0, none⟩) (hc : ∀ i, i < m → w.cell? ⟨gb, i * 2, none⟩ = some (.string (R i)) ∧ w.cell? ⟨gb, i * 2 + 1, none⟩ = some (.bool (Fl i))) (hKs : ∀ A B, Kp A B → B.heap[Bs]? = A.heap[Bs]?) (hKg : ∀ A B, Kp A B → B.heap[gb]? = A.heap[gb]?) :
    SeqStopsK Fence.wide n Tryd.prog 63 #[.pointer (some ⟨Bs, 0, none⟩)] (fun i : Fin m => #[.int .i64 (i.1 : Int), .agg #[.string (R i.1), .bool (Fl i.1)]]) Kp (fun xs => xs = dn m m) (fun _ => True) m w := by
  intro l J Jx W hW hJ _ hY h0
  have hs1 : Boxed W Bs 54 (.slice a m C) := (hW.block _ hs.lt).trans hs
  have hc1 : ∀ i, i < m → W.cell? ⟨gb, i * 2, none⟩ = some (.string (R i)) ∧ W.cell? ⟨gb, i * 2 + 1, none⟩ = some (.bool (Fl i)) := fun i hi => ⟨(hW.cell (p := ⟨gb, i * 2, none⟩) (World.block_lt_of_cell? w _ (hc i hi).1)).trans (hc i hi).1, (hW.cell (p := ⟨gb, i * 2 + 1, none⟩) (World.block_lt_of_cell? w _ (hc i hi).2)).trans (hc i hi).2⟩
  have HY := Lib.hid hY
  have HKs := Lib.hid hKs
  have HKg := Lib.hid hKg
  have HC1 := Lib.hid hc1
  have HA := Lib.hid ha
  clear hY hJ hs hW hKs hKg hc hc1 ha
  refine callsIn_of_wp Tryd.func63 rfl trivial ?_
  simp only [Tryd.ntmps63, List.size_toArray, List.length_cons, List.length_nil, Nat.reduceAdd, Nat.reduceSub, Array.replicate_succ, Array.replicate_zero, List.push_toArray, List.append_toArray, List.nil_append, List.cons_append]
  have cs := hs1.cell
  gi_wp2
  clear cs
  gi_loopw [3] (fun u wr => ∃ i : Nat, i ≤ m ∧ u = .int .i64 ((i : Int) - 1) ∧ Boxed wr Bs 54 (.slice a m C) ∧ (∀ i, i < m → wr.cell? ⟨gb, i * 2, none⟩ = some (.string (R i)) ∧ wr.cell? ⟨gb, i * 2 + 1, none⟩ = some (.bool (Fl i))) ∧ J (dn m (m - i)) wr) (fun u _ => (intOf u + 1).toNat)
  case atStart => exact ⟨m, Nat.le_refl _, rfl, hs1, HC1.out, by rw [Nat.sub_self]; exact h0⟩
  case round =>
    clear HC1 hs1
    obtain ⟨i, hi, rfl, hs2, hc2, hJ2⟩ := hrel
    have HS2 := Lib.hid hs2
    have HC2 := Lib.hid hc2
    have cs := hs2.cell
    clear hs2 hc2
    rcases Nat.eq_zero_or_pos i with hi0 | hi0
    · subst hi0
      gi_wp2
      go_end0
      exact ⟨⟨_, rfl⟩, .inl ⟨_, rfl, hJ2⟩⟩
    · obtain ⟨q, rfl⟩ : ∃ q, i = q + 1 := ⟨i - 1, by omega⟩
      rw [show (((q + 1 : Nat) : Int) - 1) = (q : Int) by omega]
      have hqm : q < m := by omega
      obtain ⟨c1, c2⟩ := HC2.out q hqm
      have haa := HA.out (by omega)
      subst haa
      have hqq : (q : Int) < (m : Int) := by omega
      have HD := Lib.hid (dn_succ m (m - (q + 1)) (by omega))
      rw [show m - (q + 1) + 1 = m - q from by omega] at HD
      have HE : Hid ((⟨m - 1 - (m - (q + 1)), by omega⟩ : Fin m) = ⟨q, hqm⟩) := by show _ = _; exact Fin.ext (by show m - 1 - (m - (q + 1)) = q; omega)
      rw [HE.out] at HD
      obtain ⟨fn, tmps, assign, body, hyi, hR⟩ := HY.out (dn m (m - (q + 1))) ⟨q, hqm⟩ wr hJ2 (by rw [dn_length m _ (by omega)]; omega)
      try dsimp only at hyi
      gi_wp2
      refine ⟨(fun h => by cases h), hR.mono ?_⟩
      rintro e W3 (⟨rfl, hJ3, hk3⟩ | ⟨rfl, hJx3⟩)
      · have hs3 : Boxed W3 Bs 54 (.slice (some ⟨gb, 0, none⟩) m C) := (HKs.out _ _ hk3).trans HS2.out
        have hc3 : ∀ i, i < m → W3.cell? ⟨gb, i * 2, none⟩ = some (.string (R i)) ∧ W3.cell? ⟨gb, i * 2 + 1, none⟩ = some (.bool (Fl i)) := fun i hi => by
          have := HC2.out i hi
          simp only [World.cell?] at this ⊢
          rw [HKg.out _ _ hk3]
          exact this
        have HS3 := Lib.hid hs3
        have HC3 := Lib.hid hc3
        clear hs3 hc3 cs c1 c2
        gi_wp2
        go_roundw
        case rel => exact ⟨q, by omega, by go_num, HS3.out, HC3.out, by rw [HD.out]; exact hJ3⟩
        case measure => simp [intOf]
      · gi_wp2
        refine bodyPost_ret (results_none rfl _ _ _) rfl ?_
        exact ⟨⟨_, rfl⟩, .inr ⟨_, trivial, hJx3⟩⟩
end Go.Proofs.YteemhemnkdgehaaDoor
