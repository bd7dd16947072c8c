/- Slices of strings and of numbers: given ones, and ones of the call's own. -/
import Derived.Test.YteemhemnkdgehaaDoorDBack
namespace Go.Proofs.YteemhemnkdgehaaDoor
open Go.RowKit Go.Shelf

theorem row_below {base B : Nat} {w w' : World} {e : TypeId} {size n : Nat} {v : Value} {xs : List Value} (h : w.ownsRow base e size v n xs) (hb : Below B w w') (hB : w.heap.size ≤ B) : w'.ownsRow base e size v n xs := by
  refine ⟨h.1, ?_⟩
  rcases h.2 with hn | ⟨g, cap, cur, rfl, hg, hgg, rest⟩
  · exact .inl hn
  · refine .inr ⟨g, cap, cur, rfl, hg, (hb.block g ?_).trans hgg, rest⟩
    have := (Array.getElem?_eq_some_iff.1 hgg).1
    omega
theorem row_mono {base base' : Nat} {w : World} {e : TypeId} {size n : Nat} {v : Value} {xs : List Value} (h : w.ownsRow base e size v n xs) (hB : base' ≤ base) : w.ownsRow base' e size v n xs := by
  refine ⟨h.1, ?_⟩
  rcases h.2 with hn | ⟨g, cap, cur, rfl, hg, rest⟩
  · exact .inl hn
  · exact .inr ⟨g, cap, cur, rfl, Nat.le_trans hB hg, rest⟩
/-- A row of another element type is not touched by what grows a row. -/
theorem row_kept {base b2 : Nat} {w w' : World} {e e2 : TypeId} {size n size2 n2 : Nat} {v rv : Value} {xs xs2 : List Value} (h : w.ownsRow base e size v n xs) (hr : w.ownsRow b2 e2 size2 rv n2 xs2) (he : e ≠ e2) (hg : w.grownBy w' rv.ownBlock) : w'.ownsRow base e size v n xs := by
  refine ⟨h.1, ?_⟩
  rcases h.2 with hn | ⟨g, cap, cur, rfl, hgb, hgg, rest⟩
  · exact .inl hn
  · refine .inr ⟨g, cap, cur, rfl, hgb, (hg.block g (Array.getElem?_eq_some_iff.1 hgg).1 fun eq => ?_).trans hgg, rest⟩
    rcases hr.2 with ⟨rfl, _⟩ | ⟨g', _, _, rfl, _, hgg', _⟩
    · cases eq
    · cases eq
      rw [hgg] at hgg'
      cases hgg'
      exact he rfl
/-- The first m elements of a row. -/
theorem row_take {base : Nat} {w : World} {e : TypeId} {n m : Nat} {g cap : Nat} {xs : List Value} (h : w.ownsRow base e 1 (.slice (some ⟨g, 0, none⟩) n cap) n xs) (hm : m ≤ n) : w.ownsRow base e 1 (.slice (some ⟨g, 0, none⟩) m cap) m (xs.take m) := by
  rcases h.2 with ⟨h0, _⟩ | ⟨g', cap', cur, heq, hgb, hgg, h1, h2, h3, h4⟩
  · cases h0
  · obtain ⟨rfl, rfl⟩ : g = g' ∧ cap = cap' := by
      simp only [Value.slice.injEq, Option.some.injEq, Addr.mk.injEq] at heq
      exact ⟨heq.1.1, heq.2.2⟩
    have hl := h.1
    refine ⟨by rw [List.length_take]; omega, .inr ⟨g, cap, cur, rfl, hgb, hgg, by omega, h2, h3, ?_⟩⟩
    rw [← h4, List.take_take]
    congr 1
    omega
/-- A value is a slice of these strings, in blocks before B. -/
def StrsAt (B : Nat) (w : World) (v : Value) (l : List Bytes) : Prop :=
  ∃ (a : Option Addr) (c : Nat), v = .slice a l.length c ∧ l.length ≤ c ∧ c ≤ maxLen ∧
    (0 < l.length → ∃ b off, a = some ⟨b, off, none⟩ ∧ b < B ∧ ∀ i, i < l.length → w.cell? ⟨b, off + i, none⟩ = some (.string (bs (l.getD i []))))
theorem StrsAt.below {B B' : Nat} {w w' : World} {v : Value} {l : List Bytes} (h : StrsAt B w v l) (hb : Below B' w w') (hB : B ≤ B') : StrsAt B w' v l := by
  obtain ⟨a, c, rfl, h1, h2, h3⟩ := h
  refine ⟨a, c, rfl, h1, h2, fun hp => ?_⟩
  obtain ⟨b, off, rfl, hlt, hc⟩ := h3 hp
  exact ⟨b, off, rfl, hlt, fun i hi => (hb.cell (p := ⟨b, off + i, none⟩) (Nat.lt_of_lt_of_le hlt hB)).trans (hc i hi)⟩
theorem StrsAt.mono {B B' : Nat} {w : World} {v : Value} {l : List Bytes} (h : StrsAt B w v l) (hB : B ≤ B') : StrsAt B' w v l := by
  obtain ⟨a, c, rfl, h1, h2, h3⟩ := h
  refine ⟨a, c, rfl, h1, h2, fun hp => ?_⟩
  obtain ⟨b, off, rfl, hlt, hc⟩ := h3 hp
  exact ⟨b, off, rfl, Nat.lt_of_lt_of_le hlt hB, hc⟩
theorem StrsAt.later {w w' : World} {v : Value} {l : List Bytes} (h : StrsAt w.heap.size w v l) {B : Nat} (hb : Below B w w') (hB : w.heap.size ≤ B) : StrsAt w'.heap.size w' v l := (h.below hb hB).mono hb.size
theorem StrsAt.nil (B : Nat) (w : World) : StrsAt B w (.slice none 0 0) [] := ⟨none, 0, rfl, Nat.le_refl _, Nat.zero_le _, fun h => by simp at h⟩
theorem StrsAt.shape {B : Nat} {w : World} {v : Value} {l : List Bytes} (h : StrsAt B w v l) : ∃ a c, v = .slice a l.length c ∧ l.length ≤ c ∧ c ≤ maxLen := by
  obtain ⟨a, c, h1, h2, h3, _⟩ := h
  exact ⟨a, c, h1, h2, h3⟩
theorem StrsAt.at {B : Nat} {w : World} {a : Option Addr} {n c : Nat} {l : List Bytes} (h : StrsAt B w (.slice a n c) l) (i : Nat) (hi : i < l.length) : ∃ b off, a = some ⟨b, off, none⟩ ∧ b < B ∧ w.cell? ⟨b, off + i, none⟩ = some (.string (bs (l.getD i []))) := by
  obtain ⟨a', c', he, _, _, h3⟩ := h
  obtain ⟨b, off, ha, hb, hc⟩ := h3 (by omega)
  cases he
  exact ⟨b, off, ha, hb, hc i hi⟩

theorem infoS1 : (Tryd.prog.info? 9).map (fun i => (i.zero, i.size, i.bytes)) = some (some (.string (⟨#[]⟩ : ByteArray)), 1, 16) := by kernel_rfl
/-- A slice of the call's own. -/
def OwnS (base : Nat) (w : World) (v : Value) (l : List Bytes) : Prop := w.ownsRow base 9 1 v l.length (l.map (fun b => Value.string (bs b)))
theorem OwnS.nil (base : Nat) (w : World) : OwnS base w (.slice none 0 0) [] := World.ownsRow_nil _ _ _ _
theorem OwnS.below {base B : Nat} {w w' : World} {v : Value} {l : List Bytes} (h : OwnS base w v l) (hb : Below B w w') (hB : w.heap.size ≤ B) : OwnS base w' v l := row_below h hb hB
theorem OwnS.mono {base base' : Nat} {w : World} {v : Value} {l : List Bytes} (h : OwnS base w v l) (hB : base' ≤ base) : OwnS base' w v l := row_mono h hB
theorem OwnS.take {base : Nat} {w : World} {g n cap : Nat} {l : List Bytes} (h : OwnS base w (.slice (some ⟨g, 0, none⟩) n cap) l) (m : Nat) (hm : m ≤ l.length) : OwnS base w (.slice (some ⟨g, 0, none⟩) m cap) (l.take m) := by
  have hn : n = l.length := by
    rcases h.2 with ⟨h0, _⟩ | ⟨_, _, _, he, _⟩
    · cases h0
    · cases he; rfl
  subst hn
  have := row_take (m := m) h hm
  unfold OwnS
  rw [List.length_take, show min m l.length = m from by omega, List.map_take]
  exact this
theorem OwnS.cell {base : Nat} {w : World} {g n cap : Nat} {l : List Bytes} (h : OwnS base w (.slice (some ⟨g, 0, none⟩) n cap) l) (i : Nat) (hi : i < l.length) : w.cell? ⟨g, i, none⟩ = some (.string (bs (l.getD i []))) := by
  have := World.ownsRow.cells h (g := g) rfl i (.string (bs (l.getD i []))) (by simp [hi])
  rw [Addr.add_lit, Nat.zero_add] at this
  exact this
theorem OwnS.shape {base : Nat} {w : World} {v : Value} {l : List Bytes} (h : OwnS base w v l) : (v = .slice none 0 0 ∧ l = []) ∨ ∃ g cap, v = .slice (some ⟨g, 0, none⟩) l.length cap ∧ base ≤ g ∧ g < w.heap.size ∧ l.length ≤ cap ∧ cap ≤ maxLen := by
  rcases h.2 with ⟨h0, h1⟩ | ⟨g, cap, cur, h1, h2, h3, h4, h5, _⟩
  · exact .inl ⟨h0, List.eq_nil_of_length_eq_zero h1⟩
  · exact .inr ⟨g, cap, h1, h2, (Array.getElem?_eq_some_iff.1 h3).1, h4, h5⟩
theorem OwnS.shape2 {base : Nat} {w : World} {v : Value} {l : List Bytes} (h : OwnS base w v l) : ∃ a cap, v = .slice a l.length cap ∧ l.length ≤ cap ∧ cap ≤ maxLen := by
  rcases h.shape with ⟨h0, rfl⟩ | ⟨g, cap, h1, _, _, h4, h5⟩
  · exact ⟨none, 0, h0, Nat.le_refl _, Nat.zero_le _⟩
  · exact ⟨_, cap, h1, h4, h5⟩
theorem OwnS.shape3 {base : Nat} {w : World} {v : Value} {l : List Bytes} (h : OwnS base w v l) (hl : 0 < l.length) : ∃ g cap, v = .slice (some ⟨g, 0, none⟩) l.length cap ∧ base ≤ g ∧ g < w.heap.size ∧ l.length ≤ cap ∧ cap ≤ maxLen := by
  rcases h.shape with ⟨_, rfl⟩ | h
  · simp at hl
  · exact h
/-- append of one element. -/
theorem append_S {ops : Array Oper} {rest : List Oper} {o : Oper} {a : Act} {Q : Exit → Act → World → Prop} {wr : World} (hgd : o.guard = none) (s x : Operand)
    (ho : o.op = .call { callee := .builtin .append, args := #[s, x], argTypes := #[22, 22] }) (base : Nat) (v : Value) (l : List Bytes) (z : Bytes)
    (hs : a.eval s = v) (hx : a.eval x = .slice (some ⟨wr.heap.size, 0, none⟩) 1 1) (hown : OwnS base wr v l) (hlen : l.length < 1099511627776) (hbase : base ≤ wr.heap.size) (w0 : World) (hb : Below base w0 wr)
    (h : ∀ v' w', OwnS base w' v' (l ++ [z]) → (wr.alloc (.cells #[.string (bs z)] 9)).grownBy w' v.ownBlock → Below base w0 w' → wpList Tryd.prog ops Q rest (a.put o.dst v') w') : wpList Tryd.prog ops Q (o :: rest) a (wr.alloc (.cells #[.string (bs z)] 9)) := by
  obtain ⟨i0, hi, hz0, hz1, hz2⟩ := info_parts infoS1
  refine wpList_append_own _ hgd s x 22 ho base 9 i0 (.string (⟨#[]⟩ : ByteArray)) 1 16 Tryd.underlying22 hi hz0 hz1 hz2 rfl (by decide) v l.length _ hs (World.ownsRow.alloc hown _) ⟨wr.heap.size, 0, none⟩ 1 1 [.string (bs z)] hx rfl ?_ (by simp [Value.oneCell']) (by unfold maxLen; omega) (by omega) (by simp; omega) ?_
  · intro j u hj
    match j, hj with
    | 0, hj => simp at hj; subst hj; simp [Addr.add]
  · intro v' w' hown' hg _
    refine h v' w' ?_ hg ((hb.alloc hbase _).grown hg (by simp; omega) fun k hk => (World.ownsRow.lt hown k hk).1)
    unfold OwnS
    rw [List.length_append, List.map_append]
    exact hown'
theorem infoN1 : (Tryd.prog.info? 3).map (fun i => (i.zero, i.size, i.bytes)) = some (some (.int .i64 0), 1, 8) := by kernel_rfl
/-- A slice of the call's own. -/
def OwnN (base : Nat) (w : World) (v : Value) (l : List Nat) : Prop := w.ownsRow base 3 1 v l.length (l.map (fun (n : Nat) => Value.int .i64 (n : Int)))
theorem OwnN.nil (base : Nat) (w : World) : OwnN base w (.slice none 0 0) [] := World.ownsRow_nil _ _ _ _
theorem OwnN.below {base B : Nat} {w w' : World} {v : Value} {l : List Nat} (h : OwnN base w v l) (hb : Below B w w') (hB : w.heap.size ≤ B) : OwnN base w' v l := row_below h hb hB
theorem OwnN.mono {base base' : Nat} {w : World} {v : Value} {l : List Nat} (h : OwnN base w v l) (hB : base' ≤ base) : OwnN base' w v l := row_mono h hB
theorem OwnN.take {base : Nat} {w : World} {g n cap : Nat} {l : List Nat} (h : OwnN base w (.slice (some ⟨g, 0, none⟩) n cap) l) (m : Nat) (hm : m ≤ l.length) : OwnN base w (.slice (some ⟨g, 0, none⟩) m cap) (l.take m) := by
  have hn : n = l.length := by
    rcases h.2 with ⟨h0, _⟩ | ⟨_, _, _, he, _⟩
    · cases h0
    · cases he; rfl
  subst hn
  have := row_take (m := m) h hm
  unfold OwnN
  rw [List.length_take, show min m l.length = m from by omega, List.map_take]
  exact this
theorem OwnN.cell {base : Nat} {w : World} {g n cap : Nat} {l : List Nat} (h : OwnN base w (.slice (some ⟨g, 0, none⟩) n cap) l) (i : Nat) (hi : i < l.length) : w.cell? ⟨g, i, none⟩ = some (.int .i64 ((l.getD i 0 : Nat) : Int)) := by
  have := World.ownsRow.cells h (g := g) rfl i (.int .i64 ((l.getD i 0 : Nat) : Int)) (by simp [hi])
  rw [Addr.add_lit, Nat.zero_add] at this
  exact this
theorem OwnN.shape {base : Nat} {w : World} {v : Value} {l : List Nat} (h : OwnN base w v l) : (v = .slice none 0 0 ∧ l = []) ∨ ∃ g cap, v = .slice (some ⟨g, 0, none⟩) l.length cap ∧ base ≤ g ∧ g < w.heap.size ∧ l.length ≤ cap ∧ cap ≤ maxLen := by
  rcases h.2 with ⟨h0, h1⟩ | ⟨g, cap, cur, h1, h2, h3, h4, h5, _⟩
  · exact .inl ⟨h0, List.eq_nil_of_length_eq_zero h1⟩
  · exact .inr ⟨g, cap, h1, h2, (Array.getElem?_eq_some_iff.1 h3).1, h4, h5⟩
theorem OwnN.shape2 {base : Nat} {w : World} {v : Value} {l : List Nat} (h : OwnN base w v l) : ∃ a cap, v = .slice a l.length cap ∧ l.length ≤ cap ∧ cap ≤ maxLen := by
  rcases h.shape with ⟨h0, rfl⟩ | ⟨g, cap, h1, _, _, h4, h5⟩
  · exact ⟨none, 0, h0, Nat.le_refl _, Nat.zero_le _⟩
  · exact ⟨_, cap, h1, h4, h5⟩
theorem OwnN.shape3 {base : Nat} {w : World} {v : Value} {l : List Nat} (h : OwnN base w v l) (hl : 0 < l.length) : ∃ g cap, v = .slice (some ⟨g, 0, none⟩) l.length cap ∧ base ≤ g ∧ g < w.heap.size ∧ l.length ≤ cap ∧ cap ≤ maxLen := by
  rcases h.shape with ⟨_, rfl⟩ | h
  · simp at hl
  · exact h
/-- append of one element. -/
theorem append_N {ops : Array Oper} {rest : List Oper} {o : Oper} {a : Act} {Q : Exit → Act → World → Prop} {wr : World} (hgd : o.guard = none) (s x : Operand)
    (ho : o.op = .call { callee := .builtin .append, args := #[s, x], argTypes := #[49, 49] }) (base : Nat) (v : Value) (l : List Nat) (z : Nat)
    (hs : a.eval s = v) (hx : a.eval x = .slice (some ⟨wr.heap.size, 0, none⟩) 1 1) (hown : OwnN base wr v l) (hlen : l.length < 1099511627776) (hbase : base ≤ wr.heap.size) (w0 : World) (hb : Below base w0 wr)
    (h : ∀ v' w', OwnN base w' v' (l ++ [z]) → (wr.alloc (.cells #[.int .i64 (z : Int)] 3)).grownBy w' v.ownBlock → Below base w0 w' → wpList Tryd.prog ops Q rest (a.put o.dst v') w') : wpList Tryd.prog ops Q (o :: rest) a (wr.alloc (.cells #[.int .i64 (z : Int)] 3)) := by
  obtain ⟨i0, hi, hz0, hz1, hz2⟩ := info_parts infoN1
  refine wpList_append_own _ hgd s x 49 ho base 3 i0 (.int .i64 0) 1 8 Tryd.underlying49 hi hz0 hz1 hz2 rfl (by decide) v l.length _ hs (World.ownsRow.alloc hown _) ⟨wr.heap.size, 0, none⟩ 1 1 [.int .i64 (z : Int)] hx rfl ?_ (by simp [Value.oneCell']) (by unfold maxLen; omega) (by omega) (by simp; omega) ?_
  · intro j u hj
    match j, hj with
    | 0, hj => simp at hj; subst hj; simp [Addr.add]
  · intro v' w' hown' hg _
    refine h v' w' ?_ hg ((hb.alloc hbase _).grown hg (by simp; omega) fun k hk => (World.ownsRow.lt hown k hk).1)
    unfold OwnN
    rw [List.length_append, List.map_append]
    exact hown'
theorem OwnS.strs {base : Nat} {w : World} {v : Value} {l : List Bytes} (h : OwnS base w v l) : StrsAt w.heap.size w v l := by
  rcases h.shape with ⟨rfl, rfl⟩ | ⟨g, cap, rfl, h2, h3, h4, h5⟩
  · exact StrsAt.nil _ _
  · exact ⟨some ⟨g, 0, none⟩, cap, rfl, h4, h5, fun _ => ⟨g, 0, rfl, h3, fun i hi => by rw [Nat.zero_add]; exact h.cell i hi⟩⟩
end Go.Proofs.YteemhemnkdgehaaDoor
