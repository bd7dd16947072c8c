/- The reference's Made: a theory that integers determine. -/
import Derived.Test.YtmihkbiihfhpoaaDoorJListed
import Derived.StillTailTactics
import Derived.Outline
namespace Go.Proofs.YtmihkbiihfhpoaaDoor
open Go.RowKit Go.Shelf

/-- A slice of arrays of four ints. -/
def FourAt (B : Nat) (w : World) (v : Value) (n : Nat) (f : Nat → Nat → Int) : Prop :=
  (∃ (a : Option Addr) (c : Nat), v = .slice a n c ∧ n ≤ c ∧ c ≤ maxLen ∧ (0 < n → ∃ b off, a = some ⟨b, off, none⟩ ∧ b < B ∧ ∀ i k, i < n → k < 4 → w.cell? ⟨b, off + i * 4 + k, none⟩ = some (.int .i64 (f i k)))) ∧
    ∀ i k, i < n → k < 4 → -9223372036854775808 ≤ f i k ∧ f i k ≤ 9223372036854775807
theorem FourAt.below {B B' : Nat} {w w' : World} {v : Value} {n : Nat} {f : Nat → Nat → Int} (h : FourAt B w v n f) (hb : Below B' w w') (hB : B ≤ B') : FourAt B w' v n f := by
  obtain ⟨⟨a, c, rfl, h1, h2, h3⟩, h4⟩ := h
  refine ⟨⟨a, c, rfl, h1, h2, fun hp => ?_⟩, h4⟩
  obtain ⟨b, off, rfl, hlt, hc⟩ := h3 hp
  exact ⟨b, off, rfl, hlt, fun i k hi hk => (hb.cell (p := ⟨b, off + i * 4 + k, none⟩) (Nat.lt_of_lt_of_le hlt hB)).trans (hc i k hi hk)⟩
theorem FourAt.mono {B B' : Nat} {w : World} {v : Value} {n : Nat} {f : Nat → Nat → Int} (h : FourAt B w v n f) (hB : B ≤ B') : FourAt B' w v n f := by
  obtain ⟨⟨a, c, rfl, h1, h2, h3⟩, h4⟩ := h
  refine ⟨⟨a, c, rfl, h1, h2, fun hp => ?_⟩, h4⟩
  obtain ⟨b, off, rfl, hlt, hc⟩ := h3 hp
  exact ⟨b, off, rfl, Nat.lt_of_lt_of_le hlt hB, hc⟩
/-- A rule that four ints determine. -/
def madeBit (m : Int) (S : Nat) (c : Int) : Nat := if pickZ c (m + 3) < m then addB S (pickZ c (m + 3)) else S
def madeBits (m : Int) (f : Nat → Int) : Nat → Nat
  | 0 => 0
  | k + 1 => madeBit m (madeBits m f k) (f k)
def madeRule (s d : Int) (f : Nat → Int) : JRule := { needs := listB (madeBits (s + d) f 3), gives := s + pickZ (f 3) d }
def madeRules (s d : Int) (f : Nat → Nat → Int) (n : Nat) : List JRule := (List.range n).map fun i => madeRule s d (f i)
def madeSeen (z : Int) : Int := 1 + pickZ z 6
def madeDrawn (z : Int) : Int := 1 + pickZ z 8
def madeT (s d : Int) (n : Nat) (f : Nat → Nat → Int) : JTh := { seen := madeSeen s, drawn := madeDrawn d, rules := madeRules (madeSeen s) (madeDrawn d) f (min n 12) }
theorem madeSeen_bd (z : Int) : 1 ≤ madeSeen z ∧ madeSeen z ≤ 6 := by have := pickZ_bd z 6 (by omega); unfold madeSeen; omega
theorem madeDrawn_bd (z : Int) : 1 ≤ madeDrawn z ∧ madeDrawn z ≤ 8 := by have := pickZ_bd z 8 (by omega); unfold madeDrawn; omega
theorem madeBits_lt (m : Int) (hm : 1 ≤ m ∧ m ≤ 14) (f : Nat → Int) : ∀ k, madeBits m f k < 4294967296
  | 0 => by simp [madeBits]
  | k + 1 => by
    have h := madeBits_lt m hm f k
    unfold madeBits madeBit
    split
    · have hp := pickZ_bd (f k) (m + 3) (by omega)
      exact or_addB _ _ h (by omega) (by omega)
    · exact h
theorem madeRules_succ (s d : Int) (f : Nat → Nat → Int) (n : Nat) : madeRules s d f (n + 1) = madeRules s d f n ++ [madeRule s d (f n)] := by
  unfold madeRules
  rw [List.range_succ, List.map_append]
  rfl

theorem info_rule : (Tryd.prog.info? 48).map (fun i => (i.zero, i.size, i.bytes)) = some (some (.agg #[.slice none 0 0, .int .i64 0]), 2, 32) := by kernel_rfl
/-- The cells of rules. -/
def cellsR (cs : List (Value × JRule)) : List Value := cs.flatMap fun c => [c.1, .int .i64 c.2.gives]
theorem cellsR_length (cs : List (Value × JRule)) : (cellsR cs).length = cs.length * 2 := by
  induction cs with
  | nil => rfl
  | cons c t ih => simp only [cellsR, List.flatMap_cons, List.length_append, List.length_cons, List.length_nil] at *; omega
theorem cellsR_get : ∀ (cs : List (Value × JRule)) (i : Nat) (h : i < cs.length), (cellsR cs)[i * 2]? = some cs[i].1 ∧ (cellsR cs)[i * 2 + 1]? = some (.int .i64 cs[i].2.gives)
  | c :: t, 0, _ => ⟨rfl, rfl⟩
  | c :: t, i + 1, h => by
    have := cellsR_get t i (by simpa using h)
    have e : cellsR (c :: t) = c.1 :: .int .i64 c.2.gives :: cellsR t := rfl
    rw [e, show (i + 1) * 2 = i * 2 + 1 + 1 from by omega, List.getElem?_cons_succ, List.getElem?_cons_succ, List.getElem?_cons_succ, List.getElem?_cons_succ]
    exact this
/-- A slice of rules of the call's own. -/
def RowR (base : Nat) (w : World) (v : Value) (cs : List (Value × JRule)) : Prop := w.ownsRow base 48 2 v cs.length (cellsR cs) ∧ ∀ c ∈ cs, OwnI base w c.1 c.2.needs
theorem RowR.nil (base : Nat) (w : World) : RowR base w (.slice none 0 0) [] := ⟨World.ownsRow_nil _ _ _ _, fun c hc => by simp at hc⟩
theorem ownsRow_below {base B : Nat} {w w' : World} {e : TypeId} {size n : Nat} {v : Value} {xs : List Value} (h : w.ownsRow base e size v n xs) (hb : Below B w w') (hB : w.heap.size ≤ B) : w'.ownsRow base e size v n xs := by
  refine ⟨h.1, ?_⟩
  rcases h.2 with hn | ⟨g, cap, cur, rfl, hg, hgg, rest⟩
  · exact .inl hn
  · refine .inr ⟨g, cap, cur, rfl, hg, (hb.block g ?_).trans hgg, rest⟩
    have := (Array.getElem?_eq_some_iff.1 hgg).1
    omega
theorem RowR.below {base B : Nat} {w w' : World} {v : Value} {cs : List (Value × JRule)} (h : RowR base w v cs) (hb : Below B w w') (hB : w.heap.size ≤ B) : RowR base w' v cs := ⟨ownsRow_below h.1 hb hB, fun c hc => (h.2 c hc).below hb hB⟩
theorem RowR.rules {base : Nat} {w : World} {v : Value} {cs : List (Value × JRule)} (h : RowR base w v cs) : RulesAt w.heap.size w v (cs.map (·.2)) := by
  have hl : (cs.map (·.2)).length = cs.length := List.length_map ..
  rcases h.1.2 with ⟨rfl, h0⟩ | ⟨g, cap, cur, rfl, hg, hgg, h1, h2, h3, h4⟩
  · obtain rfl : cs = [] := List.eq_nil_of_length_eq_zero h0
    exact RulesAt.nil _ _
  · refine ⟨some ⟨g, 0, none⟩, cap, by rw [hl], by rw [hl]; exact h1, h2, fun _ => ⟨g, 0, rfl, (Array.getElem?_eq_some_iff.1 hgg).1, fun i hi => ?_⟩⟩
    rw [hl] at hi
    have hget := cellsR_get cs i hi
    have hc1 := h.1.cells (g := g) rfl (i * 2) _ hget.1
    have hc2 := h.1.cells (g := g) rfl (i * 2 + 1) _ hget.2
    rw [Addr.add_lit] at hc1 hc2
    have e : (cs.map (·.2)).getD i default = cs[i].2 := by simp [List.getD_eq_getElem?_getD, hi]
    rw [e]
    exact ⟨cs[i].1, hc1, by rw [← Nat.add_assoc] at hc2; exact hc2, (h.2 _ (List.getElem_mem hi)).ints⟩
theorem RowR.shape {base : Nat} {w : World} {v : Value} {cs : List (Value × JRule)} (h : RowR base w v cs) : ∃ a c, v = .slice a cs.length c := by
  obtain ⟨a, c, h, _⟩ := h.rules
  rw [List.length_map] at h
  exact ⟨a, c, h⟩
/-- A row of ints is no row of rules. -/
theorem OwnI.kept {base : Nat} {w w' : World} {v rv : Value} {l : List Int} {b2 n : Nat} {xs : List Value} {e : TypeId} {size : Nat} (h : OwnI base w v l) (hr : w.ownsRow b2 e size rv n xs) (he : e ≠ 3) (hg : w.grownBy w' rv.ownBlock) : OwnI base w' v l := by
  refine ⟨h.1, ?_⟩
  rcases h.2 with hn | ⟨g, cap, cur, rfl, hgb, hgg, rest⟩
  · exact .inl hn
  · refine .inr ⟨g, cap, cur, rfl, hgb, (hg.block g (Array.getElem?_eq_some_iff.1 hgg).1 fun eq => ?_).trans hgg, rest⟩
    rcases hr.2 with ⟨rfl, _⟩ | ⟨g', _, _, rfl, _, hgg', _⟩
    · cases eq
    · cases eq
      rw [hgg] at hgg'
      cases hgg'
      exact he rfl
/-- append of one rule. -/
theorem append_rule1 {ops : Array Oper} {rest : List Oper} {o : Oper} {a : Act} {Q : Exit → Act → World → Prop} {wr : World} (hgd : o.guard = none) (s x : Operand)
    (ho : o.op = .call { callee := .builtin .append, args := #[s, x], argTypes := #[23, 23] }) (base : Nat) (v : Value) (cs : List (Value × JRule)) (nv : Value) (r : JRule) (g : Int) (hg : g = r.gives)
    (hs : a.eval s = v) (q : Nat) (hq : q = wr.heap.size) (hx : a.eval x = .slice (some ⟨q, 0, none⟩) 1 1) (hown : RowR base wr v cs) (hnv : OwnI base wr nv r.needs) (hlen : cs.length < 1000) (hbase : base ≤ wr.heap.size) (w0 : World) (hb : Below base w0 wr)
    (h : ∀ v' w', RowR base w' v' (cs ++ [(nv, r)]) → (∀ k, some k ≠ v.ownBlock → k < wr.heap.size → w'.heap[k]? = wr.heap[k]?) → Below base w0 w' → wpList Tryd.prog ops Q rest (a.put o.dst v') w') : wpList Tryd.prog ops Q (o :: rest) a (wr.alloc (.cells #[nv, .int .i64 g] 48)) := by
  obtain ⟨i0, hi, hz0, hz1, hz2⟩ := info_parts info_rule
  obtain ⟨na, nc, hnv'⟩ := hnv.shape
  subst hg
  subst hq
  refine wpList_append_own _ hgd s x 23 ho base 48 i0 (.agg #[.slice none 0 0, .int .i64 0]) 2 32 Tryd.underlying23 hi hz0 hz1 hz2 rfl (by decide) v cs.length _ hs (World.ownsRow.alloc hown.1 _) ⟨wr.heap.size, 0, none⟩ 1 1 [nv, .int .i64 r.gives] hx rfl ?_ ?_ (by unfold maxLen; omega) (by omega) (by simp; omega) ?_
  · intro j u hj
    match j, hj with
    | 0, hj => simp at hj; subst hj; simp [Addr.add]
    | 1, hj => simp at hj; subst hj; simp [Addr.add]
  · intro u hu
    rcases List.mem_cons.1 hu with rfl | hu
    · rw [hnv']; rfl
    · rw [List.mem_singleton.1 hu]; rfl
  · intro v' w' hown' hgr _
    have hbl : ∀ k, some k ≠ v.ownBlock → k < wr.heap.size → w'.heap[k]? = wr.heap[k]? := fun k hk hlt => by
      rw [hgr.block k (by simp; omega) hk]
      exact Below.heap_alloc _ _ _ hlt
    refine h v' w' ⟨?_, fun c hc => ?_⟩ hbl ((hb.alloc hbase _).grown hgr (by simp; omega) fun k hk => (World.ownsRow.lt hown.1 k hk).1)
    · rw [List.length_append, cellsR, List.flatMap_append]
      exact hown'
    · rcases List.mem_append.1 hc with hc | hc
      · exact ((hown.2 c hc).below ((Below.refl _ _).alloc (Nat.le_refl _) _) (Nat.le_refl _)).kept (World.ownsRow.alloc hown.1 _) (by decide) hgr
      · rw [List.mem_singleton.1 hc]
        exact (hnv.below ((Below.refl _ _).alloc (Nat.le_refl _) _) (Nat.le_refl _)).kept (World.ownsRow.alloc hown.1 _) (by decide) hgr
end Go.Proofs.YtmihkbiihfhpoaaDoor
