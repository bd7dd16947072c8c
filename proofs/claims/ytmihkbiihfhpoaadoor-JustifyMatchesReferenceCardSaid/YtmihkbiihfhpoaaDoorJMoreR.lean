/- JustifyMore returns true: the rules' rows. -/
import Derived.Test.YtmihkbiihfhpoaaDoorJMoreP
import Derived.Test.YtmihkbiihfhpoaaDoorJCopy
namespace Go.Proofs.YtmihkbiihfhpoaaDoor
open Go.RowKit Go.Shelf

theorem wp_gen {P : Program} {c : Code} {Q : Exit → Act → World → Prop} {a : Act} {W : World} (R : World → Prop) (h : R W) (k : ∀ W', R W' → c.wp P Q a W') : c.wp P Q a W := k W h
theorem made_goodR {s d : Int} {N : Nat} {f : Nat → Nat → Int} {n m : Nat} {rs : List JRule} (he : madeT s d N f = ⟨(n : Nat), (m : Nat), rs⟩) (v : Value) (w : World) (hs : -9223372036854775808 ≤ s ∧ s ≤ 9223372036854775807) (hd : -9223372036854775808 ≤ d ∧ d ≤ 9223372036854775807) (hF : FourAt w.heap.size w v N f) :
    Calls Tryd.prog 11 #[.int .i64 s, .int .i64 d, v] w fun e w' => ∃ rv cs, e = .returned (thV n m rv) ∧ RowR w.heap.size w' rv cs ∧ cs.map (·.2) = rs ∧ Below w.heap.size w w' := by
  have := made_row s d v N f w hs.1 hs.2 hd.1 hd.2 hF
  rw [he] at this
  exact this
theorem field_th2 (a b c : Value) (W : World) : (Instr.field 25 (.agg #[a, b, c]) 2).run Tryd.prog W = .ok c W := by rfl
theorem box4 {W : World} {B : Nat} {rf : Nat → Int} (h : W.heap[B]? = some (.cells #[.int .i64 (rf 0), .int .i64 (rf 1), .int .i64 (rf 2), .int .i64 (rf 3)] 54 (0, 0))) : W.cell? ⟨B, 0, none⟩ = some (.int .i64 (rf 0)) ∧ W.cell? ⟨B, 1, none⟩ = some (.int .i64 (rf 1)) ∧ W.cell? ⟨B, 2, none⟩ = some (.int .i64 (rf 2)) ∧ W.cell? ⟨B, 3, none⟩ = some (.int .i64 (rf 3)) := by
  refine ⟨?_, ?_, ?_, ?_⟩ <;> simp [World.cell?, h]
theorem four_lit (W : World) (rf : Nat → Int) (hb : ∀ i, i < 4 → -9223372036854775808 ≤ rf i ∧ rf i ≤ 9223372036854775807) : FourAt (W.alloc (.cells #[.int .i64 (rf 0), .int .i64 (rf 1), .int .i64 (rf 2), .int .i64 (rf 3)] 54)).heap.size (W.alloc (.cells #[.int .i64 (rf 0), .int .i64 (rf 1), .int .i64 (rf 2), .int .i64 (rf 3)] 54)) (.slice (some ⟨W.heap.size, 0, none⟩) 1 1) 1 (fun _ => rf) := by
  refine ⟨⟨some ⟨W.heap.size, 0, none⟩, 1, rfl, Nat.le_refl _, by unfold maxLen; omega, fun _ => ⟨W.heap.size, 0, rfl, by simp, fun i k hi hk => ?_⟩⟩, fun i k _ hk => hb k hk⟩
  obtain rfl : i = 0 := by omega
  have hn := World.alloc_heap_new W (.cells #[.int .i64 (rf 0), .int .i64 (rf 1), .int .i64 (rf 2), .int .i64 (rf 3)] 54)
  obtain ⟨h0, h1, h2, h3⟩ := box4 hn
  match k, hk with
  | 0, _ => exact h0
  | 1, _ => exact h1
  | 2, _ => exact h2
  | 3, _ => exact h3
theorem ownsRow_set_ty {w : World} {base : Nat} {e e' : TypeId} {size n : Nat} {v : Value} {xs : List Value} (h : w.ownsRow base e size v n xs) {a : Addr} {c0 : Array Value} {z : Nat × Nat} (hb : w.heap[a.block]? = some (.cells c0 e' z)) (hne : e ≠ e') (u : Value) : (w.setCell a u).ownsRow base e size v n xs := by
  refine ⟨h.1, ?_⟩
  rcases h.2 with hn | ⟨g, cap, cur, rfl, hg, hgg, rest⟩
  · exact .inl hn
  · refine .inr ⟨g, cap, cur, rfl, hg, ?_, rest⟩
    rw [Below.heap_setCell _ _ _ _ (fun e => by rw [e, hb] at hgg; cases hgg; exact hne rfl)]
    exact hgg
theorem RowR.set_th {base : Nat} {w : World} {v : Value} {cs : List (Value × JRule)} (h : RowR base w v cs) {T o : Nat} {s d : Int} {rv : Value} (hb : ThBox w T s d rv) (u : Value) : RowR base (w.setCell ⟨T, o, none⟩ u) v cs :=
  ⟨ownsRow_set_ty h.1 (a := ⟨T, o, none⟩) hb (by decide) u, fun c hc => ownsRow_set_ty (h.2 c hc) (a := ⟨T, o, none⟩) hb (by decide) u⟩
/-- A rule of a row, where it lies. -/
theorem RowR.at {base : Nat} {w : World} {a : Option Addr} {n c : Nat} {cs : List (Value × JRule)} (h : RowR base w (.slice a n c) cs) (q : Nat) (hq : q < cs.length) : ∃ g, a = some ⟨g, 0, none⟩ ∧ g < w.heap.size ∧ base ≤ g ∧ ∃ nv r, cs[q]? = some (nv, r) ∧ w.cell? ⟨g, q * 2, none⟩ = some nv ∧ w.cell? ⟨g, q * 2 + 1, none⟩ = some (.int .i64 r.gives) ∧ OwnI base w nv r.needs := by
  rcases h.1.2 with ⟨he, h0⟩ | ⟨g, cap, cur, he, hg, hgg, h1, h2, h3, h4⟩
  · omega
  · cases he
    have hget := cellsR_get cs q hq
    have hc1 := h.1.cells (g := g) rfl (q * 2) _ hget.1
    have hc2 := h.1.cells (g := g) rfl (q * 2 + 1) _ hget.2
    rw [Addr.add_lit, Nat.zero_add] at hc1 hc2
    exact ⟨g, rfl, (Array.getElem?_eq_some_iff.1 hgg).1, hg, cs[q].1, cs[q].2, by simp [hq], hc1, hc2, h.2 _ (List.getElem_mem hq)⟩
/-- A theory of the call's own, in a box. -/
def ThE (w : World) (T n m : Nat) (rv : Value) (cs : List (Value × JRule)) (W : World) : Prop := ThBox W T n m rv ∧ RowR w.heap.size W rv cs
theorem ThE.below {w : World} {T n m B : Nat} {rv : Value} {cs : List (Value × JRule)} {W W' : World} (h : ThE w T n m rv cs W) (hb : Below B W W') (hB : W.heap.size ≤ B) : ThE w T n m rv cs W' := ⟨h.1.below hb (Nat.lt_of_lt_of_le h.1.lt hB), h.2.below hb hB⟩
theorem ThE.law {w w0 : World} {T n m : Nat} {rv : Value} {cs : List (Value × JRule)} {rs : List JRule} {W : World} (h : ThE w T n m rv cs W) (hc : cs.map (·.2) = rs) (hT : Tabs W) (hb : Below w0.heap.size w0 W) : LawI w0 T n m rs rv W := ⟨h.1, by rw [← hc]; exact h.2.rules, hT, hb⟩
theorem row_ne_th {base : Nat} {w : World} {v : Value} {cs : List (Value × JRule)} (h : RowR base w v cs) {T : Nat} {s d : Int} {rv : Value} (hb : ThBox w T s d rv) : some T ≠ v.ownBlock := fun e => by
  rcases h.1.2 with ⟨rfl, _⟩ | ⟨g, cap, cur, rfl, hg, hgg, _⟩
  · cases e
  · cases e
    have := hb.symm.trans hgg
    simp at this
/-- The theory with one rule more. -/
theorem with_pack {w W3 w4 w8 : World} {n m : Int} {rvw v8 : Value} {csw cs8 : List (Value × JRule)} (hb : Below W3.heap.size W3 w4) (hR : RowR W3.heap.size w4 rvw csw) (hw : w.heap.size ≤ W3.heap.size)
    (hbl : ∀ k, some k ≠ rvw.ownBlock → k < (w4.alloc (.cells #[.int .i64 n, .int .i64 m, rvw] 25)).heap.size → w8.heap[k]? = (w4.alloc (.cells #[.int .i64 n, .int .i64 m, rvw] 25)).heap[k]?)
    (hb8 : Below w.heap.size (w4.alloc (.cells #[.int .i64 n, .int .i64 m, rvw] 25)) w8) (hr8 : RowR w.heap.size w8 v8 cs8) :
    w8.cell? ⟨w4.heap.size, 2, none⟩ = some rvw ∧ w8.frozen? ⟨w4.heap.size, 2, none⟩ = false ∧ Below W3.heap.size W3 (w8.setCell ⟨w4.heap.size, 2, none⟩ v8) ∧ ThBox (w8.setCell ⟨w4.heap.size, 2, none⟩ v8) w4.heap.size n m v8 ∧ RowR w.heap.size (w8.setCell ⟨w4.heap.size, 2, none⟩ v8) v8 cs8 := by
  have hT0 := ThBox.new w4 n m rvw
  have hR4 := hR.below ((Below.refl _ _).alloc (Nat.le_refl _) (.cells #[.int .i64 n, .int .i64 m, rvw] 25)) (Nat.le_refl _)
  have hT : ThBox w8 w4.heap.size n m rvw := (hbl _ (row_ne_th hR4 hT0) hT0.lt).trans hT0
  have hz := hb.size
  refine ⟨hT.c2, hT.frozen 2, ?_, hT.set2 v8, hr8.set_th hT v8⟩
  have h4 : Below W3.heap.size W3 (w4.alloc (.cells #[.int .i64 n, .int .i64 m, rvw] 25)) := hb.alloc hz _
  refine Below.setCell (p := ⟨w4.heap.size, 2, none⟩) (h4.trans ⟨hb8.os, hb8.tape, hb8.output, hb8.size, fun k hk => hbl k (fun e => ?_) (by simp; omega)⟩) hz v8
  have := (World.ownsRow.lt hR.1 k e.symm).1
  omega
/-- The turned rules, in the midst of being made. -/
def TurnI (W0 : World) (n m : Nat) (cs : List (Value × JRule)) (v : Value) (W : World) : Prop :=
  RowR 0 W v cs ∧ (∀ g, v.ownBlock = some g → W0.heap.size < g) ∧ ThBox W W0.heap.size n m v ∧ Below W0.heap.size W0 W
theorem turn_pack {W0 wr W : World} {n m : Nat} {cs cs' : List (Value × JRule)} {v v' : Value} (h : TurnI W0 n m cs v wr) (hg : wr.grownBy W v.ownBlock) (hr : RowR 0 W v' cs') (hv : ∀ g, v'.ownBlock = some g → W0.heap.size < g) :
    W.cell? ⟨W0.heap.size, 2, none⟩ = some v ∧ W.frozen? ⟨W0.heap.size, 2, none⟩ = false ∧ Hid (TurnI W0 n m cs' v' (W.setCell ⟨W0.heap.size, 2, none⟩ v')) := by
  have hT : ThBox W W0.heap.size n m v := (hg.block _ h.2.2.1.lt (fun e => by have := h.2.1 _ e.symm; omega)).trans h.2.2.1
  refine ⟨hT.c2, hT.frozen 2, hr.set_th hT v', hv, hT.set2 v', ?_⟩
  refine Below.setCell ?_ (p := ⟨W0.heap.size, 2, none⟩) (Nat.le_refl _) v'
  exact h.2.2.2.grown hg h.2.2.2.size (fun k hk => Nat.le_of_lt (h.2.1 k hk))
/-- An element of a tuple. -/
def tupAt (v : Value) (i : Nat) : Value := match v with | .tuple xs => xs.getD i undef | _ => undef
/-- What the operations of Holds with more leave. -/
def MoreF (Pm : Nat) (l : List Int) : Nat → Value → World → Prop
  | 6, v, _ => v = .int .i64 Pm
  | _, v, W => ∃ sv, v = .tuple #[sv, .int .i64 0] ∧ IntsAt W.heap.size W sv l
theorem moreF_kept {Pm k : Nat} {l : List Int} {v : Value} {W W' : World} (h : MoreF Pm l k v W) (hg : W.grownBy W' none) : MoreF Pm l k v W' := by
  unfold MoreF at h ⊢
  split at h
  · exact h
  · obtain ⟨sv, h1, h2⟩ := h
    exact ⟨sv, h1, h2.later (grown_below hg) (Nat.le_refl _)⟩
/-- What stands while the law asks. -/
def MoreA (w : World) (T1 T2 T3 T4 n m : Nat) (rs rs2 rs3 : List JRule) (v1 v2 v3 nv : Value) (r : JRule) (X : World) : Prop :=
  LawI w T1 n m rs v1 X ∧ LawI w T4 n m rs2 v2 X ∧ LawI w T3 n m rs3 v3 X ∧ RBox X T2 nv r.gives ∧ IntsAt X.heap.size X nv r.needs
theorem MoreA.below {w : World} {T1 T2 T3 T4 n m : Nat} {rs rs2 rs3 : List JRule} {v1 v2 v3 nv : Value} {r : JRule} {X X' : World} (h : MoreA w T1 T2 T3 T4 n m rs rs2 rs3 v1 v2 v3 nv r X) (hb : Below X.heap.size X X') : MoreA w T1 T2 T3 T4 n m rs rs2 rs3 v1 v2 v3 nv r X' :=
  ⟨h.1.below hb, h.2.1.below hb, h.2.2.1.below hb, h.2.2.2.1.below hb h.2.2.2.1.lt, h.2.2.2.2.later hb (Nat.le_refl _)⟩
/-- What the operations of a round of turning leave. -/
def TurnF (H : Nat) (rv : Value) (cs : List (Value × JRule)) (nv : Value) (r : JRule) (p : Nat) : Nat → Value → World → Prop
  | 1, v, W => v = rv ∧ RowR 0 W rv cs
  | 9, v, _ => v = .int .i64 p
  | 17, v, W => ∃ g, v = .slice (some ⟨g, 0, none⟩) 1 1 ∧ W.heap[g]? = some (.cells #[nv, .int .i64 r.gives] 48 (0, 0)) ∧ OwnI 0 W nv r.needs
  | _, v, W => RowR 0 W v (cs ++ [(nv, r)]) ∧ ∀ g, v.ownBlock = some g → rv.ownBlock = some g ∨ H ≤ g
theorem turnF_kept {ops : Array Oper} {w : World} {H k p : Nat} {rv nv : Value} {cs : List (Value × JRule)} {r : JRule} {sp : List Nat} {v : Value} {W W' : World} {c : Option Nat} (hk : ([1, 9, 17, 18] : List Nat).contains k = true)
    (h : TurnF H rv cs nv r p k v W) (hg : W.grownBy W' c) (hc : Far ops ⟨sp, TurnF H rv cs nv r p, fun k => if k = 18 then [1] else [], 1, rv.ownBlock, 20⟩ w k v W c) : TurnF H rv cs nv r p k v W' := by
  have h1 : ∀ g, c = some g → v.ownBlock ≠ some g := fun g hh => (hc g hh).1
  cases c with
  | none =>
    have hb := grown_below hg
    unfold TurnF at h ⊢
    split at h
    · exact ⟨h.1, h.2.below hb (Nat.le_refl _)⟩
    · exact h
    · obtain ⟨g0, h2, h3, h4⟩ := h
      exact ⟨g0, h2, (hb.block g0 (Array.getElem?_eq_some_iff.1 h3).1).trans h3, h4.below hb (Nat.le_refl _)⟩
    · exact ⟨h.1.below hb (Nat.le_refl _), h.2⟩
  | some g =>
    obtain ⟨n1, _, i, j, u, hd, hik, hre, hu, hF⟩ := hc g rfl
    simp only at hd
    split at hd
    · rename_i h18
      obtain rfl : j = 1 := by simpa using hd
      obtain ⟨rfl, hrow⟩ := (show _ ∧ _ from hF)
      rw [← hu] at hg
      unfold TurnF at h ⊢
      split at h
      · obtain ⟨rfl, _⟩ := h
        exact absurd hu n1
      · exact h
      · obtain ⟨g0, rfl, h3, h4⟩ := h
        refine ⟨g0, rfl, ?_, h4.kept hrow.1 (by decide) hg⟩
        rw [hg.block g0 (Array.getElem?_eq_some_iff.1 h3).1 (fun e => n1 (by rw [← hu]; exact e))]
        exact h3
      · rename_i k1 k9 k17
        rcases (by simpa using hk : k = 1 ∨ k = 9 ∨ k = 17 ∨ k = 18) with h | h | h | h
        · exact (k1 h).elim
        · exact (k9 h).elim
        · exact (k17 h).elim
        · exact absurd (h18.trans h.symm) hik
    · simp at hd
end Go.Proofs.YtmihkbiihfhpoaaDoor
