/- How cards and an index lie in memory. -/
import Derived.Test.YtcgopilkajfghaaGreatDoorLiveP
import Derived.Test.YtcgopilkajfghaaGreatDoorIPlain
import Derived.Maps.OwnSet
set_option linter.unusedVariables false
set_option linter.unusedSimpArgs false
namespace Go.Proofs.YtcgopilkajfghaaGreatDoor
open Go.RowKit Go.Shelf
open Go.Maps (Keyed IsMap Tidy)

theorem BoxN.alloc {g : Nat} {t : TypeId} {cs : Array Value} {W : World} (h : BoxN g t cs W) (o : Obj) : BoxN g t cs (W.alloc o) := (Below.heap_alloc _ _ _ h.lt).trans h
theorem BoxN.grown {g : Nat} {t : TypeId} {cs : Array Value} {W W' : World} {r : Option Nat} (h : BoxN g t cs W) (hg : W.grownBy W' r) (hr : r ≠ some g) : BoxN g t cs W' := (hg.block g h.lt (fun e => hr e.symm)).trans h
theorem BoxN.below {g : Nat} {t : TypeId} {cs : Array Value} {W W' : World} {B : Nat} (h : BoxN g t cs W) (hb : Below B W W') (hB : g < B) : BoxN g t cs W' := (hb.block g hB).trans h
theorem BoxN.other {g g' j : Nat} {t : TypeId} {cs : Array Value} {W : World} {v : Value} (h : BoxN g t cs W) (hne : g ≠ g') : BoxN g t cs (W.setCell ⟨g', j, none⟩ v) := (heap_setCell_other W _ g v hne).trans h
theorem BoxN.set {g : Nat} {t : TypeId} {cs : Array Value} {W : World} (h : BoxN g t cs W) (j : Nat) (v : Value) : BoxN g t (cs.setIfInBounds j v) (W.setCell ⟨g, j, none⟩ v) := heap_setCell_same W g j _ _ v h
theorem grown_cell1 (W : World) (g j : Nat) (v : Value) : W.grownBy (W.setCell ⟨g, j, none⟩ v) (some g) := ⟨rfl, rfl, rfl, by simp [World.setCell], fun k _ hk => Below.heap_setCell _ _ _ _ (fun e => hk (by simp [e]))⟩
theorem OwnK.setOther {α : Type} {K : SK α} {base : Nat} {W : World} {v : Value} {l : List α} (h : OwnK K base W v l) {g : Nat} (hg : v.ownBlock ≠ Option.some g) (j : Nat) (u : Value) : OwnK K base (W.setCell ⟨g, j, none⟩ u) v l :=
  h.kept (grown_cell1 W g j u) (fun g' hg' e => by cases hg'; exact hg e)
theorem ownS_kept {base : Nat} {l : List Bytes} {v : Value} {W W' : World} {c : Option Nat} (h : OwnS base W v l) (hg : W.grownBy W' c) (hc : ∀ g, c = some g → v.ownBlock ≠ some g) : OwnS base W' v l :=
  World.ownsRow.kept h hg (by
    cases c with
    | none => cases v.ownBlock <;> simp
    | some g => exact .inr (hc g rfl))
theorem wpl_gen {P : Program} {ops : Array Oper} {rest : List Oper} {Q : Exit → Act → World → Prop} {a : Act} {W : World} (R : World → Prop) (h : R W) (k : ∀ W', R W' → wpList P ops Q rest a W') : wpList P ops Q rest a W := k W h
def vtupAt (v : Value) (i : Nat) : Value := match v with | .tuple xs => xs.getD i undef | _ => undef
def cardK : SK ICard := ⟨35, 23, 5, 40, .agg #[.int .i64 0, .int .i64 0, .int .i64 0, .int .i64 0, .int .i64 0], fun c => [.int .i64 c.id, .int .i64 c.unit, .int .i64 c.kind, .int .i64 c.beg, .int .i64 c.fin]⟩
theorem cardOk : cardK.Ok where
  pos := by decide
  len := fun _ => rfl
  one := fun x u hu => by
    simp only [cardK, List.mem_cons, List.not_mem_nil, or_false] at hu
    rcases hu with rfl | rfl | rfl | rfl | rfl <;> rfl
  und := Tryz.underlying23
  info := by kernel_rfl
  zc := rfl
  small := by decide
abbrev cardV (c : ICard) : Value := .agg #[.int .i64 c.id, .int .i64 c.unit, .int .i64 c.kind, .int .i64 c.beg, .int .i64 c.fin]
abbrev cardR (c : ICard) : Array Value := #[.int .i64 c.id, .int .i64 c.unit, .int .i64 c.kind, .int .i64 c.beg, .int .i64 c.fin]
abbrev cardZ : ICard := ⟨0, 0, 0, 0, 0⟩
/-- The cells of the card at a place. -/
def CardAt (w : World) (b o : Nat) (c : ICard) : Prop := w.cell? ⟨b, o, none⟩ = some (.int .i64 c.id) ∧ w.cell? ⟨b, o + 1, none⟩ = some (.int .i64 c.unit) ∧ w.cell? ⟨b, o + 2, none⟩ = some (.int .i64 c.kind) ∧ w.cell? ⟨b, o + 3, none⟩ = some (.int .i64 c.beg) ∧ w.cell? ⟨b, o + 4, none⟩ = some (.int .i64 c.fin)
theorem ElAt.card {w : World} {b o : Nat} {c : ICard} (h : ElAt cardK w b o c) : CardAt w b o c := ⟨h 0 _ rfl, h 1 _ rfl, h 2 _ rfl, h 3 _ rfl, h 4 _ rfl⟩
theorem cards_at {B : Nat} {w : World} {a : Option Addr} {n c : Nat} {l : List ICard} (h : RowsAt cardK B w (.slice a n c) l) (j : Nat) (x : ICard) (hj : l[j]? = some x) : ∃ b off, a = some ⟨b, off, none⟩ ∧ b < B ∧ CardAt w b (off + j * 5) x := by
  obtain ⟨b, off, ha, hb, hc⟩ := h.at j x hj
  exact ⟨b, off, ha, hb, ElAt.card hc⟩
def CardN (g : Nat) (c : ICard) (W : World) : Prop := BoxN g 35 (cardR c) W
theorem CardN.cells {W : World} {g : Nat} {c : ICard} (h : CardN g c W) : W.cell? ⟨g, 0, none⟩ = some (.int .i64 c.id) ∧ W.cell? ⟨g, 1, none⟩ = some (.int .i64 c.unit) ∧ W.cell? ⟨g, 2, none⟩ = some (.int .i64 c.kind) ∧ W.cell? ⟨g, 3, none⟩ = some (.int .i64 c.beg) ∧ W.cell? ⟨g, 4, none⟩ = some (.int .i64 c.fin) := ⟨BoxN.cell h 0 _ rfl, BoxN.cell h 1 _ rfl, BoxN.cell h 2 _ rfl, BoxN.cell h 3 _ rfl, BoxN.cell h 4 _ rfl⟩
/-! ### The map. -/
def cardD (c : ICard) : DataW Unit := .agg [.lit (.int .i64 c.id), .lit (.int .i64 c.unit), .lit (.int .i64 c.kind), .lit (.int .i64 c.beg), .lit (.int .i64 c.fin)]
def cardElem : Value → Option (DataW Unit × List MemPlace)
  | .agg cs => match cs.toList with
    | [.int .i64 a, .int .i64 b, .int .i64 c, .int .i64 d, .int .i64 e] => some (cardD ⟨a, b, c, d, e⟩, [])
    | _ => none
  | _ => none
theorem cardElem_mk (c : ICard) : cardElem (cardV c) = some (cardD c, []) := rfl
theorem cardElem_inv {v : Value} {c : ICard} {ps : List MemPlace} (h : cardElem v = some (cardD c, ps)) : v = cardV c := by
  unfold cardElem at h
  split at h
  · rename_i cs
    split at h
    · rename_i a b c' d e he
      have h1 := congrArg Prod.fst (Option.some.inj h)
      simp only [cardD, DataW.agg.injEq, List.cons.injEq, DataW.lit.injEq, Lit.int.injEq, true_and, and_true] at h1
      obtain ⟨e1, e2, e3, e4, e5⟩ := h1
      subst e1 e2 e3 e4 e5
      obtain ⟨cs⟩ := cs
      simp only at he
      subst he
      rfl
    · cases h
  · cases h
def inI (n : Int) : Prop := -9223372036854775808 ≤ n ∧ n ≤ 9223372036854775807
theorem wf_i64 {n : Int} (h : inI n) : (Lit.int .i64 n).wf = true := by
  unfold inI at h
  simp [Lit.wf, IntKind.min, IntKind.max, IntKind.signed, IntKind.bits]
  omega
theorem keyed_int : Keyed Tryz.prog 3 := Maps.int_keyed Tryz.underlying3
theorem keyOf_int {n : Int} (h : inI n) : keyOf Tryz.prog 3 (.int .i64 n) = some (.int .i64 n) := Maps.keyOf_int_mk Tryz.underlying3 (wf_i64 h)
theorem isKey_int {n : Int} (h : inI n) : WideAt.IsKeyLit (.int .i64 n) := by
  have := keyOf_int h
  first | exact trivial | exact wf_i64 h | (unfold WideAt.IsKeyLit; exact wf_i64 h) | (simp [WideAt.IsKeyLit]; exact wf_i64 h)
/-- What a map holds: the cards of a list, by their IDs. -/
structure MapOk (D : DataW Unit) (l : List ICard) : Prop where
  tidy : Tidy D
  size : Maps.size D = l.length
  at_ : ∀ id : Int, ∀ z, D.atKey (.int .i64 id) z = match findC l id with | some c => cardD c | none => z
theorem MapOk.has {D : DataW Unit} {l : List ICard} (h : MapOk D l) (id : Int) : Maps.has D (.int .i64 id) = (findC l id).isSome := by
  cases hf : findC l id with
  | none => exact Maps.has_false_of_atKey fun z => by rw [h.at_, hf]
  | some c => exact Maps.has_true_of_atKey (y := cardD c) fun z => by rw [h.at_, hf]
theorem mapOk_nil : MapOk (.map []) [] := ⟨Maps.tidy_empty, rfl, fun id z => rfl⟩
theorem mapOk_put {D : DataW Unit} {l : List ICard} {c : ICard} (h : MapOk D l) (hc : inI c.id) (hn : findC l c.id = none) : MapOk (D.put (.int .i64 c.id) (cardD c)) (insC l c) := by
  refine ⟨h.tidy.put (isKey_int hc) _, ?_, fun id z => ?_⟩
  · rw [Maps.size_put h.tidy, h.has, hn, insC_length, h.size]
    rfl
  · rw [find_ins hn]
    by_cases e : id = c.id
    · subst e
      rw [if_pos rfl, Maps.atKey_put_same h.tidy.isMap (isKey_int hc)]
    · rw [if_neg e, Maps.atKey_put_other (fun e' => e (by injection e')), h.at_]
theorem mapOk_del {D : DataW Unit} {l : List ICard} {c : ICard} (h : MapOk D l) (hl : IOk l) (hc : c ∈ l) : MapOk (D.del (.int .i64 c.id)) (delC l c) := by
  refine ⟨h.tidy.del _, ?_, fun id z => ?_⟩
  · have h1 := Maps.size_del (k := (.int .i64 c.id)) h.tidy
    rw [h.has, findC_mem hl hc, h.size] at h1
    have h2 := delC_length hl hc
    simp at h1
    omega
  · rw [find_del hl hc]
    by_cases e : id = c.id
    · subst e
      rw [if_pos rfl, Maps.atKey_del_same]
    · rw [if_neg e, Maps.atKey_del_other (fun e' => e (by injection e')), h.at_]
/-! ### What else may turn. -/
structure Turn (S : Nat → Prop) (w w' : World) : Prop where
  os : w'.os = w.os
  tape : w'.tape = w.tape
  output : w'.output = w.output
  size : w.heap.size ≤ w'.heap.size
  block : ∀ k, k < w.heap.size → ¬ S k → w'.heap[k]? = w.heap[k]?
theorem Turn.refl (S : Nat → Prop) (w : World) : Turn S w w := ⟨rfl, rfl, rfl, Nat.le_refl _, fun _ _ _ => rfl⟩
theorem Turn.trans {S S' : Nat → Prop} {a b c : World} (h : Turn S a b) (k : Turn S' b c) (hs : ∀ j, S' j → S j ∨ a.heap.size ≤ j) : Turn S a c :=
  ⟨k.os.trans h.os, k.tape.trans h.tape, k.output.trans h.output, Nat.le_trans h.size k.size, fun j hj hn => (k.block j (Nat.lt_of_lt_of_le hj h.size) fun h' => by
    rcases hs j h' with g | g
    · exact hn g
    · omega).trans (h.block j hj hn)⟩
theorem Turn.mono {S S' : Nat → Prop} {a b : World} (h : Turn S a b) (hs : ∀ j, S j → S' j) : Turn S' a b := ⟨h.os, h.tape, h.output, h.size, fun j hj hn => h.block j hj fun g => hn (hs j g)⟩
theorem Turn.of_below {S : Nat → Prop} {a b : World} (h : Below a.heap.size a b) : Turn S a b := ⟨h.os, h.tape, h.output, h.size, fun j hj _ => h.block j hj⟩
theorem Turn.of_grown {S : Nat → Prop} {a b : World} {r : Option Nat} (h : a.grownBy b r) (hr : ∀ g, r = some g → S g) : Turn S a b := ⟨h.os, h.tape, h.output, h.size, fun j hj hn => h.block j hj fun e => hn (hr j e.symm)⟩
theorem Turn.below {S : Nat → Prop} {a b : World} (h : Turn S a b) {B : Nat} (hB : B ≤ a.heap.size) (hs : ∀ k, S k → B ≤ k) : Below B a b := ⟨h.os, h.tape, h.output, h.size, fun k hk => h.block k (by omega) fun g => by have := hs k g; omega⟩
theorem Turn.setCell {S : Nat → Prop} {a b : World} (h : Turn S a b) {g : Nat} (hg : S g ∨ a.heap.size ≤ g) (j : Nat) (v : Value) : Turn S a (b.setCell ⟨g, j, none⟩ v) :=
  h.trans (Turn.of_grown (S := fun k => k = g) (grown_cell1 b g j v) (fun g' e => (Option.some.inj e).symm)) (fun k hk => by cases hk; exact hg)
theorem Turn.alloc {S : Nat → Prop} {a b : World} (h : Turn S a b) (o : Obj) : Turn S a (b.alloc o) := h.trans (Turn.of_below (S := fun _ => False) ((Below.refl _ _).alloc (Nat.le_refl _) o)) (fun _ h => h.elim)
theorem BoxN.turn {g : Nat} {t : TypeId} {cs : Array Value} {W W' : World} {S : Nat → Prop} (h : BoxN g t cs W) (ht : Turn S W W') (hg : ¬ S g) : BoxN g t cs W' := (ht.block g h.lt hg).trans h
theorem RowsAt.turn {α : Type} {K : SK α} {B : Nat} {w w' : World} {v : Value} {l : List α} {S : Nat → Prop} (h : RowsAt K B w v l) (ht : Turn S w w') (hB : B ≤ w.heap.size) (hs : ∀ b, b < B → ¬ S b) : RowsAt K B w' v l := by
  obtain ⟨a, c, rfl, h1, h2, h3⟩ := h
  refine ⟨a, c, rfl, h1, h2, fun hp => ?_⟩
  obtain ⟨b, off, rfl, hlt, hc⟩ := h3 hp
  exact ⟨b, off, rfl, hlt, fun i x hi k u hu => (World.cell?_of_block (a := ⟨b, _, none⟩) (ht.block b (by omega) (hs b hlt))).trans (hc i x hi k u hu)⟩
theorem OwnK.turn {α : Type} {K : SK α} {base : Nat} {w w' : World} {v : Value} {l : List α} {S : Nat → Prop} (h : OwnK K base w v l) (ht : Turn S w w') (hs : ∀ g, v.ownBlock = Option.some g → ¬ S g) : OwnK K base w' v l := by
  rcases h with ⟨h0, ⟨rfl, h1⟩ | ⟨g, cap, cur, rfl, hg, hgg, h1, h2, h3, h4⟩⟩
  · exact ⟨h0, .inl ⟨rfl, h1⟩⟩
  · exact ⟨h0, .inr ⟨g, cap, cur, rfl, hg, (ht.block g (Array.getElem?_eq_some_iff.1 hgg).1 (hs g rfl)).trans hgg, h1, h2, h3, h4⟩⟩
theorem ownsMap_turn {w w' : World} {b n : Nat} {D : DataW Unit} {S : Nat → Prop} (h : w.ownsMap Tryz.prog 3 cardElem b n D) (ht : Turn S w w') (hs : ¬ S b) : w'.ownsMap Tryz.prog 3 cardElem b n D := by
  have hlt := h.lt
  obtain ⟨es, clock, hb, r⟩ := h
  exact ⟨es, clock, (ht.block b hlt hs).trans hb, r⟩
/-! ### The index. -/
/-- The cells of an index. -/
def idxL (m : Nat) (ov : Value) (T : Nat → Int) : List Value := .map (some m) :: ov :: (List.range 2101).map fun k => .int .i64 (T k)
def idxC (m : Nat) (ov : Value) (T : Nat → Int) : Array Value := (idxL m ov T).toArray
theorem idxC_len (m : Nat) (ov : Value) (T : Nat → Int) : (idxC m ov T).size = 2103 := by simp [idxC, idxL]
theorem tree_get (n : Nat) {T : Nat → Int} {k : Nat} (hk : k < n) : ((List.range n).map fun k => Value.int .i64 (T k))[k]? = some (.int .i64 (T k)) := by
  rw [List.getElem?_map, List.getElem?_range hk]
  rfl
theorem tree_set (N : Nat) {T : Nat → Int} {k : Nat} {n : Int} (hk : k < N) : ((List.range N).map fun k => Value.int .i64 (T k)).set k (.int .i64 (T k + n)) = (List.range N).map fun j => Value.int .i64 (if j = k then T j + n else T j) := by
  apply List.ext_getElem?
  intro i
  rw [List.getElem?_set, List.getElem?_map, List.getElem?_map]
  by_cases e : k = i
  · subst e
    rw [if_pos rfl, List.getElem?_range hk, List.length_map, List.length_range, if_pos hk]
    simp
  · rw [if_neg e]
    by_cases hi : i < N
    · rw [List.getElem?_range hi]
      simp only [Option.map_some]
      rw [if_neg (fun e' => e e'.symm)]
    · rw [List.getElem?_eq_none (by simp; omega)]
      rfl
theorem two_get {α : Type} {a b : α} {l : List α} {k : Nat} : (a :: b :: l).toArray[2 + k]? = l[k]? := by
  rw [List.getElem?_toArray, Nat.add_comm]
  rfl
theorem two_set {α : Type} {a b v : α} {l : List α} {k : Nat} : (a :: b :: l).toArray.setIfInBounds (2 + k) v = (a :: b :: l.set k v).toArray := by
  rw [List.setIfInBounds_toArray, Nat.add_comm]
  rfl
theorem two_set1 {α : Type} {a b v : α} {l : List α} : (a :: b :: l).toArray.setIfInBounds 1 v = (a :: v :: l).toArray := by
  rw [List.setIfInBounds_toArray]
  rfl
theorem idxC_get {m : Nat} {ov : Value} {T : Nat → Int} {k : Nat} (hk : k < 2101) : (idxC m ov T)[2 + k]? = some (.int .i64 (T k)) := two_get.trans (tree_get 2101 hk)
theorem idxC_0 {m : Nat} {ov : Value} {T : Nat → Int} : (idxC m ov T)[0]? = some (.map (some m)) := List.getElem?_toArray ..
theorem idxC_1 {m : Nat} {ov : Value} {T : Nat → Int} : (idxC m ov T)[1]? = some ov := List.getElem?_toArray ..
theorem idxC_set1 {m : Nat} {ov ov' : Value} {T : Nat → Int} : (idxC m ov T).setIfInBounds 1 ov' = idxC m ov' T := two_set1
theorem idxC_set {m : Nat} {ov : Value} {T : Nat → Int} {k : Nat} {n : Int} (hk : k < 2101) : (idxC m ov T).setIfInBounds (2 + k) (.int .i64 (T k + n)) = idxC m ov (fun j => if j = k then T j + n else T j) := two_set.trans (by rw [tree_set 2101 hk]; rfl)
/-- An index lies here: its own blocks are among S. -/
structure IdxAt (S : Nat → Prop) (X : Nat) (l : List ICard) (m : Nat) (ov : Value) (T : Nat → Int) (D : DataW Unit) (W : World) : Prop where
  box : BoxN X 81 (idxC m ov T) W
  map : W.ownsMap Tryz.prog 3 cardElem m l.length D
  order : OwnK cardK 0 W ov l
  dat : MapOk D l
  tree : TreeOk T l
  ok : IOk l
  sx : S X
  sm : S m
  so : ∀ g, ov.ownBlock = some g → S g
  lt : ∀ k, S k → k < W.heap.size
/-- .. whatever its parts are. -/
def IdxN (S : Nat → Prop) (X : Nat) (l : List ICard) (W : World) : Prop := ∃ m ov T D, IdxAt S X l m ov T D W
theorem map_ne_box {W : World} {b n X : Nat} {t : TypeId} {cs : Array Value} {D : DataW Unit} (h : W.ownsMap Tryz.prog 3 cardElem b n D) (hx : BoxN X t cs W) : b ≠ X := fun e => by
  obtain ⟨es, clock, hb, _⟩ := h
  have hx' : W.heap[X]? = some (.cells cs t (0, 0)) := hx
  rw [e, hx'] at hb
  cases hb
theorem map_ne_row {α : Type} {K : SK α} {W : World} {b n base : Nat} {D : DataW Unit} {v : Value} {l : List α} (h : W.ownsMap Tryz.prog 3 cardElem b n D) (hx : OwnK K base W v l) : v.ownBlock ≠ some b := fun e => by
  obtain ⟨es, clock, hb, _⟩ := h
  rcases hx.2 with ⟨rfl, _⟩ | ⟨g, cap, cur, rfl, _, hg, _⟩
  · cases e
  · cases e
    rw [hg] at hb
    cases hb
theorem row_ne_box {α : Type} {K : SK α} {W : World} {base X : Nat} {t : TypeId} {cs : Array Value} {v : Value} {l : List α} (hr : OwnK K base W v l) (hx : BoxN X t cs W) (ht : t ≠ K.ty) : v.ownBlock ≠ some X := fun e => by
  have hx' : W.heap[X]? = some (.cells cs t (0, 0)) := hx
  rcases hr.2 with ⟨rfl, _⟩ | ⟨g, cap, cur, rfl, _, hg, _⟩
  · cases e
  · cases e
    rw [hx'] at hg
    exact ht (Obj.cells.inj (Option.some.inj hg)).2.1
theorem IdxAt.turn {S R : Nat → Prop} {X : Nat} {l : List ICard} {m : Nat} {ov : Value} {T : Nat → Int} {D : DataW Unit} {W W' : World} (h : IdxAt S X l m ov T D W) (ht : Turn R W W') (hs : ∀ k, S k → ¬ R k) : IdxAt S X l m ov T D W' :=
  ⟨h.box.turn ht (hs _ h.sx), ownsMap_turn h.map ht (hs _ h.sm), h.order.turn ht (fun g hg => hs _ (h.so g hg)), h.dat, h.tree, h.ok, h.sx, h.sm, h.so, fun k hk => Nat.lt_of_lt_of_le (h.lt k hk) ht.size⟩
theorem IdxN.turn {S R : Nat → Prop} {X : Nat} {l : List ICard} {W W' : World} (h : IdxN S X l W) (ht : Turn R W W') (hs : ∀ k, S k → ¬ R k) : IdxN S X l W' := by
  obtain ⟨m, ov, T, D, h⟩ := h
  exact ⟨m, ov, T, D, h.turn ht hs⟩
theorem IdxN.below {S : Nat → Prop} {X : Nat} {l : List ICard} {W W' : World} (h : IdxN S X l W) (hb : Below W.heap.size W W') : IdxN S X l W' := h.turn (R := fun _ => False) (Turn.of_below hb) (fun _ _ h => h)
theorem IdxAt.grown {S : Nat → Prop} {X : Nat} {l : List ICard} {m : Nat} {ov : Value} {T : Nat → Int} {D : DataW Unit} {W W' : World} (h : IdxAt S X l m ov T D W) (hg : W.grownBy W' none) : IdxAt S X l m ov T D W' :=
  h.turn (R := fun _ => False) (Turn.of_grown hg (fun _ e => by cases e)) (fun _ _ h => h)
theorem IdxAt.c0 {S : Nat → Prop} {X : Nat} {l : List ICard} {m : Nat} {ov : Value} {T : Nat → Int} {D : DataW Unit} {W : World} (h : IdxAt S X l m ov T D W) : W.cell? ⟨X, 0, none⟩ = some (.map (some m)) := BoxN.cell h.box 0 _ idxC_0
theorem IdxAt.c1 {S : Nat → Prop} {X : Nat} {l : List ICard} {m : Nat} {ov : Value} {T : Nat → Int} {D : DataW Unit} {W : World} (h : IdxAt S X l m ov T D W) : W.cell? ⟨X, 1, none⟩ = some ov := BoxN.cell h.box 1 _ idxC_1
/-- 'c, is := m[id]'. -/
theorem IdxAt.look {S : Nat → Prop} {X : Nat} {l : List ICard} {m : Nat} {ov : Value} {T : Nat → Int} {D : DataW Unit} {W : World} (h : IdxAt S X l m ov T D W) {id : Int} (hi : inI id) :
    (Instr.lookup 74 (.map (some m)) (.int .i64 id) true).run Tryz.prog W = .ok (.tuple #[cardV ((findC l id).getD cardZ), .bool (findC l id).isSome]) W := by
  have hz : (zeroValue 35).run Tryz.prog W = .ok (cardV cardZ) W := by
    obtain ⟨i0, hi, hz0, _⟩ := info_parts cardOk.info
    have hi : Tryz.prog.info? 35 = some i0 := hi
    simp [zeroValue, typeInfo, hi, hz0]
    first | rfl | simp [cardK]
  obtain ⟨v, ps, hrun, hv⟩ := h.map.look_ok keyed_int Tryz.underlying74 hz (cardElem_mk cardZ) (keyOf_int hi)
  rw [h.dat.at_] at hv
  rw [hrun, h.dat.has]
  cases hf : findC l id with
  | none => rw [hf] at hv; rw [cardElem_inv hv]; rfl
  | some c => rw [hf] at hv; rw [cardElem_inv hv]; rfl
end Go.Proofs.YtcgopilkajfghaaGreatDoor
