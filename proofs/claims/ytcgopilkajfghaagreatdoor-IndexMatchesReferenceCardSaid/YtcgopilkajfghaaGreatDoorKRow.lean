/- Rows of structs, whatever the struct. -/
import Derived.Test.YtcgopilkajfghaaGreatDoorMTreeA
import Derived.Test.YtcgopilkajfghaaGreatDoorMCalm
import Derived.Maps.AppendAt
import Derived.ArgAppend
set_option linter.unusedVariables false
set_option linter.unusedSimpArgs false
namespace Go.Proofs.YtcgopilkajfghaaGreatDoor
open Go.RowKit Go.Shelf

/-- A kind of struct: the types of an element and of a slice, cells, bytes, the zero value, and how an element lies in cells. -/
structure SK (α : Type) where
  ty : TypeId
  st : TypeId
  size : Nat
  bytes : Nat
  zero : Value
  enc : α → List Value
structure SK.Ok {α : Type} (K : SK α) : Prop where
  pos : 0 < K.size
  len : ∀ x, (K.enc x).length = K.size
  one : ∀ x, ∀ u ∈ K.enc x, u.oneCell' = true
  und : Tryz.prog.underlying K.st = some (.slice K.ty)
  info : (Tryz.prog.info? K.ty).map (fun i => (i.zero, i.size, i.bytes)) = some (some K.zero, K.size, K.bytes)
  zc : K.zero.cells.size = K.size
  small : K.bytes ≤ 1000
section
variable {α : Type} {K : SK α}
/-- An element lies in these cells. -/
def ElAt (K : SK α) (w : World) (b o : Nat) (x : α) : Prop := ∀ (k : Nat) (u : Value), (K.enc x)[k]? = some u → w.cell? ⟨b, o + k, none⟩ = some u
theorem ElAt.below {B : Nat} {w w' : World} {b o : Nat} {x : α} (h : ElAt K w b o x) (hb : Below B w w') (hB : b < B) : ElAt K w' b o x := fun k u hu => (hb.cell (p := ⟨b, o + k, none⟩) hB).trans (h k u hu)
/-- A value is a slice of these elements, in blocks before B. -/
def RowsAt (K : SK α) (B : Nat) (w : World) (v : Value) (rs : List α) : Prop :=
  ∃ (a : Option Addr) (c : Nat), v = .slice a rs.length c ∧ rs.length ≤ c ∧ c ≤ maxLen ∧ (0 < rs.length → ∃ b off, a = some ⟨b, off, none⟩ ∧ b < B ∧ ∀ i x, rs[i]? = some x → ElAt K w b (off + i * K.size) x)
theorem RowsAt.below {B B' : Nat} {w w' : World} {v : Value} {l : List α} (h : RowsAt K B w v l) (hb : Below B' w w') (hB : B ≤ B') : RowsAt K B w' v l := by
  obtain ⟨a, c, rfl, h1, h2, h3⟩ := h
  refine ⟨a, c, rfl, h1, h2, fun hp => ?_⟩
  obtain ⟨b, off, rfl, hlt, hc⟩ := h3 hp
  exact ⟨b, off, rfl, hlt, fun i x hi => (hc i x hi).below hb (Nat.lt_of_lt_of_le hlt hB)⟩
theorem RowsAt.mono {B B' : Nat} {w : World} {v : Value} {l : List α} (h : RowsAt K B w v l) (hB : B ≤ B') : RowsAt K B' w v l := by
  obtain ⟨a, c, rfl, h1, h2, h3⟩ := h
  refine ⟨a, c, rfl, h1, h2, fun hp => ?_⟩
  obtain ⟨b, off, rfl, hlt, hc⟩ := h3 hp
  exact ⟨b, off, rfl, Nat.lt_of_lt_of_le hlt hB, hc⟩
theorem RowsAt.later {B : Nat} {w w' : World} {v : Value} {l : List α} (h : RowsAt K w.heap.size w v l) (hb : Below B w w') (hB : w.heap.size ≤ B) : RowsAt K w'.heap.size w' v l := (h.below hb hB).mono hb.size
theorem RowsAt.nil (B : Nat) (w : World) : RowsAt K B w (.slice none 0 0) [] := ⟨none, 0, rfl, Nat.le_refl _, Nat.zero_le _, fun h => by simp at h⟩
theorem RowsAt.shape {B : Nat} {w : World} {v : Value} {l : List α} (h : RowsAt K B w v l) : ∃ a c, v = .slice a l.length c ∧ l.length ≤ c ∧ c ≤ maxLen := by
  obtain ⟨a, c, h1, h2, h3, _⟩ := h
  exact ⟨a, c, h1, h2, h3⟩
theorem RowsAt.at {B : Nat} {w : World} {a : Option Addr} {n c : Nat} {l : List α} (h : RowsAt K B w (.slice a n c) l) (j : Nat) (x : α) (hj : l[j]? = some x) : ∃ b off, a = some ⟨b, off, none⟩ ∧ b < B ∧ ElAt K w b (off + j * K.size) x := by
  obtain ⟨a', c', he, _, _, hc⟩ := h
  obtain ⟨b, off, ha, hb, hcc⟩ := hc (by have := (List.getElem?_eq_some_iff.1 hj).1; omega)
  exact ⟨b, off, (Value.slice.inj he).1.trans ha, hb, hcc j x hj⟩
theorem RowsAt.el {B : Nat} {w : World} {b off n c : Nat} {l : List α} (h : RowsAt K B w (.slice (some ⟨b, off, none⟩) n c) l) (j : Nat) (x : α) (hj : l[j]? = some x) : ElAt K w b (off + j * K.size) x := by
  obtain ⟨b', off', ha, _, hc⟩ := h.at j x hj
  cases ha
  exact hc
theorem RowsAt.lt {B : Nat} {w : World} {b off n c : Nat} {l : List α} (h : RowsAt K B w (.slice (some ⟨b, off, none⟩) n c) l) (hp : 0 < l.length) : b < B := by
  obtain ⟨b', off', ha, hb, _⟩ := h.at 0 l[0] (List.getElem?_eq_getElem hp)
  cases ha
  exact hb
theorem RowsAt.len {B : Nat} {w : World} {a : Option Addr} {n c : Nat} {l : List α} (h : RowsAt K B w (.slice a n c) l) : n = l.length ∧ n ≤ c ∧ c ≤ maxLen := by
  obtain ⟨a', c', he, h1, h2, _⟩ := h
  obtain ⟨_, e2, e3⟩ := Value.slice.inj he
  exact ⟨e2, by omega, by omega⟩
theorem RowsAt.take {B : Nat} {w : World} {a : Option Addr} {n c : Nat} {l : List α} (h : RowsAt K B w (.slice a n c) l) (k c' : Nat) (hk : k ≤ l.length) (hc : k ≤ c') (hm : c' ≤ maxLen) : RowsAt K B w (.slice a k c') (l.take k) := by
  obtain ⟨a', c0, he, h1, h2, h3⟩ := h
  obtain ⟨rfl, _, _⟩ := Value.slice.inj he
  have hl : (l.take k).length = k := by rw [List.length_take]; omega
  refine ⟨_, c', by rw [hl], by omega, hm, fun hp => ?_⟩
  rw [hl] at hp
  obtain ⟨b, off, ha, hb, hcc⟩ := h3 (by omega)
  refine ⟨b, off, ha, hb, fun i x hi => hcc i x ?_⟩
  rw [List.getElem?_take] at hi
  split at hi
  · exact hi
  · cases hi
theorem RowsAt.drop {B : Nat} {w : World} {b off n c : Nat} {l : List α} (h : RowsAt K B w (.slice (some ⟨b, off, none⟩) n c) l) (k : Nat) (hk : k ≤ l.length) : RowsAt K B w (.slice (some ⟨b, off + k * K.size, none⟩) (n - k) (c - k)) (l.drop k) := by
  obtain ⟨a', c0, he, h1, h2, h3⟩ := h
  obtain ⟨e1, e2, e3⟩ := Value.slice.inj he
  have hl : (l.drop k).length = n - k := by rw [List.length_drop]; omega
  refine ⟨_, c - k, by rw [hl], by omega, by omega, fun hp => ?_⟩
  rw [hl] at hp
  obtain ⟨b', off', ha, hb, hcc⟩ := h3 (by omega)
  rw [← e1] at ha
  cases ha
  refine ⟨b, off + k * K.size, rfl, hb, fun i x hi => ?_⟩
  rw [List.getElem?_drop] at hi
  have := hcc (k + i) x hi
  rwa [Nat.add_mul, ← Nat.add_assoc] at this
/-- An empty slice, wherever it lies. -/
theorem RowsAt.empty {B : Nat} {w : World} (a : Option Addr) (c : Nat) (hc : c ≤ maxLen) : RowsAt K B w (.slice a 0 c) [] := ⟨a, c, rfl, Nat.zero_le _, hc, fun h => by simp at h⟩
/-- The cells of a row. -/
def cellsK (K : SK α) (rs : List α) : List Value := rs.flatMap K.enc
theorem cellsK_length (ok : K.Ok) (rs : List α) : (cellsK K rs).length = rs.length * K.size := by
  induction rs with
  | nil => simp [cellsK]
  | cons x t ih =>
    have e : cellsK K (x :: t) = K.enc x ++ cellsK K t := rfl
    rw [e, List.length_append, ok.len, ih, List.length_cons, Nat.succ_mul, Nat.add_comm]
theorem cellsK_append (a b : List α) : cellsK K (a ++ b) = cellsK K a ++ cellsK K b := by simp [cellsK]
theorem cellsK_get (ok : K.Ok) : ∀ (rs : List α) (i k : Nat) (x : α), rs[i]? = some x → k < K.size → (cellsK K rs)[i * K.size + k]? = (K.enc x)[k]?
  | y :: t, 0, k, x, h, hk => by
    have e : cellsK K (y :: t) = K.enc y ++ cellsK K t := rfl
    have h : some y = some x := h
    cases h
    rw [e, Nat.zero_mul, Nat.zero_add, List.getElem?_append_left (by rw [ok.len]; exact hk)]
  | y :: t, i + 1, k, x, h, hk => by
    have e : cellsK K (y :: t) = K.enc y ++ cellsK K t := rfl
    have h : t[i]? = some x := h
    have e2 : (i + 1) * K.size + k = (K.enc y).length + (i * K.size + k) := by rw [ok.len, Nat.succ_mul]; omega
    rw [e, e2, List.getElem?_append_right (by omega), Nat.add_sub_cancel_left]
    exact cellsK_get ok t i k x h hk
theorem cellsK_one (ok : K.Ok) : ∀ (l : List α), ∀ u ∈ cellsK K l, u.oneCell' = true := by
  intro l u hu
  obtain ⟨x, _, hx⟩ := List.mem_flatMap.1 (show u ∈ l.flatMap K.enc from hu)
  exact ok.one x u hx
/-- A slice of elements of the call's own. -/
def OwnK (K : SK α) (base : Nat) (w : World) (v : Value) (rs : List α) : Prop := w.ownsRow base K.ty K.size v rs.length (cellsK K rs)
theorem OwnK.nil (base : Nat) (w : World) : OwnK K base w (.slice none 0 0) [] := World.ownsRow_nil _ _ _ _
theorem OwnK.rows (ok : K.Ok) {base : Nat} {w : World} {v : Value} {rs : List α} (h : OwnK K base w v rs) : RowsAt K w.heap.size w v rs := by
  rcases h.2 with ⟨rfl, h0⟩ | ⟨g, cap, cur, rfl, hg, hgg, h1, h2, h3, h4⟩
  · obtain rfl : rs = [] := List.eq_nil_of_length_eq_zero h0
    exact RowsAt.nil _ _
  · refine ⟨some ⟨g, 0, none⟩, cap, rfl, h1, h2, fun _ => ⟨g, 0, rfl, (Array.getElem?_eq_some_iff.1 hgg).1, fun i x hi k u hu => ?_⟩⟩
    have hk : k < K.size := by have := (List.getElem?_eq_some_iff.1 hu).1; rwa [ok.len] at this
    have := World.ownsRow.cells h (g := g) rfl (i * K.size + k) u (by rw [cellsK_get ok rs i k x hi hk]; exact hu)
    rwa [Addr.add_lit, ← Nat.add_assoc] at this
theorem OwnK.below {base B : Nat} {w w' : World} {v : Value} {l : List α} (h : OwnK K base w v l) (hb : Below B w w') (hB : w.heap.size ≤ B) : OwnK K base w' v l := row_below h hb hB
theorem OwnK.mono {base base' : Nat} {w : World} {v : Value} {l : List α} (h : OwnK K base w v l) (hB : base' ≤ base) : OwnK K base' w v l := row_mono h hB
theorem OwnK.kept {base : Nat} {l : List α} {v : Value} {W W' : World} {c : Option Nat} (h : OwnK K base W v l) (hg : W.grownBy W' c) (hc : ∀ g, c = some g → v.ownBlock ≠ some g) : OwnK K base W' v l :=
  World.ownsRow.kept h hg (by
    cases c with
    | none => cases v.ownBlock <;> simp
    | some g => exact .inr (hc g rfl))
theorem OwnK.shape {base : Nat} {w : World} {v : Value} {l : List α} (h : OwnK K base w v l) : ∃ a c, v = .slice a l.length c ∧ l.length ≤ c ∧ c ≤ maxLen := by
  rcases h.2 with ⟨rfl, h0⟩ | ⟨g, cap, cur, rfl, _, _, h1, h2, _⟩
  · exact ⟨none, 0, by rw [h0], by omega, Nat.zero_le _⟩
  · exact ⟨_, cap, rfl, h1, h2⟩
theorem OwnK.some {base : Nat} {w : World} {v : Value} {l : List α} (h : OwnK K base w v l) (hp : 0 < l.length) : ∃ g c, v = .slice (some ⟨g, 0, none⟩) l.length c ∧ base ≤ g ∧ g < w.heap.size ∧ l.length ≤ c ∧ c ≤ maxLen := by
  rcases h.2 with ⟨rfl, h0⟩ | ⟨g, cap, cur, rfl, hb, hg, h1, h2, _⟩
  · omega
  · exact ⟨g, cap, rfl, hb, (Array.getElem?_eq_some_iff.1 hg).1, h1, h2⟩
theorem ownK_lit0 (W : World) : OwnK K W.heap.size (W.alloc (.cells #[] K.ty)) (.slice (some ⟨W.heap.size, 0, none⟩) 0 0) [] :=
  ⟨by simp [cellsK], .inr ⟨W.heap.size, 0, #[], rfl, Nat.le_refl _, heap_alloc_new W _, Nat.le_refl _, Nat.zero_le _, by simp, by simp [cellsK]⟩⟩
theorem ownK_lit (ok : K.Ok) (W : World) (l : List α) (cs : Array Value) (hc : cs = (cellsK K l).toArray) (hl : l.length ≤ 1000000) : OwnK K W.heap.size (W.alloc (.cells cs K.ty)) (.slice (some ⟨W.heap.size, 0, none⟩) l.length l.length) l := by
  subst hc
  refine ⟨cellsK_length ok l, .inr ⟨W.heap.size, l.length, _, rfl, Nat.le_refl _, heap_alloc_new W _, Nat.le_refl _, by unfold maxLen; omega, by simp [cellsK_length ok], ?_⟩⟩
  rw [← cellsK_length ok, List.take_length]
theorem rows_cells (ok : K.Ok) {W : World} {b off : Nat} {l : List α} (h : ∀ i x, l[i]? = some x → ElAt K W b (off + i * K.size) x) (j : Nat) (u : Value) (hu : (cellsK K l)[j]? = some u) : W.cell? ((⟨b, off, none⟩ : Addr).add j) = some u := by
  have hj := (List.getElem?_eq_some_iff.1 hu).1
  rw [cellsK_length ok] at hj
  have hp := ok.pos
  have hq : j / K.size < l.length := Nat.div_lt_of_lt_mul (by rw [Nat.mul_comm]; exact hj)
  have e := cellsK_get ok l (j / K.size) (j % K.size) l[j / K.size] (List.getElem?_eq_getElem hq) (Nat.mod_lt _ hp)
  rw [Nat.mul_comm, Nat.div_add_mod, hu] at e
  have := h _ _ (List.getElem?_eq_getElem hq) (j % K.size) u e.symm
  rw [Addr.add_lit]
  rwa [Nat.add_assoc, Nat.mul_comm, Nat.div_add_mod] at this
/-- append, at one operation. -/
theorem wp_append_K (ok : K.Ok) {o : Oper} {a : Act} {w : World} {C : Act → World → Prop} {Q : Exit → Act → World → Prop} (s x : Operand)
    (ho : o.op = .call { callee := .builtin .append, args := #[s, x], argTypes := #[K.st, K.st] }) (base B2 : Nat) (v sv : Value) (l l2 : List α)
    (hs : a.eval s = v) (hx : a.eval x = sv) (hown : OwnK K base w v l) (hsv : RowsAt K B2 w sv l2) (hlen : l.length + l2.length < 1000000) (hbase : base ≤ w.heap.size)
    (h : ∀ v' w', OwnK K base w' v' (l ++ l2) → w.grownBy w' v.ownBlock → (v'.ownBlock = v.ownBlock ∨ v'.ownBlock = .some w.heap.size) → C (a.put o.dst v') w') : Oper.wp Tryz.prog o a w C Q := by
  obtain ⟨i0, hi, hz0, hz1, hz2⟩ := info_parts ok.info
  have hby : (l.length + l2.length) * K.bytes ≤ 140737488355328 := Nat.le_trans (Nat.mul_le_mul (Nat.le_of_lt hlen) ok.small) (by omega)
  obtain ⟨sa, sc, rfl, hs1, hs2, hs3⟩ := hsv
  by_cases hp : 0 < l2.length
  · obtain ⟨b, off, rfl, hb, hc⟩ := hs3 hp
    obtain ⟨v', w', hr, h2, h3, _, h5⟩ := run_append_own_at (P := Tryz.prog) w base K.st o.type K.ty i0 K.zero K.size K.bytes ok.und hi hz0 hz1 hz2 ok.zc ok.pos v l.length _ hown ⟨b, off, none⟩ l2.length sc (cellsK K l2) (cellsK_length ok l2) (rows_cells ok hc) (cellsK_one ok l2) (by unfold maxLen; omega) hby hbase
    unfold Oper.wp execOp
    simp only [ho, resolve, invoke, builtin, Sem.run_bind, Sem.run_pure, Result.andThen_ok, List.map_toArray, List.map_cons, List.map_nil, hs, hx, hr]
    refine h v' w' ?_ h3 h5
    unfold OwnK
    rw [List.length_append, cellsK_append]
    exact h2
  · obtain rfl : l2 = [] := List.eq_nil_of_length_eq_zero (by omega)
    have hend : ∀ v' w', w'.ownsRow base K.ty K.size v' (l.length + 0) (cellsK K l ++ []) → w.grownBy w' v.ownBlock → (v'.ownBlock = v.ownBlock ∨ v'.ownBlock = .some w.heap.size) → C (a.put o.dst v') w' := fun v' w' h2 h3 h5 => h v' w' (by
      unfold OwnK
      rw [List.append_nil] at h2 ⊢
      exact h2) h3 h5
    cases sa with
    | none =>
      have hr : (Builtin.append_ #[K.st, K.st] o.type #[v, .slice none 0 sc]).run Tryz.prog w = .ok v w := by
        rcases hown.2 with ⟨rfl, h0⟩ | ⟨g, cap, cur, rfl, _, _, hnc, _⟩
        · simp [Builtin.append_, run_underlying ok.und, sizeOf, typeInfo, hi, Builtin.lenOf, Builtin.firstCells]
        · simp [Builtin.append_, run_underlying ok.und, sizeOf, typeInfo, hi, Builtin.lenOf, Builtin.firstCells, hnc, storeCells]
      unfold Oper.wp execOp
      simp only [ho, resolve, invoke, builtin, Sem.run_bind, Sem.run_pure, Result.andThen_ok, List.map_toArray, List.map_cons, List.map_nil, hs, hx, hr, List.length_nil]
      exact hend v w (by rw [List.append_nil]; exact hown) ⟨rfl, rfl, rfl, Nat.le_refl _, fun _ _ _ => rfl⟩ (.inl rfl)
    | some ad =>
      obtain ⟨v', w', hr, h2, h3, _, h5⟩ := run_append_own_at (P := Tryz.prog) w base K.st o.type K.ty i0 K.zero K.size K.bytes ok.und hi hz0 hz1 hz2 ok.zc ok.pos v l.length _ hown ad 0 sc [] (by simp) (fun j u hu => by simp at hu) (fun u hu => by simp at hu) (by unfold maxLen; simp at hlen; omega) (by simpa using hby) hbase
      unfold Oper.wp execOp
      simp only [ho, resolve, invoke, builtin, Sem.run_bind, Sem.run_pure, Result.andThen_ok, List.map_toArray, List.map_cons, List.map_nil, hs, hx, List.length_nil, hr]
      exact hend v' w' h2 h3 h5
theorem append_KK (ok : K.Ok) {ops : Array Oper} {rest : List Oper} {o : Oper} {a : Act} {Q : Exit → Act → World → Prop} {wr : World} (hgd : o.guard = none) (s x : Operand)
    (ho : o.op = .call { callee := .builtin .append, args := #[s, x], argTypes := #[K.st, K.st] }) (base B2 : Nat) (v sv : Value) (l l2 : List α)
    (hs : a.eval s = v) (hx : a.eval x = sv) (hown : OwnK K base wr v l) (hsv : RowsAt K B2 wr sv l2) (hlen : l.length + l2.length < 1000000) (hbase : base ≤ wr.heap.size) (w0 : World) (hb : Below base w0 wr)
    (h : ∀ v' w', OwnK K base w' v' (l ++ l2) → wr.grownBy w' v.ownBlock → Below base w0 w' → wpList Tryz.prog ops Q rest (a.put o.dst v') w') : wpList Tryz.prog ops Q (o :: rest) a wr := by
  have hw : Region.wanted o (yielded ops a.tmps) = true := by simp [Region.wanted, hgd]
  rw [wpList, if_pos hw]
  exact .inl (wp_append_K ok s x ho base B2 v sv l l2 hs hx hown hsv hlen hbase fun v' w' h1 h2 _ => h v' w' h1 h2 (hb.grown h2 hbase fun k hk => (World.ownsRow.lt hown k hk).1))
end
end Go.Proofs.YtcgopilkajfghaaGreatDoor
