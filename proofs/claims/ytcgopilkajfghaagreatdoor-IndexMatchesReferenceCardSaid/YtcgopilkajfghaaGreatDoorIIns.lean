/- How a row of cards stands after a card was put in. -/
import Derived.Test.YtcgopilkajfghaaGreatDoorISums
import Derived.Shelf.RegionOpenPlain
import Derived.WalkKit
import Derived.Lib.Overlaps
import Derived.Lib.AppendZerosOnto
import Derived.Laws.IdiomCopy
import Derived.Laws.Externs
set_option linter.unusedVariables false
set_option linter.unusedSimpArgs false
namespace Go.Proofs.YtcgopilkajfghaaGreatDoor
open Go.RowKit Go.Shelf

theorem heap_setMid {g : Nat} {t : TypeId} : ∀ (vs pre old post : List Value) (W : World), W.heap[g]? = some (.cells (pre ++ (old ++ post)).toArray t (0, 0)) → vs.length = old.length → (W.setCells g pre.length vs).heap[g]? = some (.cells (pre ++ (vs ++ post)).toArray t (0, 0))
  | [], pre, old, post, W, h, hl => by
    obtain rfl : old = [] := List.eq_nil_of_length_eq_zero hl.symm
    exact h
  | v :: r, pre, [], post, W, h, hl => by simp at hl
  | v :: r, pre, o :: old, post, W, h, hl => by
    have h1 := heap_setCell_same W g pre.length _ t v h
    have e : (pre ++ (o :: old ++ post)).toArray.setIfInBounds pre.length v = ((pre ++ [v]) ++ (old ++ post)).toArray := by simp
    rw [e] at h1
    have h2 := heap_setMid r (pre ++ [v]) old post _ h1 (by simpa using hl)
    rw [List.length_append, List.length_singleton, List.append_assoc] at h2
    exact h2
/-- copy between rows of structs: all is read before anything is written. -/
theorem run_copy_K {P : Program} (w : World) (dT sT ty elem : TypeId) (b o dLen dCap : Nat) (a : Addr) (sLen sCap size m : Nat) (cs : List Value)
    (hu : P.underlying dT = some (.slice elem)) (hs : (P.info? elem).map (·.size) = some size) (hm : Nat.min sLen dLen = m) (hn : cs.length = m * size)
    (hsrc : ∀ j v, cs[j]? = some v → w.cell? (a.add j) = some v) (hc : ∀ j, j < cs.length → (w.cell? ⟨b, o + j, none⟩).isSome = true) (hf : ∀ j, j < cs.length → w.frozen? ⟨b, o + j, none⟩ = false) (h1 : ∀ v ∈ cs, v.oneCell' = true) :
    (Builtin.copy_ #[dT, sT] ty #[.slice (some ⟨b, o, none⟩) dLen dCap, .slice (some a) sLen sCap]).run P w = .ok (goInt m) (w.setCells b o cs) := by
  have hl := run_loadCells_list (P := P) w a cs hsrc
  have hst := run_storeCells_cells (P := P) b o cs 0 w (by simpa using hc) (by simpa using hf) h1
  rw [hn] at hl
  cases hq : P.info? elem with
  | none => simp [hq] at hs
  | some i =>
    have hi : i.size = size := by simpa [hq] using hs
    simp [Builtin.copy_, run_underlying hu, Builtin.lenOf, Builtin.firstCells, sizeOf, typeInfo, hq, hi, hm, hl, hst]
section
variable {α : Type} {K : SK α}
theorem own_ins (ok : K.Ok) {base g cap i : Nat} {W : World} {l : List α} {x : α} {R : List Value} (h : W.heap[g]? = some (.cells (cellsK K (l.take i) ++ (K.enc x ++ (cellsK K (l.drop i) ++ R))).toArray K.ty (0, 0))) (hb : base ≤ g)
    (hcap : l.length + 1 ≤ cap) (hm : cap ≤ maxLen) (hR : R.length = (cap - (l.length + 1)) * K.size) : OwnK K base W (.slice (some ⟨g, 0, none⟩) (l.length + 1) cap) (l.take i ++ x :: l.drop i) := by
  have e : cellsK K (l.take i ++ x :: l.drop i) = cellsK K (l.take i) ++ (K.enc x ++ cellsK K (l.drop i)) := cellsK_append _ _
  have hl : (l.take i ++ x :: l.drop i).length = l.length + 1 := by rw [List.length_append, List.length_cons, List.length_take, List.length_drop]; omega
  have e2 : cellsK K (l.take i) ++ (K.enc x ++ (cellsK K (l.drop i) ++ R)) = cellsK K (l.take i ++ x :: l.drop i) ++ R := by rw [e]; simp
  have hlc := cellsK_length ok (l.take i ++ x :: l.drop i)
  rw [hl] at hlc
  rw [e2] at h
  refine ⟨cellsK_length ok _, .inr ⟨g, cap, _, by rw [hl], hb, h, by omega, hm, ?_, ?_⟩⟩
  · rw [List.size_toArray, List.length_append, hlc, hR, ← Nat.add_mul]
    congr 1
    omega
  · rw [hl, ← hlc, List.take_left]
theorem own_block {base g n cap : Nat} {W : World} {l : List α} (ok : K.Ok) (h : OwnK K base W (.slice (some ⟨g, 0, none⟩) n cap) l) :
    ∃ S : List Value, W.heap[g]? = some (.cells (cellsK K l ++ S).toArray K.ty (0, 0)) ∧ n = l.length ∧ base ≤ g ∧ n ≤ cap ∧ cap ≤ maxLen ∧ S.length = (cap - n) * K.size := by
  rcases h.2 with ⟨h0, _⟩ | ⟨g', cap', cur, he, hb, hg, h1, h2, h3, h4⟩
  · cases h0
  · obtain ⟨e1, e2, e3⟩ := Value.slice.inj he
    cases e1
    subst e2 e3
    have hlc := cellsK_length ok l
    refine ⟨cur.toList.drop (l.length * K.size), ?_, rfl, hb, h1, h2, ?_⟩
    · rw [← h4, List.take_append_drop, Array.toArray_toList]
      exact hg
    · rw [List.length_drop, Array.length_toList, h3, Nat.sub_mul]
theorem take_drop_len {l : List Value} {n m : Nat} (h : l.length = n + m) : ∃ a b : List Value, l = a ++ b ∧ a.length = n ∧ b.length = m := ⟨l.take n, l.drop n, (List.take_append_drop n l).symm, by rw [List.length_take]; omega, by rw [List.length_drop]; omega⟩
/-- An element was put in where there was room. -/
theorem ins_room (ok : K.Ok) {base g n cap i : Nat} {W : World} {l : List α} (x : α) (h : OwnK K base W (.slice (some ⟨g, 0, none⟩) n cap) l) (hi : i ≤ n) (hr : n + 1 ≤ cap) :
    OwnK K base ((W.setCells g ((i + 1) * K.size) (cellsK K (l.drop i))).setCells g (i * K.size) (K.enc x)) (.slice (some ⟨g, 0, none⟩) (n + 1) cap) (l.take i ++ x :: l.drop i) := by
  obtain ⟨S, hg, rfl, hb, h1, h2, h3⟩ := own_block ok h
  have hA : (cellsK K (l.take i)).length = i * K.size := by rw [cellsK_length ok, List.length_take, Nat.min_eq_left hi]
  have hD : (cellsK K (l.drop i)).length = (l.length - i) * K.size := by rw [cellsK_length ok, List.length_drop]
  have hX := ok.len x
  have hAD : cellsK K l = cellsK K (l.take i) ++ cellsK K (l.drop i) := by rw [← cellsK_append, List.take_append_drop]
  have hS : (cellsK K (l.drop i) ++ S).length = K.size + (cellsK K (l.drop i)).length + (cap - (l.length + 1)) * K.size := by
    rw [List.length_append, h3, show cap - l.length = cap - (l.length + 1) + 1 by omega, Nat.succ_mul]
    omega
  obtain ⟨P, R0, hP, hPl, hR0⟩ := take_drop_len (show (cellsK K (l.drop i) ++ S).length = K.size + ((cellsK K (l.drop i)).length + (cap - (l.length + 1)) * K.size) by omega)
  obtain ⟨Q, R, hQ, hQl, hR⟩ := take_drop_len hR0
  rw [hAD, List.append_assoc, hP, hQ, ← List.append_assoc] at hg
  have g1 := heap_setMid (cellsK K (l.drop i)) (cellsK K (l.take i) ++ P) Q R W hg hQl.symm
  rw [List.length_append, hA, hPl, ← Nat.succ_mul, List.append_assoc] at g1
  have g2 := heap_setMid (K.enc x) (cellsK K (l.take i)) P (cellsK K (l.drop i) ++ R) _ g1 (by rw [hX, hPl])
  rw [hA] at g2
  exact own_ins ok g2 hb hr h2 hR
/-- An element was put in, in a new row. -/
theorem ins_grow (ok : K.Ok) {base g cap i : Nat} {W : World} {l : List α} (x : α) {Z : List Value} (hg : W.heap[g]? = some (.cells (cellsK K (l.take i) ++ Z).toArray K.ty (0, 0))) (hZ : Z.length = (cap - i) * K.size) (hi : i ≤ l.length) (hb : base ≤ g) (hr : l.length + 1 ≤ cap) (hm : cap ≤ maxLen) :
    OwnK K base ((W.setCells g (i * K.size) (K.enc x)).setCells g ((i + 1) * K.size) (cellsK K (l.drop i))) (.slice (some ⟨g, 0, none⟩) (l.length + 1) cap) (l.take i ++ x :: l.drop i) := by
  have hA : (cellsK K (l.take i)).length = i * K.size := by rw [cellsK_length ok, List.length_take, Nat.min_eq_left hi]
  have hD : (cellsK K (l.drop i)).length = (l.length - i) * K.size := by rw [cellsK_length ok, List.length_drop]
  have hX := ok.len x
  have hZ2 : Z.length = K.size + ((cellsK K (l.drop i)).length + (cap - (l.length + 1)) * K.size) := by
    rw [hZ, hD, ← Nat.add_mul, show l.length - i + (cap - (l.length + 1)) = cap - i - 1 by omega, show cap - i = cap - i - 1 + 1 by omega, Nat.succ_mul, Nat.add_sub_cancel]
    omega
  obtain ⟨P, R0, hP, hPl, hR0⟩ := take_drop_len hZ2
  obtain ⟨Q, R, hQ, hQl, hR⟩ := take_drop_len hR0
  rw [hP, hQ] at hg
  have g1 := heap_setMid (K.enc x) (cellsK K (l.take i)) P (Q ++ R) W hg (by rw [hX, hPl])
  rw [hA, ← List.append_assoc] at g1
  have g2 := heap_setMid (cellsK K (l.drop i)) (cellsK K (l.take i) ++ K.enc x) Q R _ g1 hQl.symm
  rw [List.length_append, hA, hX, ← Nat.succ_mul, List.append_assoc] at g2
  exact own_ins ok g2 hb hr hm hR
theorem OwnK.heap_below {base B : Nat} {w W : World} {g o : Nat} {vs : List Value} (h : Below B w W) (hg : B ≤ g) : Below B w (W.setCells g o vs) := below_setCells _ _ h hg
end
theorem OwnK.again {α : Type} {K : SK α} {base : Nat} {W W' : World} {v : Value} {l : List α} (h : OwnK K base W v l) (hk : ∀ (k : Nat) (o : Obj), W.heap[k]? = Option.some o → o.isCells = true → W'.heap[k]? = Option.some o) : OwnK K base W' v l := by
  refine ⟨h.1, ?_⟩
  rcases h.2 with h0 | ⟨g, cap, cur, h1, h2, h3, h4⟩
  · exact .inl h0
  · exact .inr ⟨g, cap, cur, h1, h2, hk _ _ h3 rfl, h4⟩
theorem drew_cellC (W : World) (q : Addr) : W.drew.cell? q = W.cell? q := rfl
theorem drew_frozenC (W : World) (q : Addr) : W.drew.frozen? q = W.frozen? q := rfl
theorem cardSize : (Tryz.prog.info? 35).map (·.size) = some 5 := by kernel_rfl
theorem cardSizeOf (w : World) : (Go.sizeOf 35).run Tryz.prog w = .ok 5 w := by
  obtain ⟨i0, hi, _, hz1, _⟩ := info_parts cardOk.info
  have h : i0.size = 5 := hz1
  have hi : Tryz.prog.info? 35 = some i0 := hi
  simp [sizeOf, typeInfo, hi, h]
theorem cells_some {g : Nat} {t : TypeId} {cs : List Value} {W : World} (h : W.heap[g]? = some (.cells cs.toArray t (0, 0))) (j : Nat) (hj : j < cs.length) : (W.cell? ⟨g, j, none⟩).isSome = true := by
  rw [Lib.cell_of_heap h]
  simp [hj]
section
variable {P : Program}
theorem wpl_copyK (w : World) {ops : Array Oper} {rest : List Oper} {o : Oper} {a : Act} {Q : Exit → Act → World → Prop} (hgd : o.guard = none) (d s : Operand) (t t' : TypeId)
    (ho : o.op = .call { callee := .builtin .copy, args := #[d, s], argTypes := #[t, t'] }) (v u : Value) (hd : a.eval d = v) (hs : a.eval s = u) {v' : Value} {w' : World}
    (hr : (Builtin.copy_ #[t, t'] o.type #[v, u]).run P w = .ok v' w') (h : wpList P ops Q rest (a.put o.dst v') w') : wpList P ops Q (o :: rest) a w :=
  wpList_plain hgd fun _ hK => by
    unfold Oper.wp execOp
    simp only [ho, resolve, invoke, builtin, Sem.run_bind, Sem.run_pure, Result.andThen_ok, List.map_toArray, List.map_cons, List.map_nil, hd, hs, hr]
    exact hK _ _ h
theorem step_copyK {ops : Array Oper} {o : Oper} {a : Act} {w : World} {K : Act → World → Prop} {Q : Exit → Act → World → Prop} {E : Prop}
    (hg : o.guard = none) (d x : Operand) (dT sT : TypeId) (hop : o.op = Op.call { callee := Callee.builtin Builtin.copy, args := #[d, x], argTypes := #[dT, sT] })
    (v u : Value) (hd : a.eval d = v) (hx : a.eval x = u) {v' : Value} {w' : World} (hr : (Builtin.copy_ #[dT, sT] o.type #[v, u]).run P w = .ok v' w') (hK : K (a.put o.dst v') w') :
    if Region.wanted o (yielded ops a.tmps) = true then Oper.wp P o a w K Q else E := by
  rw [if_pos (by simp [Region.wanted, hg])]
  unfold Oper.wp
  simp [execOp, hop, resolve, invoke, builtin, hd, hx, hr, Result.andThen]
  exact hK
theorem isSome_setsK (b : Nat) (vs : List Value) (o : Nat) (w : World) (h : ∀ j, j < vs.length → (w.cell? ⟨b, o + j, none⟩).isSome = true) (k : Nat) (hk : (w.cell? ⟨b, k, none⟩).isSome = true) : ((w.setCells b o vs).cell? ⟨b, k, none⟩).isSome = true := by
  by_cases hin : o ≤ k ∧ k < o + vs.length
  · have := World.cell?_setCells_in b vs o w h (k - o) (by omega)
    rw [show o + (k - o) = k by omega] at this
    rw [this]; rfl
  · rw [World.cell?_setCells_out b vs o w ⟨b, k, none⟩ (fun _ _ => by show k < o ∨ o + vs.length ≤ k; omega)]
    exact hk
end
theorem grown_setsK {w : World} {g : Nat} : ∀ (vs : List Value) (o : Nat) {W : World}, w.grownBy W (some g) → w.grownBy (W.setCells g o vs) (some g)
  | [], _, _, h => h
  | v :: r, o, W, h => grown_setsK r (o + 1) (W := W.setCell ⟨g, o, none⟩ v)
    (have h2 := grown_cell1 W g o v
     ⟨h2.os.trans h.os, h2.tape.trans h.tape, h2.output.trans h.output, Nat.le_trans h.size h2.size, fun k hk hne => (h2.block k (Nat.lt_of_lt_of_le hk h.size) hne).trans (h.block k hk hne)⟩)
theorem grown_ofB {w w' : World} (h : Below w.heap.size w w') (c : Option Nat) : w.grownBy w' c := ⟨h.os, h.tape, h.output, h.size, fun k hk _ => h.block k hk⟩
theorem grown_drew (w : World) (c : Option Nat) : w.grownBy w.drew c := grown_ofB (Below.refl _ _).drew c
theorem append_K3 {α : Type} {K : SK α} (ok : K.Ok) {ops : Array Oper} {rest : List Oper} {o : Oper} {a : Act} {Q : Exit → Act → World → Prop} {wr : World} (hgd : o.guard = none) (s x : Operand)
    (ho : o.op = .call { callee := .builtin .append, args := #[s, x], argTypes := #[K.st, K.st] }) (base B2 : Nat) (v sv : Value) (l l2 : List α)
    (hs : a.eval s = v) (hx : a.eval x = sv) (hown : OwnK K base wr v l) (hsv : RowsAt K B2 wr sv l2) (hlen : l.length + l2.length < 1000000) (hbase : base ≤ wr.heap.size)
    (h : ∀ v' w', OwnK K base w' v' (l ++ l2) → wr.grownBy w' v.ownBlock → (v'.ownBlock = v.ownBlock ∨ v'.ownBlock = some wr.heap.size) → wpList Tryz.prog ops Q rest (a.put o.dst v') w') : wpList Tryz.prog ops Q (o :: rest) a wr := by
  have hw : Region.wanted o (yielded ops a.tmps) = true := by simp [Region.wanted, hgd]
  rw [wpList, if_pos hw]
  exact .inl (wp_append_K ok s x ho base B2 v sv l l2 hs hx hown hsv hlen hbase h)
theorem drew_setsK (b : Nat) : ∀ (vs : List Value) (o : Nat) (w : World), (w.setCells b o vs).drew = w.drew.setCells b o vs
  | [], _, _ => rfl
  | v :: r, o, w => by rw [World.setCells, World.setCells, drew_setsK b r]; rfl
theorem arr3 (A : List Value) (B C : Array Value) : A.toArray ++ B ++ C = (A ++ (B.toList ++ C.toList)).toArray := by
  cases B
  cases C
  simp
theorem shape_of_heap {w : World} {g : Nat} {cs : Array Value} {t : TypeId} {fr : Nat × Nat} (h : w.heap[g]? = some (.cells cs t fr)) : w.shape? g = some (t, cs.size) := by unfold World.shape?; rw [h]
theorem card_from {W : World} {g i : Nat} {l : List ICard} {S : List Value} (hg : W.heap[g]? = some (.cells (cellsK cardK l ++ S).toArray 35 (0, 0))) (hi : i ≤ l.length) {j : Nat} {v : Value} (hj : (cellsK cardK (l.drop i))[j]? = some v) : W.cell? ⟨g, i * 5 + j, none⟩ = some v := by
  have hA : (cellsK cardK (l.take i)).length = i * 5 := by rw [cellsK_length cardOk, List.length_take, Nat.min_eq_left hi]; rfl
  have hlt := (List.getElem?_eq_some_iff.1 hj).1
  have e : cellsK cardK l = cellsK cardK (l.take i) ++ cellsK cardK (l.drop i) := by rw [← cellsK_append, List.take_append_drop]
  rw [Lib.cell_of_heap hg, List.getElem?_toArray, e, List.append_assoc, List.getElem?_append_right (by omega), hA, Nat.add_sub_cancel_left, List.getElem?_append_left hlt]
  exact hj
theorem card_head {W : World} {g i : Nat} {l : List ICard} {S : List Value} (hg : W.heap[g]? = some (.cells (cellsK cardK l ++ S).toArray 35 (0, 0))) {j : Nat} {v : Value} (hj : (cellsK cardK (l.take i))[j]? = some v) : W.cell? ⟨g, 0 + j, none⟩ = some v := by
  have hlt := (List.getElem?_eq_some_iff.1 hj).1
  have e : cellsK cardK l = cellsK cardK (l.take i) ++ cellsK cardK (l.drop i) := by rw [← cellsK_append, List.take_append_drop]
  rw [Lib.cell_of_heap hg, List.getElem?_toArray, Nat.zero_add, e, List.append_assoc, List.getElem?_append_left hlt]
  exact hj
set_option maxRecDepth 100000 in
set_option maxHeartbeats 4000000 in
/-- At the end. -/
theorem insert_end (v : Value) (l : List ICard) (x : ICard) (vb base : Nat) (w : World) (h : OwnK cardK base w v l) (hx : BoxN vb 35 (cardR x) w) (hl : l.length ≤ 1000) (hb : base ≤ w.heap.size) :
    Calls Tryz.prog 44 #[v, .int .i64 (l.length : Nat), .slice (some ⟨vb, 0, none⟩) 1 1] w fun e w' => ∃ v', e = .returned v' ∧ OwnK cardK base w' v' (l ++ [x]) ∧ w.grownBy w' v.ownBlock ∧ (v'.ownBlock = v.ownBlock ∨ v'.ownBlock = some w.heap.size) := by
  obtain ⟨a, c, rfl, hlc, hcm⟩ := h.shape
  unfold maxLen at hcm
  have hrow : RowsAt cardK (vb + 1) w (.slice (some ⟨vb, 0, none⟩) 1 1) [x] := ⟨_, 1, rfl, Nat.le_refl _, by unfold maxLen; omega, fun _ => ⟨vb, 0, rfl, by omega, fun i y hi => by
    cases i with
    | zero =>
      cases hi
      intro k u hu
      have := BoxN.cell hx k u (by simpa [cardK] using hu)
      simpa using this
    | succ i => cases hi⟩⟩
  have HO := Lib.hid h
  have HR := Lib.hid hrow
  clear h hrow hx
  generalize hn : l.length = n at *
  have HN := Lib.hid hn
  clear hn
  go_enter Tryz.func44, Tryz.ntmps44
  cases a with
  | none =>
    go_wp2_with (at_builtin; refine append_K3 cardOk rfl _ _ rfl base _ _ _ l [x] rfl rfl HO.out HR.out (by rw [HN.out]; simp; omega) hb ?_; intro v' w4 hown' hgrow hbelow)
    go_ret
    exact ⟨_, rfl, hown', hgrow, hbelow⟩
  | some ad =>
    obtain ⟨ab, ao, asp⟩ := ad
    go_wp2_with (at_builtin; refine append_K3 cardOk rfl _ _ rfl base _ _ _ l [x] rfl rfl HO.out HR.out (by rw [HN.out]; simp; omega) hb ?_; intro v' w4 hown' hgrow hbelow)
    all_goals (go_ret; exact ⟨_, rfl, hown', hgrow, hbelow⟩)
set_option maxRecDepth 100000 in
set_option maxHeartbeats 4000000 in
/-- There is room. -/
theorem insert_room (g c : Nat) (l : List ICard) (x : ICard) (i vb base : Nat) (w : World) (h : OwnK cardK base w (.slice (some ⟨g, 0, none⟩) l.length c) l) (hx : BoxN vb 35 (cardR x) w) (hl : l.length ≤ 1000) (hb : base ≤ w.heap.size) (hi : i < l.length) (hr : l.length + 1 ≤ c) :
    Calls Tryz.prog 44 #[.slice (some ⟨g, 0, none⟩) l.length c, .int .i64 i, .slice (some ⟨vb, 0, none⟩) 1 1] w fun e w' => ∃ v', e = .returned v' ∧ OwnK cardK base w' v' (l.take i ++ x :: l.drop i) ∧ w.grownBy w' (some g) ∧ (v'.ownBlock = some g ∨ v'.ownBlock = some w.heap.size) := by
  have hs4 : cardK.size = 5 := rfl
  have hfin : ∀ W : World, (∀ k, W.heap[k]? = w.heap[k]?) → OwnK cardK base ((W.setCells g ((i + 1) * 5) (cellsK cardK (l.drop i))).setCells g (i * 5) (cardK.enc x)) (.slice (some ⟨g, 0, none⟩) (l.length + 1) c) (l.take i ++ x :: l.drop i) := fun W hW => by
    have h2 : OwnK cardK base W (.slice (some ⟨g, 0, none⟩) l.length c) l := h.again (fun k o ho _ => (hW k).trans ho)
    have h3 := ins_room cardOk (i := i) x h2 (by omega) hr
    rw [hs4] at h3
    exact h3
  obtain ⟨S, hg, _, hbg, _, hcm, hS⟩ := own_block cardOk h
  have hcm : c ≤ 9223372036854775807 := by unfold maxLen at hcm; omega
  have hsz : (cellsK cardK l ++ S).length = c * 5 := by
    rw [List.length_append, hS, cellsK_length cardOk, ← Nat.add_mul]
    show _ * 5 = _
    congr 1
    omega
  have hvb : vb ≠ g := fun e => by
    subst e
    have h2 := hg.symm.trans hx
    simp only [Option.some.injEq, Obj.cells.injEq] at h2
    have h3 := congrArg Array.size h2.1
    rw [List.size_toArray, hsz] at h3
    have : c * 5 = 5 := h3
    omega
  have hsa := shape_of_heap hx
  have hsb := shape_of_heap hg
  have hfa : w.frozen? ⟨vb, 0, none⟩ = false := BoxN.frozen hx 0
  have hfe : w.frozen? ⟨vb, 5, none⟩ = false := BoxN.frozen hx 5
  have hov : ∀ lb cb, (callFunc 62 #[.slice (some ⟨vb, 0, none⟩) 1 1, .slice (some ⟨g, (i + 1) * 5, none⟩) lb cb]).run Tryz.prog w = .ok (.value (.bool false)) w := fun lb cb => by
    rw [run_callFunc_extern Tryz.func62 (by kernel_rfl) (by kernel_rfl) (by kernel_rfl) (e := Extern.SlicesOverlaps.overlaps #[23, 23] #[4]) (by kernel_rfl),
      Lib.run_overlaps_apart w 23 4 35 Tryz.underlying23 5 cardSizeOf ⟨vb, 0, none⟩ ⟨g, (i + 1) * 5, none⟩ 1 1 lb cb hvb _ _ _ _ hsa hsb (by rw [List.size_toArray, hsz]; omega) hfa hfe]
    rfl
  have hD : (cellsK cardK (l.drop i)).length = (l.length - i) * 5 := by rw [cellsK_length cardOk, List.length_drop]; rfl
  have hcs : ∀ j v, (cellsK cardK (l.drop i))[j]? = some v → w.cell? ⟨g, i * 5 + j, none⟩ = some v := fun j v hj => card_from hg (by omega) hj
  have hcp1 : ∀ ty dc sc, (Builtin.copy_ #[23, 23] ty #[.slice (some ⟨g, (i + 1) * 5, none⟩) (l.length - i) dc, .slice (some ⟨g, i * 5, none⟩) (l.length + 1 - i) sc]).run Tryz.prog w.drew = .ok (goInt (l.length - i : Nat)) (w.drew.setCells g ((i + 1) * 5) (cellsK cardK (l.drop i))) := fun ty dc sc =>
    run_copy_K w.drew _ _ ty 35 g ((i + 1) * 5) _ dc ⟨g, i * 5, none⟩ _ sc 5 (l.length - i) _ Tryz.underlying23 cardSize (by simp only [Nat.min_def]; split <;> omega) hD
      (fun j v hj => by rw [Addr.add_lit]; exact hcs j v hj) (fun j hj => cells_some (W := w) hg _ (by rw [hsz]; rw [hD] at hj; omega)) (fun j hj => Lib.frozen_of_heap (w := w) hg _) (cellsK_one cardOk _)
  obtain ⟨W1, hW1⟩ : ∃ W1, W1 = w.drew.setCells g ((i + 1) * 5) (cellsK cardK (l.drop i)) := ⟨_, rfl⟩
  have hxc : ∀ j v, (cardK.enc x)[j]? = some v → W1.cell? ((⟨vb, 0, none⟩ : Addr).add j) = some v := fun j v hj => by
    rw [Addr.add_lit, hW1, World.cell?_setCells_out _ _ _ _ _ (fun h _ => absurd h hvb)]
    have := BoxN.cell hx j v (by simpa [cardK] using hj)
    simpa using this
  have hsp1 : ∀ k, k < c * 5 → (W1.cell? ⟨g, k, none⟩).isSome = true := fun k hk => by
    rw [hW1]
    exact isSome_setsK g _ ((i + 1) * 5) w.drew (fun j hj => cells_some (W := w.drew) hg _ (by rw [hsz]; rw [hD] at hj; omega)) _ (cells_some (W := w.drew) hg _ (by rw [hsz]; omega))
  have hcp2 : ∀ (W : World), (∀ x, W.cell? x = W1.cell? x) → (∀ x, W.frozen? x = W1.frozen? x) → ∀ ty dc, (Builtin.copy_ #[23, 23] ty #[.slice (some ⟨g, i * 5, none⟩) (l.length + 1 - i) dc, .slice (some ⟨vb, 0, none⟩) 1 1]).run Tryz.prog W = .ok (goInt (1 : Nat)) (W.setCells g (i * 5) (cardK.enc x)) := fun W hWc hWf ty dc =>
    run_copy_K W _ _ ty 35 g (i * 5) _ dc ⟨vb, 0, none⟩ _ 1 5 1 _ Tryz.underlying23 cardSize (by simp only [Nat.min_def]; split <;> omega) rfl
      (fun j v hj => by rw [hWc]; exact hxc j v hj) (fun j hj => by rw [hWc]; exact hsp1 _ (by have : j < 5 := hj; omega)) (fun j hj => by rw [hWf, hW1, World.frozen?_setCells]; exact Lib.frozen_of_heap (w := w) hg _) (cardOk.one x)
  rw [← hW1] at hcp1
  have hF : OwnK cardK base (W1.setCells g (i * 5) (cardK.enc x)) (.slice (some ⟨g, 0, none⟩) (l.length + 1) c) (l.take i ++ x :: l.drop i) := by rw [hW1]; exact hfin w.drew (fun _ => rfl)
  have hBl : w.grownBy (W1.setCells g (i * 5) (cardK.enc x)) (some g) := by rw [hW1]; exact grown_setsK _ _ (grown_setsK _ _ (grown_drew w _))
  have HF := Lib.hid hF
  have HBl := Lib.hid hBl
  have hz2 : ¬ ((i : Int) = (l.length : Int)) := by omega
  have hw1 : IntKind.i64.wrap ((i : Int) + 1) = (i : Int) + 1 := by rw [IntKind.wrap_i64]; omega
  have hw2 : IntKind.i64.wrap ((l.length : Int) + 1) = (l.length : Int) + 1 := by rw [IntKind.wrap_i64]; omega
  have hb1 : (0 : Int) ≤ (i : Int) + 1 := by omega
  have hb1' : (0 : Int) ≤ (l.length : Int) + 1 := by omega
  have hin : i ≤ l.length := by omega
  have htn : ((i : Int) + 1).toNat = i + 1 := by omega
  have htn2 : ((l.length : Int) + 1).toNat = l.length + 1 := by omega
  have hb2 : ¬ (c = i + 1) := by omega
  have hb3 : (i : Int) ≤ (l.length : Int) + 1 := by omega
  have hb4 : ¬ (c = i) := by omega
  have hb5 : (l.length : Int) + 1 ≤ (c : Int) := by omega
  clear hsa hsb hfa hfe hsp1 hxc hcs hD hS hsz hg hx h hF hBl hfin hW1
  generalize hn : l.length = n at *
  go_enter Tryz.func44, Tryz.ntmps44
  go_wp2_with (simp only [hov])
  have mixed : Tryz.prog.follows .mixedOrders = true := by kernel_rfl
  have hcx := hcp1 3 (c - (i + 1)) (c - i)
  go_region
  go_wp2_with (at_builtin; refine wpl_copyK _ rfl _ _ 23 23 rfl _ _ rfl rfl (hcp2 _ (fun _ => rfl) (fun _ => rfl) _ _) ?_)
  go_ret
  exact ⟨_, rfl, HF.out, HBl.out, .inl rfl⟩
set_option maxRecDepth 100000 in
set_option maxHeartbeats 4000000 in
/-- There is no room. -/
theorem insert_grow (g c : Nat) (l : List ICard) (x : ICard) (i vb base : Nat) (w : World) (h : OwnK cardK base w (.slice (some ⟨g, 0, none⟩) l.length c) l) (hx : BoxN vb 35 (cardR x) w) (hl : l.length ≤ 1000) (hb : base ≤ w.heap.size) (hi : i < l.length) (hr : c < l.length + 1) :
    Calls Tryz.prog 44 #[.slice (some ⟨g, 0, none⟩) l.length c, .int .i64 i, .slice (some ⟨vb, 0, none⟩) 1 1] w fun e w' => ∃ v', e = .returned v' ∧ OwnK cardK base w' v' (l.take i ++ x :: l.drop i) ∧ w.grownBy w' (some g) ∧ (v'.ownBlock = some g ∨ v'.ownBlock = some w.heap.size) := by
  obtain ⟨S, hg, _, hbg, hnc, hcm, hS⟩ := own_block cardOk h
  have hgw : g < w.heap.size := (Array.getElem?_eq_some_iff.1 hg).1
  have hvw : vb < w.heap.size := hx.lt
  obtain ⟨i0, hi0, hz0, hzs, hzb⟩ := info_parts cardOk.info
  have hzs : i0.size = 5 := hzs
  have hzb : i0.bytes = 40 := hzb
  have hi0 : Tryz.prog.info? 35 = some i0 := hi0
  have hik : i + (l.length + 1 - i) = l.length + 1 := by omega
  have hkk : (l.length : Int) + 1 - (i : Int) = ((l.length + 1 - i : Nat) : Int) := by omega
  have hA : (cellsK cardK (l.take i)).length = i * 5 := by rw [cellsK_length cardOk, List.length_take, Nat.min_eq_left (by omega)]; rfl
  have hD : (cellsK cardK (l.drop i)).length = (l.length - i) * 5 := by rw [cellsK_length cardOk, List.length_drop]; rfl
  have hold : (Builtin.firstCells i0.size i (.slice (some ⟨g, 0, none⟩) i c)).run Tryz.prog w.drew = .ok (cellsK cardK (l.take i)).toArray w.drew := by
    rw [hzs]
    exact run_firstCells_some w.drew 5 i ⟨g, 0, none⟩ i c _ hA (fun j v hj => by
      rw [Addr.add_lit]
      exact card_head (W := w) hg hj)
  obtain ⟨G, hG⟩ : ∃ G, G = grownCap w (l.length + 1) c 35 := ⟨_, rfl⟩
  obtain ⟨Z, hZ⟩ : ∃ Z : List Value, Z = (Builtin.zeroCells cardK.zero.cells (l.length + 1 - i)).toList ++ (Builtin.zeroCells cardK.zero.cells (G - (l.length + 1))).toList := ⟨_, rfl⟩
  have hGn : l.length + 1 ≤ G := by rw [hG]; exact grownCap_ge w _ _ _
  have hGm : G ≤ maxLen := by rw [hG]; exact grownCap_le_maxLen w (l.length + 1) c 35 (by unfold maxLen; omega)
  have hZl : Z.length = (G - i) * 5 := by
    have e1 : ∀ k, (Builtin.zeroCells cardK.zero.cells k).toList.length = k * 5 := fun k => by rw [Array.length_toList, size_zeroCells]; rfl
    rw [hZ, List.length_append, e1, e1, ← Nat.add_mul]
    congr 1
    omega
  have hrz : ∀ ty, (Builtin.append_ #[23, 3] ty #[.slice (some ⟨g, 0, none⟩) i c, .int .i64 ((l.length : Int) + 1 - (i : Int))]).run Tryz.prog w =
      .ok (.slice (some ⟨w.heap.size, 0, none⟩) (l.length + 1) G) (w.drew.alloc (.cells (cellsK cardK (l.take i) ++ Z).toArray 35)) := fun ty => by
    have h := Lib.run_append_grow_zeros w 23 3 ty 35 i0 _ .i64 .i64 Tryz.underlying23 Tryz.underlying3 hi0 hz0 (some ⟨g, 0, none⟩) i c _ hold (l.length + 1 - i) (by omega) (by omega) (by omega) (by omega) (by rw [hzb]; omega) (by rw [hzb, hik]; exact growslice_fits hr (by omega))
    rw [hik, ← hG] at h
    rw [hkk]
    rw [arr3, ← hZ] at h
    exact h
  obtain ⟨W1, hW1⟩ : ∃ W1, W1 = w.drew.alloc (.cells (cellsK cardK (l.take i) ++ Z).toArray 35) := ⟨_, rfl⟩
  rw [← hW1] at hrz
  obtain ⟨N, hN⟩ : ∃ N, N = w.heap.size := ⟨_, rfl⟩
  have hNb : W1.heap[N]? = some (.cells (cellsK cardK (l.take i) ++ Z).toArray 35 (0, 0)) := by rw [hW1, hN]; exact heap_alloc_new w.drew _
  have hNl : (cellsK cardK (l.take i) ++ Z).length = G * 5 := by rw [List.length_append, hA, hZl]; omega
  have hold2 : ∀ k, k < w.heap.size → W1.heap[k]? = w.heap[k]? := fun k hk => by rw [hW1]; exact Below.heap_alloc _ _ _ hk
  have hgW : W1.heap[g]? = some (.cells (cellsK cardK l ++ S).toArray 35 (0, 0)) := (hold2 g hgw).trans hg
  have hxW : BoxN vb 35 (cardR x) W1 := (hold2 vb hvw).trans hx
  have hBW : Below w.heap.size w W1 := by rw [hW1]; exact (Below.refl _ _).drew.alloc (Nat.le_refl _) _
  rw [← hN] at hrz
  have hsp : ∀ k, k < G * 5 → (W1.cell? ⟨N, k, none⟩).isSome = true := fun k hk => cells_some hNb _ (by omega)
  have hcpA : ∀ (W : World), (∀ x, W.cell? x = W1.cell? x) → (∀ x, W.frozen? x = W1.frozen? x) → ∀ ty dc, (Builtin.copy_ #[23, 23] ty #[.slice (some ⟨N, i * 5, none⟩) (l.length + 1 - i) dc, .slice (some ⟨vb, 0, none⟩) 1 1]).run Tryz.prog W = .ok (goInt (1 : Nat)) (W.setCells N (i * 5) (cardK.enc x)) := fun W hWc hWf ty dc =>
    run_copy_K W _ _ ty 35 N (i * 5) _ dc ⟨vb, 0, none⟩ _ 1 5 1 _ Tryz.underlying23 cardSize (by simp only [Nat.min_def]; split <;> omega) rfl
      (fun j v hj => by
        rw [Addr.add_lit, hWc]
        have := BoxN.cell hxW j v (by simpa [cardK] using hj)
        simpa using this) (fun j hj => by rw [hWc]; exact hsp _ (by have : j < 5 := hj; omega)) (fun j hj => by rw [hWf]; exact Lib.frozen_of_heap hNb _) (cardOk.one x)
  have hNg : g ≠ N := by omega
  have hcpB : ∀ (W : World), (∀ q, W.cell? q = (W1.setCells N (i * 5) (cardK.enc x)).cell? q) → (∀ q, W.frozen? q = (W1.setCells N (i * 5) (cardK.enc x)).frozen? q) → ∀ ty dc sc, (Builtin.copy_ #[23, 23] ty #[.slice (some ⟨N, (i + 1) * 5, none⟩) (l.length - i) dc, .slice (some ⟨g, i * 5, none⟩) (l.length - i) sc]).run Tryz.prog W = .ok (goInt (l.length - i : Nat)) (W.setCells N ((i + 1) * 5) (cellsK cardK (l.drop i))) := fun W hWc hWf ty dc sc =>
    run_copy_K W _ _ ty 35 N ((i + 1) * 5) _ dc ⟨g, i * 5, none⟩ _ sc 5 (l.length - i) _ Tryz.underlying23 cardSize (by simp only [Nat.min_def]; split <;> omega) hD
      (fun j v hj => by
        rw [Addr.add_lit, hWc, World.cell?_setCells_out _ _ _ _ _ (fun h _ => absurd h hNg)]
        exact card_from hgW (by omega) hj)
      (fun j hj => by rw [hWc]; exact isSome_setsK N _ _ _ (fun t ht => hsp _ (by have : t < 5 := ht; omega)) _ (hsp _ (by rw [hD] at hj; omega)))
      (fun j hj => by rw [hWf, World.frozen?_setCells]; exact Lib.frozen_of_heap hNb _) (cellsK_one cardOk _)
  have HF : Hid (OwnK cardK base ((W1.setCells N (i * 5) (cardK.enc x)).drew.setCells N ((i + 1) * 5) (cellsK cardK (l.drop i))) (.slice (some ⟨N, 0, none⟩) (l.length + 1) G) (l.take i ++ x :: l.drop i)) := by
    show OwnK _ _ _ _ _
    rw [drew_setsK]
    exact ins_grow cardOk x (W := W1.drew) hNb hZl (by omega) (by omega) hGn hGm
  have HBl : Hid (Below w.heap.size w ((W1.setCells N (i * 5) (cardK.enc x)).drew.setCells N ((i + 1) * 5) (cellsK cardK (l.drop i)))) := below_setCells _ _ (below_setCells _ _ hBW (by omega)).drew (by omega)
  have HNn : Hid (N = w.heap.size) := hN
  have hG63 : G ≤ 9223372036854775807 := by unfold maxLen at hGm; omega
  have hcm : c ≤ 9223372036854775807 := by unfold maxLen at hcm; omega
  have hGi : ¬ (G = i) := by omega
  have hGim : ¬ (G = i + 1) := by omega
  have hci : ¬ (c = i) := by omega
  have hz2 : ¬ ((i : Int) = (l.length : Int)) := by omega
  have hz3 : (c : Int) < (l.length : Int) + 1 := by omega
  have hw1 : IntKind.i64.wrap ((i : Int) + 1) = (i : Int) + 1 := by rw [IntKind.wrap_i64]; omega
  have hw2 : IntKind.i64.wrap ((l.length : Int) + 1) = (l.length : Int) + 1 := by rw [IntKind.wrap_i64]; omega
  have hw3 : IntKind.i64.wrap ((l.length : Int) + 1 - (i : Int)) = (l.length : Int) + 1 - (i : Int) := by rw [IntKind.wrap_i64]; omega
  have hb1 : (0 : Int) ≤ (i : Int) + 1 := by omega
  have hin : i ≤ l.length := by omega
  have htn : ((i : Int) + 1).toNat = i + 1 := by omega
  have hb3 : (i : Int) ≤ (l.length : Int) := by omega
  have hE1 : ∀ x, W1.drew.cell? x = W1.cell? x := fun x => rfl
  have hE2 : ∀ x, W1.drew.frozen? x = W1.frozen? x := fun x => rfl
  clear hkk hik hold hG hZ hZl hsp hNb hNl hold2 hgW hxW hBW hS hg hx h hzs hzb hi0 hz0 hA hD hW1 hN hGm
  generalize hn : l.length = n at *
  go_enter Tryz.func44, Tryz.ntmps44
  go_wp2_with (first
    | (at_builtin; refine Lib.wpList_append_run _ rfl _ _ _ _ rfl _ _ rfl rfl _ _ (hrz _) ?_)
    | (at_builtin; refine wpl_copyK _ rfl _ _ 23 23 rfl _ _ rfl rfl (hcpA _ (fun _ => rfl) (fun _ => rfl) _ _) ?_)
    | (at_builtin; refine wpl_copyK _ rfl _ _ 23 23 rfl _ _ rfl rfl (hcpB _ (fun _ => rfl) (fun _ => rfl) _ _ _) ?_))
  have mixed : Tryz.prog.follows .mixedOrders = true := by kernel_rfl
  have hcx := hcpB (W1.setCells N (i * 5) (cardK.enc x)).drew (fun q => drew_cellC _ q) (fun q => drew_frozenC _ q) 3 (G - (i + 1)) (c - i)
  go_region
  go_wp2
  go_ret
  exact ⟨_, rfl, HF.out, grown_ofB HBl.out _, .inr (by rw [← HNn.out]; rfl)⟩
set_option maxRecDepth 100000 in
theorem insert_any (v : Value) (l : List ICard) (x : ICard) (i vb base : Nat) (w : World) (h : OwnK cardK base w v l) (hx : BoxN vb 35 (cardR x) w) (hl : l.length ≤ 1000) (hb : base ≤ w.heap.size) (hi : i ≤ l.length) :
    Calls Tryz.prog 44 #[v, .int .i64 i, .slice (some ⟨vb, 0, none⟩) 1 1] w fun e w' => ∃ v', e = .returned v' ∧ OwnK cardK base w' v' (l.take i ++ x :: l.drop i) ∧ w.grownBy w' v.ownBlock ∧ (v'.ownBlock = v.ownBlock ∨ v'.ownBlock = some w.heap.size) := by
  by_cases h1 : i = l.length
  · subst h1
    rw [List.take_of_length_le (Nat.le_refl _), List.drop_of_length_le (Nat.le_refl _)]
    exact insert_end v l x vb base w h hx hl hb
  · have hlt : i < l.length := by omega
    obtain ⟨g, c, rfl, hbg, hgw, hc, hm⟩ := h.some (by omega)
    by_cases hr : l.length + 1 ≤ c
    · exact insert_room g c l x i vb base w h hx hl hb hlt hr
    · exact insert_grow g c l x i vb base w h hx hl hb hlt (by omega)
end Go.Proofs.YtcgopilkajfghaaGreatDoor
