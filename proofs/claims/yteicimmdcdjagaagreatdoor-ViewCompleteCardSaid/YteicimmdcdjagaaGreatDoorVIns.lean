import Derived.Test.YteicimmdcdjagaaGreatDoorVPage
import Derived.Lib.Overlaps
import Derived.Lib.AppendZerosOnto
import Derived.Laws.IdiomCopy
import Derived.Laws.Externs
set_option linter.unusedVariables false
set_option linter.unusedSimpArgs false

/- How a row of structs stands after an element was put in; where a note belongs among sorted notes. -/
set_option linter.unusedVariables false
set_option linter.unusedSimpArgs false
namespace Go.Proofs.YteicimmdcdjagaaGreatDoor
open Go.RowKit Go.Shelf

theorem heap_setMid {g : Nat} {t : TypeId} : ∀ (vs pre old post : List Value) (W : World), W.heap[g]? = some (.cells (pre ++ (old ++ post)).toArray t (0, 0)) → vs.length = old.length → (W.setCells g pre.length vs).heap[g]? = some (.cells (pre ++ (vs ++ post)).toArray t (0, 0))
  | [], pre, old, post, W, h, hl => by
    obtain rfl : old = [] := List.eq_nil_of_length_eq_zero hl.symm
    exact h
  | v :: r, pre, [], post, W, h, hl => by simp at hl
  | v :: r, pre, o :: old, post, W, h, hl => by
    have h1 := heap_setCell_same W g pre.length _ t v h
    have e : (pre ++ (o :: old ++ post)).toArray.setIfInBounds pre.length v = ((pre ++ [v]) ++ (old ++ post)).toArray := by simp
    rw [e] at h1
    have h2 := heap_setMid r (pre ++ [v]) old post _ h1 (by simpa using hl)
    rw [List.length_append, List.length_singleton, List.append_assoc] at h2
    exact h2
/-- copy between rows of structs: all is read before anything is written. -/
theorem run_copy_K {P : Program} (w : World) (dT sT ty elem : TypeId) (b o dLen dCap : Nat) (a : Addr) (sLen sCap size m : Nat) (cs : List Value)
    (hu : P.underlying dT = some (.slice elem)) (hs : (P.info? elem).map (·.size) = some size) (hm : Nat.min sLen dLen = m) (hn : cs.length = m * size)
    (hsrc : ∀ j v, cs[j]? = some v → w.cell? (a.add j) = some v) (hc : ∀ j, j < cs.length → (w.cell? ⟨b, o + j, none⟩).isSome = true) (hf : ∀ j, j < cs.length → w.frozen? ⟨b, o + j, none⟩ = false) (h1 : ∀ v ∈ cs, v.oneCell' = true) :
    (Builtin.copy_ #[dT, sT] ty #[.slice (some ⟨b, o, none⟩) dLen dCap, .slice (some a) sLen sCap]).run P w = .ok (goInt m) (w.setCells b o cs) := by
  have hl := run_loadCells_list (P := P) w a cs hsrc
  have hst := run_storeCells_cells (P := P) b o cs 0 w (by simpa using hc) (by simpa using hf) h1
  rw [hn] at hl
  cases hq : P.info? elem with
  | none => simp [hq] at hs
  | some i =>
    have hi : i.size = size := by simpa [hq] using hs
    simp [Builtin.copy_, run_underlying hu, Builtin.lenOf, Builtin.firstCells, sizeOf, typeInfo, hq, hi, hm, hl, hst]
section
variable {α : Type} {K : SK α}
theorem own_ins (ok : K.Ok) {base g cap i : Nat} {W : World} {l : List α} {x : α} {R : List Value} (h : W.heap[g]? = some (.cells (cellsK K (l.take i) ++ (K.enc x ++ (cellsK K (l.drop i) ++ R))).toArray K.ty (0, 0))) (hb : base ≤ g)
    (hcap : l.length + 1 ≤ cap) (hm : cap ≤ maxLen) (hR : R.length = (cap - (l.length + 1)) * K.size) : OwnK K base W (.slice (some ⟨g, 0, none⟩) (l.length + 1) cap) (l.take i ++ x :: l.drop i) := by
  have e : cellsK K (l.take i ++ x :: l.drop i) = cellsK K (l.take i) ++ (K.enc x ++ cellsK K (l.drop i)) := cellsK_append _ _
  have hl : (l.take i ++ x :: l.drop i).length = l.length + 1 := by rw [List.length_append, List.length_cons, List.length_take, List.length_drop]; omega
  have e2 : cellsK K (l.take i) ++ (K.enc x ++ (cellsK K (l.drop i) ++ R)) = cellsK K (l.take i ++ x :: l.drop i) ++ R := by rw [e]; simp
  have hlc := cellsK_length ok (l.take i ++ x :: l.drop i)
  rw [hl] at hlc
  rw [e2] at h
  refine ⟨cellsK_length ok _, .inr ⟨g, cap, _, by rw [hl], hb, h, by omega, hm, ?_, ?_⟩⟩
  · rw [List.size_toArray, List.length_append, hlc, hR, ← Nat.add_mul]
    congr 1
    omega
  · rw [hl, ← hlc, List.take_left]
theorem own_block {base g n cap : Nat} {W : World} {l : List α} (ok : K.Ok) (h : OwnK K base W (.slice (some ⟨g, 0, none⟩) n cap) l) :
    ∃ S : List Value, W.heap[g]? = some (.cells (cellsK K l ++ S).toArray K.ty (0, 0)) ∧ n = l.length ∧ base ≤ g ∧ n ≤ cap ∧ cap ≤ maxLen ∧ S.length = (cap - n) * K.size := by
  rcases h.2 with ⟨h0, _⟩ | ⟨g', cap', cur, he, hb, hg, h1, h2, h3, h4⟩
  · cases h0
  · obtain ⟨e1, e2, e3⟩ := Value.slice.inj he
    cases e1
    subst e2 e3
    have hlc := cellsK_length ok l
    refine ⟨cur.toList.drop (l.length * K.size), ?_, rfl, hb, h1, h2, ?_⟩
    · rw [← h4, List.take_append_drop, Array.toArray_toList]
      exact hg
    · rw [List.length_drop, Array.length_toList, h3, Nat.sub_mul]
theorem take_drop_len {l : List Value} {n m : Nat} (h : l.length = n + m) : ∃ a b : List Value, l = a ++ b ∧ a.length = n ∧ b.length = m := ⟨l.take n, l.drop n, (List.take_append_drop n l).symm, by rw [List.length_take]; omega, by rw [List.length_drop]; omega⟩
/-- An element was put in where there was room. -/
theorem ins_room (ok : K.Ok) {base g n cap i : Nat} {W : World} {l : List α} (x : α) (h : OwnK K base W (.slice (some ⟨g, 0, none⟩) n cap) l) (hi : i ≤ n) (hr : n + 1 ≤ cap) :
    OwnK K base ((W.setCells g ((i + 1) * K.size) (cellsK K (l.drop i))).setCells g (i * K.size) (K.enc x)) (.slice (some ⟨g, 0, none⟩) (n + 1) cap) (l.take i ++ x :: l.drop i) := by
  obtain ⟨S, hg, rfl, hb, h1, h2, h3⟩ := own_block ok h
  have hA : (cellsK K (l.take i)).length = i * K.size := by rw [cellsK_length ok, List.length_take, Nat.min_eq_left hi]
  have hD : (cellsK K (l.drop i)).length = (l.length - i) * K.size := by rw [cellsK_length ok, List.length_drop]
  have hX := ok.len x
  have hAD : cellsK K l = cellsK K (l.take i) ++ cellsK K (l.drop i) := by rw [← cellsK_append, List.take_append_drop]
  have hS : (cellsK K (l.drop i) ++ S).length = K.size + (cellsK K (l.drop i)).length + (cap - (l.length + 1)) * K.size := by
    rw [List.length_append, h3, show cap - l.length = cap - (l.length + 1) + 1 by omega, Nat.succ_mul]
    omega
  obtain ⟨P, R0, hP, hPl, hR0⟩ := take_drop_len (show (cellsK K (l.drop i) ++ S).length = K.size + ((cellsK K (l.drop i)).length + (cap - (l.length + 1)) * K.size) by omega)
  obtain ⟨Q, R, hQ, hQl, hR⟩ := take_drop_len hR0
  rw [hAD, List.append_assoc, hP, hQ, ← List.append_assoc] at hg
  have g1 := heap_setMid (cellsK K (l.drop i)) (cellsK K (l.take i) ++ P) Q R W hg hQl.symm
  rw [List.length_append, hA, hPl, ← Nat.succ_mul, List.append_assoc] at g1
  have g2 := heap_setMid (K.enc x) (cellsK K (l.take i)) P (cellsK K (l.drop i) ++ R) _ g1 (by rw [hX, hPl])
  rw [hA] at g2
  exact own_ins ok g2 hb hr h2 hR
/-- An element was put in, in a new row. -/
theorem ins_grow (ok : K.Ok) {base g cap i : Nat} {W : World} {l : List α} (x : α) {Z : List Value} (hg : W.heap[g]? = some (.cells (cellsK K (l.take i) ++ Z).toArray K.ty (0, 0))) (hZ : Z.length = (cap - i) * K.size) (hi : i ≤ l.length) (hb : base ≤ g) (hr : l.length + 1 ≤ cap) (hm : cap ≤ maxLen) :
    OwnK K base ((W.setCells g (i * K.size) (K.enc x)).setCells g ((i + 1) * K.size) (cellsK K (l.drop i))) (.slice (some ⟨g, 0, none⟩) (l.length + 1) cap) (l.take i ++ x :: l.drop i) := by
  have hA : (cellsK K (l.take i)).length = i * K.size := by rw [cellsK_length ok, List.length_take, Nat.min_eq_left hi]
  have hD : (cellsK K (l.drop i)).length = (l.length - i) * K.size := by rw [cellsK_length ok, List.length_drop]
  have hX := ok.len x
  have hZ2 : Z.length = K.size + ((cellsK K (l.drop i)).length + (cap - (l.length + 1)) * K.size) := by
    rw [hZ, hD, ← Nat.add_mul, show l.length - i + (cap - (l.length + 1)) = cap - i - 1 by omega, show cap - i = cap - i - 1 + 1 by omega, Nat.succ_mul, Nat.add_sub_cancel]
    omega
  obtain ⟨P, R0, hP, hPl, hR0⟩ := take_drop_len hZ2
  obtain ⟨Q, R, hQ, hQl, hR⟩ := take_drop_len hR0
  rw [hP, hQ] at hg
  have g1 := heap_setMid (K.enc x) (cellsK K (l.take i)) P (Q ++ R) W hg (by rw [hX, hPl])
  rw [hA, ← List.append_assoc] at g1
  have g2 := heap_setMid (cellsK K (l.drop i)) (cellsK K (l.take i) ++ K.enc x) Q R _ g1 hQl.symm
  rw [List.length_append, hA, hX, ← Nat.succ_mul, List.append_assoc] at g2
  exact own_ins ok g2 hb hr hm hR
theorem OwnK.heap_below {base B : Nat} {w W : World} {g o : Nat} {vs : List Value} (h : Below B w W) (hg : B ≤ g) : Below B w (W.setCells g o vs) := below_setCells _ _ h hg
end
/-- Among sorted notes a note comes before another one just if it stands before its place. -/
theorem place_iff {n : VNote} {l : List VNote} (hs : l.Pairwise (fun a b => ltN a b = true)) {h : Nat} (hl : h < l.length) : ltN (l.getD h default) n = decide (h < placeN n l) := by
  by_cases hp : h < placeN n l
  · rw [placeN_before hp, decide_eq_true hp]
  · rw [decide_eq_false hp]
    have hat := placeN_at (n := n) (l := l) (by omega)
    rcases Nat.lt_or_eq_of_le (Nat.le_of_not_lt hp) with hlt | he
    · cases hc : ltN (l.getD h default) n
      · rfl
      · have h2 : ltN (l.getD (placeN n l) default) (l.getD h default) = true := by
          rw [List.getD_eq_getElem?_getD, List.getD_eq_getElem?_getD, List.getElem?_eq_getElem hl, List.getElem?_eq_getElem (show placeN n l < l.length by omega)]
          exact List.pairwise_iff_getElem.1 hs _ _ _ _ hlt
        rw [ltN_trans h2 hc] at hat
        cases hat
    · rw [← he]
      exact hat
theorem mem_place {n : VNote} {l : List VNote} {k : Nat} (hk : k < l.length) (h : cmpN (l.getD k default) n = 0) : n ∈ l := by
  rw [cmpN_zero] at h
  rw [← h, List.getD_eq_getElem?_getD, List.getElem?_eq_getElem hk]
  exact List.getElem_mem hk
end Go.Proofs.YteicimmdcdjagaaGreatDoor
