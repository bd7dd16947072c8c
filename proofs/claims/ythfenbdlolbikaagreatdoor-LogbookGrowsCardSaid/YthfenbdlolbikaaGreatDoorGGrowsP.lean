/- LogbookGrows: plain. -/
import Derived.Test.YthfenbdlolbikaaGreatDoorGRefSides
import Derived.Test.YthfenbdlolbikaaGreatDoorGProvedP
import Derived.Test.YthfenbdlolbikaaGreatDoorGBentP
import Derived.ArgAppend
set_option linter.unusedVariables false
set_option linter.unusedSimpArgs false
namespace Go.Proofs.YthfenbdlolbikaaGreatDoor
open Go.RowKit Go.Shelf

theorem secsB_mono {s s' : Int} {l : List LRec} (hs : s' ≤ s) (h : secsB s l = true) : secsB s' l = true := by
  cases l with
  | nil => rfl
  | cons x t =>
    simp only [secsB, Bool.and_eq_true, decide_eq_true_eq] at h ⊢
    exact ⟨⟨h.1.1, by omega⟩, h.2⟩
theorem secsB_cut : ∀ (l : List LRec) (s : Int) (k : Nat), secsB s l = true → secsB s (l.take k) = true
  | [], s, k, h => by simp [secsB]
  | x :: t, s, 0, h => rfl
  | x :: t, s, k + 1, h => by
    simp only [List.take_succ_cons, secsB, Bool.and_eq_true] at h ⊢
    exact ⟨h.1, secsB_cut t _ k h.2⟩
theorem secsB_erase : ∀ (l : List LRec) (s : Int) (i : Nat), secsB s l = true → secsB s (l.take i ++ l.drop (i + 1)) = true
  | [], s, i, h => by simp [secsB]
  | x :: t, s, 0, h => by
    simp only [secsB, Bool.and_eq_true, decide_eq_true_eq] at h
    exact secsB_mono h.1.2 h.2
  | x :: t, s, i + 1, h => by
    simp only [secsB, Bool.and_eq_true] at h
    show secsB s (x :: (t.take i ++ t.drop (i + 1))) = true
    simp only [secsB, Bool.and_eq_true]
    exact ⟨h.1, secsB_erase t _ i h.2⟩
theorem secsB_set : ∀ (l : List LRec) (s : Int) (i : Nat) (y : LRec), secsB s l = true → recB y = true → y.sec = (l.getD i default).sec → secsB s (l.set i y) = true
  | [], s, i, y, h, hy, he => by simp [secsB]
  | x :: t, s, 0, y, h, hy, he => by
    simp only [secsB, Bool.and_eq_true, decide_eq_true_eq] at h
    show secsB s (y :: t) = true
    have he' : y.sec = x.sec := he
    simp only [secsB, Bool.and_eq_true, decide_eq_true_eq]
    rw [he']
    exact ⟨⟨hy, h.1.2⟩, h.2⟩
  | x :: t, s, i + 1, y, h, hy, he => by
    simp only [secsB, Bool.and_eq_true] at h
    show secsB s (x :: t.set i y) = true
    simp only [secsB, Bool.and_eq_true]
    exact ⟨h.1, secsB_set t _ i y h.2 hy he⟩
theorem book_of {O : Int} {l d : List LRec} (h : bookB ⟨O, l⟩ = true) (hd : secsB 0 d = true) (hl : d.length ≤ l.length) : bookB ⟨O, d⟩ = true := by
  unfold bookB at h ⊢
  simp only [Bool.and_eq_true, decide_eq_true_eq] at h ⊢
  exact ⟨⟨hd, h.1.2⟩, by omega⟩
theorem book_secs {O : Int} {l : List LRec} (h : bookB ⟨O, l⟩ = true) : secsB 0 l = true := by
  unfold bookB at h
  simp only [Bool.and_eq_true] at h
  exact h.1.1
theorem book_take {O : Int} {l : List LRec} (h : bookB ⟨O, l⟩ = true) (k : Nat) : bookB ⟨O, l.take k⟩ = true := book_of h (secsB_cut l 0 k (book_secs h)) (by rw [List.length_take]; omega)
theorem book_erase {O : Int} {l : List LRec} (h : bookB ⟨O, l⟩ = true) (i : Nat) : bookB ⟨O, l.take i ++ l.drop (i + 1)⟩ = true := book_of h (secsB_erase l 0 i (book_secs h)) (by rw [List.length_append, List.length_take, List.length_drop]; omega)
theorem book_bump {O : Int} {l : List LRec} (h : bookB ⟨O, l⟩ = true) (i : Nat) (hi : i < l.length) (ha : (l.getD i default).a ≤ 198) : bookB ⟨O, l.set i (setF (l.getD i default) 2 ((l.getD i default).a + 1))⟩ = true := by
  have hr : recB (l.getD i default) = true := book_recs h _ (by rw [List.getD_eq_getElem?_getD, List.getElem?_eq_getElem hi]; exact List.getElem_mem _)
  refine book_of h (secsB_set l 0 i _ (book_secs h) ?_ rfl) (by rw [List.length_set]; exact Nat.le_refl _)
  unfold recB at hr ⊢
  simp only [setF, Bool.and_eq_true, inZ_iff] at hr ⊢
  refine ⟨⟨⟨hr.1.1.1, ?_⟩, hr.1.2⟩, hr.2⟩
  omega
theorem made_a (o : Int) (N : Nat) (f : Nat → Nat → Int) : ∀ x ∈ (madeBook o N f).recs, -1 ≤ x.a ∧ x.a ≤ 198 := fun x hx => by
  obtain ⟨j, _, rfl⟩ := List.mem_map.1 (show x ∈ (List.range (min N 12)).map (madeRec f) from hx)
  have h2 := pickZ_bd (f j 2) 200 (by omega)
  show -1 ≤ pickZ (f j 2) 200 - 1 ∧ pickZ (f j 2) 200 - 1 ≤ 198
  omega
theorem codesL_take (O : Int) (l : List LRec) (k : Nat) : codesL ⟨O, l.take k⟩ = (codesL ⟨O, l⟩).take k := by simp [codesL, List.map_take]
theorem head_in {b : LBook} (h : bookB b = true) : headE b = (rootL (codesL b), 0) := by rw [headE, h]; rfl
theorem grown_in {b : LBook} (h : bookB b = true) {k : Nat} (hk : k ≤ b.recs.length) : grownE b k = ((extE (codesL b) k).1, 0) := by
  unfold grownE
  rw [h, extE_in (by rw [codesL_len]; exact hk)]
  rfl
theorem grown_acc {O : Int} {l : List LRec} {k : Nat} (hk : k ≤ l.length) : verExtB (rootL (codesL ⟨O, l.take k⟩)) (k : Nat) (rootL (codesL ⟨O, l⟩)) (l.length : Nat) (extE (codesL ⟨O, l⟩) k).1 = true := by
  have h : k ≤ (codesL ⟨O, l⟩).length := by rw [codesL_len]; exact hk
  have := extE_acc h
  rw [codesL_len] at this
  rw [codesL_take]
  exact this
theorem map_encR_inj : ∀ (a b : List LRec), (∀ x ∈ a, recB x = true) → (∀ x ∈ b, recB x = true) → a.map encR = b.map encR → a = b
  | [], [], _, _, _ => rfl
  | [], y :: t, _, _, h => by cases h
  | x :: t, [], _, _, h => by cases h
  | x :: s, y :: t, ha, hb, h => by
    simp only [List.map_cons, List.cons.injEq] at h
    rw [encR_inj (recB_fits (ha x (by simp))) (recB_fits (hb y (by simp))) h.1, map_encR_inj s t (fun z hz => ha z (by simp [hz])) (fun z hz => hb z (by simp [hz])) h.2]
/-- A changed beginning that is accepted: a collision. -/
theorem grows_use {O : Int} {l d : List LRec} (h : bookB ⟨O, l⟩ = true) (hd : bookB ⟨O, d⟩ = true) {many : Nat} (h1 : 1 ≤ many) (hm : many ≤ l.length) (hdl : d.length = many) (hne : (l.take many == d) = false) (q : List Bytes)
    (hv : verExtB (rootL (codesL ⟨O, d⟩)) (many : Nat) (rootL (codesL ⟨O, l⟩)) (l.length : Nat) q = true) :
    outB ((((hashedL (codesL ⟨O, l⟩) ++ hashedL (codesL ⟨O, d⟩)) ++ hashedL (codesL ⟨O, l.take many⟩)) ++ (sides3R (rootL (codesL ⟨O, d⟩)) q.reverse many l.length true).1) ++ (sides3R (rootL (codesL ⟨O, l.take many⟩)) (extE (codesL ⟨O, l⟩) many).1.reverse many l.length true).1) = true := by
  have hcl : (codesL ⟨O, l⟩).length = l.length := codesL_len _
  have he : (extE (codesL ⟨O, l⟩) many).1 = partL (codesL ⟨O, l⟩) many true := by
    unfold extE
    rw [if_pos ⟨by omega, by omega⟩, if_neg (by omega)]
    rfl
  rw [he, codesL_take, ← hcl]
  rw [← hcl] at hv
  refine grows_plain (c := codesL ⟨O, l⟩) (d := codesL ⟨O, d⟩) h1 (by omega) (by rw [codesL_len]; exact hdl) (fun e => ?_) hv (fun x hx => ?_) (fun x hx => ?_) (fun x hx => ?_) (fun x hx => ?_) (fun x hx => ?_)
  · rw [← codesL_take] at e
    have := map_encR_inj d (l.take many) (book_recs hd) (fun x hx => book_recs h x (List.mem_of_mem_take hx)) e
    rw [this] at hne
    simp at hne
  · simp [hx]
  · simp [hx]
  · simp [hx]
  · simp [hx]
  · simp [hx]
/-- What is known of a valid logbook. -/
theorem book_pack {O : Int} {l : List LRec} (h : bookB ⟨O, l⟩ = true) : (∀ x ∈ l, x.text.length ≤ 1000000) ∧ codesR l = codesL ⟨O, l⟩ ∧ Sm (codesL ⟨O, l⟩) ∧ headE ⟨O, l⟩ = (rootL (codesL ⟨O, l⟩), 0) ∧ (hashedL (codesL ⟨O, l⟩)).length ≤ 200 ∧ (∀ x ∈ hashedL (codesL ⟨O, l⟩), x.length ≤ 1001) ∧ (rootL (codesL ⟨O, l⟩)).length = 32 := by
  have hl : l.length ≤ 60 := by unfold bookB at h; simp only [Bool.and_eq_true, decide_eq_true_eq] at h; exact h.2
  have hs := codesL_sm h
  refine ⟨fun x hx => ?_, codesR_ok (book_recs h), hs, head_in h, ?_, hashedL_el _ _ (Nat.le_refl _) hs.2, rootL_length _⟩
  · have := book_recs h x hx
    unfold recB at this
    simp only [Bool.and_eq_true, decide_eq_true_eq] at this
    omega
  · have h1 := hashedL_bd (codesL ⟨O, l⟩)
    have h2 : (codesL ⟨O, l⟩).length = l.length := codesL_len _
    omega
theorem extE_sm {l : List Bytes} {k : Nat} (h : k ≤ l.length) (hl : l.length ≤ 60) : (extE l k).1.length ≤ 12 ∧ ∀ x ∈ (extE l k).1, x.length ≤ 1000 := by
  refine ⟨extE_short h 6 (by show _ < 64; omega), fun x hx => ?_⟩
  unfold extE at hx
  rw [if_pos ⟨by omega, by omega⟩] at hx
  split at hx
  · simp at hx
  · rename_i h0
    have := partL_dig l.length l k true (Nat.le_refl _) (by omega) h x hx
    omega
/-- l[:k:k] -/
theorem run_cutR (ra : Option Addr) (m rc k : Nat) (h : k ≤ rc) (W : World) : (Instr.sliceAt 23 (.slice ra m rc) none (some (.int .i64 (k : Int))) (some (.int .i64 (k : Int)))).run Tryz.prog W = .ok (.slice ra k k) W := by
  have h1 : (k : Int) ≤ (rc : Int) := by omega
  have h2 : (0 : Int) ≤ (k : Int) := by omega
  have h3 : (k : Int) ≤ (k : Int) := Int.le_refl _
  cases ra with
  | none => simp [go_sem, h1, h2, h3]
  | some a =>
    obtain ⟨b, o, p⟩ := a
    cases p <;> simp [go_sem, h1, h2, h3, Addr.add]
theorem RecsAt.drop {B : Nat} {w : World} {b off n c : Nat} {l : List LRec} (h : RecsAt B w (.slice (some ⟨b, off, none⟩) n c) l) (k : Nat) (hk : k ≤ l.length) : RecsAt B w (.slice (some ⟨b, off + k * 5, none⟩) (n - k) (c - k)) (l.drop k) := by
  obtain ⟨a', c0, he, h1, h2, h3⟩ := h
  injection he with e1 e2 e3
  subst e1
  have hl : (l.drop k).length = n - k := by rw [List.length_drop]; omega
  refine ⟨_, c - k, by rw [hl], by omega, by omega, fun hp => ?_⟩
  rw [hl] at hp
  obtain ⟨b', off', ha, hb, hcc⟩ := h3 (by omega)
  cases ha
  refine ⟨b, off + k * 5, rfl, hb, fun i hi => ?_⟩
  have := hcc (k + i) (by omega)
  rw [List.getD_eq_getElem?_getD] at this ⊢
  rw [List.getElem?_drop]
  rwa [show off + (k + i) * 5 = off + k * 5 + i * 5 from by omega] at this
/-- l[k:] -/
theorem run_dropR (b off n c k : Nat) (h : k ≤ n) (hn : n ≤ c) : ∃ sa sc, (∀ W : World, (Instr.sliceAt 23 (.slice (some ⟨b, off, none⟩) n c) (some (.int .i64 (k : Int))) none none).run Tryz.prog W = .ok (.slice sa (n - k) sc) W) ∧
    ∀ (B : Nat) (W : World) (l : List LRec), RecsAt B W (.slice (some ⟨b, off, none⟩) n c) l → RecsAt B W (.slice sa (n - k) sc) (l.drop k) := by
  have h1 : (k : Int) ≤ (n : Int) := by omega
  have h2 : (0 : Int) ≤ (k : Int) := by omega
  by_cases hc : c = k
  · refine ⟨some ⟨b, off, none⟩, c - k, fun W => by subst hc; simp [go_sem, h1, h2], fun B W l hR => ?_⟩
    obtain ⟨a', c0, he, h3, h4, h5⟩ := hR
    injection he with e1 e2 e3
    have hl : (l.drop k).length = 0 := by rw [List.length_drop]; omega
    exact ⟨_, c - k, by rw [hl, show n - k = 0 from by omega], by omega, by omega, fun hp => by omega⟩
  · refine ⟨some ⟨b, off + k * 5, none⟩, c - k, fun W => by simp [go_sem, h1, h2, hc, Addr.add], fun B W l hR => ?_⟩
    have hl : n = l.length := by
      obtain ⟨a', c0, he, _⟩ := hR
      injection he with e1 e2 e3
    exact hR.drop k (by omega)
/-- append to a slice without room. -/
theorem wp_append_cutG {o : Oper} {a : Act} {w : World} {K : Act → World → Prop} {Q : Exit → Act → World → Prop} (s x : Operand)
    (ho : o.op = .call { callee := .builtin .append, args := #[s, x], argTypes := #[23, 23] }) (b i : Nat) (sv : Value) (l l2 : List LRec)
    (hs : a.eval s = .slice (some ⟨b, 0, none⟩) i i) (hx : a.eval x = sv) (hb : b < w.heap.size) (hl : l.length = i) (hR : RecsAt w.heap.size w (.slice (some ⟨b, 0, none⟩) i i) l) (hsv : RecsAt w.heap.size w sv l2) (hlen : l.length + l2.length < 1000000)
    (h : ∀ v' w', RecsAt w'.heap.size w' v' (l ++ l2) → w.grownBy w' none → (∀ g, v'.ownBlock = some g → g < w'.heap.size ∧ (w.heap.size ≤ g ∨ some b = some g)) → K (a.put o.dst v') w') : Oper.wp Tryz.prog o a w K Q := by
  obtain ⟨i0, hi, hz0, hz1, hz2⟩ := info_parts infoG
  obtain ⟨sa, sc, rfl, hs1, hs2, hs3⟩ := hsv
  subst hl
  have hcl : ∀ j u, (cellsG l)[j]? = some u → w.cell? ((⟨b, 0, none⟩ : Addr).add j) = some u := fun j u hu => by
    have hp : 0 < l.length := by
      have := (List.getElem?_eq_some_iff.1 hu).1
      rw [cellsG_length] at this
      omega
    obtain ⟨a', c0, he, h1, h2, h3⟩ := hR
    have e1 := (Value.slice.inj he).1
    obtain ⟨b', off', ha, hbb, hcc⟩ := h3 hp
    rw [ha] at e1
    cases e1
    exact recs_cells hcc j u hu
  have stay : ∀ (hr : (Builtin.append_ #[23, 23] o.type #[.slice (some ⟨b, 0, none⟩) l.length l.length, .slice sa l2.length sc]).run Tryz.prog w = .ok (.slice (some ⟨b, 0, none⟩) l.length l.length) w), l2 = [] → Oper.wp Tryz.prog o a w K Q := fun hr he => by
    unfold Oper.wp execOp
    simp only [ho, resolve, invoke, builtin, Sem.run_bind, Sem.run_pure, Result.andThen_ok, List.map_toArray, List.map_cons, List.map_nil, hs, hx, hr]
    refine h _ w (by rw [he, List.append_nil]; exact hR) ⟨rfl, rfl, rfl, Nat.le_refl _, fun _ _ _ => rfl⟩ (fun g hg => ?_)
    have hg' : some b = some g := hg
    cases hg'
    exact ⟨hb, .inr rfl⟩
  by_cases hp : 0 < l2.length
  · obtain ⟨b2, off, rfl, hb2, hc⟩ := hs3 hp
    obtain ⟨v', w', hr, h2, h3⟩ := run_append_arg_grows (P := Tryz.prog) w 23 o.type 48 i0 (.agg #[.int .i64 0, .int .i64 0, .int .i64 0, .int .i64 0, .string (⟨#[]⟩ : ByteArray)]) 5 48 Tryz.underlying23 hi hz0 hz1 hz2 rfl (by decide) ⟨b, 0, none⟩ l.length l.length (cellsG l) (cellsG_length l) hcl ⟨b2, off, none⟩ l2.length sc (cellsG l2) (cellsG_length l2) (recs_cells hc) (by omega) (by unfold maxLen; omega) (by omega)
    unfold Oper.wp execOp
    simp only [ho, resolve, invoke, builtin, Sem.run_bind, Sem.run_pure, Result.andThen_ok, List.map_toArray, List.map_cons, List.map_nil, hs, hx, hr]
    have h4 : OwnG w.heap.size w' v' (l ++ l2) := by
      unfold OwnG
      rw [List.length_append, show cellsG (l ++ l2) = cellsG l ++ cellsG l2 from by simp [cellsG]]
      exact h2
    exact h v' w' h4.recs h3 (fun g hg => ⟨(World.ownsRow.lt h4 g hg).2, .inl (World.ownsRow.lt h4 g hg).1⟩)
  · obtain rfl : l2 = [] := List.eq_nil_of_length_eq_zero (by omega)
    cases sa with
    | none =>
      refine stay ?_ rfl
      simp [Builtin.append_, run_underlying Tryz.underlying23, sizeOf, typeInfo, hi, Builtin.lenOf, Builtin.firstCells, storeCells]
    | some ad =>
      refine stay ?_ rfl
      have := run_append_room_cells (P := Tryz.prog) w 23 o.type 48 i0 Tryz.underlying23 hi b 0 l.length l.length ad 0 sc [] (by simp) (fun j u hu => by simp at hu) (fun u hu => by simp at hu) (Nat.le_refl _) (fun j hj => by simp at hj) (fun j hj => by simp at hj)
      simpa [World.setCells] using this
/-- Records are no part of a box. -/
theorem RecsAt.setBox {B : Nat} {W : World} {v : Value} {d : List LRec} {g : Nat} {o : Int} {rv : Value} (h : RecsAt B W v d) (hg : LogBox W g o rv) (j : Nat) (x : Value) : RecsAt B (W.setCell ⟨g, j, none⟩ x) v d := by
  obtain ⟨a, c, rfl, h1, h2, h3⟩ := h
  refine ⟨a, c, rfl, h1, h2, fun hp => ?_⟩
  obtain ⟨b, off, rfl, hb, hc⟩ := h3 hp
  have hne : b ≠ g := by
    rintro rfl
    have hz := (hc 0 hp).2.2.2.2
    rw [Lib.cell_of_heap hg] at hz
    have : (#[Value.int .i64 o, rv] : Array Value)[off + 0 * 5 + 4]? = none := Array.getElem?_eq_none (by simp)
    rw [this] at hz
    cases hz
  refine ⟨b, off, rfl, hb, fun i hi => ?_⟩
  obtain ⟨c0, c1, c2, c3, c4⟩ := hc i hi
  have hk : ∀ k : Nat, (W.setCell ⟨g, j, none⟩ x).cell? ⟨b, k, none⟩ = W.cell? ⟨b, k, none⟩ := fun k => by
    unfold World.cell?
    have := heap_set_ne W hne j x
    simp only
    rw [this]
  exact ⟨(hk _).trans c0, (hk _).trans c1, (hk _).trans c2, (hk _).trans c3, (hk _).trans c4⟩
/-- A new box for a logbook. -/
def NewF (B : Nat) : Nat → Value → World → Prop := fun _ v W => ∃ g, v = .pointer (some ⟨g, 0, none⟩) ∧ B ≤ g ∧ W.heap[g]? = some (.cells #[.int .i64 0, .slice none 0 0] 25 (0, 0))
theorem newF_kept {B k : Nat} {v : Value} {W W' : World} {cc : Option Nat} (h : NewF B k v W) (hg : W.grownBy W' cc) (hc : ∀ g, cc = some g → False) : NewF B k v W' := by
  obtain ⟨g, rfl, hB, hb⟩ := h
  exact ⟨g, rfl, hB, (hg.block g (Array.getElem?_eq_some_iff.1 hb).1 fun e => hc g e.symm).trans hb⟩
/-- A new box for a logbook with records of its own. -/
def OthF (B : Nat) (l : List LRec) : Nat → Value → World → Prop := fun k v W =>
  if k = 2 then OwnG B W v [] else if k = 5 then OwnG B W v l else ∃ g, v = .pointer (some ⟨g, 0, none⟩) ∧ B ≤ g ∧ W.heap[g]? = some (.cells #[.int .i64 0, .slice none 0 0] 25 (0, 0))
theorem othF_kept {B k : Nat} {l : List LRec} {v : Value} {W W' : World} {c : Option Nat} (h : OthF B l k v W) (hg : W.grownBy W' c)
    (hc : ∀ g, c = some g → v.ownBlock ≠ some g ∧ ∃ u, u.ownBlock = some g ∧ OthF B l 2 u W) : OthF B l k v W' := by
  unfold OthF at h ⊢
  split at h
  · rename_i hk; rw [if_pos hk]; exact rowG_kept h hg fun g hh => (hc g hh).1
  · rename_i hk; rw [if_neg hk]; split at h
    · rename_i hk; rw [if_pos hk]; exact rowG_kept h hg fun g hh => (hc g hh).1
    · rename_i hk; rw [if_neg hk]
      obtain ⟨g, rfl, hB, hb⟩ := h
      refine ⟨g, rfl, hB, (hg.block g (Array.getElem?_eq_some_iff.1 hb).1 fun e => ?_).trans hb⟩
      obtain ⟨_, u, hu, hF⟩ := hc g e.symm
      have := ownG_block (show OwnG B W u [] from hF) hu hb
      exact absurd this (by decide)
/-- What the append to the cut row leaves. -/
def TakF (W0 : World) (d : List LRec) : Nat → Value → World → Prop := fun _ v W => RecsAt W.heap.size W v d ∧ W0.grownBy W none
theorem takF_kept {W0 : World} {d : List LRec} {k : Nat} {v : Value} {W W' : World} {cc : Option Nat} (h : TakF W0 d k v W) (hg : W.grownBy W' cc) (hc : ∀ g, cc = some g → False) : TakF W0 d k v W' := by
  have hg' : W.grownBy W' none := ⟨hg.os, hg.tape, hg.output, hg.size, fun i hi _ => hg.block i hi fun e => hc i e.symm⟩
  exact ⟨h.1.later (grown_below hg') (Nat.le_refl _), World.grownBy.trans h.2 hg'⟩
/-- A row of two lists. -/
def TwoV (g : Nat) (x y : Value) (W : World) : Prop := W.heap[g]? = some (.cells #[x, y] 26 (0, 0))
theorem keep_twoV {W : World} {g : Nat} {x y : Value} (h : TwoV g x y W) : ∀ W', Below W.heap.size W W' → TwoV g x y W' := fun _ hb => (hb.block g (Array.getElem?_eq_some_iff.1 h).1).trans h
theorem TwoV.cell {W : World} {g : Nat} {x y : Value} (h : TwoV g x y W) (k : Nat) (hk : k < 2) : W.cell? ⟨g, k, none⟩ = some (one2 x y k) := by
  rw [Lib.cell_of_heap (show W.heap[g]? = _ from h)]
  match k, hk with
  | 0, _ => rfl
  | 1, _ => rfl
theorem twoV_new (W : World) (x y : Value) : TwoV W.heap.size x y (W.alloc (.cells #[x, y] 26)) := heap_alloc_new W _
theorem strs2 {W : World} {x y : Value} {lx ly : List Bytes} (hx : StrsN x lx W) (hy : StrsN y ly W) (k : Nat) : StrsN (one2 x y k) (one2 lx ly k) W := by
  unfold one2
  split
  · exact hx
  · exact hy
/-- What the calls of the strings that are hashed leave. -/
def AllF (B : Nat) (c h c2 h2 : List Bytes) : Nat → Value → World → Prop := fun k v W =>
  OwnS B W v (if k = 1 then c else if k = 2 then h else if k = 4 then c2 else if k = 5 then h2 else h ++ h2)
theorem allF_kept {B k : Nat} {c h c2 h2 : List Bytes} {v : Value} {W W' : World} {cc : Option Nat} (hF : AllF B c h c2 h2 k v W) (hg : W.grownBy W' cc) (hc : ∀ g, cc = some g → v.ownBlock ≠ some g) : AllF B c h c2 h2 k v W' := rowS_kept hF hg hc
end Go.Proofs.YthfenbdlolbikaaGreatDoor
