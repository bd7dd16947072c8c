import Derived.Test.YthfenbdlolbikaaGreatDoorMLogB
import Derived.Test.YthfenbdlolbikaaGreatDoorMTreeB
set_option linter.unusedVariables false
set_option linter.unusedSimpArgs false

section
/- logbook: back and its iterator. -/
namespace Go.Proofs.YthfenbdlolbikaaGreatDoor
open Go.RowKit Go.Shelf
attribute [local go_sem] Oper.semAt_some

theorem gback_any (o : Int) (v : Value) (hv : ∃ a n c, v = .slice a n c) (w : World) :
    Calls Tryz.prog 74 #[bookV o v] w fun e w' => e = .returned (.func (.func 98) #[] #[.pointer (some ⟨w.heap.size, 0, none⟩)]) ∧ w' = w.alloc (.cells #[.int .i64 o, v] 25) := by
  obtain ⟨a, n, c, rfl⟩ := hv
  go_enter Tryz.func74, Tryz.ntmps74
  go_wp2
  go_ret
  exact ⟨rfl, rfl⟩
/-- The parts of the records. -/
def gA (l : List LRec) (i : Nat) : Int := (l.getD i default).sec
def gK (l : List LRec) (i : Nat) : Int := (l.getD i default).kind
def gP (l : List LRec) (i : Nat) : Int := (l.getD i default).a
def gQ (l : List LRec) (i : Nat) : Int := (l.getD i default).b
def gT (l : List LRec) (i : Nat) : ByteArray := bs (l.getD i default).text
/-- The cells of a slice of records. -/
def GCells (W : World) (gb off m : Nat) (l : List LRec) : Prop := ∀ i, i < m → W.cell? ⟨gb, off + i * 5, none⟩ = some (.int .i64 (gA l i)) ∧ W.cell? ⟨gb, off + i * 5 + 1, none⟩ = some (.int .i64 (gK l i)) ∧ W.cell? ⟨gb, off + i * 5 + 2, none⟩ = some (.int .i64 (gP l i)) ∧ W.cell? ⟨gb, off + i * 5 + 3, none⟩ = some (.int .i64 (gQ l i)) ∧ W.cell? ⟨gb, off + i * 5 + 4, none⟩ = some (.string (gT l i))
theorem GCells.of_heap {W W' : World} {gb off m : Nat} {l : List LRec} (h : GCells W gb off m l) (hb : W'.heap[gb]? = W.heap[gb]?) : GCells W' gb off m l := fun i hi => by
  have := h i hi
  simp only [World.cell?] at this ⊢
  rw [hb]
  exact this
theorem RecsAt.gcells {B : Nat} {W : World} {a : Option Addr} {n c : Nat} {l : List LRec} (h : RecsAt B W (.slice a n c) l) (hz : 0 < B) : ∃ gb off, (0 < l.length → a = some ⟨gb, off, none⟩) ∧ gb < B ∧ GCells W gb off l.length l := by
  obtain ⟨a', c', he, h1, h2, h3⟩ := h
  injection he with e1 e2 e3
  subst e1
  by_cases hp : 0 < l.length
  · obtain ⟨b, off, ha, hb, hc⟩ := h3 hp
    exact ⟨b, off, fun _ => ha, hb, fun i hi => hc i hi⟩
  · exact ⟨0, 0, fun h => absurd h hp, hz, fun i hi => by omega⟩
theorem logBox_of {W W' : World} {n : Nat} {o : Int} {rv : Value} (h : LogBox W n o rv) (hb : W'.heap[n]? = W.heap[n]?) : LogBox W' n o rv := hb.trans h
set_option maxRecDepth 100000 in
set_option maxHeartbeats 1000000 in
theorem gback1_seq (n Bs gb off m C : Nat) (o : Int) (a : Option Addr) (l : List LRec) (Kp : World → World → Prop) (w : World) (hs : LogBox w Bs o (.slice a m C)) (hm : m ≤ 1099511627776)
    (ha : 0 < m → a = some ⟨gb, off, none⟩) (hgb : gb < w.heap.size) (hc : GCells w gb off m l) (hKs : ∀ A B, Kp A B → B.heap[Bs]? = A.heap[Bs]?) (hKg : ∀ A B, Kp A B → B.heap[gb]? = A.heap[gb]?) :
    SeqStopsK Fence.wide n Tryz.prog 98 #[.pointer (some ⟨Bs, 0, none⟩)] (fun i : Fin m => #[.int .i64 (i.1 : Int), .agg #[.int .i64 (gA l i.1), .int .i64 (gK l i.1), .int .i64 (gP l i.1), .int .i64 (gQ l i.1), .string (gT l i.1)]]) Kp (fun xs => xs = dn m m) (fun xs => ∃ j, j ≤ m ∧ xs = dn m j) m w := by
  intro L J Jx W hW hJ _ hY h0
  have hs1 : LogBox W Bs o (.slice a m C) := logBox_of hs (hW.block _ hs.lt)
  have hc1 : GCells W gb off m l := hc.of_heap (hW.block _ hgb)
  have HY := Lib.hid hY
  have HKs := Lib.hid hKs
  have HKg := Lib.hid hKg
  have HC1 := Lib.hid hc1
  have HA := Lib.hid ha
  clear hY hJ hs hW hKs hKg hc hc1 ha
  refine callsIn_of_wp Tryz.func98 rfl trivial ?_
  simp only [Tryz.ntmps98, List.size_toArray, List.length_cons, List.length_nil, Nat.reduceAdd, Nat.reduceSub, Array.replicate_succ, Array.replicate_zero, List.push_toArray, List.append_toArray, List.nil_append, List.cons_append]
  have cs := hs1.c1
  gi_wp2
  clear cs
  gi_loopw [3] (fun u wr => ∃ i : Nat, i ≤ m ∧ u = .int .i64 ((i : Int) - 1) ∧ LogBox wr Bs o (.slice a m C) ∧ GCells wr gb off m l ∧ J (dn m (m - i)) wr) (fun u _ => (intOf u + 1).toNat)
  case atStart => exact ⟨m, Nat.le_refl _, rfl, hs1, HC1.out, by rw [Nat.sub_self]; exact h0⟩
  case round =>
    clear HC1 hs1
    obtain ⟨i, hi, rfl, hs2, hc2, hJ2⟩ := hrel
    have HS2 := Lib.hid hs2
    have HC2 := Lib.hid hc2
    have cs := hs2.c1
    clear hs2 hc2
    rcases Nat.eq_zero_or_pos i with hi0 | hi0
    · subst hi0
      gi_wp2
      go_end0
      exact ⟨⟨_, rfl⟩, .inl ⟨_, rfl, hJ2⟩⟩
    · obtain ⟨q, rfl⟩ : ∃ q, i = q + 1 := ⟨i - 1, by omega⟩
      rw [show (((q + 1 : Nat) : Int) - 1) = (q : Int) by omega]
      have hqm : q < m := by omega
      obtain ⟨c0, c1, c2, c3, c4⟩ := HC2.out q hqm
      have haa := HA.out (by omega)
      subst haa
      have hqq : (q : Int) < (m : Int) := by omega
      have HD := Lib.hid (dn_succ m (m - (q + 1)) (by omega))
      rw [show m - (q + 1) + 1 = m - q from by omega] at HD
      have HE : Hid ((⟨m - 1 - (m - (q + 1)), by omega⟩ : Fin m) = ⟨q, hqm⟩) := by show _ = _; exact Fin.ext (by show m - 1 - (m - (q + 1)) = q; omega)
      rw [HE.out] at HD
      obtain ⟨fn, tmps, assign, body, hyi, hR⟩ := HY.out (dn m (m - (q + 1))) ⟨q, hqm⟩ wr hJ2 (by rw [dn_length m _ (by omega)]; omega)
      try dsimp only at hyi
      gi_wp2
      refine ⟨(fun h => by cases h), hR.mono ?_⟩
      rintro e W3 (⟨rfl, hJ3, hk3⟩ | ⟨rfl, hJx3⟩)
      · have HS3 := Lib.hid (logBox_of HS2.out (HKs.out _ _ hk3))
        have HC3 := Lib.hid (HC2.out.of_heap (HKg.out _ _ hk3))
        clear cs c0 c1 c2 c3 c4
        gi_wp2
        go_roundw
        case rel => exact ⟨q, by omega, by go_num, HS3.out, HC3.out, by rw [HD.out]; exact hJ3⟩
        case measure => simp [intOf]
      · gi_wp2
        refine bodyPost_ret (results_none rfl _ _ _) rfl ?_
        exact ⟨⟨_, rfl⟩, .inr ⟨_, ⟨m - q, by omega, HD.out.symm⟩, hJx3⟩⟩
end Go.Proofs.YthfenbdlolbikaaGreatDoor
end

section
/- logbook.Find. -/
namespace Go.Proofs.YthfenbdlolbikaaGreatDoor
open Go.RowKit Go.Shelf
attribute [local go_sem] Oper.semAt_some

theorem find_dn (r : List LRec) (k s : Int) (m : Nat) : ∀ j, j ≤ m → (∀ x ∈ dn m j, hitB r k s x.1 = false) → findDn r k s m = findDn r k s (m - j)
  | 0, _, _ => rfl
  | j + 1, hj, h => by
    rw [dn_succ m j (by omega)] at h
    rw [find_dn r k s m j (by omega) fun x hx => h x (by simp [hx])]
    have := h ⟨m - 1 - j, by omega⟩ (by simp)
    rw [show m - j = (m - (j + 1)) + 1 from by omega]
    unfold findDn
    rw [show m - (j + 1) = m - 1 - j from by omega, this]
    simp only [Bool.false_eq_true, if_false]
    cases hz : m - 1 - j <;> rfl
theorem find_all (r : List LRec) (k s : Int) (m : Nat) (h : ∀ x ∈ dn m m, hitB r k s x.1 = false) : findDn r k s m = -1 := by
  rw [find_dn r k s m m (Nat.le_refl _) h, Nat.sub_self]
  rfl
theorem find_hit (r : List LRec) (k s : Int) (m j : Nat) (hj : j ≤ m) {pre : List (Fin m)} {x : Fin m} (he : pre ++ [x] = dn m j) (h : ∀ y ∈ pre, hitB r k s y.1 = false) (hx : hitB r k s x.1 = true) : findDn r k s m = (x.1 : Int) := by
  obtain ⟨i, rfl⟩ : ∃ i, j = i + 1 := by
    cases j with
    | zero => simp [dn] at he
    | succ i => exact ⟨i, rfl⟩
  rw [dn_succ m i (by omega)] at he
  obtain ⟨e1, e2⟩ := List.append_inj' he rfl
  subst e1
  have e3 : x = ⟨m - 1 - i, by omega⟩ := by simpa using e2
  rw [find_dn r k s m i (by omega) h, show m - i = (m - 1 - i) + 1 from by omega]
  unfold findDn
  rw [e3] at hx ⊢
  simp only at hx ⊢
  rw [hx]
  rfl
theorem grown_wide {W W' : World} (h : W.grownBy W' none) (r : Option Nat) : W.grownBy W' r := ⟨h.os, h.tape, h.output, h.size, fun k hk _ => h.block k hk (by simp)⟩
/-- Between two rounds of Find. -/
def FindI (l : List LRec) (k s : Int) (m : Nat) (W0 : World) (pre : List (Fin m)) (W : World) : Prop := W0.grownBy W none ∧ ∀ x ∈ pre, hitB l k s x.1 = false
/-- When Find has found. -/
def FindX (l : List LRec) (k s : Int) (m H : Nat) (W0 : World) (c : Code) (pre : List (Fin m)) (W : World) : Prop :=
  c = .ret ∧ W0.grownBy W (some H) ∧ ∃ pre0 x, pre = pre0 ++ [x] ∧ (∀ y ∈ pre0, hitB l k s y.1 = false) ∧ hitB l k s x.1 = true ∧ W.heap[H]? = some (.cells #[.int .i64 (x.1 : Int)] 3 (0, 0))
theorem findI_own (l : List LRec) (k s : Int) (m B : Nat) (W0 : World) (hB : W0.heap.size ≤ B) : OwnFrom B (FindI l k s m W0) := by
  intro p W W' row h hg hr
  refine ⟨World.grownBy.andThen h.1 hg fun j hj => .inl ?_, h.2⟩
  have := (hr j hj).1
  omega
theorem findX_own (l : List LRec) (k s : Int) (m H B : Nat) (W0 : World) (hB : W0.heap.size ≤ B) (hH : H < B) (c : Code) : OwnFrom B (FindX l k s m H W0 c) := by
  rintro p W W' row ⟨h1, h2, pre0, x, h3, h4, h5, h6⟩ hg hr
  refine ⟨h1, World.grownBy.andThen h2 hg fun j hj => .inl ?_, pre0, x, h3, h4, h5, (hg.block H (Array.getElem?_eq_some_iff.1 h6).1 fun e => ?_).trans h6⟩
  · have := (hr j hj).1
    omega
  · have := (hr H e.symm).1
    omega
/-- Where the loop's variables lie. -/
def FindAx (l : List LRec) (M H : Nat) (fr : Fin M → Nat → Act) (x : Fin M) (a' : Act) (W : World) : Prop := ∃ Bx, H ≤ Bx ∧ W.heap[Bx]? = some (.cells #[.int .i64 (gA l x.1), .int .i64 (gK l x.1), .int .i64 (gP l x.1), .int .i64 (gQ l x.1), .string (gT l x.1)] 48 (0, 0)) ∧ a' = fr x Bx
theorem findAx_own (l : List LRec) (M H B : Nat) (fr : Fin M → Nat → Act) (x : Fin M) (a' : Act) : OwnFrom B (fun (_ : Unit) W => FindAx l M H fr x a' W) := by
  rintro u W W' row ⟨Bx, h1, h2, h3⟩ hg hr
  refine ⟨Bx, h1, (hg.block Bx (Array.getElem?_eq_some_iff.1 h2).1 fun e => ?_).trans h2, h3⟩
  obtain ⟨_, o, ho, hc⟩ := hr Bx e.symm
  rw [h2] at ho
  cases ho
  cases hc
set_option maxRecDepth 100000 in
set_option maxHeartbeats 2000000 in
theorem find_any (o : Int) (rv : Value) (l : List LRec) (k s : Int) (w : World) (hR : RecsAt w.heap.size w rv l) (hl : l.length ≤ 1000000) (hz : 0 < w.heap.size) :
    Calls Tryz.prog 36 #[bookV o rv, .int .i64 k, .int .i64 s] w fun e w' => e = .returned (.int .i64 (findB ⟨o, l⟩ k s)) ∧ Below w.heap.size w w' := by
  obtain ⟨ra, rc, rfl, hrc, hrm⟩ := hR.shape
  unfold maxLen at hrm
  obtain ⟨gb, off, ha, hgb, hcells⟩ := hR.gcells hz
  have HR := Lib.hid hR
  have HA := Lib.hid ha
  have HC := Lib.hid hcells
  have HF : Hid (findB ⟨o, l⟩ k s = if bookB ⟨o, l⟩ then findDn l k s l.length else -1) := rfl
  clear hR ha hcells
  generalize hm : l.length = m at *
  have HM := Lib.hid hm
  clear hm
  refine (callsIn_wide (n := 4)).1 ?_
  refine callsIn_of_wp_marks Tryz.func36 rfl trivial ?_
  simp only [Tryz.ntmps36, List.size_toArray, List.length_cons, List.length_nil, Nat.reduceAdd, Nat.reduceSub, Array.replicate_succ, Array.replicate_zero, List.push_toArray, List.append_toArray, List.nil_append, List.cons_append]
  refine wpIn_wide.2 ?_
  go_wp2_with fail
  obtain ⟨W0, hW0⟩ : ∃ W0, W0 = (((w.alloc (.cells #[.int .i64 o, .slice ra m rc] 25)).alloc (.cells #[.int .i64 k] 3)).alloc (.cells #[.int .i64 s] 3)).alloc (.cells #[.int .i64 0] 3) := ⟨_, rfl⟩
  have hb0 : Below w.heap.size w W0 := by rw [hW0]; exact ((((Below.refl _ _).alloc (Nat.le_refl _) _).alloc (by simp) _).alloc (by simp; omega) _).alloc (by simp; omega) _
  have hsz0 : W0.heap.size = w.heap.size + 4 := by rw [hW0]; simp
  have hL0 : LogBox W0 w.heap.size o (.slice ra m rc) := by rw [hW0]; exact (logBox_new w o (.slice ra m rc)).below ((((Below.refl (w.heap.size + 1) _).alloc (by simp) _).alloc (by simp) _).alloc (by simp) _) (by omega)
  have hk0 : Boxed W0 (w.heap.size + 1) 3 (.int .i64 k) := by
    rw [hW0]
    have := ((Boxed.new (w.alloc (.cells #[.int .i64 o, .slice ra m rc] 25)) 3 (.int .i64 k)).alloc (.cells #[.int .i64 s] 3)).alloc (.cells #[.int .i64 0] 3)
    rwa [World.size_alloc] at this
  have hs0 : Boxed W0 (w.heap.size + 2) 3 (.int .i64 s) := by
    rw [hW0]
    have := (Boxed.new ((w.alloc (.cells #[.int .i64 o, .slice ra m rc] 25)).alloc (.cells #[.int .i64 k] 3)) 3 (.int .i64 s)).alloc (.cells #[.int .i64 0] 3)
    rwa [World.size_alloc, World.size_alloc] at this
  have hr0 : Boxed W0 (w.heap.size + 3) 3 (.int .i64 0) := by
    rw [hW0]
    have := Boxed.new (((w.alloc (.cells #[.int .i64 o, .slice ra m rc] 25)).alloc (.cells #[.int .i64 k] 3)).alloc (.cells #[.int .i64 s] 3)) 3 (.int .i64 0)
    rwa [World.size_alloc, World.size_alloc, World.size_alloc] at this
  rw [← hW0]
  simp only [Nat.add_assoc, Nat.reduceAdd]
  clear hW0
  refine (valid_any o _ l W0 (HR.out.later hb0 (Nat.le_refl _))).mono ?_
  rintro e W1 ⟨rfl, hb1⟩
  have hL1 := hL0.below hb1 hL0.lt
  have hk1 : Boxed W1 (w.heap.size + 1) 3 (.int .i64 k) := (hb1.block _ hk0.lt).trans hk0
  have hs1 : Boxed W1 (w.heap.size + 2) 3 (.int .i64 s) := (hb1.block _ hs0.lt).trans hs0
  have hr1 : Boxed W1 (w.heap.size + 3) 3 (.int .i64 0) := (hb1.block _ hr0.lt).trans hr0
  have hz1 := hb1.size
  have hB1 := hb0.trans (hb1.mono (by omega))
  have HB1 := Lib.hid hB1
  have HK1 := Lib.hid hk1
  have HS1 := Lib.hid hs1
  have HR1 := Lib.hid hr1
  have HC1 := Lib.hid (HC.out.of_heap (hB1.block _ hgb))
  clear hL0 hk0 hs0 hr0 hb0 hb1 hk1 hs1 hB1
  cases hv : bookB ⟨o, l⟩
  · have HF2 : Hid (findB ⟨o, l⟩ k s = -1) := by show _ = _; rw [HF.out, hv]; rfl
    have r0 := hr1.cell
    have f0 := hr1.frozen
    have hset := hr1.set (.int .i64 (-1))
    clear hr1 hL1
    go_wp2
    refine leaves_marks (B := w.heap.size) [] _ ⟨by simp, by simp⟩ fun W9 hb' hk' => ?_
    have c9 : W9.cell? ⟨w.heap.size + 3, 0, none⟩ = some (.int .i64 (-1)) := (show Boxed W9 (w.heap.size + 3) 3 (.int .i64 (-1)) from hk' _ _ hset rfl).cell
    exact ⟨.int .i64 (-1), by simp [results, Tryz.results36, go_sem, c9], by rw [HF2.out], (HB1.out.setCell (p := ⟨w.heap.size + 3, 0, none⟩) (by simp) _).trans hb'⟩
  · have HF2 : Hid (findB ⟨o, l⟩ k s = findDn l k s m) := by show _ = _; rw [HF.out, hv]; rfl
    have e0 := hL1.c0
    have e1 := hL1.c1
    clear hr1 hL1
    go_wp2_with (go_at_call 74; refine (gback_any _ _ ⟨_, _, _, rfl⟩ _).mono ?_; rintro e w' ⟨rfl, rfl⟩)
    obtain ⟨W2, hW2⟩ : ∃ W2, W2 = W1.alloc (.cells #[.int .i64 o, .slice ra m rc] 25) := ⟨_, rfl⟩
    have hbs : LogBox W2 W1.heap.size o (.slice ra m rc) := by rw [hW2]; exact logBox_new W1 o _
    have hb2 : Below W1.heap.size W1 W2 := by rw [hW2]; exact (Below.refl _ _).alloc (Nat.le_refl _) _
    have hzr : W2.heap.size = W1.heap.size + 1 := by rw [hW2]; simp
    rw [← hW2]
    clear hW2
    have hk2 : Boxed W2 (w.heap.size + 1) 3 (.int .i64 k) := (hb2.block _ HK1.out.lt).trans HK1.out
    have hs2 : Boxed W2 (w.heap.size + 2) 3 (.int .i64 s) := (hb2.block _ HS1.out.lt).trans HS1.out
    have hr2 : Boxed W2 (w.heap.size + 3) 3 (.int .i64 0) := (hb2.block _ HR1.out.lt).trans HR1.out
    have hc2 : GCells W2 gb off m l := HC1.out.of_heap (hb2.block _ (by omega))
    have hB2 := Lib.hid (HB1.out.trans (hb2.mono (by omega)))
    have HK2 := Lib.hid hk2
    have HS2 := Lib.hid hs2
    have HR2 := Lib.hid hr2
    clear hk2 hs2 hr2 hb2 e0 e1 HK1 HS1 HR1 HC1 HB1
    refine (wpIn_wide (n := 4)).1 ?_
    refine wpIn_rangeFunc_ownH rfl (by omega) (gf := 98) (lb := #[.pointer (some ⟨W1.heap.size, 0, none⟩)]) rfl trivial (enters_of Tryz.func98 (by kernel_rfl) rfl)
      (gback1_seq _ W1.heap.size gb off m rc o ra l (KpBut W2.heap.size (w.heap.size + 3)) W2 hbs (by omega) HA.out (by omega) hc2 (fun A B h => h _ (by omega) (by omega)) (fun A B h => h _ (by omega) (by omega))) kpBut_t (kpBut_b (Nat.le_refl _)) (Below.refl _ _) (fun _ => rfl)
      (FindI l k s m W2) (FindX l k s m (w.heap.size + 3) W2) (findI_own _ _ _ _ _ _ (Nat.le_refl _)) (fun c => findX_own _ _ _ _ _ _ _ (Nat.le_refl _) (by omega) c)
      ⟨World.grownBy.refl _ _, fun x hx => by simp at hx⟩ (FindAx l m W2.heap.size ?fr) (findAx_own _ _ _ _ _) ?assign ?body ?done ?stop
    case assign =>
      rintro l' pre x W' K ⟨hG, hmiss⟩ hK
      have hzG := hG.size
      gi_wp2
      obtain ⟨Bx, hBx⟩ : ∃ Bx, Bx = W'.heap.size := ⟨_, rfl⟩
      have hnew : (W'.alloc (.cells #[.int .i64 (gA l x.1), .int .i64 (gK l x.1), .int .i64 (gP l x.1), .int .i64 (gQ l x.1), .string (gT l x.1)] 48)).heap[Bx]? = some (.cells #[.int .i64 (gA l x.1), .int .i64 (gK l x.1), .int .i64 (gP l x.1), .int .i64 (gQ l x.1), .string (gT l x.1)] 48 (0, 0)) := by rw [hBx]; exact heap_alloc_new W' _
      have hle : W2.heap.size ≤ Bx := by omega
      rw [← hBx]
      have hK2 := hK _ (W'.alloc (.cells #[.int .i64 (gA l x.1), .int .i64 (gK l x.1), .int .i64 (gP l x.1), .int .i64 (gQ l x.1), .string (gT l x.1)] 48)) ((KeepsOthers.alloc _ _).from _) (fun k hk _ => Below.heap_alloc _ _ _ (by omega)) ⟨World.grownBy.andThen hG (World.grownBy_alloc _ _ none) (fun j hj => by cases hj), hmiss⟩ ⟨Bx, hle, hnew, rfl⟩
      exact hK2
    case body =>
      rintro l' pre ⟨x, hx⟩ a' W' hl' ⟨r, hr⟩ ⟨hG, hmiss⟩ ⟨Bx, hle, hblk, ha'⟩ hlt
      subst ha'
      dsimp only at hblk ⊢
      have hzG := hG.size
      have hH : Hid (hitB l k s x = (decide (gK l x = k) && decide (gA l x ≤ s))) := rfl
      have c0 : W'.cell? ⟨Bx, 0, none⟩ = some (.int .i64 (gA l x)) := cell_of_row _ Bx 0 _ _ _ hblk
      have c1 : W'.cell? ⟨Bx, 1, none⟩ = some (.int .i64 (gK l x)) := cell_of_row _ Bx 1 _ _ _ hblk
      have k0 := (HK2.out.kept hG (by simp)).cell
      have k1 := (HS2.out.kept hG (by simp)).cell
      have hr' := HR2.out.kept hG (by simp)
      have r0 := hr'.cell
      have f0 := hr'.frozen
      have HRx := Lib.hid hr'
      have HG := Lib.hid hG
      have HMs := Lib.hid hmiss
      clear hG hblk hr' hmiss
      generalize gA l x = A at *
      generalize gK l x = KK at *
      by_cases h1 : KK = k
      · have d1 : (KK == k) = true := by simp [h1]
        by_cases h2 : A ≤ s
        · have d2 : decide (A ≤ s) = true := by simp [h2]
          have HT : Hid (hitB l k s x = true) := by show _ = _; rw [hH.out, h1, d2]; simp
          have hg3 : W'.grownBy (W'.setCell ⟨w.heap.size + 3, 0, none⟩ (.int .i64 (x : Int))) (some (w.heap.size + 3)) := grownBy_setCell' _ _ _
          have HG3 := Lib.hid hg3
          have hset := Lib.hid (HRx.out.set (.int .i64 (x : Int)))
          clear hg3
          gi_wp2
          exact ⟨KeepsFrom.of_grownBy HG3.out (fun j hj => by cases hj; omega), rfl, World.grownBy.andThen (grown_wide HG.out _) HG3.out (fun j hj => .inr (by cases hj; rfl)), pre, ⟨x, hx⟩, rfl, HMs.out, HT.out, hset.out⟩
        · have d2 : decide (A ≤ s) = false := by simp; omega
          have HT : Hid (hitB l k s x = false) := by show _ = _; rw [hH.out, d2, Bool.and_false]
          gi_wp2
          exact ⟨KeepsFrom.of_grownBy (World.grownBy.refl _ none) (fun j hj => by cases hj), fun _ _ _ => rfl, HG.out, fun y hy => by
            rcases List.mem_append.1 hy with hy | hy
            · exact HMs.out y hy
            · rw [List.mem_singleton.1 hy]; exact HT.out⟩
      · have d1 : (KK == k) = false := by simp [h1]
        have HT : Hid (hitB l k s x = false) := by show _ = _; rw [hH.out, decide_eq_false h1]; rfl
        gi_wp2
        exact ⟨KeepsFrom.of_grownBy (World.grownBy.refl _ none) (fun j hj => by cases hj), fun _ _ _ => rfl, HG.out, fun y hy => by
          rcases List.mem_append.1 hy with hy | hy
          · exact HMs.out y hy
          · rw [List.mem_singleton.1 hy]; exact HT.out⟩
    case done =>
      rintro D xs W' hD rfl ⟨hG, hmiss⟩ hK
      have hzG := hG.size
      have HF3 : Hid (findB ⟨o, l⟩ k s = -1) := by show _ = _; rw [HF2.out]; exact find_all l k s m hmiss
      have hr' := HR2.out.kept hG (by simp)
      have r0 := hr'.cell
      have f0 := hr'.frozen
      have HSet := Lib.hid (hr'.set (.int .i64 (-1)))
      have HAll := Lib.hid ((hB2.out.grown hG (by omega) (fun k hk => by cases hk)).setCell (p := ⟨w.heap.size + 3, 0, none⟩) (by simp) (.int .i64 (-1)))
      have HKD := Lib.hid ((heap_set_ne W' (show D ≠ w.heap.size + 3 by omega) 0 (.int .i64 (-1))).trans hK)
      clear hG hmiss hK hr' HF2
      go_wp2
      have hKD := HKD.out
      refine leaves_marks (B := w.heap.size) [D] _ ⟨by simp, fun D' hD' => ?_⟩ fun W9 hb' hk' => ?_
      · rw [List.mem_singleton.1 hD']
        exact ⟨by omega, hKD⟩
      · have c9 : W9.cell? ⟨w.heap.size + 3, 0, none⟩ = some (.int .i64 (-1)) := (show Boxed W9 (w.heap.size + 3) 3 (.int .i64 (-1)) from hk' _ _ HSet.out rfl).cell
        exact ⟨.int .i64 (-1), by simp [results, Tryz.results36, go_sem, c9], by rw [HF3.out], HAll.out.trans hb'⟩
    case stop =>
      rintro D c pre W' hD ⟨j, hj, he⟩ ⟨rfl, hG, pre0, x, rfl, h1, h2, h3⟩ hK
      have HF3 : Hid (findB ⟨o, l⟩ k s = (x.1 : Int)) := by show _ = _; rw [HF2.out]; exact find_hit l k s m j hj he h1 h2
      have HAll := Lib.hid (hB2.out.grown hG (by omega) (fun k hk => by cases hk; omega))
      have HX3 := Lib.hid h3
      have HKD := Lib.hid hK
      clear hG h1 h2 h3 hK HF2 he
      generalize x.1 = xi at *
      gi_wp2
      refine leaves_marks (B := w.heap.size) [D] W' ⟨by simp, fun D' hD' => ?_⟩ fun W9 hb' hk' => ?_
      · rw [List.mem_singleton.1 hD']
        exact ⟨by omega, HKD.out⟩
      · have c9 : W9.cell? ⟨w.heap.size + 3, 0, none⟩ = some (.int .i64 (xi : Int)) := (show Boxed W9 (w.heap.size + 3) 3 (.int .i64 (xi : Int)) from hk' _ _ HX3.out rfl).cell
        exact ⟨.int .i64 (xi : Int), by simp [results, Tryz.results36, go_sem, c9], by rw [HF3.out], HAll.out.trans hb'⟩
end Go.Proofs.YthfenbdlolbikaaGreatDoor
end
