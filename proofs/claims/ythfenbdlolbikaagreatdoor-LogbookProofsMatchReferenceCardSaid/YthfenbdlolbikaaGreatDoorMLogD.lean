import Derived.Test.YthfenbdlolbikaaGreatDoorMLogC
import Derived.Test.YthfenbdlolbikaaGreatDoorMCalm
import Derived.Deep.OwnRows
import Derived.Test.YthfenbdlolbikaaGreatDoorMTreeB
set_option linter.unusedVariables false
set_option linter.unusedSimpArgs false

section
/- logbook: codes. -/
namespace Go.Proofs.YthfenbdlolbikaaGreatDoor
open Go.RowKit Go.Shelf
attribute [local go_sem] Oper.semAt_some

/-- The cells of the encodings when these places have been written. -/
def codeCells (l : List LRec) (m : Nat) (pre : List (Fin m)) : Array Value := ((List.range m).map fun i => if i ∈ pre.map (·.1) then Value.string (bs (encR (l.getD i default))) else .string (⟨#[]⟩ : ByteArray)).toArray
theorem codeCells_size (l : List LRec) (m : Nat) (pre : List (Fin m)) : (codeCells l m pre).size = m := by simp [codeCells]
theorem codeCells_get (l : List LRec) (m : Nat) (pre : List (Fin m)) (i : Nat) (hi : i < m) : ∃ s, (codeCells l m pre)[i]? = some (.string s) := by
  unfold codeCells
  simp [hi]
  split <;> exact ⟨_, rfl⟩
theorem codeCells_snoc (l : List LRec) (m : Nat) (pre : List (Fin m)) (x : Fin m) : (codeCells l m pre).setIfInBounds x.1 (.string (bs (encR (l.getD x.1 default)))) = codeCells l m (pre ++ [x]) := by
  apply Array.ext_getElem?
  intro i
  rw [Array.getElem?_setIfInBounds]
  unfold codeCells
  by_cases hi : x.1 = i
  · subst hi
    simp
  · rw [if_neg hi]
    by_cases him : i < m
    · simp [him, Ne.symm hi]
    · simp [him]
theorem codeCells_nil (l : List LRec) (m : Nat) : codeCells l m [] = madeCells #[.string (⟨#[]⟩ : ByteArray)] m := by
  apply Array.ext'
  rw [toList_madeCells_one]
  apply List.ext_getElem?
  intro i
  unfold codeCells
  by_cases hi : i < m <;> simp [hi, List.getElem?_replicate]
theorem dn_mem (m : Nat) (i : Nat) (hi : i < m) : i ∈ (dn m m).map (·.1) := by
  rw [List.mem_map]
  refine ⟨⟨i, hi⟩, ?_, rfl⟩
  unfold dn
  rw [List.mem_filterMap]
  refine ⟨m - 1 - i, List.mem_range.2 (by omega), ?_⟩
  rw [dif_pos (by omega)]
  congr 1
  exact Fin.ext (by show m - 1 - (m - 1 - i) = i; omega)
theorem codeCells_all (l : List LRec) (m : Nat) (hm : l.length = m) : (codeCells l m (dn m m)).toList = (l.map encR).map (fun b => Value.string (bs b)) := by
  unfold codeCells
  apply List.ext_getElem?
  intro i
  by_cases hi : i < m
  · have := dn_mem m i hi
    rw [show ((List.range m).map fun i => if i ∈ (dn m m).map (·.1) then Value.string (bs (encR (l.getD i default))) else .string (⟨#[]⟩ : ByteArray)).toArray.toList = (List.range m).map fun i => if i ∈ (dn m m).map (·.1) then Value.string (bs (encR (l.getD i default))) else .string (⟨#[]⟩ : ByteArray) from rfl]
    rw [List.getElem?_map, List.getElem?_range hi, Option.map_some, if_pos this, List.getElem?_map, List.getElem?_map, List.getElem?_eq_getElem (by omega)]
    simp [List.getD_eq_getElem?_getD, List.getElem?_eq_getElem (show i < l.length by omega)]
  · simp [hi, hm]
/-- What codes returns. -/
def codesE (b : LBook) : List Bytes := if bookB b then codesL b else []
/-- Between two rounds of codes. -/
def CodesI (l : List LRec) (m g : Nat) (W0 : World) (pre : List (Fin m)) (W : World) : Prop := W0.grownBy W (some g) ∧ W.heap[g]? = some (.cells (codeCells l m pre) 9 (0, 0))
theorem codesI_own (l : List LRec) (m g B : Nat) (W0 : World) (hB : W0.heap.size ≤ B) (hg : g < B) : OwnFrom B (CodesI l m g W0) := by
  intro p W W' row h hgr hr
  refine ⟨World.grownBy.andThen h.1 hgr fun j hj => .inl ?_, (hgr.block g (Array.getElem?_eq_some_iff.1 h.2).1 fun e => ?_).trans h.2⟩
  · have := (hr j hj).1
    omega
  · have := (hr g e.symm).1
    omega
/-- What the steps of the region leave. -/
def CodeF (m G : Nat) (c0 c1 : Array Value) (Z : Bytes) : Nat → Value → World → Prop := fun k v W =>
  if k = 0 then v = .slice (some ⟨G, 0, none⟩) m m ∧ W.heap[G]? = some (.cells c0 9 (0, 0))
  else if k = 3 then v = .tuple #[.string (bs Z), .int .i64 0]
  else W.heap[G]? = some (.cells c1 9 (0, 0))
theorem codeF_kept {m G k : Nat} {c0 c1 : Array Value} {Z : Bytes} {v : Value} {W W' : World} {c : Option Nat} (hk : [0, 3, 8].contains k = true) (h : CodeF m G c0 c1 Z k v W) (hg : W.grownBy W' c)
    (hc : ∀ g, c = some g → v.ownBlock ≠ some g ∧ ¬ k = 8) : CodeF m G c0 c1 Z k v W' := by
  unfold CodeF at h ⊢
  split at h
  · rename_i hk0
    rw [if_pos hk0]
    obtain ⟨rfl, h2⟩ := h
    exact ⟨rfl, (hg.block G (Array.getElem?_eq_some_iff.1 h2).1 fun e => (hc G e.symm).1 rfl).trans h2⟩
  · rename_i hk0
    rw [if_neg hk0]
    split at h
    · rename_i hk3
      rw [if_pos hk3]
      exact h
    · rename_i hk3
      rw [if_neg hk3]
      refine (hg.block G (Array.getElem?_eq_some_iff.1 h).1 fun e => (hc G e.symm).2 ?_).trans h
      rcases (by simpa using hk : k = 0 ∨ k = 3 ∨ k = 8) with h | h | h
      · exact (hk0 h).elim
      · exact (hk3 h).elim
      · exact h
theorem wp_of_skip {P : Program} {o : Oper} {a : Act} {w w' : World} {K : Act → World → Prop} {Q : Exit → Act → World → Prop} (h : (execOp a.eval o).run P w = .ok .skip w') (hk : K (a.put o.dst undef) w') : o.wp P a w K Q := by
  unfold Oper.wp
  rw [h]
  exact hk
set_option maxRecDepth 100000 in
set_option maxHeartbeats 4000000 in
theorem codes_any (o : Int) (rv : Value) (l : List LRec) (w : World) (hR : RecsAt w.heap.size w rv l) (hl : l.length ≤ 1000000) (hz : 0 < w.heap.size) :
    Calls Tryz.prog 40 #[bookV o rv] w fun e w' => ∃ v, e = .returned (.tuple #[v, .bool (bookB ⟨o, l⟩)]) ∧ OwnS w.heap.size w' v (codesE ⟨o, l⟩) ∧ Below w.heap.size w w' := by
  obtain ⟨ra, rc, rfl, hrc, hrm⟩ := hR.shape
  unfold maxLen at hrm
  obtain ⟨gb, off, ha, hgb, hcells⟩ := hR.gcells hz
  have HR := Lib.hid hR
  have HA := Lib.hid ha
  have HC := Lib.hid hcells
  clear hR ha hcells
  generalize hm : l.length = m at *
  have HM := Lib.hid hm
  clear hm
  have hmk := fun (W : World) => run_make_row' (P := Tryz.prog) 26 9 (.string (⟨#[]⟩ : ByteArray)) 16 Tryz.underlying26 infoS1 rfl .i64 .i64 m (by omega) (by omega) W
  refine (callsIn_wide (n := 4)).1 ?_
  refine callsIn_of_wp_marks Tryz.func40 rfl trivial ?_
  simp only [Tryz.ntmps40, List.size_toArray, List.length_cons, List.length_nil, Nat.reduceAdd, Nat.reduceSub, Array.replicate_succ, Array.replicate_zero, List.push_toArray, List.append_toArray, List.nil_append, List.cons_append]
  refine wpIn_wide.2 ?_
  go_wp2_with fail
  obtain ⟨W0, hW0⟩ : ∃ W0, W0 = w.alloc (.cells #[.int .i64 o, .slice ra m rc] 25) := ⟨_, rfl⟩
  have hb0 : Below w.heap.size w W0 := by rw [hW0]; exact (Below.refl _ _).alloc (Nat.le_refl _) _
  have hsz0 : W0.heap.size = w.heap.size + 1 := by rw [hW0]; simp
  have hL0 : LogBox W0 w.heap.size o (.slice ra m rc) := by rw [hW0]; exact logBox_new w o (.slice ra m rc)
  rw [← hW0]
  clear hW0
  refine (valid_any o _ l W0 (HR.out.later hb0 (Nat.le_refl _))).mono ?_
  rintro e W1 ⟨rfl, hb1⟩
  have hL1 := hL0.below hb1 hL0.lt
  have hz1 := hb1.size
  have hB1 := hb0.trans (hb1.mono (by omega))
  have HB1 := Lib.hid hB1
  have HC1 := Lib.hid (HC.out.of_heap (hB1.block _ hgb))
  clear hL0 hb0 hb1 hB1
  cases hv : bookB ⟨o, l⟩
  · have HE : Hid (codesE ⟨o, l⟩ = []) := by show _ = _; rw [codesE, hv]; rfl
    clear hL1 hmk
    go_wp2
    refine leaves_marks (B := w.heap.size) [] _ ⟨by simp, by simp⟩ fun W9 hb' _ => ?_
    exact ⟨_, results_tmp2 rfl _ _ _, .slice none 0 0, by rw [hv]; rfl, by rw [HE.out]; exact OwnS.nil _ _, HB1.out.trans hb'⟩
  · have HE : Hid (codesE ⟨o, l⟩ = l.map encR) := by show _ = _; rw [codesE, hv]; rfl
    have hL2 := (hL1.below ((Below.refl W1.heap.size W1).alloc (Nat.le_refl _) (.cells (madeCells #[.string (⟨#[]⟩ : ByteArray)] m) 9)) hL1.lt)
    have hL3 := (hL2.below (B := W1.heap.size + 1) ((Below.refl _ _).alloc (by simp) (.cells #[.slice (some ⟨W1.heap.size, 0, none⟩) m m] 26)) (by have := hL1.lt; omega))
    have d0 := hL1.c0
    have d1 := hL1.c1
    have e0 := hL3.c0
    have e1 := hL3.c1
    have HL3 := Lib.hid hL3
    clear hL1 hL2 hL3
    go_wp2_with (go_at_call 74; refine (gback_any _ _ ⟨_, _, _, rfl⟩ _).mono ?_; rintro e w' ⟨rfl, rfl⟩)
    obtain ⟨G, hG⟩ : ∃ G, G = W1.heap.size := ⟨_, rfl⟩
    obtain ⟨W2, hW2⟩ : ∃ W2, W2 = ((W1.alloc (.cells (madeCells #[.string (⟨#[]⟩ : ByteArray)] m) 9)).alloc (.cells #[.slice (some ⟨W1.heap.size, 0, none⟩) m m] 26)).alloc (.cells #[.int .i64 o, .slice ra m rc] 25) := ⟨_, rfl⟩
    have hb2 : Below W1.heap.size W1 W2 := by rw [hW2]; exact (((Below.refl _ _).alloc (Nat.le_refl _) _).alloc (by simp) _).alloc (by simp; omega) _
    have hzr : W2.heap.size = G + 3 := by rw [hW2, hG]; simp
    have hrow : W2.heap[G]? = some (.cells (codeCells l m []) 9 (0, 0)) := by
      rw [hW2, hG, codeCells_nil, Below.heap_alloc _ _ _ (by simp; omega), Below.heap_alloc _ _ _ (by simp)]
      exact heap_alloc_new W1 _
    have hob : Boxed W2 (G + 1) 26 (.slice (some ⟨G, 0, none⟩) m m) := by
      rw [hW2, hG]
      have := (Boxed.new (W1.alloc (.cells (madeCells #[.string (⟨#[]⟩ : ByteArray)] m) 9)) 26 (.slice (some ⟨W1.heap.size, 0, none⟩) m m)).alloc (.cells #[.int .i64 o, .slice ra m rc] 25)
      rwa [World.size_alloc] at this
    have hbs : LogBox W2 (G + 2) o (.slice ra m rc) := by
      rw [hW2, hG]
      have := logBox_new ((W1.alloc (.cells (madeCells #[.string (⟨#[]⟩ : ByteArray)] m) 9)).alloc (.cells #[.slice (some ⟨W1.heap.size, 0, none⟩) m m] 26)) o (.slice ra m rc)
      rwa [World.size_alloc, World.size_alloc] at this
    have hc2 : GCells W2 gb off m l := HC1.out.of_heap (hb2.block _ (by omega))
    have HB2 := Lib.hid (HB1.out.trans (hb2.mono (by omega)))
    have HOb := Lib.hid hob
    rw [← hW2, ← hG]
    rw [← hG] at hz1
    clear hW2 hb2 hob HL3 HC1 HB1 d0 d1 e0 e1 hmk hG
    have hgw : w.heap.size < G := by omega
    have HRc : Hid (∀ i, i < m → encE (l.getD i default) = (encR (l.getD i default), 0)) := fun i hi => by
      have h1 : secsB 0 l = true := by
        unfold bookB at hv
        simp only [Bool.and_eq_true] at hv
        exact hv.1.1
      have := secsB_recs h1 (l.getD i default) (by
        rw [List.getD_eq_getElem?_getD, List.getElem?_eq_getElem (by rw [HM.out]; exact hi)]
        exact List.getElem_mem _)
      unfold encE
      rw [if_pos this]
    simp only [Nat.add_assoc, Nat.reduceAdd]
    refine (wpIn_wide (n := 4)).1 ?_
    refine wpIn_rangeFunc_ownH rfl (by omega) (gf := 98) (lb := #[.pointer (some ⟨G + 2, 0, none⟩)]) rfl trivial (enters_of Tryz.func98 (by kernel_rfl) rfl)
      (gback1_seq _ (G + 2) gb off m rc o ra l (KpBut W2.heap.size G) W2 hbs (by omega) HA.out (by omega) hc2 (fun A B h => h _ (by omega) (by omega)) (fun A B h => h _ (by omega) (by omega))) kpBut_t (kpBut_b (Nat.le_refl _)) (Below.refl _ _) (fun _ => rfl)
      (CodesI l m G W2) (fun _ _ _ => False) (codesI_own _ _ _ _ _ (Nat.le_refl _) (by omega)) (fun c => fun _ _ _ _ h => h.elim)
      ⟨World.grownBy.refl _ _, hrow⟩ (FindAx l m W2.heap.size ?fr) (findAx_own _ _ _ _ _) ?assign ?body ?done ?stop
    case assign =>
      rintro l' pre x W' K ⟨hGr, hrw⟩ hK
      have hzG := hGr.size
      gi_wp2
      obtain ⟨Bx, hBx⟩ : ∃ Bx, Bx = W'.heap.size := ⟨_, rfl⟩
      have hnew : (W'.alloc (.cells #[.int .i64 (gA l x.1), .int .i64 (gK l x.1), .int .i64 (gP l x.1), .int .i64 (gQ l x.1), .string (gT l x.1)] 48)).heap[Bx]? = some (.cells #[.int .i64 (gA l x.1), .int .i64 (gK l x.1), .int .i64 (gP l x.1), .int .i64 (gQ l x.1), .string (gT l x.1)] 48 (0, 0)) := by rw [hBx]; exact heap_alloc_new W' _
      have hle : W2.heap.size ≤ Bx := by omega
      rw [← hBx]
      have hK2 := hK _ (W'.alloc (.cells #[.int .i64 (gA l x.1), .int .i64 (gK l x.1), .int .i64 (gP l x.1), .int .i64 (gQ l x.1), .string (gT l x.1)] 48)) ((KeepsOthers.alloc _ _).from _) (fun k hk _ => Below.heap_alloc _ _ _ (by omega)) ⟨World.grownBy.andThen hGr (World.grownBy_alloc _ _ none) (fun j hj => by simp at hj), (Below.heap_alloc _ _ _ (Array.getElem?_eq_some_iff.1 hrw).1).trans hrw⟩ ⟨Bx, hle, hnew, rfl⟩
      exact hK2
    case stop =>
      rintro D c pre W' _ _ h _
      exact h.elim
    case body =>
      rintro l' pre ⟨x, hx⟩ a' W' hl' ⟨r, hr⟩ ⟨hGr, hrw⟩ ⟨Bx, hle, hblk, ha'⟩ hlt
      subst ha'
      dsimp only at hblk ⊢
      have hzG := hGr.size
      have hob' := (HOb.out.kept hGr (by simp))
      have HEn : Hid (∀ W, Calls Tryz.prog 33 #[.agg #[.int .i64 (gA l x), .int .i64 (gK l x), .int .i64 (gP l x), .int .i64 (gQ l x), .string (gT l x)]] W fun e w' => e = .returned (.tuple #[.string (bs (encR (l.getD x default))), .int .i64 0]) ∧ Below W.heap.size W w') := fun W => by
        have := encode_any (l.getD x default) W
        rw [HRc.out x hx] at this
        exact this
      have HQ : Hid (∀ W, W'.grownBy W (some G) → W.cell? ⟨G + 1, 0, none⟩ = some (.slice (some ⟨G, 0, none⟩) m m) ∧ W.cell? ⟨Bx, 0, none⟩ = some (.int .i64 (gA l x)) ∧ W.cell? ⟨Bx, 1, none⟩ = some (.int .i64 (gK l x)) ∧ W.cell? ⟨Bx, 2, none⟩ = some (.int .i64 (gP l x)) ∧ W.cell? ⟨Bx, 3, none⟩ = some (.int .i64 (gQ l x)) ∧ W.cell? ⟨Bx, 4, none⟩ = some (.string (gT l x))) := fun W hW => by
        have hbx : W.heap[Bx]? = some (.cells #[.int .i64 (gA l x), .int .i64 (gK l x), .int .i64 (gP l x), .int .i64 (gQ l x), .string (gT l x)] 48 (0, 0)) := (hW.block _ (Array.getElem?_eq_some_iff.1 hblk).1 (fun e => by simp at e; omega)).trans hblk
        exact ⟨(hob'.kept hW (by simp)).cell, cell_of_row _ Bx 0 _ _ _ hbx, cell_of_row _ Bx 1 _ _ _ hbx, cell_of_row _ Bx 2 _ _ _ hbx, cell_of_row _ Bx 3 _ _ _ hbx, cell_of_row _ Bx 4 _ _ _ hbx⟩
      have HGr := Lib.hid hGr
      have HRw := Lib.hid hrw
      have HSn := Lib.hid (codeCells_snoc l m pre ⟨x, hx⟩)
      have hxm : (x : Int) < (m : Int) := by omega
      clear hGr hrw hblk hob'
      generalize gA l x = A at *
      generalize gK l x = KK at *
      generalize gP l x = PP at *
      generalize gQ l x = QQ at *
      generalize gT l x = TT at *
      generalize encR (l.getD x default) = Z at *
      gi_wp2
      refine wpIn_region_calm ⟨[0, 3, 8], CodeF m G (codeCells l m pre) (codeCells l m (pre ++ [⟨x, hx⟩])) Z, fun k => if k = 8 then [0] else [], 0, some G, 1000⟩ (by kernel_rfl) ?hq (by kernel_rfl) (by kernel_rfl) (by kernel_rfl) (fun g h => by simp at h; omega) (fun k hk v W W2 c h hg hc => codeF_kept hk h hg fun g hh => ?_) ?_
      case hq => rintro ⟨a, w, h⟩; exact h
      · obtain ⟨n1, _, i, j, u, hd, hik, _⟩ := hc g hh
        refine ⟨n1, fun hk8 => ?_⟩
        simp only at hd
        split at hd
        · rename_i hi8
          exact hik (hi8.trans hk8.symm)
        · simp at hd
      refine calm_makes (by rfl) (by rfl) (fun W hW hD K hK => ?_) (fun v19 => ?_)
      · have hWn : W'.grownBy W none := hW
        obtain ⟨z0, z1, z2, z3, z4, z5⟩ := HQ.out W (grown_wide hWn _)
        refine wp_of_run (v := .slice (some ⟨G, 0, none⟩) m m) (w' := W) ?_ (hK _ _ ⟨⟨rfl, (hWn.block G (by omega) (by simp)).trans HRw.out⟩, ⟨none, World.grownBy.refl _ _, .inl rfl⟩, fun g hg => ?_⟩)
        · clear hD hW hK hWn
          go_simp
        · have hg' : some G = some g := hg
          cases hg'
          exact ⟨Nat.lt_of_lt_of_le (by omega) hWn.size, .inr (.inr ⟨rfl, rfl⟩)⟩
      simp only [Act.put, List.setIfInBounds_toArray, List.set_cons_zero, List.set_cons_succ, Nat.reduceAdd, Nat.zero_add]
      iterate 2 (refine calm_quiet (v := ?_) (by rfl) (by rfl) (fun W hW hD => ?_) ?_; rotate_left; (· (obtain ⟨z0, z1, z2, z3, z4, z5⟩ := HQ.out W hW; clear hD hW; go_simp; try with_reducible rfl)); simp only [Act.put, List.setIfInBounds_toArray, List.set_cons_zero, List.set_cons_succ, Nat.reduceAdd, Nat.zero_add])
      refine calm_makes (by rfl) (by rfl) (fun W hW hD K hK => ?_) (fun v22 => ?_)
      · refine wp_of_call (f := 33) (args := #[.agg #[.int .i64 A, .int .i64 KK, .int .i64 PP, .int .i64 QQ, .string TT]]) ?_ ((HEn.out W).mono ?_)
        · clear hD hW hK
          go_simp
        · rintro e w5 ⟨rfl, hb5⟩
          exact ⟨_, rfl, hK _ _ (made_plain rfl hb5 rfl)⟩
      simp only [Act.put, List.setIfInBounds_toArray, List.set_cons_zero, List.set_cons_succ, Nat.reduceAdd, Nat.zero_add]
      refine calm_quiet (v := .tuple #[.string (bs Z), .int .i64 0]) (by rfl) (by rfl) (fun W hW hD => ?_) ?_
      · obtain rfl : v22 = .tuple #[.string (bs Z), .int .i64 0] := hD [] 3 (by kernel_rfl) (by kernel_rfl) (by kernel_rfl)
        clear hD hW
        go_simp
      simp only [Act.put, List.setIfInBounds_toArray, List.set_cons_zero, List.set_cons_succ, Nat.reduceAdd, Nat.zero_add]
      iterate 2 (refine calm_quiet (v := ?_) (by rfl) (by rfl) (fun W hW hD => ?_) ?_; rotate_left; (· (obtain ⟨z0, z1, z2, z3, z4, z5⟩ := HQ.out W hW; clear hD hW; go_simp; try with_reducible rfl)); simp only [Act.put, List.setIfInBounds_toArray, List.set_cons_zero, List.set_cons_succ, Nat.reduceAdd, Nat.zero_add])
      refine calm_quiet (v := .pointer (some ⟨G, x, none⟩)) (by rfl) (by rfl) (fun W hW hD => ?_) ?_
      · obtain ⟨rfl, _⟩ : v19 = .slice (some ⟨G, 0, none⟩) m m ∧ _ := hD [] 0 (by kernel_rfl) (by kernel_rfl) (by kernel_rfl)
        clear hD hW
        go_simp
      simp only [Act.put, List.setIfInBounds_toArray, List.set_cons_zero, List.set_cons_succ, Nat.reduceAdd, Nat.zero_add]
      refine calm_makes (by rfl) (by rfl) (fun W hW hD K hK => ?_) (fun v9 => ?_)
      · obtain ⟨h19, hrw⟩ : v19 = .slice (some ⟨G, 0, none⟩) m m ∧ W.heap[G]? = some (.cells (codeCells l m pre) 9 (0, 0)) := hD [7] 0 (by kernel_rfl) (by kernel_rfl) (by kernel_rfl)
        obtain ⟨s0, hs0⟩ := codeCells_get l m pre x hx
        have q0 : W.cell? ⟨G, x, none⟩ = some (.string s0) := by rw [Lib.cell_of_heap hrw]; exact hs0
        have qf : W.frozen? ⟨G, x, none⟩ = false := Lib.frozen_of_heap hrw x
        have hset := heap_set hrw x (.string (bs Z))
        rw [HSn.out] at hset
        have hg3 : W.grownBy (W.setCell ⟨G, x, none⟩ (.string (bs Z))) (some G) := grownBy_setG W G x _
        have HK2 := Lib.hid (hK undef _ (made_grown (j := 0) (u := .slice (some ⟨G, 0, none⟩) m m) (by kernel_rfl) h19 hset hg3 (fun g hg => by cases hg)))
        subst h19
        clear hK hD hW hrw hs0 hset hg3
        refine wp_of_skip ?_ HK2.out
        go_simp
      simp only [Act.put, List.setIfInBounds_toArray, List.set_cons_zero, List.set_cons_succ, Nat.reduceAdd, Nat.zero_add]
      refine calm_nil fun W hW hF => ?_
      have hrw : W.heap[G]? = some (.cells (codeCells l m (pre ++ [⟨x, hx⟩])) 9 (0, 0)) := hF 8 (by kernel_rfl) (by kernel_rfl)
      have hg4 : W'.grownBy W (some G) := hW
      clear hF hW
      exact ⟨KeepsFrom.of_grownBy hg4 (fun j hj => by cases hj; omega), kpBut_grown hg4 hzG, World.grownBy.andThen HGr.out hg4 (fun j hj => .inr (by simpa using hj)), hrw⟩
    case done =>
      rintro D xs W' hD rfl ⟨hGr, hrw⟩ hK
      have hzG := hGr.size
      have hob' := (HOb.out.kept hGr (by simp))
      have q0 := hob'.cell
      have hAll := HB2.out.grown hGr (by omega) (fun k hk => by simp at hk; omega)
      have HOwn : Hid (OwnS w.heap.size W' (.slice (some ⟨G, 0, none⟩) m m) (l.map encR)) := by
        refine ⟨by simp, .inr ⟨G, m, _, by rw [List.length_map, HM.out], by omega, hrw, by rw [List.length_map, HM.out]; exact Nat.le_refl _, by unfold maxLen; omega, by rw [codeCells_size, Nat.mul_one], ?_⟩⟩
        rw [codeCells_all l m HM.out, List.take_of_length_le (by simp [HM.out])]
      have HAll := Lib.hid hAll
      have HKD := Lib.hid hK
      clear hGr hrw hK hAll hob'
      go_wp2
      refine leaves_marks (B := w.heap.size) [D] _ ⟨by simp, fun D' hD' => ?_⟩ fun W9 hb' hk' => ?_
      · rw [List.mem_singleton.1 hD']
        exact ⟨by omega, HKD.out⟩
      · refine ⟨_, results_tmp2 rfl _ _ _, .slice (some ⟨G, 0, none⟩) m m, by rw [hv]; rfl, ?_, HAll.out.trans hb'⟩
        rw [HE.out]
        obtain ⟨h1, h2⟩ := HOwn.out
        refine ⟨h1, ?_⟩
        rcases h2 with h2 | ⟨g, cap, cur, he, hg, hgg, rest⟩
        · exact .inl h2
        · exact .inr ⟨g, cap, cur, he, hg, hk' _ _ hgg rfl, rest⟩
end Go.Proofs.YthfenbdlolbikaaGreatDoor
end

section
/- logbook: Head, tag, Sign, Genuine, listed, Prove, Check, Grown, CheckGrown. -/
namespace Go.Proofs.YthfenbdlolbikaaGreatDoor
open Go.RowKit Go.Shelf

theorem codesE_bd (b : LBook) : (codesE b).length ≤ 60 ∧ ∀ x ∈ codesE b, x.length ≤ 250 := by
  unfold codesE
  split
  · rename_i h
    have h0 := h
    unfold bookB at h
    simp only [Bool.and_eq_true, decide_eq_true_eq] at h
    refine ⟨by rw [codesL, List.length_map]; exact h.2, fun x hx => ?_⟩
    obtain ⟨y, hy, rfl⟩ := List.mem_map.1 hx
    exact encR_length (secsB_recs h.1.1 y hy)
  · exact ⟨by simp, fun x hx => by simp at hx⟩
/-- What Head returns. -/
def headE (b : LBook) : Bytes × Int := if bookB b then (rootL (codesL b), 0) else ([], 380)
set_option maxRecDepth 100000 in
set_option maxHeartbeats 1000000 in
theorem head_any (o : Int) (rv : Value) (l : List LRec) (w : World) (hR : RecsAt w.heap.size w rv l) (hl : l.length ≤ 1000000) (hT : Rounds w) :
    Calls Tryz.prog 10 #[bookV o rv] w fun e w' => e = .returned (.tuple #[.string (bs (headE ⟨o, l⟩).1), .int .i64 (headE ⟨o, l⟩).2]) ∧ Below w.heap.size w w' := by
  have hz := hT.lt
  obtain ⟨ra, rc, rfl, hrc, hrm⟩ := hR.shape
  have HR := Lib.hid hR
  have HT := Lib.hid hT
  have HBd := Lib.hid (codesE_bd ⟨o, l⟩)
  clear hR hT
  go_enter Tryz.func10, Tryz.ntmps10
  go_wp2_with fail
  have hb0 : Below w.heap.size w (w.alloc (.cells #[.int .i64 o, .slice ra l.length rc] 25)) := (Below.refl _ _).alloc (Nat.le_refl _) _
  refine (codes_any o _ l _ (HR.out.later hb0 (Nat.le_refl _)) hl (by simp)).mono ?_
  rintro e W1 ⟨v, rfl, hO, hb1⟩
  have hB1 := hb0.trans (hb1.mono (by simp))
  have HT1 := Lib.hid (HT.out.below hB1 (Nat.le_refl _))
  have HB1 := Lib.hid hB1
  have HO := Lib.hid hO
  obtain ⟨a, c, hv, _, _⟩ := hO.shape2
  subst hv
  clear hb0 hb1 hB1 hO
  cases hv : bookB ⟨o, l⟩
  · have HE : Hid (headE ⟨o, l⟩ = ([], 380)) := by show _ = _; rw [headE, hv]; rfl
    clear hv
    go_wp2
    go_ret2
    exact ⟨by rw [HE.out]; rfl, HB1.out⟩
  · have HE : Hid (headE ⟨o, l⟩ = (rootL (codesE ⟨o, l⟩), 0)) := by show _ = _; rw [headE, hv, codesE, hv]; rfl
    clear hv
    generalize codesE ⟨o, l⟩ = C at *
    go_wp2_with fail
    refine (root_any _ C W1 HO.out.strs (by have := HBd.out.1; omega) (fun x hx => by have := HBd.out.2 x hx; omega) HT1.out).mono ?_
    rintro e W2 ⟨rfl, hb2⟩
    have HB2 := Lib.hid (HB1.out.trans (hb2.mono HB1.out.size))
    clear hb2
    go_wp2
    go_ret2
    exact ⟨by rw [HE.out]; rfl, HB2.out⟩
theorem contentB_nil (office n : Int) (root : Bytes) : contentB office n root ≠ [] := fun e => by
  have := enc_pos (zz office)
  have h := congrArg List.length e
  simp only [contentB, List.length_append, List.length_nil] at h
  omega
theorem numsB_two (a b : Int) : numsB [a, b] = enc (zz a) ++ enc (zz b) := by simp [numsB]
set_option maxRecDepth 100000 in
set_option maxHeartbeats 1000000 in
theorem tag_any (key : Bytes) (office n : Int) (root : Bytes) (w : World) (h1 : EncZ office) (h2 : EncZ n) (hk : key.length ≤ 1000000) (hr : root.length ≤ 1000000) (hT : Rounds w) :
    Calls Tryz.prog 46 #[.string (bs key), .int .i64 office, .int .i64 n, .string (bs root)] w fun e w' => e = .returned (.string (bs (tagB key office n root))) ∧ Below w.heap.size w w' := by
  have HE1 := Lib.hid h1
  have HE2 := Lib.hid h2
  have HT := Lib.hid hT
  have HNil := Lib.hid (contentB_nil office n root)
  have HC : Hid (contentB office n root = numsB [office, n] ++ root) := by show _ = _; rw [numsB_two, contentB, List.append_assoc]
  have HG : Hid (tagB key office n root = nodeB key (leafB (contentB office n root))) := rfl
  have hnl := numsB_length [office, n]
  simp only [List.length_cons, List.length_nil] at hnl
  have hcl : (contentB office n root).length ≤ 2000000 := by rw [HC.out, List.length_append]; omega
  have hrs : (bs root).size ≤ 1000000 := by rw [bs_size]; exact hr
  have hks : (bs key).size ≤ 1000000 := by rw [bs_size]; exact hk
  clear h1 h2 hT
  go_enter Tryz.func46, Tryz.ntmps46
  go_wp2_with fail
  have hb0 : Below w.heap.size w (w.alloc (.cells #[.pointer none, .slice none 0 0] 88)) := (Below.refl _ _).alloc (Nat.le_refl _) _
  have hb3 : Below (w.heap.size + 1) (w.alloc (.cells #[.pointer none, .slice none 0 0] 88)) ((w.alloc (.cells #[.pointer none, .slice none 0 0] 88)).alloc (.cells #[.int .i64 office, .int .i64 n] 3)) := (Below.refl _ _).alloc (by simp) _
  refine (numbers_any w.heap.size w.heap.size (w.heap.size + 1) [] [office, n] 2 rfl _ (isWr_below (isWr_new w) hb3 (by simp)) (by have := heap_alloc_new (w.alloc (.cells #[.pointer none, .slice none 0 0] 88)) (.cells #[.int .i64 office, .int .i64 n] 3); rw [World.size_alloc] at this; exact this) ?_ (by omega) (by simp) (by simp; omega)).mono ?_
  · intro i hi
    match i, hi with
    | 0, _ => exact HE1.out
    | 1, _ => exact HE2.out
  rintro e w2 ⟨rfl, hw2, hb2, _⟩
  rw [List.nil_append] at hw2
  have hz2 := hb2.size
  simp only [World.size_alloc] at hz2
  have HB2 := Lib.hid ((hb0.trans (hb3.mono (Nat.le_succ _))).trans hb2)
  have HW2 := Lib.hid hw2
  clear hw2 hb2 hb3 hb0
  go_wp2_with fail
  refine (wr_write w.heap.size w.heap.size _ (bs root) w2 HW2.out (by rw [Lib.byteCells_length]; omega) (by omega)).mono ?_
  rintro e w4 ⟨rfl, hw4, hb4, _⟩
  rw [strCells_bs, ← byteCells_app, ← HC.out] at hw4
  have HW4 := Lib.hid hw4
  have HB4 := Lib.hid (HB2.out.trans hb4)
  clear hw4 hb4 HC
  go_wp2_with fail
  refine (wr_string w.heap.size w.heap.size _ w4 (.inr HW4.out) HNil.out).mono ?_
  rintro e w5 ⟨rfl, hb5⟩
  have HB5 := Lib.hid (HB4.out.trans hb5)
  clear hb5
  rw [show (⟨(contentB office n root).toArray⟩ : ByteArray) = bs (contentB office n root) from rfl]
  generalize contentB office n root = C at *
  have hcs : (bs C).size ≤ 2000000 := by rw [bs_size]; exact hcl
  go_wp2_with fail
  refine (leaf_any (bs C) w5 (by omega) (HT.out.below HB5.out (Nat.le_refl _))).mono ?_
  rintro e w6 ⟨rfl, hb6⟩
  have HB6 := Lib.hid (HB5.out.trans (hb6.mono HB5.out.size))
  rw [bs_list]
  have hls : (bs (leafB C)).size = 32 := by rw [bs_size]; exact leafB_length _
  clear hb6
  go_wp2_with fail
  refine (node_any (bs key) (bs (leafB C)) w6 (by omega) (by omega) (HT.out.below HB6.out (Nat.le_refl _))).mono ?_
  rintro e w7 ⟨rfl, hb7⟩
  have HB7 := Lib.hid (HB6.out.trans (hb7.mono HB6.out.size))
  rw [bs_list, bs_list, ← HG.out]
  clear hb7
  go_wp2
  go_ret
  exact ⟨rfl, HB7.out⟩
/-- What Sign returns. -/
def signE (key : Bytes) (b : LBook) : Bytes × Int := if bookB b && decide (key.length = 32) then (tagB key b.office b.recs.length (rootL (codesL b)), 0) else ([], 380)
theorem rootL_le (l : List Bytes) : (rootL l).length ≤ 32 := Nat.le_of_eq (rootL_length l)
set_option maxRecDepth 100000 in
set_option maxHeartbeats 1000000 in
theorem sign_any (key : Bytes) (o : Int) (rv : Value) (l : List LRec) (w : World) (hR : RecsAt w.heap.size w rv l) (hl : l.length ≤ 1000000) (hk : key.length ≤ 1000000) (hT : Rounds w) :
    Calls Tryz.prog 13 #[.string (bs key), bookV o rv] w fun e w' => e = .returned (.tuple #[.string (bs (signE key ⟨o, l⟩).1), .int .i64 (signE key ⟨o, l⟩).2]) ∧ Below w.heap.size w w' := by
  have hz := hT.lt
  obtain ⟨ra, rc, rfl, hrc, hrm⟩ := hR.shape
  have HR := Lib.hid hR
  have HT := Lib.hid hT
  clear hR hT
  go_enter Tryz.func13, Tryz.ntmps13
  go_wp2_with fail
  have hb0 : Below w.heap.size w (w.alloc (.cells #[.int .i64 o, .slice ra l.length rc] 25)) := (Below.refl _ _).alloc (Nat.le_refl _) _
  refine (head_any o _ l _ (HR.out.later hb0 (Nat.le_refl _)) hl (HT.out.below hb0 (Nat.le_refl _))).mono ?_
  rintro e W1 ⟨rfl, hb1⟩
  have hB1 := hb0.trans (hb1.mono (by simp))
  have hL1 := (logBox_new w o (.slice ra l.length rc)).below hb1 (by simp)
  have HT1 := Lib.hid (HT.out.below hB1 (Nat.le_refl _))
  have HB1 := Lib.hid hB1
  clear hb0 hb1 hB1
  cases hv : bookB ⟨o, l⟩
  · have HE : Hid (signE key ⟨o, l⟩ = ([], 380)) := by show _ = _; rw [signE, hv]; rfl
    rw [show headE ⟨o, l⟩ = ([], 380) from by rw [headE, hv]; rfl]
    clear hv hL1
    go_wp2
    go_ret2
    exact ⟨by rw [HE.out]; rfl, HB1.out⟩
  · have hbn : 0 ≤ o ∧ o ≤ 99 ∧ l.length ≤ 60 := by
      have h := hv
      unfold bookB at h
      simp only [Bool.and_eq_true, decide_eq_true_eq, inZ_iff] at h
      exact ⟨h.1.2.1, h.1.2.2, h.2⟩
    rw [show headE ⟨o, l⟩ = (rootL (codesL ⟨o, l⟩), 0) from by rw [headE, hv]; rfl]
    have hks := bs_size key
    by_cases h32 : key.length = 32
    · have HE : Hid (signE key ⟨o, l⟩ = (tagB key o l.length (rootL (codesL ⟨o, l⟩)), 0)) := by show _ = _; rw [signE, hv, decide_eq_true h32]; rfl
      have d32 : (((bs key).size : Int) != 32) = false := by rw [hks, h32]; rfl
      have q0 := hL1.c0
      have q1 := hL1.c1
      have hrl := rootL_le (codesL ⟨o, l⟩)
      clear hv hL1 hks h32
      simp only
      generalize rootL (codesL ⟨o, l⟩) = R at *
      go_wp2_with fail
      refine (tag_any key o l.length R W1 (by unfold EncZ; omega) (by unfold EncZ; omega) hk (by omega) HT1.out).mono ?_
      rintro e W2 ⟨rfl, hb2⟩
      have HB2 := Lib.hid (HB1.out.trans (hb2.mono HB1.out.size))
      clear hb2
      go_wp2
      go_ret2
      exact ⟨by rw [HE.out]; rfl, HB2.out⟩
    · have HE : Hid (signE key ⟨o, l⟩ = ([], 380)) := by show _ = _; rw [signE, decide_eq_false h32, Bool.and_false]; rfl
      have d32 : (((bs key).size : Int) != 32) = true := by
        rw [hks]
        simp only [bne_iff_ne]
        omega
      clear hv hL1 hks h32
      simp only
      generalize rootL (codesL ⟨o, l⟩) = R at *
      go_wp2
      go_ret2
      exact ⟨by rw [HE.out]; rfl, HB1.out⟩
end Go.Proofs.YthfenbdlolbikaaGreatDoor
end

section
/- logbook: Genuine, listed, Prove, Check, Grown, CheckGrown. -/
namespace Go.Proofs.YthfenbdlolbikaaGreatDoor
open Go.RowKit Go.Shelf

/-- What Genuine says. -/
def genB (key : Bytes) (office n : Int) (root t : Bytes) : Bool := inZ office 0 99 && inZ n 0 60 && decide (key.length = 32) && decide (root.length = 32) && (t == tagB key office n root)
theorem size32_t {x : Bytes} (h : x.length = 32) : (((bs x).size : Int) == 32) = true := by rw [bs_size, h]; rfl
theorem size32_f {x : Bytes} (h : ¬ x.length = 32) : (((bs x).size : Int) == 32) = false := by
  rw [bs_size]
  simp only [beq_eq_false_iff_ne, ne_eq]
  omega
theorem bs_beq (x y : Bytes) : ((bs x).toList == (bs y).toList) = (x == y) := by rw [bs_toList, bs_toList]
set_option maxRecDepth 100000 in
set_option maxHeartbeats 1000000 in
theorem genuine_any (key : Bytes) (office n : Int) (root t : Bytes) (w : World) (hT : Rounds w) :
    Calls Tryz.prog 15 #[.string (bs key), .int .i64 office, .int .i64 n, .string (bs root), .string (bs t)] w fun e w' => e = .returned (.bool (genB key office n root t)) ∧ Below w.heap.size w w' := by
  have HT := Lib.hid hT
  have HG : Hid (genB key office n root t = (inZ office 0 99 && inZ n 0 60 && decide (key.length = 32) && decide (root.length = 32) && (t == tagB key office n root))) := rfl
  clear hT
  cases h1 : inZ office 0 99
  · have HF : Hid (genB key office n root t = false) := by show _ = _; rw [HG.out, h1]; simp
    clear HG
    go_enter Tryz.func15, Tryz.ntmps15
    go_wp2_with (go_at_call 49; refine (isIn_eq (by assumption) _).mono ?_; rintro e w' ⟨rfl, rfl⟩)
    go_ret
    exact ⟨by rw [HF.out]; rfl, Below.refl _ _⟩
  cases h2 : inZ n 0 60
  · have HF : Hid (genB key office n root t = false) := by show _ = _; rw [HG.out, h1, h2]; simp
    clear HG
    go_enter Tryz.func15, Tryz.ntmps15
    go_wp2_with (go_at_call 49; refine (isIn_eq (by assumption) _).mono ?_; rintro e w' ⟨rfl, rfl⟩)
    go_ret
    exact ⟨by rw [HF.out]; rfl, Below.refl _ _⟩
  by_cases h3 : key.length = 32
  rotate_left
  · have d3 := size32_f h3
    have HF : Hid (genB key office n root t = false) := by show _ = _; rw [HG.out, h1, h2, decide_eq_false h3]; simp
    clear HG h3
    go_enter Tryz.func15, Tryz.ntmps15
    go_wp2_with (go_at_call 49; refine (isIn_eq (by assumption) _).mono ?_; rintro e w' ⟨rfl, rfl⟩)
    go_ret
    exact ⟨by rw [HF.out]; rfl, Below.refl _ _⟩
  have d3 := size32_t h3
  by_cases h4 : root.length = 32
  rotate_left
  · have d4 := size32_f h4
    have HF : Hid (genB key office n root t = false) := by show _ = _; rw [HG.out, h1, h2, decide_eq_true h3, decide_eq_false h4]; simp
    clear HG h3 h4
    go_enter Tryz.func15, Tryz.ntmps15
    go_wp2_with (go_at_call 49; refine (isIn_eq (by assumption) _).mono ?_; rintro e w' ⟨rfl, rfl⟩)
    go_ret
    exact ⟨by rw [HF.out]; rfl, Below.refl _ _⟩
  have d4 := size32_t h4
  have HF : Hid (genB key office n root t = (t == tagB key office n root)) := by show _ = _; rw [HG.out, h1, h2, decide_eq_true h3, decide_eq_true h4]; simp only [Bool.true_and]
  have hbe := bs_beq t (tagB key office n root)
  have ho := inZ_iff.1 h1
  have hn := inZ_iff.1 h2
  have HTag := Lib.hid (fun W hW => tag_any key office n root W (by unfold EncZ; omega) (by unfold EncZ; omega) (by omega) (by omega) (HT.out.below (w' := W) (B := w.heap.size) hW (Nat.le_refl _)))
  generalize tagB key office n root = G at *
  clear HG h3 h4 ho hn
  go_enter Tryz.func15, Tryz.ntmps15
  go_wp2_with (first | (go_at_call 49; refine (isIn_eq (by assumption) _).mono ?_; rintro e w' ⟨rfl, rfl⟩) | (go_at_call 46; refine (HTag.out _ (Below.refl _ _)).mono ?_; rintro e w2 ⟨rfl, hb2⟩))
  go_ret
  exact ⟨by rw [HF.out, ← hbe]; rfl, hb2⟩
/-- What Prove returns. -/
def proveE (b : LBook) (i : Int) : List Bytes × Int := if bookB b && decide ((proofE (codesL b) i).2 = 0) then ((proofE (codesL b) i).1, 0) else ([], 380)
theorem proveE_err (l : List Bytes) (i : Int) : (proofE l i).2 = 0 ∨ (proofE l i).2 = 2 := by
  unfold proofE
  split
  · exact .inl rfl
  · exact .inr rfl
set_option maxRecDepth 100000 in
set_option maxHeartbeats 1000000 in
theorem listed_prove (o : Int) (rv : Value) (l : List LRec) (i : Int) (w : World) (hR : RecsAt w.heap.size w rv l) (hl : l.length ≤ 1000000) (hT : Rounds w) :
    Calls Tryz.prog 50 #[bookV o rv, .int .i64 i, .func (.func 51) #[] #[]] w fun e w' => ∃ v, e = .returned (.tuple #[v, .int .i64 (proveE ⟨o, l⟩ i).2]) ∧ OwnS w.heap.size w' v (proveE ⟨o, l⟩ i).1 ∧ Below w.heap.size w w' := by
  have hz := hT.lt
  obtain ⟨ra, rc, rfl, hrc, hrm⟩ := hR.shape
  have HR := Lib.hid hR
  have HT := Lib.hid hT
  have HBd := Lib.hid (codesE_bd ⟨o, l⟩)
  clear hR hT
  go_enter Tryz.func50, Tryz.ntmps50
  go_wp2_with fail
  have hb0 : Below w.heap.size w (w.alloc (.cells #[.int .i64 o, .slice ra l.length rc] 25)) := (Below.refl _ _).alloc (Nat.le_refl _) _
  refine (codes_any o _ l _ (HR.out.later hb0 (Nat.le_refl _)) hl (by simp)).mono ?_
  rintro e W1 ⟨v, rfl, hO, hb1⟩
  have hB1 := hb0.trans (hb1.mono (by simp))
  have HT1 := Lib.hid (HT.out.below hB1 (Nat.le_refl _))
  have HB1 := Lib.hid hB1
  have HO := Lib.hid hO
  obtain ⟨a, c, hv, _, _⟩ := hO.shape2
  subst hv
  clear hb0 hb1 hB1 hO
  cases hv : bookB ⟨o, l⟩
  · have HE : Hid (proveE ⟨o, l⟩ i = ([], 380)) := by show _ = _; rw [proveE, hv]; rfl
    clear hv
    go_wp2
    go_ret2
    exact ⟨.slice none 0 0, by rw [HE.out]; rfl, by rw [HE.out]; exact OwnS.nil _ _, HB1.out⟩
  · have HE : Hid (proveE ⟨o, l⟩ i = if decide ((proofE (codesE ⟨o, l⟩) i).2 = 0) then ((proofE (codesE ⟨o, l⟩) i).1, 0) else ([], 380)) := by show _ = _; rw [proveE, hv, codesE, hv, Bool.true_and]; rfl
    clear hv
    generalize codesE ⟨o, l⟩ = C at *
    go_wp2_with fail
    refine (proof_any _ C i W1 HO.out.strs (by have := HBd.out.1; omega) (fun x hx => by have := HBd.out.2 x hx; omega) HT1.out).mono ?_
    rintro e W2 ⟨vp, rfl, hO2, hb2⟩
    have HB2 := Lib.hid (HB1.out.trans (hb2.mono HB1.out.size))
    have HO2 := Lib.hid (hO2.mono (base' := w.heap.size) HB1.out.size)
    obtain ⟨a2, c2, hv2, _, _⟩ := hO2.shape2
    subst hv2
    have herr := proveE_err C i
    clear hb2 hO2
    rcases herr with herr | herr
    · rw [herr, decide_eq_true rfl, if_pos rfl] at HE
      rw [herr]
      generalize (proofE C i).1 = L at *
      clear herr
      go_wp2
      go_ret2
      exact ⟨_, by rw [HE.out]; rfl, by rw [HE.out]; exact HO2.out, HB2.out⟩
    · rw [herr, decide_eq_false (by decide), if_neg (by decide)] at HE
      rw [herr]
      generalize (proofE C i).1 = L at *
      clear herr
      go_wp2
      go_ret2
      exact ⟨.slice none 0 0, by rw [HE.out]; rfl, by rw [HE.out]; exact OwnS.nil _ _, HB2.out⟩
set_option maxRecDepth 100000 in
set_option maxHeartbeats 1000000 in
theorem prove_any (o : Int) (rv : Value) (l : List LRec) (i : Int) (w : World) (hR : RecsAt w.heap.size w rv l) (hl : l.length ≤ 1000000) (hT : Rounds w) :
    Calls Tryz.prog 18 #[bookV o rv, .int .i64 i] w fun e w' => ∃ v, e = .returned (.tuple #[v, .int .i64 (proveE ⟨o, l⟩ i).2]) ∧ OwnS w.heap.size w' v (proveE ⟨o, l⟩ i).1 ∧ Below w.heap.size w w' := by
  obtain ⟨ra, rc, rfl, hrc, hrm⟩ := hR.shape
  have HR := Lib.hid hR
  have HT := Lib.hid hT
  clear hR hT
  go_enter Tryz.func18, Tryz.ntmps18
  go_wp2_with fail
  have hb0 : Below w.heap.size w (w.alloc (.cells #[.int .i64 o, .slice ra l.length rc] 25)) := (Below.refl _ _).alloc (Nat.le_refl _) _
  refine (listed_prove o _ l i _ (HR.out.later hb0 (Nat.le_refl _)) hl (HT.out.below hb0 (Nat.le_refl _))).mono ?_
  rintro e W1 ⟨v, rfl, hO, hb1⟩
  have HB1 := Lib.hid (hb0.trans (hb1.mono (by simp)))
  have HO := Lib.hid (hO.mono (base' := w.heap.size) (by simp))
  obtain ⟨a2, c2, hv2, _, _⟩ := hO.shape2
  subst hv2
  clear hb0 hb1 hO
  go_wp2
  go_ret2
  exact ⟨_, rfl, HO.out, HB1.out⟩
/-- What Grown returns. -/
def grownE (b : LBook) (i : Int) : List Bytes × Int := if bookB b && decide ((extE (codesL b) i).2 = 0) then ((extE (codesL b) i).1, 0) else ([], 380)
theorem grownE_err (l : List Bytes) (i : Int) : (extE l i).2 = 0 ∨ (extE l i).2 = 2 := by
  unfold extE
  split
  · split <;> exact .inl rfl
  · exact .inr rfl
set_option maxRecDepth 100000 in
set_option maxHeartbeats 1000000 in
theorem listed_grown (o : Int) (rv : Value) (l : List LRec) (i : Int) (w : World) (hR : RecsAt w.heap.size w rv l) (hl : l.length ≤ 1000000) (hT : Rounds w) :
    Calls Tryz.prog 50 #[bookV o rv, .int .i64 i, .func (.func 53) #[] #[]] w fun e w' => ∃ v, e = .returned (.tuple #[v, .int .i64 (grownE ⟨o, l⟩ i).2]) ∧ OwnS w.heap.size w' v (grownE ⟨o, l⟩ i).1 ∧ Below w.heap.size w w' := by
  have hz := hT.lt
  obtain ⟨ra, rc, rfl, hrc, hrm⟩ := hR.shape
  have HR := Lib.hid hR
  have HT := Lib.hid hT
  have HBd := Lib.hid (codesE_bd ⟨o, l⟩)
  clear hR hT
  go_enter Tryz.func50, Tryz.ntmps50
  go_wp2_with fail
  have hb0 : Below w.heap.size w (w.alloc (.cells #[.int .i64 o, .slice ra l.length rc] 25)) := (Below.refl _ _).alloc (Nat.le_refl _) _
  refine (codes_any o _ l _ (HR.out.later hb0 (Nat.le_refl _)) hl (by simp)).mono ?_
  rintro e W1 ⟨v, rfl, hO, hb1⟩
  have hB1 := hb0.trans (hb1.mono (by simp))
  have HT1 := Lib.hid (HT.out.below hB1 (Nat.le_refl _))
  have HB1 := Lib.hid hB1
  have HO := Lib.hid hO
  obtain ⟨a, c, hv, _, _⟩ := hO.shape2
  subst hv
  clear hb0 hb1 hB1 hO
  cases hv : bookB ⟨o, l⟩
  · have HE : Hid (grownE ⟨o, l⟩ i = ([], 380)) := by show _ = _; rw [grownE, hv]; rfl
    clear hv
    go_wp2
    go_ret2
    exact ⟨.slice none 0 0, by rw [HE.out]; rfl, by rw [HE.out]; exact OwnS.nil _ _, HB1.out⟩
  · have HE : Hid (grownE ⟨o, l⟩ i = if decide ((extE (codesE ⟨o, l⟩) i).2 = 0) then ((extE (codesE ⟨o, l⟩) i).1, 0) else ([], 380)) := by show _ = _; rw [grownE, hv, codesE, hv, Bool.true_and]; rfl
    clear hv
    generalize codesE ⟨o, l⟩ = C at *
    go_wp2_with fail
    refine (ext_any _ C i W1 HO.out.strs (by have := HBd.out.1; omega) (fun x hx => by have := HBd.out.2 x hx; omega) HT1.out).mono ?_
    rintro e W2 ⟨vp, rfl, hO2, hb2⟩
    have HB2 := Lib.hid (HB1.out.trans (hb2.mono HB1.out.size))
    have HO2 := Lib.hid (hO2.mono (base' := w.heap.size) HB1.out.size)
    obtain ⟨a2, c2, hv2, _, _⟩ := hO2.shape2
    subst hv2
    have herr := grownE_err C i
    clear hb2 hO2
    rcases herr with herr | herr
    · rw [herr, decide_eq_true rfl, if_pos rfl] at HE
      rw [herr]
      generalize (extE C i).1 = L at *
      clear herr
      go_wp2
      go_ret2
      exact ⟨_, by rw [HE.out]; rfl, by rw [HE.out]; exact HO2.out, HB2.out⟩
    · rw [herr, decide_eq_false (by decide), if_neg (by decide)] at HE
      rw [herr]
      generalize (extE C i).1 = L at *
      clear herr
      go_wp2
      go_ret2
      exact ⟨.slice none 0 0, by rw [HE.out]; rfl, by rw [HE.out]; exact OwnS.nil _ _, HB2.out⟩
set_option maxRecDepth 100000 in
set_option maxHeartbeats 1000000 in
theorem grown_any (o : Int) (rv : Value) (l : List LRec) (i : Int) (w : World) (hR : RecsAt w.heap.size w rv l) (hl : l.length ≤ 1000000) (hT : Rounds w) :
    Calls Tryz.prog 20 #[bookV o rv, .int .i64 i] w fun e w' => ∃ v, e = .returned (.tuple #[v, .int .i64 (grownE ⟨o, l⟩ i).2]) ∧ OwnS w.heap.size w' v (grownE ⟨o, l⟩ i).1 ∧ Below w.heap.size w w' := by
  obtain ⟨ra, rc, rfl, hrc, hrm⟩ := hR.shape
  have HR := Lib.hid hR
  have HT := Lib.hid hT
  clear hR hT
  go_enter Tryz.func20, Tryz.ntmps20
  go_wp2_with fail
  have hb0 : Below w.heap.size w (w.alloc (.cells #[.int .i64 o, .slice ra l.length rc] 25)) := (Below.refl _ _).alloc (Nat.le_refl _) _
  refine (listed_grown o _ l i _ (HR.out.later hb0 (Nat.le_refl _)) hl (HT.out.below hb0 (Nat.le_refl _))).mono ?_
  rintro e W1 ⟨v, rfl, hO, hb1⟩
  have HB1 := Lib.hid (hb0.trans (hb1.mono (by simp)))
  have HO := Lib.hid (hO.mono (base' := w.heap.size) (by simp))
  obtain ⟨a2, c2, hv2, _, _⟩ := hO.shape2
  subst hv2
  clear hb0 hb1 hO
  go_wp2
  go_ret2
  exact ⟨_, rfl, HO.out, HB1.out⟩
/-- What Check says. -/
def checkB (root : Bytes) (n i : Int) (x : LRec) (proof : List Bytes) : Bool := recB x && verB root n i (encR x) proof
set_option maxRecDepth 100000 in
set_option maxHeartbeats 1000000 in
theorem gcheck_any (root : Bytes) (n i : Int) (x : LRec) (v : Value) (proof : List Bytes) (w : World) (hn : -9223372036854775808 ≤ n ∧ n ≤ 9223372036854775807) (hi : -9223372036854775808 ≤ i ∧ i ≤ 9223372036854775807) (hL : StrsAt w.heap.size w v proof) (hlen : proof.length ≤ 1000000) (hT : Rounds w) :
    Calls Tryz.prog 25 #[.string (bs root), .int .i64 n, .int .i64 i, recV x, v] w fun e w' => e = .returned (.bool (checkB root n i x proof)) ∧ Below w.heap.size w w' := by
  obtain ⟨av, cv, rfl, hcv1, hcv2⟩ := hL.shape
  have HL := Lib.hid hL
  have HT := Lib.hid hT
  have HC : Hid (checkB root n i x proof = (recB x && verB root n i (encR x) proof)) := rfl
  clear hL hT
  go_enter Tryz.func25, Tryz.ntmps25
  go_wp2_with fail
  have hb0 : Below w.heap.size w (w.alloc (.cells #[.int .i64 x.sec, .int .i64 x.kind, .int .i64 x.a, .int .i64 x.b, .string (bs x.text)] 48)) := (Below.refl _ _).alloc (Nat.le_refl _) _
  refine (encode_any x _).mono ?_
  rintro e W1 ⟨rfl, hb1⟩
  have HB1 := Lib.hid (hb0.trans (hb1.mono (by simp)))
  clear hb0 hb1
  cases hr : recB x
  · rw [show encE x = ([], 380) from by rw [encE, hr]; rfl]
    rw [hr, Bool.false_and] at HC
    clear hr
    go_wp2
    go_ret
    exact ⟨by rw [HC.out]; rfl, HB1.out⟩
  · rw [show encE x = (encR x, 0) from by rw [encE, hr]; rfl]
    have hel := encR_length hr
    rw [hr, Bool.true_and] at HC
    have HV := Lib.hid (verify_any root n i (encR x) _ proof W1 hn hi (by omega) (HL.out.later HB1.out (Nat.le_refl _)) hlen (HT.out.below HB1.out (Nat.le_refl _)))
    clear hr hn hi
    simp only
    generalize verB root n i (encR x) proof = V at *
    generalize encR x = E at *
    go_wp2_with (go_at_call 57; refine HV.out.mono ?_; rintro e W2 ⟨rfl, hb2⟩)
    go_ret
    exact ⟨by rw [HC.out]; rfl, HB1.out.trans (hb2.mono HB1.out.size)⟩
set_option maxRecDepth 100000 in
set_option maxHeartbeats 1000000 in
theorem checkGrown_any (old : Bytes) (m : Int) (root : Bytes) (n : Int) (v : Value) (proof : List Bytes) (w : World) (hm : -9223372036854775808 ≤ m ∧ m ≤ 9223372036854775807) (hn : -9223372036854775808 ≤ n ∧ n ≤ 9223372036854775807) (hL : StrsAt w.heap.size w v proof) (hlen : proof.length ≤ 1000000) (hT : Rounds w) :
    Calls Tryz.prog 23 #[.string (bs old), .int .i64 m, .string (bs root), .int .i64 n, v] w fun e w' => e = .returned (.bool (verExtB old m root n proof)) ∧ Below w.heap.size w w' := by
  obtain ⟨av, cv, rfl, hcv1, hcv2⟩ := hL.shape
  have HV := Lib.hid (verExt_any old m root n _ proof w hm hn hL hlen hT)
  clear hL hT hm hn
  generalize verExtB old m root n proof = V at *
  go_enter Tryz.func23, Tryz.ntmps23
  go_wp2_with (go_at_call 55; refine HV.out.mono ?_; rintro e W2 ⟨rfl, hb2⟩)
  go_ret
  exact ⟨rfl, hb2⟩
end Go.Proofs.YthfenbdlolbikaaGreatDoor
end
