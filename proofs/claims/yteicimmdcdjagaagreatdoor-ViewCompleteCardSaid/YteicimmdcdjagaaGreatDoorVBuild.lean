import Derived.Test.YteicimmdcdjagaaGreatDoorMShaC
import Derived.Test.YteicimmdcdjagaaGreatDoorMWire
import Derived.Test.YteicimmdcdjagaaGreatDoorVCmp
import Derived.Shelf.Strings.Builder1
set_option linter.unusedVariables false
set_option linter.unusedSimpArgs false

/- view: a writer that embeds a strings.Builder. -/
set_option linter.unusedVariables false
set_option linter.unusedSimpArgs false
namespace Go.Proofs.YteicimmdcdjagaaGreatDoor
open Go.RowKit Go.Shelf

theorem sizeBuilder : (Tryz.prog.info? 131).map (·.size) = some 2 := by kernel_rfl
theorem liesWriter : liesAt Tryz.prog Tryz.prog.depth 133 (2 / Tryz.prog.cellsOf 133) 0 131 1 = true := by kernel_rfl
theorem cellsByte : Tryz.prog.cellsOf 5 = 1 := by kernel_rfl
theorem info_b8 : (Tryz.prog.info? 5).map (fun i => (i.zero, i.size, i.bytes)) = some (some (.int .u8 0), 1, 1) := by kernel_rfl
/-- A writer in block b that holds these bytes; its buffer lies from B on. -/
abbrev WrAt (B b : Nat) (p : Value) (cs : List Value) (w : World) : Prop := Lib.BuilderAt 133 5 B b p cs w
abbrev IsWr (B b : Nat) (cs : List Value) (w : World) : Prop := Lib.IsBuilder 133 5 B b cs w
set_option maxHeartbeats 1000000 in
set_option maxRecDepth 100000 in
theorem wr_check_used (b : Nat) (w : World) (h0 : w.cell? ⟨b, 0, none⟩ = some (.pointer (some ⟨b, 0, none⟩))) :
    Calls Tryz.prog 115 #[.pointer (some ⟨b, 0, none⟩)] w fun e w' => e = .returned (.tuple #[]) ∧ w' = w := by
  obtain ⟨j, hj, _⟩ := Option.map_eq_some_iff.1 sizeBuilder
  go_enter Tryz.func115, Tryz.ntmps115
  go_wp2
  rw [Lib.run_neq_ptr_same w _ Tryz.underlying129 hj]
  go_wp2
  go_end0
  exact ⟨rfl, rfl⟩
set_option maxHeartbeats 1000000 in
set_option maxRecDepth 100000 in
theorem wr_check_fresh (b : Nat) (w : World) (h0 : w.cell? ⟨b, 0, none⟩ = some (.pointer none)) (hsh : w.shape? b = some (133, 2)) (hfz : w.frozen? ⟨b, 0, none⟩ = false) :
    Calls Tryz.prog 115 #[.pointer (some ⟨b, 0, none⟩)] w fun e w' => e = .returned (.tuple #[]) ∧ w' = w.setCell ⟨b, 0, none⟩ (.pointer (some ⟨b, 0, none⟩)) := by
  obtain ⟨j, hj, hjs⟩ := Option.map_eq_some_iff.1 sizeBuilder
  go_enter Tryz.func115, Tryz.ntmps115
  go_wp2
  rw [Lib.run_to_unsafe w ⟨b, 0, none⟩ Tryz.underlying129 Tryz.underlying180 hj (by rw [hjs]; decide) hsh (Nat.zero_lt_succ 1)]
  simp only [Result.andThen]
  rw [Oper.upon_value]
  go_wp2
  rw [run_callFunc_extern Tryz.func129 (by kernel_rfl) (by kernel_rfl) (by kernel_rfl) (e := Extern.AbiNoEscape.same) (by kernel_rfl)]
  rw [Lib.run_noEscape]
  simp only [Result.andThen]
  rw [Oper.upon_value]
  go_wp2
  rw [Lib.run_from_unsafe w ⟨b, 0, none⟩ Tryz.underlying180 Tryz.underlying129 hj hsh liesWriter]
  simp only [Result.andThen]
  rw [Oper.upon_value]
  go_wp2
  go_end0
  exact ⟨rfl, rfl⟩
/-- All rows are kept but the writer's own and those of bytes. -/
def KpT (w w' : World) : Prop := ∀ (k : Nat) (cs : Array Value) (t : TypeId) (fr : Nat × Nat), w.heap[k]? = some (.cells cs t fr) → t ≠ 133 → t ≠ 5 → w'.heap[k]? = some (.cells cs t fr)
theorem KpT.refl (w : World) : KpT w w := fun _ _ _ _ h _ _ => h
theorem KpT.trans {a b c : World} (h : KpT a b) (g : KpT b c) : KpT a c := fun k cs t fr hk h1 h2 => g k cs t fr (h k cs t fr hk h1 h2) h1 h2
theorem KpT.cell {w w' : World} (h : KpT w w') {k : Nat} {cs : Array Value} {t : TypeId} {fr : Nat × Nat} (hk : w.heap[k]? = some (.cells cs t fr)) (h1 : t ≠ 133) (h2 : t ≠ 5) (j : Nat) : w'.cell? ⟨k, j, none⟩ = w.cell? ⟨k, j, none⟩ := by
  rw [Lib.cell_of_heap hk, Lib.cell_of_heap (h k cs t fr hk h1 h2)]
theorem kpT_set {w : World} {b : Nat} {cs : Array Value} {fr : Nat × Nat} (hb : w.heap[b]? = some (.cells cs 133 fr)) (j : Nat) (v : Value) : KpT w (w.setCell ⟨b, j, none⟩ v) := fun k cs' t fr' hk h1 _ => by
  have hne : k ≠ b := fun e => by
    rw [e, hb] at hk
    cases hk
    exact h1 rfl
  rw [show (w.setCell ⟨b, j, none⟩ v).heap[k]? = w.heap[k]? from Below.heap_setCell _ _ _ _ (by simpa using hne)]
  exact hk
theorem kpT_grown {w w' : World} {B n : Nat} {v : Value} {xs : List Value} (hg : w.grownBy w' v.ownBlock) (hown : w.ownsRow B 5 1 v n xs) : KpT w w' := fun k cs t fr hk _ h2 => by
  rw [hg.block k (Array.getElem?_eq_some_iff.1 hk).1 fun e => ?_]
  · exact hk
  · exact Lib.ownBlock_ne hown hk h2 e.symm
theorem kpT_below {w w' : World} (hb : Below w.heap.size w w') : KpT w w' := fun k cs t fr hk _ _ => (hb.block k (Array.getElem?_eq_some_iff.1 hk).1).trans hk
theorem wr_check (B b : Nat) (cs : List Value) (w : World) (h : IsWr B b cs w) :
    Calls Tryz.prog 115 #[.pointer (some ⟨b, 0, none⟩)] w fun e w' => e = .returned (.tuple #[]) ∧ (WrAt B b (.pointer (some ⟨b, 0, none⟩)) cs w' ∧ Below B w w' ∧ KpT w w') := by
  rcases h with h | h
  · refine (wr_check_fresh b w h.cell0 h.shape h.frozen0).mono ?_
    rintro e w' ⟨rfl, rfl⟩
    obtain ⟨_, v, hb, _⟩ := id h
    exact ⟨rfl, h.used _, (Below.refl B w).setCell (p := ⟨b, 0, none⟩) h.1 _, kpT_set hb 0 _⟩
  · refine (wr_check_used b w h.cell0).mono ?_
    rintro e w' ⟨rfl, rfl⟩
    exact ⟨rfl, h, Below.refl B _, KpT.refl _⟩
set_option maxHeartbeats 2000000 in
set_option maxRecDepth 100000 in
theorem wr_write (B b : Nat) (cs : List Value) (s : ByteArray) (w : World) (h : IsWr B b cs w) (hlen : cs.length + s.size ≤ 140737488355328) (hBw : B ≤ w.heap.size) :
    Calls Tryz.prog 89 #[.pointer (some ⟨b, 0, none⟩), .string s] w fun e w' => e = .returned (.tuple #[.int .i64 s.size, .nilIface]) ∧ (WrAt B b (.pointer (some ⟨b, 0, none⟩)) (cs ++ Lib.strCells s) w' ∧ Below B w w' ∧ KpT w w') := by
  obtain ⟨i0, hi, hz0, hz1, hz2⟩ := info_parts info_b8
  go_enter Tryz.func89, Tryz.ntmps89
  go_wp2_with (go_at_call 115; refine (wr_check B b cs _ h).mono ?_)
  rintro e w1 ⟨rfl, h1, hb1, hk1⟩
  obtain ⟨hB, v, hbk, hown, hne⟩ := h1
  have c0 : w1.cell? ⟨b, 0, none⟩ = some (.pointer (some ⟨b, 0, none⟩)) := by rw [Lib.cell_of_heap hbk]; rfl
  have c1 : w1.cell? ⟨b, 1, none⟩ = some v := by rw [Lib.cell_of_heap hbk]; rfl
  go_wp2_with (at_builtin; refine Lib.wpList_append_own_string _ rfl _ _ 100 9 rfl B 5 i0 Tryz.underlying100 Tryz.underlying9 hi hz0 hz1 hz2 _ _ _ rfl hown s rfl ?c3 ?c4 ?c5 ?_)
  case c3 => unfold maxLen; omega
  case c4 => omega
  case c5 => have := hb1.size; omega
  intro v' w2 hown' hgrow _
  have hlt : b < w1.heap.size := by
    rcases Nat.lt_or_ge b w1.heap.size with h' | h'
    · exact h'
    · simp [Array.getElem?_eq_none h'] at hbk
  have hb2 : w2.heap[b]? = some (.cells #[.pointer (some ⟨b, 0, none⟩), v] 133 (0, 0)) := by
    rw [hgrow.block b hlt (fun e => hne e.symm)]
    exact hbk
  have d0 : w2.cell? ⟨b, 0, none⟩ = some (.pointer (some ⟨b, 0, none⟩)) := by rw [Lib.cell_of_heap hb2]; rfl
  have d1 : w2.cell? ⟨b, 1, none⟩ = some v := by rw [Lib.cell_of_heap hb2]; rfl
  have f1 : w2.frozen? ⟨b, 1, none⟩ = false := Lib.frozen_of_heap hb2 1
  obtain ⟨ao, n', cap, rfl⟩ : ∃ ao n' cap, v' = .slice ao n' cap := by
    rcases hown'.2 with ⟨hv, _⟩ | ⟨g, cap, cur, hv, _⟩
    · exact ⟨_, _, _, hv⟩
    · exact ⟨_, _, _, hv⟩
  go_wp2
  go_ret2
  refine ⟨rfl, ?_, ?_, ?_⟩
  · exact Lib.BuilderAt.put (T := 133) (e := 5) hB hb2 (bs' := cs ++ Lib.strCells s) (by simpa [Lib.strCells_length] using hown') (by decide)
  · exact (hb1.grown hgrow (by have := hb1.size; omega) (fun k hk => (hown.lt k hk).1)).setCell (p := ⟨b, 1, none⟩) hB _
  · exact hk1.trans ((kpT_grown hgrow hown).trans (kpT_set hb2 1 _))
set_option maxHeartbeats 1000000 in
set_option maxRecDepth 100000 in
theorem wr_string (B b : Nat) (l : List UInt8) (w : World) (h : IsWr B b (Lib.byteCells l) w) (h0 : l ≠ []) :
    Calls Tryz.prog 90 #[.pointer (some ⟨b, 0, none⟩)] w fun e w' => e = .returned (.string ⟨l.toArray⟩) ∧ Below B w w' := by
  obtain ⟨p, hB, v, hbk, hown, hne⟩ : ∃ p, WrAt B b p (Lib.byteCells l) w := by
    rcases h with h | h
    · exact ⟨_, h⟩
    · exact ⟨_, h⟩
  have hl0 : l.length ≠ 0 := by simpa using h0
  rw [Lib.byteCells_length] at hown
  obtain ⟨g, cap, cur, rfl, hbg, hg, hnc, hcm, hcs, htake⟩ : ∃ g cap cur, v = .slice (some ⟨g, 0, none⟩) l.length cap ∧ B ≤ g ∧ w.heap[g]? = some (.cells cur 5 (0, 0)) ∧ l.length ≤ cap ∧ cap ≤ maxLen ∧ cur.size = cap * 1 ∧ cur.toList.take (l.length * 1) = Lib.byteCells l := by
    rcases hown.2 with ⟨_, hz⟩ | ⟨g, cap, cur, hv, r⟩
    · exact absurd hz hl0
    · exact ⟨g, cap, cur, hv, r⟩
  have c1 : w.drew.cell? ⟨b, 1, none⟩ = some (.slice (some ⟨g, 0, none⟩) l.length cap) := by
    have : w.drew.heap[b]? = some (.cells #[p, .slice (some ⟨g, 0, none⟩) l.length cap] 133 (0, 0)) := hbk
    rw [Lib.cell_of_heap this]; rfl
  have hSD : (Builtin.unsafeSliceData_ #[100] 167 #[.slice (some ⟨g, 0, none⟩) l.length cap]).run Tryz.prog w.drew = .ok (.pointer (some ⟨g, 0, none⟩)) w.drew :=
    Lib.run_unsafeSliceData_row _ _ _ _ _ _ (by omega)
  have hUS : (Builtin.unsafeString_ #[167, 3] 9 #[.pointer (some ⟨g, 0, none⟩), .int .i64 l.length]).run Tryz.prog w.drew = .ok (.string ⟨l.toArray⟩) (w.drew.freeze ⟨g, 0, none⟩ l.length) := by
    refine Lib.run_unsafeString_row w.drew 167 3 9 5 Tryz.underlying167 cellsByte g cur.size (by have hg' : w.drew.heap[g]? = some (.cells cur 5 (0, 0)) := hg; simp [World.shape?, hg']) l h0 (by omega) (by unfold maxLen at hcm; omega) ?_
    intro j x hx
    have := hown.cells (g := g) rfl j (.int .u8 x.toNat) (by simp [Lib.byteCells, hx])
    exact this
  go_enter Tryz.func90, Tryz.ntmps90
  go_wp2
  go_region
  all_goals (go_wp2; go_ret; exact ⟨rfl, Lib.below_freeze (Below.drew (Below.refl B w)) (p := ⟨g, 0, none⟩) hbg _⟩)
theorem isWr_below {B b C : Nat} {cs : List Value} {w w' : World} (h : IsWr B b cs w) (hb : Below C w w') (hC : w.heap.size ≤ C) : IsWr B b cs w' := by
  have aux : ∀ p, WrAt B b p cs w → WrAt B b p cs w' := by
    rintro p ⟨h1, v, h2, h3, h4⟩
    exact ⟨h1, v, (hb.block b (Nat.lt_of_lt_of_le (Array.getElem?_eq_some_iff.1 h2).1 hC)).trans h2, row_below h3 hb hC, h4⟩
  rcases h with h | h
  · exact .inl (aux _ h)
  · exact .inr (aux _ h)
theorem strCells_bs (l : Bytes) : Lib.strCells (bs l) = Lib.byteCells l := rfl
theorem byteCells_app (a b : Bytes) : Lib.byteCells (a ++ b) = Lib.byteCells a ++ Lib.byteCells b := by simp [Lib.byteCells]
/-- What numbers writes. -/
def numsB (l : List Int) : Bytes := l.flatMap fun z => enc (zz z)
theorem numsB_length (l : List Int) : (numsB l).length ≤ 10 * l.length := by
  induction l with
  | nil => simp [numsB]
  | cons x t ih =>
    have := enc_length (zz x)
    simp only [numsB, List.flatMap_cons, List.length_append, List.length_cons] at ih ⊢
    omega
theorem numsB_succ (l : List Int) (k : Nat) (h : k < l.length) : numsB (l.take (k + 1)) = numsB (l.take k) ++ enc (zz (l.getD k 0)) := by
  rw [take_getD l 0 k h]
  simp [numsB]
set_option maxHeartbeats 1000000 in
set_option maxRecDepth 100000 in
theorem numbers_any (B b k : Nat) (c : Bytes) (l : List Int) (n : Nat) (hn : l.length = n) (w : World) (h : IsWr B b (Lib.byteCells c) w) (hk : w.heap[k]? = some (.cells (l.map (Value.int .i64)).toArray 3 (0, 0)))
    (hl : ∀ i, i < n → EncZ (l.getD i 0)) (hlen : n ≤ 100) (hc : c.length ≤ 1000000000) (hB : B ≤ w.heap.size) :
    Calls Tryz.prog 87 #[.pointer (some ⟨b, 0, none⟩), .slice (some ⟨k, 0, none⟩) n n] w fun e w' => e = .returned (.tuple #[]) ∧ IsWr B b (Lib.byteCells (c ++ numsB l)) w' ∧ Below B w w' ∧ KpT w w' := by
  have H := Lib.hid h
  have HK := Lib.hid hk
  have HL := Lib.hid hl
  have HN := Lib.hid hn
  clear h hk hl hn
  go_enter Tryz.func87, Tryz.ntmps87
  go_wp2
  go_loopw [10] (fun i wr => ∃ j : Nat, j ≤ n ∧ i = .int .i64 j ∧ Hid (IsWr B b (Lib.byteCells (c ++ numsB (l.take j))) wr) ∧ Below B w wr ∧ Hid (KpT w wr)) (fun i _ => n - (intOf i).toNat)
  case atStart => exact ⟨0, Nat.zero_le _, rfl, by show IsWr _ _ _ _; simpa [numsB] using H.out, Below.refl _ _, KpT.refl _⟩
  case round =>
    obtain ⟨j, hj, rfl, HW, hBr, HKp⟩ := hrel
    have hz := hBr.size
    by_cases h1 : j < n
    · have hjn : (j : Int) < (n : Int) := by omega
      have c1 : wr.cell? ⟨k, 0 + j, none⟩ = some (.int .i64 (l.getD j 0)) := by
        rw [HKp.out.cell HK.out (by decide) (by decide), Lib.cell_of_heap HK.out]
        simp [HN.out, h1, List.getD_eq_getElem?_getD, List.getElem?_eq_getElem (show j < l.length by rw [HN.out]; exact h1)]
      rw [Nat.zero_add] at c1
      have he := HL.out j h1
      have HS := Lib.hid (numsB_succ l j (by rw [HN.out]; exact h1))
      have hnl := numsB_length (l.take j)
      have hlt : (l.take j).length ≤ 100 := by rw [List.length_take]; omega
      have hcl : (Lib.byteCells (c ++ numsB (l.take j))).length ≤ 1000010000 := by rw [Lib.byteCells_length, List.length_append]; omega
      have hpe : Hid (putInt (l.getD j 0) = (enc (zz (l.getD j 0)), 0)) := if_pos he
      have hel := enc_length (zz (l.getD j 0))
      have hes : (bs (enc (zz (l.getD j 0)))).size ≤ 10 := by rw [bs_size]; exact hel
      generalize l.getD j 0 = z at *
      clear he hnl hlt hel
      go_wp2_with fail
      refine (putInt_any z wr).mono ?_
      rintro e w1 ⟨rfl, hb1⟩
      rw [hpe.out]
      have HW1 := Lib.hid (isWr_below HW.out hb1 (Nat.le_refl _))
      have HKp1 := Lib.hid (HKp.out.trans (kpT_below hb1))
      have hB1 := hBr.trans (hb1.mono (by omega))
      have hz1 := hB1.size
      rw [show strV (enc (zz z)) = .string (bs (enc (zz z))) from rfl]
      generalize hZ : enc (zz z) = Z at *
      clear hZ hb1 HW HKp hBr
      go_wp2_with fail
      refine (wr_write B b _ (bs Z) w1 HW1.out (by omega) (by omega)).mono ?_
      rintro e w2 ⟨rfl, hw2, hb2, hk2⟩
      rw [strCells_bs, ← byteCells_app, List.append_assoc, ← HS.out] at hw2
      have HW2 := Lib.hid hw2
      have HK2 := Lib.hid hk2
      have hB2 := hB1.trans hb2
      clear hw2 hb2 hk2
      go_wp2
      go_roundw
      case rel => exact ⟨j + 1, by omega, by go_num, .inr HW2.out, hB2, HKp1.out.trans HK2.out⟩
      case measure => simp [intOf]; omega
    · obtain rfl : j = n := by omega
      go_wp2
      go_end0
      have := HW.out
      rw [List.take_of_length_le (by rw [HN.out]; exact Nat.le_refl _)] at this
      exact ⟨rfl, this, hBr, HKp.out⟩
theorem isWr_new (W : World) : IsWr W.heap.size W.heap.size (Lib.byteCells []) (W.alloc (.cells #[.pointer none, .slice none 0 0] 133)) := Lib.fresh_isBuilder _ _ W
end Go.Proofs.YteicimmdcdjagaaGreatDoor
