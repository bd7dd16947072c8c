import Derived.Test.YtcgopilkajfghaaGreatDoorMShaB
import Derived.ArgAppend
import Derived.Maps.AppendAt
import Derived.OwnWalk
set_option linter.unusedVariables false
set_option linter.unusedSimpArgs false

section
/- Slices of bytes of the call's own: conversion and append. -/
namespace Go.Proofs.YtcgopilkajfghaaGreatDoor
open Go.RowKit Go.Shelf

theorem info_u8 : (Tryz.prog.info? 5).map (fun i => (i.zero, i.size, i.bytes)) = some (some (.int .u8 0), 1, 1) := by kernel_rfl
/-- A slice of bytes of the call's own, whose spare places may be written. -/
def BOwn (base : Nat) (w : World) (v : Value) (l : Bytes) : Prop :=
  ∃ g cap, v = .slice (some ⟨g, 0, none⟩) l.length cap ∧ base ≤ g ∧ g < w.heap.size ∧ l.length ≤ cap ∧ cap ≤ maxLen ∧
    (∀ j, j < l.length → w.cell? ⟨g, j, none⟩ = some (.int .u8 ((l.getD j 0).toNat : Int))) ∧ ∀ j, j < cap → (w.cell? ⟨g, j, none⟩).isSome = true ∧ w.frozen? ⟨g, j, none⟩ = false
theorem BOwn.below {base B : Nat} {w w' : World} {v : Value} {l : Bytes} (h : BOwn base w v l) (hb : Below B w w') (hB : w.heap.size ≤ B) : BOwn base w' v l := by
  obtain ⟨g, cap, rfl, h1, h2, h3, h4, h5, h6⟩ := h
  have hg : g < B := by omega
  have hz := hb.size
  exact ⟨g, cap, rfl, h1, by omega, h3, h4, fun j hj => (hb.cell (p := ⟨g, j, none⟩) hg).trans (h5 j hj), fun j hj => ⟨by rw [hb.cell (p := ⟨g, j, none⟩) hg]; exact (h6 j hj).1, (hb.frozen (p := ⟨g, j, none⟩) hg).trans (h6 j hj).2⟩⟩
theorem BOwn.shape {base : Nat} {w : World} {v : Value} {l : Bytes} (h : BOwn base w v l) : ∃ g cap, v = .slice (some ⟨g, 0, none⟩) l.length cap := by
  obtain ⟨g, cap, rfl, _⟩ := h
  exact ⟨g, cap, rfl⟩
theorem toList_getD (s : ByteArray) (j : Nat) (hj : j < s.size) : s.data.toList.getD j 0 = s[j] := by
  rw [List.getD_eq_getElem?_getD, List.getElem?_eq_getElem (by simpa using hj)]
  rfl
theorem bytesRow_size (s : ByteArray) (cap : Nat) (h : s.size ≤ cap) : (bytesRow s cap).size = cap := by
  unfold bytesRow
  rw [Array.size_append, Array.size_map, Array.size_replicate]
  show s.size + _ = _
  omega
/-- '[]byte(s)'. -/
theorem conv_own (w : World) (s : ByteArray) (hs : s.size ≤ maxLen) : ∃ (cap : Nat) (W : World), (convert 9 93 (.string s)).run Tryz.prog w = .ok (.slice (some ⟨w.heap.size, 0, none⟩) s.size cap) W ∧
    BOwn w.heap.size W (.slice (some ⟨w.heap.size, 0, none⟩) s.size cap) s.data.toList ∧ Below w.heap.size w W ∧ W.heap.size = w.heap.size + 1 := by
  refine ⟨_, _, run_bytes_of_string w 9 93 5 s Tryz.underlying9 Tryz.underlying93 Tryz.underlying5, ?_, (Below.refl _ w).drew.alloc (Nat.le_refl _) _, by rw [World.size_alloc]; rfl⟩
  have hge := grownCap_ge w s.size 0 5
  have hle := grownCap_le_maxLen w s.size 0 5 hs
  generalize grownCap w s.size 0 5 = cap at *
  have hz := bytesRow_size s cap hge
  have hl : s.data.toList.length = s.size := rfl
  have hb := heap_alloc_new w.drew (.cells (bytesRow s cap) 5 ((bytesRow s cap).size, (bytesRow s cap).size + 1))
  refine ⟨w.heap.size, cap, by rw [hl], Nat.le_refl _, by rw [World.size_alloc]; exact Nat.lt_succ_self _, by rw [hl]; exact hge, hle, fun j hj => ?_, fun j hj => ⟨?_, ?_⟩⟩
  · rw [hl] at hj
    rw [cell_of_row _ w.heap.size j _ _ _ hb, toList_getD s j hj, bytesRow, Array.getElem?_append_left (by simpa using hj), Array.getElem?_map, Array.getElem?_eq_getElem hj]
    rfl
  · rw [cell_of_row _ w.heap.size j _ _ _ hb, Array.getElem?_eq_getElem (by rw [hz]; exact hj)]
    rfl
  · have hb' : (w.drew.alloc (.cells (bytesRow s cap) 5 ((bytesRow s cap).size, (bytesRow s cap).size + 1))).heap[w.heap.size]? = _ := hb
    simp only [World.frozen?, hb']
    simp
    omega
/-- append of one byte. -/
theorem append_byte {ops : Array Oper} {rest : List Oper} {o : Oper} {a : Act} {Q : Exit → Act → World → Prop} {wr : World} (hgd : o.guard = none) (s x : Operand)
    (ho : o.op = .call { callee := .builtin .append, args := #[s, x], argTypes := #[93, 93] }) (base : Nat) (v : Value) (l : Bytes) (z : UInt8)
    (hs : a.eval s = v) (hx : a.eval x = .slice (some ⟨wr.heap.size, 0, none⟩) 1 1) (hown : BOwn base wr v l) (hlen : l.length < 140737488355328) (hbase : base ≤ wr.heap.size) (w0 : World) (hb : Below base w0 wr)
    (h : ∀ v' w', BOwn base w' v' (l ++ [z]) → Below base w0 w' → wpList Tryz.prog ops Q rest (a.put o.dst v') w') : wpList Tryz.prog ops Q (o :: rest) a (wr.alloc (.cells #[.int .u8 (z.toNat : Int)] 5)) := by
  obtain ⟨i0, hi, hz0, hz1, hz2⟩ := info_parts info_u8
  have hbl : Below wr.heap.size wr (wr.alloc (.cells #[.int .u8 (z.toNat : Int)] 5)) := (Below.refl _ _).alloc (Nat.le_refl _) _
  obtain ⟨g, cap, rfl, h1, h2, h3, h4, h5, h6⟩ := hown.below hbl (Nat.le_refl _)
  have hwb : Below base w0 (wr.alloc (.cells #[.int .u8 (z.toNat : Int)] 5)) := hb.alloc hbase _
  have hsn : (l ++ [z]).length = l.length + 1 := by simp
  have hget : ∀ j, j < l.length → (l ++ [z]).getD j 0 = l.getD j 0 := fun j hj => by rw [List.getD_eq_getElem?_getD, List.getElem?_append_left hj, ← List.getD_eq_getElem?_getD]
  have hlast : (l ++ [z]).getD l.length 0 = z := by simp
  refine wpList_append_arg _ hgd s x 93 ho 5 i0 (.int .u8 0) 1 1 Tryz.underlying93 hi hz0 hz1 hz2 rfl (by decide) g 0 l.length cap (l.map fun b => .int .u8 (b.toNat : Int)) hs (by simp) ?_ ⟨wr.heap.size, 0, none⟩ 1 1 [.int .u8 (z.toNat : Int)] hx rfl ?_ (by simp [Value.oneCell']) ?_ (by unfold maxLen; omega) (by omega) ?_ ?_
  · intro j u hj
    have hj' : j < l.length := by have := (List.getElem?_eq_some_iff.1 hj).1; simpa using this
    rw [Nat.zero_add, h5 j hj', ← hj, List.getElem?_map, List.getElem?_eq_getElem hj', List.getD_eq_getElem?_getD, List.getElem?_eq_getElem hj']
    rfl
  · intro j u hj
    match j, hj with
    | 0, hj => simp at hj; subst hj; simp [Addr.add]
  · intro hr j hj
    have : j = 0 := by simpa using hj
    subst this
    rw [show 0 + l.length * 1 + 0 = l.length from by omega]
    exact h6 l.length (by omega)
  · intro hr
    rw [show 0 + l.length * 1 = l.length from by omega]
    refine h _ _ ⟨g, cap, by rw [hsn], h1, ?_, by rw [hsn]; omega, h4, fun j hj => ?_, fun j hj => ⟨?_, ?_⟩⟩ ?_
    · show g < ((wr.alloc _).setCell ⟨g, l.length, none⟩ _).heap.size
      simpa using h2
    · show ((wr.alloc _).setCell ⟨g, l.length, none⟩ _).cell? _ = _
      rw [hsn] at hj
      by_cases e : j = l.length
      · subst e
        rw [World.cell?_setCell_same' _ _ _ (h6 l.length (by omega)).1, hlast]
      · rw [World.cell?_setCell_other, h5 j (by omega), hget j (by omega)]
        intro e'
        injection e' with _ e2 _
        exact e e2.symm
    · show (((wr.alloc _).setCell ⟨g, l.length, none⟩ _).cell? _).isSome = true
      by_cases e : j = l.length
      · subst e
        rw [World.cell?_setCell_same' _ _ _ (h6 l.length (by omega)).1]
        rfl
      · rw [World.cell?_setCell_other]
        · exact (h6 j hj).1
        · intro e'
          injection e' with _ e2 _
          exact e e2.symm
    · show ((wr.alloc _).setCell ⟨g, l.length, none⟩ _).frozen? _ = false
      rw [World.frozen?_setCell]
      exact (h6 j hj).2
    · exact hwb.setCell (p := ⟨g, l.length, none⟩) h1 _
  · intro hr v' w' hown' hg
    obtain ⟨hlen', hrow⟩ := hown'
    rcases hrow with ⟨_, h0⟩ | ⟨g', cap', cur, rfl, hg', hgg, c1, c2, c3, c4⟩
    · omega
    · have hzr : wr.heap.size < (wr.alloc (.cells #[.int .u8 (z.toNat : Int)] 5)).heap.size := by simp
      refine h _ _ ⟨g', cap', by rw [hsn], by omega, (Array.getElem?_eq_some_iff.1 hgg).1, by rw [hsn]; exact c1, c2, fun j hj => ?_, fun j hj => ⟨?_, frozen_of_row _ _ j _ _ hgg⟩⟩ ?_
      · rw [hsn] at hj
        rw [cell_of_row _ g' j _ _ _ hgg]
        have e := congrArg (fun (x : List Value) => x[j]?) c4
        simp only [List.getElem?_take] at e
        rw [if_pos (by omega), Array.getElem?_toList] at e
        rw [e]
        by_cases ej : j = l.length
        · subst ej
          rw [hlast, List.getElem?_append_right (by simp)]
          simp
        · rw [hget j (by omega), List.getElem?_append_left (by simp; omega), List.getElem?_map, List.getElem?_eq_getElem (by omega), List.getD_eq_getElem?_getD, List.getElem?_eq_getElem (by omega)]
          rfl
      · rw [cell_of_row _ g' j _ _ _ hgg, Array.getElem?_eq_getElem (by omega)]
        rfl
      · exact hwb.grown hg (by omega) (fun k hk => by cases hk)
end Go.Proofs.YtcgopilkajfghaaGreatDoor
end

section
/- The marks that ranges over functions leave. -/
namespace Go.Proofs.YtcgopilkajfghaaGreatDoor
open Go.RowKit Go.Shelf

/-- The mark that a range over a function leaves. -/
abbrev markAt (D : Nat) : Deferred := { target := .collected D, args := #[] }
def Marks (Ds : List Nat) (B : Nat) (W : World) : Prop := Ds.Nodup ∧ ∀ D ∈ Ds, B ≤ D ∧ W.heap[D]? = some (.deferred (some []))
theorem Marks.lt {Ds : List Nat} {B : Nat} {W : World} (h : Marks Ds B W) {D : Nat} (hD : D ∈ Ds) : D < W.heap.size := (Array.getElem?_eq_some_iff.1 (h.2 D hD).2).1
theorem Marks.below {Ds : List Nat} {B C : Nat} {W W' : World} (h : Marks Ds B W) (hb : Below C W W') (hC : W.heap.size ≤ C) : Marks Ds B W' :=
  ⟨h.1, fun D hD => ⟨(h.2 D hD).1, (hb.block D (Nat.lt_of_lt_of_le (h.lt hD) hC)).trans (h.2 D hD).2⟩⟩
theorem Marks.grown {Ds : List Nat} {B : Nat} {W W' : World} {row : Option Nat} (h : Marks Ds B W) (hg : W.grownBy W' row) (hr : ∀ r, row = some r → ∃ o : Obj, W.heap[r]? = some o ∧ o.isCells = true) : Marks Ds B W' :=
  ⟨h.1, fun D hD => ⟨(h.2 D hD).1, (hg.block D (h.lt hD) fun e => by
    obtain ⟨o, h1, h2⟩ := hr D e.symm
    rw [(h.2 D hD).2] at h1
    cases h1
    cases h2).trans (h.2 D hD).2⟩⟩
theorem Marks.cons {Ds : List Nat} {B D : Nat} {W : World} (h : Marks Ds B W) (hD : W.heap[D]? = some (.deferred (some []))) (hB : B ≤ D) (hn : D ∉ Ds) : Marks (D :: Ds) B W :=
  ⟨List.nodup_cons.2 ⟨hn, h.1⟩, fun D' h' => by
    rcases List.mem_cons.1 h' with rfl | h'
    · exact ⟨hB, hD⟩
    · exact h.2 D' h'⟩
/-- The marks are taken off at the return: nothing but their own blocks turns. -/
theorem leaves_marks {F : Fence} {n : Nat} {P : Program} {fn : Func} {tmps : Array Value} {R : Ending → World → Prop} {B : Nat} : ∀ (Ds : List Nat) (W : World), Marks Ds B W →
    (∀ W', Below B W W' → (∀ (k : Nat) (o : Obj), W.heap[k]? = some o → o.isCells = true → W'.heap[k]? = some o) → LeavesInM F n P fn tmps R [] .returning W') → LeavesInM F n P fn tmps R (Ds.map markAt) .returning W
  | [], W, _, h => h W (Below.refl _ _) fun _ _ h _ => h
  | D :: Ds, W, hm, h => by
    have hD := hm.2 D (by simp)
    have hlt := hm.lt (D := D) (by simp)
    refine ⟨by simp, .inl ⟨D, _, rfl, run_takeDeferred hD.2, ?_⟩⟩
    have hnd := List.nodup_cons.1 hm.1
    have hb : Below B W (W.putObj D (.deferred none)) := (Below.refl B W).grown (grownBy_putObj' W D _) (by omega) (fun k e => by cases e; exact hD.1)
    refine leaves_marks Ds _ ⟨hnd.2, fun D' h' => ⟨(hm.2 D' (by simp [h'])).1, ?_⟩⟩ fun W' hb' hk' => h W' (hb.trans hb') fun k o hk ho => hk' k o ?_ ho
    · rw [World.putObj_heap_other (show D' ≠ D from fun e => hnd.1 (by rw [← e]; exact h'))]
      exact (hm.2 D' (by simp [h'])).2
    · rw [World.putObj_heap_other (fun e => by subst e; rw [hD.2] at hk; cases hk; cases ho)]
      exact hk
theorem keepsFrom_below {B : Nat} {W W' : World} (h : Below W.heap.size W W') : KeepsFrom B W W' := ⟨h.size, fun k _ _ hk _ => (h.block k (Array.getElem?_eq_some_iff.1 hk).1).trans hk⟩
/-- All blocks before n₀ are kept, but for one. -/
def KpBut (n₀ h : Nat) (W W' : World) : Prop := ∀ k, k < n₀ → k ≠ h → W'.heap[k]? = W.heap[k]?
theorem kpBut_t {n₀ h : Nat} {A B C : World} (x : KpBut n₀ h A B) (y : KpBut n₀ h B C) : KpBut n₀ h A C := fun k hk hh => (y k hk hh).trans (x k hk hh)
theorem kpBut_b {n₀ h : Nat} {w : World} (hn : n₀ ≤ w.heap.size) (W : World) (l : Nat) (o o' : Obj) (hl : w.heap.size ≤ l) (_ : W.heap[l]? = some o) (_ : o.isCells = false) (_ : o.isWalk = false) : KpBut n₀ h W (W.putObj l o') :=
  fun k hk _ => World.putObj_heap_other (by omega)
theorem kpBut_grown {n₀ h : Nat} {W W' : World} (hg : W.grownBy W' (some h)) (hn : n₀ ≤ W.heap.size) : KpBut n₀ h W W' := fun k hk hh => hg.block k (by omega) (fun e => hh (by cases e; rfl))
/-- What bytes a string is. -/
def bs (l : Bytes) : ByteArray := ⟨l.toArray⟩
theorem bs_list (l : Bytes) : (bs l).data.toList = l := rfl
theorem bs_size (l : Bytes) : (bs l).size = l.length := by show l.toArray.size = _; simp
theorem bs_of (s : ByteArray) : bs s.data.toList = s := rfl
end Go.Proofs.YtcgopilkajfghaaGreatDoor
end
