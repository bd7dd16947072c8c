/- Blocks that are rows of words. -/
import Derived.Test.YteemhemnkdgehaaDoorDWords
import Derived.Laws.Rows
import Derived.Shelf.Abstract
import Derived.Deep.QuietTactic
import Derived.BigQuiet
import Derived.Deep.MidRow
namespace Go.Proofs.YteemhemnkdgehaaDoor
open Go.RowKit

/-- The cells of words. -/
def uCells (l : List UInt32) : Array Value := (l.map fun x => Value.int .u32 (w32 x)).toArray
theorem uCells_size (l : List UInt32) : (uCells l).size = l.length := by simp [uCells]
theorem uCells_get (l : List UInt32) (j : Nat) (h : j < l.length) : (uCells l)[j]? = some (.int .u32 (w32 (l.getD j 0))) := by
  simp [uCells, h]
/-- Block B holds these words, and may be written. -/
def URow (W : World) (B : Nat) (t : TypeId) (l : List UInt32) : Prop := W.heap[B]? = some (.cells (uCells l) t (0, 0))
theorem URow.lt {W : World} {B : Nat} {t : TypeId} {l : List UInt32} (h : URow W B t l) : B < W.heap.size := (Array.getElem?_eq_some_iff.1 h).1
theorem URow.cell {W : World} {B : Nat} {t : TypeId} {l : List UInt32} (h : URow W B t l) (j : Nat) (hj : j < l.length) : W.cell? ⟨B, j, none⟩ = some (.int .u32 (w32 (l.getD j 0))) := by
  rw [cell_of_row W B j _ t _ h, uCells_get l j hj]
theorem URow.frozen {W : World} {B : Nat} {t : TypeId} {l : List UInt32} (h : URow W B t l) (j : Nat) : W.frozen? ⟨B, j, none⟩ = false := frozen_of_row W B j _ t h
theorem uCells_set (l : List UInt32) (j : Nat) (x : UInt32) : (uCells l).setIfInBounds j (.int .u32 (w32 x)) = uCells (l.set j x) := by
  unfold uCells
  rw [List.setIfInBounds_toArray, List.map_set]
theorem URow.set {W : World} {B : Nat} {t : TypeId} {l : List UInt32} (h : URow W B t l) (j : Nat) (x : UInt32) : URow (W.setCell ⟨B, j, none⟩ (.int .u32 (w32 x))) B t (l.set j x) := by
  unfold URow
  rw [heap_setCell_same W B j _ t _ h, uCells_set]
theorem URow.below {W W' : World} {B C : Nat} {t : TypeId} {l : List UInt32} (h : URow W B t l) (hb : Below C W W') (hC : B < C) : URow W' B t l := (hb.block B hC).trans h
theorem URow.drew {W : World} {B : Nat} {t : TypeId} {l : List UInt32} (h : URow W B t l) : URow W.drew B t l := h
theorem URow.drewN {W : World} {B : Nat} {t : TypeId} {l : List UInt32} (h : URow W B t l) (n : Nat) : URow (W.drewN n) B t l := h
theorem URow.alloc {W : World} {B : Nat} {t : TypeId} {l : List UInt32} (h : URow W B t l) (o : Obj) : URow (W.alloc o) B t l := h.below ((Below.refl (B + 1) W).alloc h.lt o) (by omega)
theorem URow.new (W : World) (t : TypeId) (l : List UInt32) : URow (W.alloc (.cells (uCells l) t)) W.heap.size t l := heap_alloc_new W _
theorem URow.other {W : World} {B g j : Nat} {t : TypeId} {l : List UInt32} {v : Value} (h : URow W B t l) (hne : B ≠ g) : URow (W.setCell ⟨g, j, none⟩ v) B t l := (heap_setCell_other W _ B v hne).trans h
theorem URow.there {W : World} {B : Nat} {t : TypeId} {l : List UInt32} (h : URow W B t l) : W.there B 0 l.length := fun j hj => by
  rw [Nat.zero_add]
  exact ⟨by rw [h.cell j hj]; rfl, h.frozen j⟩
theorem uCells_one (l : List UInt32) : (uCells l).all (·.oneCell') = true := by
  unfold uCells
  apply all_oneCell_toArray
  intro v hv
  obtain ⟨x, _, rfl⟩ := List.mem_map.1 hv
  rfl
/-- The whole row is written. -/
theorem setCells_row (B : Nat) (t : TypeId) : ∀ (l' : List UInt32) (o : Nat) (l : List UInt32) (W : World), URow W B t l → o + l'.length = l.length → URow (W.setCells B o (uCells l').toList) B t (l.take o ++ l')
  | [], o, l, W, h, ho => by
    have e : l.take o ++ [] = l := by rw [List.append_nil, List.take_of_length_le (by simp at ho; omega)]
    rw [e]
    exact h
  | x :: l', o, l, W, h, ho => by
    have ho' : o + 1 + l'.length = l.length := by simp at ho; omega
    have h1 := setCells_row B t l' (o + 1) (l.set o x) _ (h.set o x) (by rw [List.length_set]; exact ho')
    have e : (l.set o x).take (o + 1) ++ l' = l.take o ++ x :: l' := by
      rw [List.take_succ_eq_append_getElem (by rw [List.length_set]; omega), List.take_set_of_le (Nat.le_refl _), List.getElem_set_self, List.append_assoc]
      rfl
    rw [e] at h1
    exact h1
theorem URow.setAll {W : World} {B : Nat} {t : TypeId} {l l' : List UInt32} (h : URow W B t l) (hl : l'.length = l.length) : URow (W.setCells B 0 (uCells l').toList) B t l' := by
  have := setCells_row B t l' 0 l W h (by omega)
  simpa using this
theorem below_setCells {C B : Nat} : ∀ (vs : List Value) (o : Nat) {w W : World}, Below C w W → C ≤ B → Below C w (W.setCells B o vs)
  | [], _, _, _, h, _ => h
  | v :: r, o, _, _, h, hC => below_setCells r (o + 1) (h.setCell (p := ⟨B, o, none⟩) hC v) hC
end Go.Proofs.YteemhemnkdgehaaDoor
