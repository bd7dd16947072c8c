/- A slice of bytes that a conversion has made: its cells, and stores into them. -/
import Derived.Test.YtbniboacglejbaaDoorProg
import Derived.Test.YtbniboacglejbaaDoorSmall
import Derived.Test.YtbniboacglejbaaDoorPutInt
namespace Go.Proofs.YtbniboacglejbaaDoor
open Go.RowKit

/-- Block g holds the bytes l in its first cells, and they may be written. -/
def BRow (W : World) (g : Nat) (l : List UInt8) : Prop :=
  ∃ (cur : Array Value) (lo hi : Nat), W.heap[g]? = some (.cells cur 5 (lo, hi)) ∧ l.length ≤ lo ∧ ∀ j (hj : j < l.length), cur[j]? = some (.int .u8 (l[j].toNat : Int))
theorem BRow.cell {W : World} {g : Nat} {l : List UInt8} (h : BRow W g l) (j : Nat) (hj : j < l.length) : W.cell? ⟨g, j, none⟩ = some (.int .u8 (l[j].toNat : Int)) := by
  obtain ⟨cur, lo, hi, hb, _, hc⟩ := h
  simp only [World.cell?, hb]
  exact hc j hj
theorem BRow.frozen {W : World} {g : Nat} {l : List UInt8} (h : BRow W g l) (j : Nat) (hj : j < l.length) : W.frozen? ⟨g, j, none⟩ = false := by
  obtain ⟨cur, lo, hi, hb, hlo, _⟩ := h
  simp only [World.frozen?, hb]
  simp
  omega
theorem BRow.set {W : World} {g : Nat} {l : List UInt8} (h : BRow W g l) (k : Nat) (b : UInt8) : BRow (W.setCell ⟨g, k, none⟩ (.int .u8 (b.toNat : Int))) g (l.set k b) := by
  obtain ⟨cur, lo, hi, hb, hlo, hc⟩ := h
  refine ⟨cur.setIfInBounds k (.int .u8 (b.toNat : Int)), lo, hi, ?_, by simpa using hlo, ?_⟩
  · obtain ⟨hlt, hk⟩ := Array.getElem?_eq_some_iff.1 hb
    show (W.heap.modify g _)[g]? = _
    rw [Array.getElem?_eq_getElem (by rw [Array.size_modify]; exact hlt), Array.getElem_modify_self, hk]
    rfl
  · intro j hj
    rw [List.length_set] at hj
    have hcj := hc j hj
    rw [List.getElem_set, Array.getElem?_setIfInBounds]
    by_cases e : k = j
    · subst e
      have : k < cur.size := (Array.getElem?_eq_some_iff.1 hcj).1
      simp [this]
    · simp [e, hcj]
theorem BRow.drew {W : World} {g : Nat} {l : List UInt8} (h : BRow W g l) : BRow W.drew g l := h
theorem BRow.drewN {W : World} {g : Nat} {l : List UInt8} (h : BRow W g l) (n : Nat) : BRow (W.drewN n) g l := h
theorem BRow.below {W W' : World} {g B : Nat} {l : List UInt8} (h : BRow W g l) (hb : Below B W W') (hg : g < B) : BRow W' g l := by
  obtain ⟨cur, lo, hi, h1, h2⟩ := h
  exact ⟨cur, lo, hi, (hb.block g hg).trans h1, h2⟩
theorem BRow.string {W : World} {g : Nat} {l : List UInt8} (h : BRow W g l) (cap : Nat) : (convert 38 9 (.slice (some ⟨g, 0, none⟩) l.length cap)).run Tryd.prog W = .ok (strV l) W := by
  refine run_convert_bytes_back W 38 9 5 ⟨g, 0, none⟩ cap l Tryd.underlying38 Tryd.underlying5 Tryd.underlying9 fun j hj => ?_
  have e : (⟨g, 0, none⟩ : Addr).add j = ⟨g, j, none⟩ := by unfold Addr.add; split <;> simp_all
  rw [e]
  exact h.cell j hj
/-- '[]byte(s)'. -/
theorem conv_bytes (w : World) (s : ByteArray) : ∃ (cap : Nat) (W : World), (convert 9 38 (.string s)).run Tryd.prog w = .ok (.slice (some ⟨w.heap.size, 0, none⟩) s.size cap) W ∧
    BRow W w.heap.size s.data.toList ∧ Below w.heap.size w W ∧ W.heap.size = w.heap.size + 1 := by
  refine ⟨_, _, run_bytes_of_string w 9 38 5 s Tryd.underlying9 Tryd.underlying38 Tryd.underlying5, ?_, (Below.refl _ w).drew.alloc (Nat.le_refl _) _, by rw [World.size_alloc]; rfl⟩
  refine ⟨_, _, _, World.alloc_heap_new _ _, ?_, ?_⟩
  · simp [bytesRow]
  · intro j hj
    simp only [bytesRow]
    rw [Array.getElem?_append_left (by simpa using hj), Array.getElem?_map, Array.getElem?_eq_getElem (by simpa using hj)]
    rfl
end Go.Proofs.YtbniboacglejbaaDoor
