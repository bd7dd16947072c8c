/- A world that goes on, with facts that are kept (for seats without logbook). -/
import Derived.Test.YtcgopilkajfghaaGreatDoorMRefB
import Derived.Test.YtcgopilkajfghaaGreatDoorKRow
set_option linter.unusedVariables false
set_option linter.unusedSimpArgs false
namespace Go.Proofs.YtcgopilkajfghaaGreatDoor
open Go.RowKit Go.Shelf

/-- The world has gone on from w0; these facts hold from now on. -/
def LiveP (w0 : World) (Ps : List (World → Prop)) (W : World) : Prop := Below w0.heap.size w0 W ∧ Rounds W ∧ ∀ P ∈ Ps, ∀ W', Below W.heap.size W W' → P W'
theorem LiveP.start {w : World} (hT : Rounds w) : LiveP w [] w := ⟨Below.refl _ _, hT, fun _ h => by cases h⟩
theorem LiveP.step {w0 W W' : World} {Ps : List (World → Prop)} (h : LiveP w0 Ps W) (hb : Below W.heap.size W W') : LiveP w0 Ps W' :=
  ⟨h.1.trans (hb.mono h.1.size), h.2.1.below hb (Nat.le_refl _), fun P hP W2 hb2 => h.2.2 P hP W2 (hb.trans (hb2.mono hb.size))⟩
theorem LiveP.add {w0 W : World} {Ps : List (World → Prop)} {P : World → Prop} (h : LiveP w0 Ps W) (hP : ∀ W', Below W.heap.size W W' → P W') : LiveP w0 (P :: Ps) W :=
  ⟨h.1, h.2.1, fun Q hQ => by
    rcases List.mem_cons.1 hQ with rfl | hQ
    · exact hP
    · exact h.2.2 Q hQ⟩
theorem LiveP.get {w0 W : World} {Ps : List (World → Prop)} {P : World → Prop} (h : LiveP w0 Ps W) (hP : P ∈ Ps) : P W := h.2.2 P hP W (Below.refl _ _)
theorem LiveP.alloc {w0 W : World} {Ps : List (World → Prop)} (h : LiveP w0 Ps W) (o : Obj) : LiveP w0 Ps (W.alloc o) := h.step ((Below.refl _ _).alloc (Nat.le_refl _) o)
theorem LiveP.drew {w0 W : World} {Ps : List (World → Prop)} (h : LiveP w0 Ps W) : LiveP w0 Ps W.drew := h.step (Below.refl _ _).drew
theorem LiveP.rounds {w0 W : World} {Ps : List (World → Prop)} (h : LiveP w0 Ps W) : Rounds W := h.2.1
theorem LiveP.below {w0 W : World} {Ps : List (World → Prop)} (h : LiveP w0 Ps W) : Below w0.heap.size w0 W := h.1
/-- The facts that are kept. -/
def StrsN (v : Value) (l : List Bytes) (W : World) : Prop := StrsAt W.heap.size W v l
def OwnsN (b : Nat) (v : Value) (l : List Bytes) (W : World) : Prop := OwnS b W v l
theorem keep_strs {W : World} {v : Value} {l : List Bytes} (h : StrsAt W.heap.size W v l) : ∀ W', Below W.heap.size W W' → StrsN v l W' := fun _ hb => h.later hb (Nat.le_refl _)
theorem keep_owns {W : World} {b : Nat} {v : Value} {l : List Bytes} (h : OwnS b W v l) : ∀ W', Below W.heap.size W W' → OwnsN b v l W' := fun _ hb => h.below hb (Nat.le_refl _)theorem LiveP.sub {w0 W : World} {Ps Qs : List (World → Prop)} (h : LiveP w0 Ps W) (hs : ∀ Q ∈ Qs, Q ∈ Ps) : LiveP w0 Qs W := ⟨h.1, h.2.1, fun Q hQ => h.2.2 Q (hs Q hQ)⟩
def RowsN {α : Type} (K : SK α) (v : Value) (l : List α) (W : World) : Prop := RowsAt K W.heap.size W v l
def OwnKN {α : Type} (K : SK α) (b : Nat) (v : Value) (l : List α) (W : World) : Prop := OwnK K b W v l
theorem keep_rows {α : Type} {K : SK α} {W : World} {v : Value} {l : List α} (h : RowsAt K W.heap.size W v l) : ∀ W', Below W.heap.size W W' → RowsN K v l W' := fun _ hb => h.later hb (Nat.le_refl _)
theorem keep_own {α : Type} {K : SK α} {W : World} {b : Nat} {v : Value} {l : List α} (h : OwnK K b W v l) : ∀ W', Below W.heap.size W W' → OwnKN K b v l W' := fun _ hb => h.below hb (Nat.le_refl _)
/-- A block with these cells. -/
def BoxN (g : Nat) (t : TypeId) (cs : Array Value) (W : World) : Prop := W.heap[g]? = some (.cells cs t (0, 0))
theorem keep_box {W : World} {g : Nat} {t : TypeId} {cs : Array Value} (h : BoxN g t cs W) : ∀ W', Below W.heap.size W W' → BoxN g t cs W' := fun _ hb => (hb.block g (Array.getElem?_eq_some_iff.1 h).1).trans h
theorem BoxN.cell {W : World} {g : Nat} {t : TypeId} {cs : Array Value} (h : BoxN g t cs W) (k : Nat) (v : Value) (hk : cs[k]? = some v) : W.cell? ⟨g, k, none⟩ = some v := by
  rw [Lib.cell_of_heap (show W.heap[g]? = _ from h)]
  exact hk
theorem BoxN.frozen {W : World} {g : Nat} {t : TypeId} {cs : Array Value} (h : BoxN g t cs W) (j : Nat) : W.frozen? ⟨g, j, none⟩ = false := Lib.frozen_of_heap h j
theorem BoxN.lt {W : World} {g : Nat} {t : TypeId} {cs : Array Value} (h : BoxN g t cs W) : g < W.heap.size := (Array.getElem?_eq_some_iff.1 h).1
theorem box_new (W : World) (t : TypeId) (cs : Array Value) : BoxN W.heap.size t cs (W.alloc (.cells cs t)) := heap_alloc_new W _
end Go.Proofs.YtcgopilkajfghaaGreatDoor
