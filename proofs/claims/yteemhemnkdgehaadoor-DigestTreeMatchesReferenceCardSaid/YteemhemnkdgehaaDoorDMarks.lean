/- The marks that ranges over functions leave. -/
import Derived.Test.YteemhemnkdgehaaDoorDBytes
namespace Go.Proofs.YteemhemnkdgehaaDoor
open Go.RowKit Go.Shelf

/-- The mark that a range over a function leaves. -/
abbrev markAt (D : Nat) : Deferred := { target := .collected D, args := #[] }
def Marks (Ds : List Nat) (B : Nat) (W : World) : Prop := Ds.Nodup ∧ ∀ D ∈ Ds, B ≤ D ∧ W.heap[D]? = some (.deferred (some []))
theorem Marks.lt {Ds : List Nat} {B : Nat} {W : World} (h : Marks Ds B W) {D : Nat} (hD : D ∈ Ds) : D < W.heap.size := (Array.getElem?_eq_some_iff.1 (h.2 D hD).2).1
theorem Marks.below {Ds : List Nat} {B C : Nat} {W W' : World} (h : Marks Ds B W) (hb : Below C W W') (hC : W.heap.size ≤ C) : Marks Ds B W' :=
  ⟨h.1, fun D hD => ⟨(h.2 D hD).1, (hb.block D (Nat.lt_of_lt_of_le (h.lt hD) hC)).trans (h.2 D hD).2⟩⟩
theorem Marks.grown {Ds : List Nat} {B : Nat} {W W' : World} {row : Option Nat} (h : Marks Ds B W) (hg : W.grownBy W' row) (hr : ∀ r, row = some r → ∃ o : Obj, W.heap[r]? = some o ∧ o.isCells = true) : Marks Ds B W' :=
  ⟨h.1, fun D hD => ⟨(h.2 D hD).1, (hg.block D (h.lt hD) fun e => by
    obtain ⟨o, h1, h2⟩ := hr D e.symm
    rw [(h.2 D hD).2] at h1
    cases h1
    cases h2).trans (h.2 D hD).2⟩⟩
theorem Marks.cons {Ds : List Nat} {B D : Nat} {W : World} (h : Marks Ds B W) (hD : W.heap[D]? = some (.deferred (some []))) (hB : B ≤ D) (hn : D ∉ Ds) : Marks (D :: Ds) B W :=
  ⟨List.nodup_cons.2 ⟨hn, h.1⟩, fun D' h' => by
    rcases List.mem_cons.1 h' with rfl | h'
    · exact ⟨hB, hD⟩
    · exact h.2 D' h'⟩
/-- The marks are taken off at the return: nothing but their own blocks turns. -/
theorem leaves_marks {F : Fence} {n : Nat} {P : Program} {fn : Func} {tmps : Array Value} {R : Ending → World → Prop} {B : Nat} : ∀ (Ds : List Nat) (W : World), Marks Ds B W →
    (∀ W', Below B W W' → (∀ (k : Nat) (o : Obj), W.heap[k]? = some o → o.isCells = true → W'.heap[k]? = some o) → LeavesInM F n P fn tmps R [] .returning W') → LeavesInM F n P fn tmps R (Ds.map markAt) .returning W
  | [], W, _, h => h W (Below.refl _ _) fun _ _ h _ => h
  | D :: Ds, W, hm, h => by
    have hD := hm.2 D (by simp)
    have hlt := hm.lt (D := D) (by simp)
    refine ⟨by simp, .inl ⟨D, _, rfl, run_takeDeferred hD.2, ?_⟩⟩
    have hnd := List.nodup_cons.1 hm.1
    have hb : Below B W (W.putObj D (.deferred none)) := (Below.refl B W).grown (grownBy_putObj' W D _) (by omega) (fun k e => by cases e; exact hD.1)
    refine leaves_marks Ds _ ⟨hnd.2, fun D' h' => ⟨(hm.2 D' (by simp [h'])).1, ?_⟩⟩ fun W' hb' hk' => h W' (hb.trans hb') fun k o hk ho => hk' k o ?_ ho
    · rw [World.putObj_heap_other (show D' ≠ D from fun e => hnd.1 (by rw [← e]; exact h'))]
      exact (hm.2 D' (by simp [h'])).2
    · rw [World.putObj_heap_other (fun e => by subst e; rw [hD.2] at hk; cases hk; cases ho)]
      exact hk
theorem keepsFrom_below {B : Nat} {W W' : World} (h : Below W.heap.size W W') : KeepsFrom B W W' := ⟨h.size, fun k _ _ hk _ => (h.block k (Array.getElem?_eq_some_iff.1 hk).1).trans hk⟩
/-- All blocks before n₀ are kept, but for one. -/
def KpBut (n₀ h : Nat) (W W' : World) : Prop := ∀ k, k < n₀ → k ≠ h → W'.heap[k]? = W.heap[k]?
theorem kpBut_t {n₀ h : Nat} {A B C : World} (x : KpBut n₀ h A B) (y : KpBut n₀ h B C) : KpBut n₀ h A C := fun k hk hh => (y k hk hh).trans (x k hk hh)
theorem kpBut_b {n₀ h : Nat} {w : World} (hn : n₀ ≤ w.heap.size) (W : World) (l : Nat) (o o' : Obj) (hl : w.heap.size ≤ l) (_ : W.heap[l]? = some o) (_ : o.isCells = false) (_ : o.isWalk = false) : KpBut n₀ h W (W.putObj l o') :=
  fun k hk _ => World.putObj_heap_other (by omega)
theorem kpBut_grown {n₀ h : Nat} {W W' : World} (hg : W.grownBy W' (some h)) (hn : n₀ ≤ W.heap.size) : KpBut n₀ h W W' := fun k hk hh => hg.block k (by omega) (fun e => hh (by cases e; rfl))
/-- What bytes a string is. -/
def bs (l : Bytes) : ByteArray := ⟨l.toArray⟩
theorem bs_list (l : Bytes) : (bs l).data.toList = l := rfl
theorem bs_size (l : Bytes) : (bs l).size = l.length := by show l.toArray.size = _; simp
theorem bs_of (s : ByteArray) : bs s.data.toList = s := rfl
end Go.Proofs.YteemhemnkdgehaaDoor
