/- A range over a function whose iterator keeps a variable of its own in a box (a captured variable that it writes): the law for a loop body that never leaves. At the wide fence. -/
import Derived.RangeFuncNested
import Derived.RangeFuncBound
import Derived.RangeFuncCalls
import Derived.RangeFuncLeaves
import Derived.Shelf.Abstract
import Derived.WalkKit
import Derived.OwnWalkIn
namespace Go.Proofs.YtbniboacglejbaaDoor
open Go.RowKit Go.Shelf

/-- The contract of an iterator with a box Bz of its own: all of xs comes, in order, if each round keeps the box; what the rounds build up, J, bears the iterator's stores into the box. -/
def SeqBox {α : Type} (P : Program) (g : Nat) (lb : Array Value) (encs : α → Array Value) (Bz : Nat) (xs : List α) (w0 : World) : Prop :=
  ∀ (n l : Nat) (J : List α → World → Prop) (W : World), Below w0.heap.size w0 W →
    (∀ pre W v, J pre W → J pre (W.setCell ⟨Bz, 0, none⟩ v)) →
    (∀ pre x rest W1, xs = pre ++ x :: rest → J pre W1 → YieldAt Fence.wide n P l (encs x) W1 fun e W' => e = .returned (.bool true) ∧ J (pre ++ [x]) W' ∧ W'.heap[Bz]? = W1.heap[Bz]?) →
    J [] W → CallsIn Fence.wide (n + 1) P g (#[.func (.yield l) #[] #[]] ++ lb) W fun e W' => (∃ v, e = .returned v) ∧ J xs W'

/-- The loop's record, and the block for deferred calls. -/
def Recorded (W : World) (B : Nat) (L : Loop) : Prop := W.heap[B + 1]? = some (.loop L) ∧ W.heap[B]? = some (.deferred (some []))

theorem Recorded.set {W : World} {B Bz : Nat} {L : Loop} {v : Value} (h : Recorded W B L) (hz : Bz < B) : Recorded (W.setCell ⟨Bz, 0, none⟩ v) B L :=
  ⟨(Below.heap_setCell _ _ _ _ (by show B + 1 ≠ Bz; omega)).trans h.1, (Below.heap_setCell _ _ _ _ (by show B ≠ Bz; omega)).trans h.2⟩

/-- What a round must come to. -/
def RoundEnd {α : Type} (B Bz : Nat) (I : List α → World → Prop) (xs : List α) (W : World) (e : Exit) (_ : Act) (W' : World) : Prop :=
  e = .normal ∧ KeepsFrom B W W' ∧ W'.heap[Bz]? = W.heap[Bz]? ∧ I xs W'
/-- What is owed behind the assignment to the loop's variables: the body's walk, in whatever world. -/
def RoundOk {α : Type} (P : Program) (n B Bz : Nat) (I : List α → World → Prop) (pre : List α) (x : α) (body : Code) (l : Nat) (W : World) (a₁ : Act) (W₁ : World) : Prop :=
  W₁ = W ∧ ∀ W₂, I pre W₂ → body.wpIn (Fence.wide.inRound l) n P (RoundEnd B Bz I (pre ++ [x]) W₂) a₁ W₂

theorem wpIn_range_box {α : Type} {P : Program} {n : Nat} {g : Operand} {ps : Array Tmp} {assign body : Code} {Q : Exit → Act → World → Prop} {a : Act} {w : World}
    {gf : Nat} {lb : Array Value} (hg : a.eval g = .func (.func gf) #[] lb) (eg : Enters P gf) {encs : α → Array Value} {Bz : Nat} {xs : List α} (hseq : SeqBox P gf lb encs Bz xs w) (hz : Bz < w.heap.size)
    (hps : ∀ x, (encs x).size = ps.size) (I : List α → World → Prop) (hI : OwnFrom w.heap.size I) (hIs : ∀ pre W v, I pre W → I pre (W.setCell ⟨Bz, 0, none⟩ v)) (h0 : I [] w)
    (hround : ∀ (l : Nat) (pre : List α) (x : α) (rest : List α) (W : World), xs = pre ++ x :: rest →
      assign.wpIn (Fence.wide.inRound l) n P (Exit.then (RoundOk P n w.heap.size Bz I pre x body l W) (fun _ _ _ => False))
        { tmps := (ps.zip (encs x)).foldl (fun t (p, v) => t.setIfInBounds p v) a.tmps, defers := [] } W)
    (hdone : ∀ (D : Nat) (W : World), w.heap.size ≤ D → I xs W → W.heap[D]? = some (.deferred (some [])) → Q .normal { a with defers := { target := .collected D, args := #[] } :: a.defers } W) :
    (Code.rangeFunc g ps assign body).wpIn Fence.wide (n + 2) P Q a w := by
  refine wpIn_rangeFunc fun fn hfn => ?_
  obtain ⟨L, hL⟩ : ∃ L : Loop, L = { state := .ready, pending := none, fn, tmps := a.tmps, params := ps, assign, body, defers := w.heap.size } := ⟨_, rfl⟩
  have hr0 : Recorded ((w.alloc (.deferred (some []))).alloc (.loop L)) w.heap.size L := by
    refine ⟨?_, (Below.heap_alloc _ _ _ (by simp)).trans (World.alloc_heap_new w _)⟩
    have := World.alloc_heap_new (w.alloc (.deferred (some []))) (.loop L)
    rwa [World.size_alloc] at this
  refine ⟨w.heap.size + 1, [{ target := .collected w.heap.size, args := #[] }], (w.alloc (.deferred (some []))).alloc (.loop L), { target := .fn (.func gf) lb, args := #[.func (.yield (w.heap.size + 1)) #[] #[]] },
    (w.alloc (.deferred (some []))).alloc (.loop L), gf, #[.func (.yield (w.heap.size + 1)) #[] #[]] ++ lb, (w.alloc (.deferred (some []))).alloc (.loop L), ?_, ?_, fun _ _ => trivial, ?_, fun _ => by omega, ?_⟩
  · rw [hL]; exact run_enterLoop_outer _ _ _ _ _
  · simp only [resolve, hg]
    simp [go_sem]
  · have := eg
    unfold Enters at this
    simp [invoke, go_sem, this]
  · refine (hseq n (w.heap.size + 1) (fun pre W => I pre W ∧ Recorded W w.heap.size L) _ (((Below.refl _ w).alloc (Nat.le_refl _) _).alloc (by simp) _)
      (fun pre W v h => ⟨hIs _ _ _ h.1, h.2.set hz⟩) ?_ ⟨hI.alloc _ (hI.alloc _ h0), hr0⟩).mono ?_
    · rintro pre x rest W hx ⟨hi, hl, hd⟩
      have hy := run_yield (P := P) (args := encs x) hl (by rw [hL]; exact hps x)
      refine ⟨_, _, _, _, hy, roundIn_of_wpIn (by rw [hL]; exact hfn) ?_⟩
      rw [hL]
      refine wpIn_mono (hround _ pre x rest W hx) fun e a1 W1 h1 => ?_
      cases e with
      | normal =>
        obtain ⟨rfl, h1⟩ := h1
        refine ⟨_, run_beginRound hl (by rw [hL]), ?_⟩
        refine wpIn_mono (h1 _ (hI.putObj _ hi (by omega) hl rfl)) ?_
        rintro e a3 W3 ⟨rfl, hk, hb, hi3⟩
        have hlt : w.heap.size + 1 < W1.heap.size := (Array.getElem?_eq_some_iff.1 hl).1
        have hl3 := hk.same _ _ (by omega) (World.putObj_heap_same hlt) rfl
        have hd3 := hk.same _ _ (Nat.le_refl _) ((World.putObj_heap_other (by omega)).trans hd) rfl
        have hlt3 : w.heap.size + 1 < W3.heap.size := (Array.getElem?_eq_some_iff.1 hl3).1
        refine ⟨_, _, run_endRound none hl3, rfl, ⟨hI.putObj _ hi3 (by omega) hl3 rfl, ?_, (World.putObj_heap_other (by omega)).trans hd3⟩, ?_⟩
        · refine (World.putObj_heap_same hlt3).trans ?_
          rw [hL]; rfl
        · rw [World.putObj_heap_other (by omega), hb, World.putObj_heap_other (by omega)]
      | exit id => exact h1.elim
      | goto t => exact h1.elim
      | ret => exact h1.elim
      | panic c => exact h1.elim
      | outgrown => exact h1.elim
    · rintro e W2 ⟨⟨v, rfl⟩, hi, hl, hd⟩
      have he := run_endLoop (P := P) hl (by rw [hL]; simp)
      rw [show L.pending = none by rw [hL]] at he
      exact ⟨none, _, he, hdone _ _ (Nat.le_refl _) (hI.putObj _ hi (by omega) hl rfl) ((World.putObj_heap_other (by omega)).trans hd)⟩
end Go.Proofs.YtbniboacglejbaaDoor
