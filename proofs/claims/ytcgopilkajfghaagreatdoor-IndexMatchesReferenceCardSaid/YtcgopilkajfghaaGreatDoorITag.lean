/- What the operations of a drawn region leave, as a list of tags. -/
import Derived.Test.YtcgopilkajfghaaGreatDoorIBase
import Derived.Test.YtcgopilkajfghaaGreatDoorCalmLate
set_option linter.unusedVariables false
set_option linter.unusedSimpArgs false
namespace Go.Proofs.YtcgopilkajfghaaGreatDoor
open Go.RowKit Go.Shelf

inductive Tag : Type 1
  | own {α : Type} (K : SK α) (base : Nat) (l : List α)
  | val (v : Value)
  | box (base : Nat) (t : TypeId) (cs : Array Value)
def TagP : Tag → Value → World → Prop
  | .own K b l, v, W => OwnK K b W v l
  | .val u, v, _ => v = u
  | .box B t cs, v, W => ∃ b, v = .pointer (some ⟨b, 0, none⟩) ∧ B ≤ b ∧ BoxN b t cs W
def tagsF (ks : List (Nat × Tag)) (q : Nat) : Value → World → Prop := TagP ((ks.lookup q).getD (.val undef))
theorem tag_kept {t : Tag} {v : Value} {W W' : World} (h : TagP t v W) (hg : W.grownBy W' none) : TagP t v W' := by
  cases t with
  | own K b l => exact OwnK.kept h hg (fun g h => by cases h)
  | val u => exact h
  | box B t cs =>
    obtain ⟨b, h1, h2, h3⟩ := h
    exact ⟨b, h1, h2, BoxN.grown h3 hg (by simp)⟩
abbrev tagPl (sp : List Nat) (ks : List (Nat × Tag)) (n0 : Nat) : Plan := ⟨sp, tagsF ks, fun _ => [], 99, none, n0⟩
theorem tag_hst {ops : Array Oper} {sp : List Nat} {ks : List (Nat × Tag)} {n0 : Nat} {w : World} : ∀ k, (tagPl sp ks n0).sp.contains k = true → ∀ v W W' c, (tagPl sp ks n0).F k v W → W.grownBy W' c → Far ops (tagPl sp ks n0) w k v W c → (tagPl sp ks n0).F k v W' := fun k hk v W W' c h hg hc => by
  cases c with
  | some g => obtain ⟨_, _, i, j, u, hd, _⟩ := hc g rfl; simp at hd
  | none => exact tag_kept h hg
theorem tag_c0 {sp : List Nat} {ks : List (Nat × Tag)} {n0 : Nat} {w : World} : ∀ g, (tagPl sp ks n0).c0 = some g → g < w.heap.size := fun g h => by cases h
theorem LiveP.go {w0 W W' : World} {Ps : List (World → Prop)} (h : LiveP w0 Ps W) (hb : Below W.heap.size W W') : LiveP w0 Ps W' := h.step hb
end Go.Proofs.YtcgopilkajfghaaGreatDoor
