/- What the statements on indices have in common: two indices of which one turns; what Put and Drop leave. -/
import Derived.Test.YtcgopilkajfghaaDoorIAlike
import Derived.Test.YtcgopilkajfghaaDoorISane
import Derived.Test.YtcgopilkajfghaaDoorIRun
set_option linter.unusedVariables false
set_option linter.unusedSimpArgs false
namespace Go.Proofs.YtcgopilkajfghaaDoor
open Go.RowKit Go.Shelf

theorem LiveT.turnX {S R S' : Nat → Prop} {w0 W W' : World} {Ps : List (World → Prop)} (h : LiveT (fun k => S k ∨ R k) w0 Ps W) (ht : Turn S W W') (hs : ∀ k, S' k → S k ∨ W.heap.size ≤ k) (hlt : ∀ k, S' k → k < W'.heap.size) : LiveT (fun k => S' k ∨ R k) w0 Ps W' :=
  h.turn ht (fun k hk => .inl hk) fun k hk => by
    rcases hk with hk | hk
    · refine ⟨?_, hlt k hk⟩
      rcases hs k hk with g | g
      · exact .inl (.inl g)
      · exact .inr g
    · exact ⟨.inl (.inr hk), Nat.lt_of_lt_of_le (h.2.2.1 k (.inr hk)).2 ht.size⟩
theorem LiveT.turnY {S R R' : Nat → Prop} {w0 W W' : World} {Ps : List (World → Prop)} (h : LiveT (fun k => S k ∨ R k) w0 Ps W) (ht : Turn R W W') (hs : ∀ k, R' k → R k ∨ W.heap.size ≤ k) (hlt : ∀ k, R' k → k < W'.heap.size) : LiveT (fun k => S k ∨ R' k) w0 Ps W' :=
  h.turn ht (fun k hk => .inr hk) fun k hk => by
    rcases hk with hk | hk
    · exact ⟨.inl (.inl hk), Nat.lt_of_lt_of_le (h.2.2.1 k (.inl hk)).2 ht.size⟩
    · refine ⟨?_, hlt k hk⟩
      rcases hs k hk with g | g
      · exact .inl (.inr g)
      · exact .inr g
theorem keepT_box {F : Nat → Prop} {W : World} {g : Nat} {t : TypeId} {cs : Array Value} (h : BoxN g t cs W) (hg : ¬ F g) : ∀ W', Turn F W W' → BoxN g t cs W' := fun _ ht => h.turn ht hg
/-- Another index is not touched. -/
theorem two_idx {S R S' : Nat → Prop} {Y : Nat} {m : List ICard} {W W' : World} (hy : IdxN R Y m W) (hd : ∀ k, S k → ¬ R k) (ht : Turn S W W') (hs : ∀ k, S' k → S k ∨ W.heap.size ≤ k) : IdxN R Y m W' ∧ ∀ k, S' k → ¬ R k :=
  ⟨hy.turn ht fun k hk hs => hd k hs hk, fun k hk hr => by
    rcases hs k hk with g | g
    · exact hd k g hr
    · exact Nat.lt_irrefl _ (Nat.lt_of_lt_of_le (hy.lt k hr) g)⟩
theorem placeC_self (l : List ICard) (c : ICard) : placeC (insC l c) c = placeC l c := by
  unfold insC
  have h : ∀ (a b : List ICard), placeC (a ++ c :: b) c = placeC (a ++ b) c := fun a b => by
    unfold placeC
    rw [List.countP_append, List.countP_append, List.countP_cons_of_neg]
    simp [befC_irr]
  rw [h, List.take_append_drop]
theorem del_ins (l : List ICard) (c : ICard) : delC (insC l c) c = l := by
  have hp := placeC_le l c
  unfold delC
  rw [placeC_self]
  unfold insC
  have hl : (l.take (placeC l c)).length = placeC l c := by rw [List.length_take]; omega
  rw [List.take_append_of_le_length (by omega), List.take_of_length_le (by omega)]
  rw [List.drop_append, hl, List.drop_of_length_le (by omega), show placeC l c + 1 - placeC l c = 1 by omega, List.nil_append]
  show _ ++ l.drop _ = l
  exact List.take_append_drop _ _
theorem find_ins_self {l : List ICard} {c : ICard} (h : findC l c.id = none) : findC (insC l c) c.id = some c := by rw [find_ins h, if_pos rfl]
/-- A card that is not there is put and dropped. -/
theorem put_drop {l : List ICard} {c : ICard} (h1 : findC l c.id = none) (h2 : validC c = true) (h3 : l.length < 500) :
    putL l c = (insC l c, 0) ∧ putL (insC l c) c = (insC l c, 420) ∧ dropL l c.id = (l, 420) ∧ dropL (insC l c) c.id = (l, 0) := by
  refine ⟨putL_in h1 h2 h3, putL_out (.inl (by rw [find_ins_self h1]; rfl)), ?_, ?_⟩
  · unfold dropL; rw [h1]
  · unfold dropL; rw [find_ins_self h1]; simp only; rw [del_ins]
theorem run_id (f : Nat → Nat → Int) (n : Nat) : ∀ c ∈ runL f n, 0 ≤ c.id ∧ c.id < 20 := runL_all (P := fun c => 0 ≤ c.id ∧ c.id < 20) (fun g => (cardG_ok g).2) f n
theorem run_no (f : Nat → Nat → Int) (n : Nat) {z : Int} (hz : 20 ≤ z) : findC (runL f n) z = none := findC_none.2 fun c hc e => by have := (run_id f n c hc).2; omega
end Go.Proofs.YtcgopilkajfghaaDoor
