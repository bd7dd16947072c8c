import Derived.Test.YteicimmdcdjagaaGreatDoorVMadeW
import Derived.Test.YteicimmdcdjagaaGreatDoorVEq
set_option linter.unusedVariables false
set_option linter.unusedSimpArgs false

/- ViewQueries: small lemmas. -/
set_option linter.unusedVariables false
set_option linter.unusedSimpArgs false
namespace Go.Proofs.YteicimmdcdjagaaGreatDoor
open Go.RowKit Go.Shelf

/-- Which notes are about a unit, in a spell. -/
def inS (u fr to : Int) (x : VNote) : Bool := decide (x.unit = u) && (decide (fr ≤ x.day) && decide (x.day < to))
theorem query_inS (l : List VNote) (u fr to : Int) : queryL (ofN l u) fr to = l.filter (inS u fr to) := by
  unfold queryL ofN
  rw [List.filter_filter]
  congr 1
  funext x
  unfold inS
  rw [Bool.and_comm]
theorem filter_at {α : Type} [Inhabited α] (q : α → Bool) (l : List α) (k : Nat) (h : k < l.length) : (l.take (k + 1)).filter q = (l.take k).filter q ++ (if q (l.getD k default) then [l.getD k default] else []) := by
  rw [take_getD l default k h, List.filter_append]
  generalize l.getD k default = x
  congr 1
  cases hq : q x <;> simp [List.filter_cons, hq]
theorem filter_next {α : Type} [Inhabited α] (q : α → Bool) (l : List α) (k : Nat) (h : k < l.length) (hq : q (l.getD k default) = true) : (l.filter q)[((l.take k).filter q).length]? = some (l.getD k default) := by
  have e : l.filter q = (l.take k).filter q ++ (l.drop k).filter q := by rw [← List.filter_append, List.take_append_drop]
  have e2 : l.drop k = l.getD k default :: l.drop (k + 1) := by rw [List.drop_eq_getElem_cons h, List.getD_eq_getElem?_getD, List.getElem?_eq_getElem h]; rfl
  rw [e, List.getElem?_append_right (Nat.le_refl _), Nat.sub_self, e2, List.filter_cons, hq]
  rfl
theorem filter_le {α : Type} (q : α → Bool) (l : List α) (k : Nat) : ((l.take k).filter q).length ≤ (l.filter q).length := by
  have e : l.filter q = (l.take k).filter q ++ (l.drop k).filter q := by rw [← List.filter_append, List.take_append_drop]
  rw [e, List.length_append]
  omega
theorem append_KG {α : Type} {K : SK α} (ok : K.Ok) {ops : Array Oper} {rest : List Oper} {o : Oper} {a : Act} {Q : Exit → Act → World → Prop} {wr : World} (hw : Region.wanted o (yielded ops a.tmps) = true) (s x : Operand)
    (ho : o.op = .call { callee := .builtin .append, args := #[s, x], argTypes := #[K.st, K.st] }) (base B2 : Nat) (v sv : Value) (l l2 : List α)
    (hs : a.eval s = v) (hx : a.eval x = sv) (hown : OwnK K base wr v l) (hsv : RowsAt K B2 wr sv l2) (hlen : l.length + l2.length < 1000000) (hbase : base ≤ wr.heap.size) (w0 : World) (hb : Below base w0 wr)
    (h : ∀ v' w', OwnK K base w' v' (l ++ l2) → wr.grownBy w' v.ownBlock → Below base w0 w' → wpList Tryz.prog ops Q rest (a.put o.dst v') w') : wpList Tryz.prog ops Q (o :: rest) a wr := by
  rw [wpList, if_pos hw]
  exact .inl (wp_append_K ok s x ho base B2 v sv l l2 hs hx hown hsv hlen hbase fun v' w' h1 h2 _ => h v' w' h1 h2 (hb.grown h2 hbase fun k hk => (World.ownsRow.lt hown k hk).1))
theorem made_dos (z : Int) (N : Nat) (f : Nat → Nat → Int) : dosB ⟨keyB z, (madeD (keyB z) N f).notes⟩ = true := by
  obtain ⟨h1, h2, _⟩ := madeD_ok (keyB_length z) N f
  have e : (⟨keyB z, (madeD (keyB z) N f).notes⟩ : VDos) = madeD (keyB z) N f := by
    cases hm : madeD (keyB z) N f
    rw [hm] at h2
    simp only at h2
    rw [h2]
  rw [e]
  exact h1
theorem unit_in {u : Int} (h : 0 ≤ u ∧ u ≤ 99) : (true && inZ u 0 99) = true := by
  unfold inZ
  simp
  omega
theorem wr_trans {a b c : World} (h : a.grownBy b none) (g : b.grownBy c none) : a.grownBy c none := ⟨g.os.trans h.os, g.tape.trans h.tape, g.output.trans h.output, Nat.le_trans h.size g.size, fun k hk hne => (g.block k (Nat.lt_of_lt_of_le hk h.size) (by simp)).trans (h.block k hk (by simp))⟩
end Go.Proofs.YteicimmdcdjagaaGreatDoor
