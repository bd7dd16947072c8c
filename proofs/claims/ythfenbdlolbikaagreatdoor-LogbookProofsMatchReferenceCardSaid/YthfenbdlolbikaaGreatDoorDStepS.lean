/- append of strings as a step of a region that draws. -/
import Derived.Test.YthfenbdlolbikaaGreatDoorMRefB
import Derived.Deep.RegionHeld3
import Derived.Deep.AppendLies
import Derived.Maps.AppendAt
import Derived.Test.YthfenbdlolbikaaGreatDoorMCalm
set_option linter.unusedVariables false
set_option linter.unusedSimpArgs false
namespace Go.Proofs.YthfenbdlolbikaaGreatDoor
open Go.RowKit Go.Shelf

theorem rowS_kept {base : Nat} {l : List Bytes} {v : Value} {W W' : World} {c : Option Nat} (h : OwnS base W v l) (hg : W.grownBy W' c) (hc : ∀ g, c = some g → v.ownBlock ≠ some g) : OwnS base W' v l :=
  World.ownsRow.kept h hg (by
    cases c with
    | none => cases v.ownBlock <;> simp
    | some g => exact .inr (hc g rfl))
/-- append of a list, at one operation. -/
theorem wp_append_SS {o : Oper} {a : Act} {w : World} {K : Act → World → Prop} {Q : Exit → Act → World → Prop} (s x : Operand)
    (ho : o.op = .call { callee := .builtin .append, args := #[s, x], argTypes := #[26, 26] }) (base b2 : Nat) (v sv : Value) (l l2 : List Bytes)
    (hs : a.eval s = v) (hx : a.eval x = sv) (hown : OwnS base w v l) (hsv : OwnS b2 w sv l2) (hlen : l.length + l2.length < 1000000) (hbase : base ≤ w.heap.size)
    (h : ∀ v' w', OwnS base w' v' (l ++ l2) → w.grownBy w' v.ownBlock → (v'.ownBlock = v.ownBlock ∨ v'.ownBlock = some w.heap.size) → K (a.put o.dst v') w') : Oper.wp Tryz.prog o a w K Q := by
  obtain ⟨i0, hi, hz0, hz1, hz2⟩ := info_parts infoS1
  rcases hsv.shape with ⟨rfl, rfl⟩ | ⟨g, cap, rfl, hg1, hg2, hg3, hg4⟩
  · have hr := run_append_owned_none (P := Tryz.prog) (w := w) base 26 o.type 9 i0 1 Tryz.underlying26 hi v l.length _ hown
    unfold Oper.wp execOp
    simp only [ho, resolve, invoke, builtin, Sem.run_bind, Sem.run_pure, Result.andThen_ok, List.map_toArray, List.map_cons, List.map_nil, hs, hx, hr]
    exact h v w (by rw [List.append_nil]; exact hown) ⟨rfl, rfl, rfl, Nat.le_refl _, fun _ _ _ => rfl⟩ (.inl rfl)
  · obtain ⟨v', w', hr, h2, h3, _, h5⟩ := run_append_own_at (P := Tryz.prog) w base 26 o.type 9 i0 (.string (⟨#[]⟩ : ByteArray)) 1 16 Tryz.underlying26 hi hz0 hz1 hz2 rfl (by decide) v l.length _ hown ⟨g, 0, none⟩ l2.length cap (l2.map (fun b => Value.string (bs b))) (by simp) (fun j u hj => World.ownsRow.cells hsv (g := g) rfl j u hj) (fun u hu => by obtain ⟨b, _, rfl⟩ := List.mem_map.1 hu; rfl) (by unfold maxLen; omega) (by omega) hbase
    unfold Oper.wp execOp
    simp only [ho, resolve, invoke, builtin, Sem.run_bind, Sem.run_pure, Result.andThen_ok, List.map_toArray, List.map_cons, List.map_nil, hs, hx, hr]
    refine h v' w' ?_ h3 h5
    unfold OwnS
    rw [List.length_append, List.map_append]
    exact h2
/-- append of a list, as a step of a region that draws. -/
theorem step_append_SS {ops : Array Oper} {o : Oper} {a : Act} {w : World} {K : Act → World → Prop} {Q : Exit → Act → World → Prop} {E : Prop} (hgd : o.guard = none) (s x : Operand)
    (ho : o.op = .call { callee := .builtin .append, args := #[s, x], argTypes := #[26, 26] }) (base b2 : Nat) (v sv : Value) (l l2 : List Bytes)
    (hs : a.eval s = v) (hx : a.eval x = sv) (hown : OwnS base w v l) (hsv : OwnS b2 w sv l2) (hlen : l.length + l2.length < 1000000) (hbase : base ≤ w.heap.size)
    (h : ∀ v' w', OwnS base w' v' (l ++ l2) → w.grownBy w' v.ownBlock → K (a.put o.dst v') w') :
    if Region.wanted o (yielded ops a.tmps) = true then Oper.wp Tryz.prog o a w K Q else E := by
  have hw : Region.wanted o (yielded ops a.tmps) = true := by simp [Region.wanted, hgd]
  rw [if_pos hw]
  exact wp_append_SS s x ho base b2 v sv l l2 hs hx hown hsv hlen hbase fun v' w' h1 h2 _ => h v' w' h1 h2
end Go.Proofs.YthfenbdlolbikaaGreatDoor
