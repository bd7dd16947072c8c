/- The reference's Bent: plain; append and store of records. -/
import Derived.Test.YthfenbdlolbikaaGreatDoorGRefAdd
import Derived.Test.YthfenbdlolbikaaGreatDoorGOut
set_option linter.unusedVariables false
set_option linter.unusedSimpArgs false
namespace Go.Proofs.YthfenbdlolbikaaGreatDoor
open Go.RowKit Go.Shelf

theorem append_GG {ops : Array Oper} {rest : List Oper} {o : Oper} {a : Act} {Q : Exit → Act → World → Prop} {wr : World} (hgd : o.guard = none) (s x : Operand)
    (ho : o.op = .call { callee := .builtin .append, args := #[s, x], argTypes := #[23, 23] }) (base B2 : Nat) (v sv : Value) (l l2 : List LRec)
    (hs : a.eval s = v) (hx : a.eval x = sv) (hown : OwnG base wr v l) (hsv : RecsAt B2 wr sv l2) (hlen : l.length + l2.length < 1000000) (hbase : base ≤ wr.heap.size) (w0 : World) (hb : Below base w0 wr)
    (h : ∀ v' w', OwnG base w' v' (l ++ l2) → wr.grownBy w' v.ownBlock → Below base w0 w' → wpList Tryz.prog ops Q rest (a.put o.dst v') w') : wpList Tryz.prog ops Q (o :: rest) a wr := by
  have hw : Region.wanted o (yielded ops a.tmps) = true := by simp [Region.wanted, hgd]
  rw [wpList, if_pos hw]
  exact .inl (wp_append_G s x ho base B2 v sv l l2 hs hx hown hsv hlen hbase fun v' w' h1 h2 _ => h v' w' h1 h2 (hb.grown h2 hbase fun k hk => (World.ownsRow.lt hown k hk).1))
/-- A record with one part changed. -/
def setF (x : LRec) : Nat → Int → LRec
  | 0, n => { x with sec := n }
  | 1, n => { x with kind := n }
  | 2, n => { x with a := n }
  | _, n => { x with b := n }
theorem cellsG_setN : ∀ (l : List LRec) (k f : Nat) (n : Int), k < l.length → f < 4 → (cellsG l).set (k * 5 + f) (.int .i64 n) = cellsG (l.set k (setF (l.getD k default) f n))
  | x :: t, 0, f, n, _, hf => by
    have e : cellsG (x :: t) = recC x ++ cellsG t := rfl
    rw [e, Nat.zero_mul, Nat.zero_add, List.set_append_left _ _ (by simp [recC]; omega)]
    have e2 : cellsG ((x :: t).set 0 (setF ((x :: t).getD 0 default) f n)) = recC (setF x f n) ++ cellsG t := rfl
    rw [e2]
    congr 1
    match f, hf with
    | 0, _ => rfl
    | 1, _ => rfl
    | 2, _ => rfl
    | 3, _ => rfl
  | x :: t, k + 1, f, n, h, hf => by
    have e : cellsG (x :: t) = recC x ++ cellsG t := rfl
    have hl : (recC x).length = 5 := rfl
    rw [e, List.set_append_right _ _ (by omega), hl, show (k + 1) * 5 + f - 5 = k * 5 + f from by omega, cellsG_setN t k f n (by simpa using h) hf]
    rfl
theorem cellsG_setT : ∀ (l : List LRec) (k : Nat) (t : Bytes), k < l.length → (cellsG l).set (k * 5 + 4) (.string (bs t)) = cellsG (l.set k { l.getD k default with text := t })
  | x :: tl, 0, t, _ => by
    have e : cellsG (x :: tl) = recC x ++ cellsG tl := rfl
    rw [e, Nat.zero_mul, Nat.zero_add, List.set_append_left _ _ (by simp [recC])]
    rfl
  | x :: tl, k + 1, t, h => by
    have e : cellsG (x :: tl) = recC x ++ cellsG tl := rfl
    have hl : (recC x).length = 5 := rfl
    rw [e, List.set_append_right _ _ (by omega), hl, show (k + 1) * 5 + 4 - 5 = k * 5 + 4 from by omega, cellsG_setT tl k t (by simpa using h)]
    rfl
theorem OwnG.storeN {base : Nat} {W : World} {g n cap : Nat} {l : List LRec} (h : OwnG base W (.slice (some ⟨g, 0, none⟩) n cap) l) (hn : n = l.length) (k f : Nat) (hk : k < l.length) (hf : f < 4) (z : Int) : OwnG base (W.setCell ⟨g, k * 5 + f, none⟩ (.int .i64 z)) (.slice (some ⟨g, 0, none⟩) n cap) (l.set k (setF (l.getD k default) f z)) := by
  subst hn
  have := (World.ownsRow.stored (show W.ownsRow base 48 5 _ _ _ from h) (k * 5 + f) (.int .i64 z)).1
  unfold OwnG
  rw [List.length_set, ← cellsG_setN l k f z hk hf]
  exact this
theorem OwnG.storeT {base : Nat} {W : World} {g n cap : Nat} {l : List LRec} (h : OwnG base W (.slice (some ⟨g, 0, none⟩) n cap) l) (hn : n = l.length) (k : Nat) (hk : k < l.length) (t : Bytes) : OwnG base (W.setCell ⟨g, k * 5 + 4, none⟩ (.string (bs t))) (.slice (some ⟨g, 0, none⟩) n cap) (l.set k { l.getD k default with text := t }) := by
  subst hn
  have := (World.ownsRow.stored (show W.ownsRow base 48 5 _ _ _ from h) (k * 5 + 4) (.string (bs t))).1
  unfold OwnG
  rw [List.length_set, ← cellsG_setT l k t hk]
  exact this
/-- The reference's Bent. -/
def bentRecs (b : LBook) (n : Int) : List LRec := if b.recs.length = 0 then [⟨n, 1, 0, 0, []⟩] else b.recs
def bentAt (b : LBook) (at_ : Int) : Nat := if b.recs.length = 0 then 0 else (pickZ at_ b.recs.length).toNat
def bentB (b : LBook) (how n at_ : Int) : LBook :=
  if pickZ how 6 = 0 then ⟨n, bentRecs b n⟩
  else if pickZ how 6 ≤ 4 then ⟨b.office, (bentRecs b n).set (bentAt b at_) (setF ((bentRecs b n).getD (bentAt b at_) default) ((pickZ how 6).toNat - 1) n)⟩
  else ⟨b.office, (bentRecs b n).set (bentAt b at_) { (bentRecs b n).getD (bentAt b at_) default with text := List.replicate (150 + pickZ n 100).toNat 0 }⟩
end Go.Proofs.YthfenbdlolbikaaGreatDoor
