import Derived.Test.YtcgopilkajfghaaGreatDoorMShaA
import Derived.Test.YtcgopilkajfghaaGreatDoorMTreeA
import Derived.BigQuiet
import Derived.Test.YtcgopilkajfghaaGreatDoorMShaD
import Derived.Test.YtcgopilkajfghaaGreatDoorMPlain
import Derived.Maps.AppendAt
import Derived.Test.YtcgopilkajfghaaGreatDoorMCalm
import Derived.StillTailTactics
import Derived.Test.YtcgopilkajfghaaGreatDoorMTreeB
set_option linter.unusedVariables false
set_option linter.unusedSimpArgs false

section
/- The reference's rotated and constants; rows of words of the call's own. -/
namespace Go.Proofs.YtcgopilkajfghaaGreatDoor
open Go.RowKit Go.Shelf

theorem rot_or2 (x : UInt32) (n : Nat) (hn : n < 32) (hn0 : 0 < n) : bits .or .u32 (w32 x / ((2 ^ n : Nat) : Int)) (w32 x * ((2 ^ (32 - n) : Nat) : Int) % 4294967296) = w32 (rotr x n) := by
  rw [u32_shl x _ (by omega), u32_shr x _ hn, u32_or]
  rfl
theorem quiet_n {P : Program} {f : FuncId} {args : Array Value} {w : World} {n : Nat} {v : Value}
    (h : Calls P f args (w.drewN n) fun e w' => e = .returned v ∧ ∃ q, w' = (w.drewN n).drewN q) : Calls P f args (w.drewN n) fun e w'' => e = .returned v ∧ ∃ m, w'' = w.drewN m :=
  h.mono fun _ _ ⟨he, q, hq⟩ => ⟨he, n + q, by rw [hq]; exact World.drewN_drewN _ _ _⟩
set_option maxRecDepth 100000 in
theorem refRot_2 (x : UInt32) (w : World) : Calls Tryz.prog 97 #[.int .u32 (w32 x), .int .i64 2] w fun e w' => e = .returned (.int .u32 (w32 (rotr x 2))) ∧ ∃ q, w' = w.drewN q := by
  have H := Lib.hid (rot_or2 x 2 (by decide) (by decide))
  go_enter Tryz.func97, Tryz.ntmps97
  go_wp2
  go_quiet (fail)
  go_wp2
  go_ret
  exact ⟨by rw [← H.out]; rfl, _, rfl⟩
set_option maxRecDepth 100000 in
theorem refRot_6 (x : UInt32) (w : World) : Calls Tryz.prog 97 #[.int .u32 (w32 x), .int .i64 6] w fun e w' => e = .returned (.int .u32 (w32 (rotr x 6))) ∧ ∃ q, w' = w.drewN q := by
  have H := Lib.hid (rot_or2 x 6 (by decide) (by decide))
  go_enter Tryz.func97, Tryz.ntmps97
  go_wp2
  go_quiet (fail)
  go_wp2
  go_ret
  exact ⟨by rw [← H.out]; rfl, _, rfl⟩
set_option maxRecDepth 100000 in
theorem refRot_7 (x : UInt32) (w : World) : Calls Tryz.prog 97 #[.int .u32 (w32 x), .int .i64 7] w fun e w' => e = .returned (.int .u32 (w32 (rotr x 7))) ∧ ∃ q, w' = w.drewN q := by
  have H := Lib.hid (rot_or2 x 7 (by decide) (by decide))
  go_enter Tryz.func97, Tryz.ntmps97
  go_wp2
  go_quiet (fail)
  go_wp2
  go_ret
  exact ⟨by rw [← H.out]; rfl, _, rfl⟩
set_option maxRecDepth 100000 in
theorem refRot_11 (x : UInt32) (w : World) : Calls Tryz.prog 97 #[.int .u32 (w32 x), .int .i64 11] w fun e w' => e = .returned (.int .u32 (w32 (rotr x 11))) ∧ ∃ q, w' = w.drewN q := by
  have H := Lib.hid (rot_or2 x 11 (by decide) (by decide))
  go_enter Tryz.func97, Tryz.ntmps97
  go_wp2
  go_quiet (fail)
  go_wp2
  go_ret
  exact ⟨by rw [← H.out]; rfl, _, rfl⟩
set_option maxRecDepth 100000 in
theorem refRot_13 (x : UInt32) (w : World) : Calls Tryz.prog 97 #[.int .u32 (w32 x), .int .i64 13] w fun e w' => e = .returned (.int .u32 (w32 (rotr x 13))) ∧ ∃ q, w' = w.drewN q := by
  have H := Lib.hid (rot_or2 x 13 (by decide) (by decide))
  go_enter Tryz.func97, Tryz.ntmps97
  go_wp2
  go_quiet (fail)
  go_wp2
  go_ret
  exact ⟨by rw [← H.out]; rfl, _, rfl⟩
set_option maxRecDepth 100000 in
theorem refRot_17 (x : UInt32) (w : World) : Calls Tryz.prog 97 #[.int .u32 (w32 x), .int .i64 17] w fun e w' => e = .returned (.int .u32 (w32 (rotr x 17))) ∧ ∃ q, w' = w.drewN q := by
  have H := Lib.hid (rot_or2 x 17 (by decide) (by decide))
  go_enter Tryz.func97, Tryz.ntmps97
  go_wp2
  go_quiet (fail)
  go_wp2
  go_ret
  exact ⟨by rw [← H.out]; rfl, _, rfl⟩
set_option maxRecDepth 100000 in
theorem refRot_18 (x : UInt32) (w : World) : Calls Tryz.prog 97 #[.int .u32 (w32 x), .int .i64 18] w fun e w' => e = .returned (.int .u32 (w32 (rotr x 18))) ∧ ∃ q, w' = w.drewN q := by
  have H := Lib.hid (rot_or2 x 18 (by decide) (by decide))
  go_enter Tryz.func97, Tryz.ntmps97
  go_wp2
  go_quiet (fail)
  go_wp2
  go_ret
  exact ⟨by rw [← H.out]; rfl, _, rfl⟩
set_option maxRecDepth 100000 in
theorem refRot_19 (x : UInt32) (w : World) : Calls Tryz.prog 97 #[.int .u32 (w32 x), .int .i64 19] w fun e w' => e = .returned (.int .u32 (w32 (rotr x 19))) ∧ ∃ q, w' = w.drewN q := by
  have H := Lib.hid (rot_or2 x 19 (by decide) (by decide))
  go_enter Tryz.func97, Tryz.ntmps97
  go_wp2
  go_quiet (fail)
  go_wp2
  go_ret
  exact ⟨by rw [← H.out]; rfl, _, rfl⟩
set_option maxRecDepth 100000 in
theorem refRot_22 (x : UInt32) (w : World) : Calls Tryz.prog 97 #[.int .u32 (w32 x), .int .i64 22] w fun e w' => e = .returned (.int .u32 (w32 (rotr x 22))) ∧ ∃ q, w' = w.drewN q := by
  have H := Lib.hid (rot_or2 x 22 (by decide) (by decide))
  go_enter Tryz.func97, Tryz.ntmps97
  go_wp2
  go_quiet (fail)
  go_wp2
  go_ret
  exact ⟨by rw [← H.out]; rfl, _, rfl⟩
set_option maxRecDepth 100000 in
theorem refRot_25 (x : UInt32) (w : World) : Calls Tryz.prog 97 #[.int .u32 (w32 x), .int .i64 25] w fun e w' => e = .returned (.int .u32 (w32 (rotr x 25))) ∧ ∃ q, w' = w.drewN q := by
  have H := Lib.hid (rot_or2 x 25 (by decide) (by decide))
  go_enter Tryz.func97, Tryz.ntmps97
  go_wp2
  go_quiet (fail)
  go_wp2
  go_ret
  exact ⟨by rw [← H.out]; rfl, _, rfl⟩
theorem infoU1 : (Tryz.prog.info? 129).map (fun i => (i.zero, i.size, i.bytes)) = some (some (.int .u32 0), 1, 4) := by kernel_rfl
/-- A slice of words of the call's own. -/
def OwnU (base : Nat) (w : World) (v : Value) (l : List UInt32) : Prop := w.ownsRow base 129 1 v l.length (l.map (fun x => Value.int .u32 (w32 x)))
theorem OwnU.nil (base : Nat) (w : World) : OwnU base w (.slice none 0 0) [] := World.ownsRow_nil _ _ _ _
theorem OwnU.below {base B : Nat} {w w' : World} {v : Value} {l : List UInt32} (h : OwnU base w v l) (hb : Below B w w') (hB : w.heap.size ≤ B) : OwnU base w' v l := row_below h hb hB
theorem OwnU.mono {base base' : Nat} {w : World} {v : Value} {l : List UInt32} (h : OwnU base w v l) (hB : base' ≤ base) : OwnU base' w v l := row_mono h hB
theorem OwnU.cell {base : Nat} {w : World} {g n cap : Nat} {l : List UInt32} (h : OwnU base w (.slice (some ⟨g, 0, none⟩) n cap) l) (i : Nat) (hi : i < l.length) : w.cell? ⟨g, i, none⟩ = some (.int .u32 (w32 (l.getD i 0))) := by
  have := World.ownsRow.cells h (g := g) rfl i (.int .u32 (w32 (l.getD i 0))) (by simp [hi])
  rw [Addr.add_lit, Nat.zero_add] at this
  exact this
theorem OwnU.shape {base : Nat} {w : World} {v : Value} {l : List UInt32} (h : OwnU base w v l) : (v = .slice none 0 0 ∧ l = []) ∨ ∃ g cap, v = .slice (some ⟨g, 0, none⟩) l.length cap ∧ base ≤ g ∧ g < w.heap.size ∧ l.length ≤ cap ∧ cap ≤ maxLen := by
  rcases h.2 with ⟨h0, h1⟩ | ⟨g, cap, cur, h1, h2, h3, h4, h5, _⟩
  · exact .inl ⟨h0, List.eq_nil_of_length_eq_zero h1⟩
  · exact .inr ⟨g, cap, h1, h2, (Array.getElem?_eq_some_iff.1 h3).1, h4, h5⟩
theorem OwnU.shape2 {base : Nat} {w : World} {v : Value} {l : List UInt32} (h : OwnU base w v l) : ∃ a cap, v = .slice a l.length cap ∧ l.length ≤ cap ∧ cap ≤ maxLen := by
  rcases h.shape with ⟨h0, rfl⟩ | ⟨g, cap, h1, _, _, h4, h5⟩
  · exact ⟨none, 0, h0, Nat.le_refl _, Nat.zero_le _⟩
  · exact ⟨_, cap, h1, h4, h5⟩
theorem OwnU.shape3 {base : Nat} {w : World} {v : Value} {l : List UInt32} (h : OwnU base w v l) (hl : 0 < l.length) : ∃ g cap, v = .slice (some ⟨g, 0, none⟩) l.length cap ∧ base ≤ g ∧ g < w.heap.size ∧ l.length ≤ cap ∧ cap ≤ maxLen := by
  rcases h.shape with ⟨_, rfl⟩ | h
  · simp at hl
  · exact h
/-- append of words. -/
theorem append_U {ops : Array Oper} {rest : List Oper} {o : Oper} {a : Act} {Q : Exit → Act → World → Prop} {wr : World} (hgd : o.guard = none) (s x : Operand)
    (ho : o.op = .call { callee := .builtin .append, args := #[s, x], argTypes := #[137, 137] }) (base b2 : Nat) (v sv : Value) (l l2 : List UInt32)
    (hs : a.eval s = v) (hx : a.eval x = sv) (hown : OwnU base wr v l) (hsv : OwnU b2 wr sv l2) (h2 : 0 < l2.length) (hlen : l.length + l2.length < 1099511627776) (hbase : base ≤ wr.heap.size) (w0 : World) (hb : Below base w0 wr)
    (h : ∀ v' w', OwnU base w' v' (l ++ l2) → wr.grownBy w' v.ownBlock → Below base w0 w' → wpList Tryz.prog ops Q rest (a.put o.dst v') w') : wpList Tryz.prog ops Q (o :: rest) a wr := by
  obtain ⟨i0, hi, hz0, hz1, hz2⟩ := info_parts infoU1
  obtain ⟨g, cap, rfl, hg1, hg2, hg3, hg4⟩ := hsv.shape3 h2
  refine wpList_append_own _ hgd s x 137 ho base 129 i0 (.int .u32 0) 1 4 Tryz.underlying137 hi hz0 hz1 hz2 rfl (by decide) v l.length _ hs hown ⟨g, 0, none⟩ l2.length cap (l2.map (fun x => Value.int .u32 (w32 x))) hx (by simp) (fun j u hj => World.ownsRow.cells hsv (g := g) rfl j u hj) (fun u hu => ?_) (by unfold maxLen; omega) (by omega) hbase ?_
  · obtain ⟨b, _, rfl⟩ := List.mem_map.1 hu
    rfl
  · intro v' w' hown' hg _
    refine h v' w' ?_ hg (hb.grown hg hbase fun k hk => (World.ownsRow.lt hown k hk).1)
    unfold OwnU
    rw [List.length_append, List.map_append]
    exact hown'
/-- append of words, as a step of a region that draws. -/
theorem step_append_U {ops : Array Oper} {o : Oper} {a : Act} {w : World} {K : Act → World → Prop} {Q : Exit → Act → World → Prop} {E : Prop} (hgd : o.guard = none) (s x : Operand)
    (ho : o.op = .call { callee := .builtin .append, args := #[s, x], argTypes := #[137, 137] }) (base b2 : Nat) (v sv : Value) (l l2 : List UInt32)
    (hs : a.eval s = v) (hx : a.eval x = sv) (hown : OwnU base w v l) (hsv : OwnU b2 w sv l2) (h2 : 0 < l2.length) (hlen : l.length + l2.length < 1000000) (hbase : base ≤ w.heap.size)
    (h : ∀ v' w', OwnU base w' v' (l ++ l2) → w.grownBy w' v.ownBlock → K (a.put o.dst v') w') :
    if Region.wanted o (yielded ops a.tmps) = true then Oper.wp Tryz.prog o a w K Q else E := by
  have hw : Region.wanted o (yielded ops a.tmps) = true := by simp [Region.wanted, hgd]
  rw [if_pos hw]
  obtain ⟨i0, hi, hz0, hz1, hz2⟩ := info_parts infoU1
  obtain ⟨g, cap, rfl, hg1, hg2, hg3, hg4⟩ := hsv.shape3 h2
  refine wp_append_own w s x 137 ho base 129 i0 (.int .u32 0) 1 4 Tryz.underlying137 hi hz0 hz1 hz2 rfl (by decide) v l.length _ hs hown ⟨g, 0, none⟩ l2.length cap (l2.map (fun x => Value.int .u32 (w32 x))) hx (by simp) (fun j u hj => World.ownsRow.cells hsv (g := g) rfl j u hj) (fun u hu => ?_) (by unfold maxLen; omega) (by omega) hbase ?_
  · obtain ⟨b, _, rfl⟩ := List.mem_map.1 hu
    rfl
  · intro v' w' hown' hg _
    refine h v' w' ?_ hg
    unfold OwnU
    rw [List.length_append, List.map_append]
    exact hown'
theorem ownU_lit (W : World) (base : Nat) (l : List UInt32) (cs : Array Value) (n : Nat) (hcs : cs.toList = l.map (fun x => Value.int .u32 (w32 x))) (hn : l.length = n) (hnn : n ≤ 1000) (hb : base ≤ W.heap.size) : OwnU base (W.alloc (.cells cs 129)) (.slice (some ⟨W.heap.size, 0, none⟩) n n) l := by
  unfold OwnU
  rw [← hcs, hn]
  exact World.ownsRow_lit W cs n hb (by unfold maxLen; omega) (by rw [← Array.length_toList, hcs, List.length_map, hn, Nat.mul_one])
set_option maxRecDepth 100000 in
theorem constants_any (w : World) : Calls Tryz.prog 98 #[] w fun e w' => ∃ rv, e = .returned rv ∧ OwnU w.heap.size w' rv kTab ∧ Below w.heap.size w w' := by
  go_enter Tryz.func98, Tryz.ntmps98
  go_wp2
  go_ret
  exact ⟨_, rfl, ownU_lit w w.heap.size kTab _ 64 (by rfl) (by rfl) (by omega) (Nat.le_refl _), (Below.refl _ _).alloc (Nat.le_refl _) _⟩
end Go.Proofs.YtcgopilkajfghaaGreatDoor
end

section
/- The reference's extended; rows of bytes of the call's own. -/
namespace Go.Proofs.YtcgopilkajfghaaGreatDoor
open Go.RowKit Go.Shelf

/-- A slice of bytes of the call's own. -/
def OwnY (base : Nat) (w : World) (v : Value) (l : Bytes) : Prop := w.ownsRow base 5 1 v l.length (l.map (fun x => Value.int .u8 (x.toNat : Int)))
theorem OwnY.nil (base : Nat) (w : World) : OwnY base w (.slice none 0 0) [] := World.ownsRow_nil _ _ _ _
theorem OwnY.below {base B : Nat} {w w' : World} {v : Value} {l : Bytes} (h : OwnY base w v l) (hb : Below B w w') (hB : w.heap.size ≤ B) : OwnY base w' v l := row_below h hb hB
theorem OwnY.mono {base base' : Nat} {w : World} {v : Value} {l : Bytes} (h : OwnY base w v l) (hB : base' ≤ base) : OwnY base' w v l := row_mono h hB
theorem OwnY.cell {base : Nat} {w : World} {g n cap : Nat} {l : Bytes} (h : OwnY base w (.slice (some ⟨g, 0, none⟩) n cap) l) (i : Nat) (hi : i < l.length) : w.cell? ⟨g, i, none⟩ = some (.int .u8 ((l.getD i 0).toNat : Int)) := by
  have := World.ownsRow.cells h (g := g) rfl i (.int .u8 ((l.getD i 0).toNat : Int)) (by simp [hi])
  rw [Addr.add_lit, Nat.zero_add] at this
  exact this
theorem OwnY.shape {base : Nat} {w : World} {v : Value} {l : Bytes} (h : OwnY base w v l) : (v = .slice none 0 0 ∧ l = []) ∨ ∃ g cap, v = .slice (some ⟨g, 0, none⟩) l.length cap ∧ base ≤ g ∧ g < w.heap.size ∧ l.length ≤ cap ∧ cap ≤ maxLen := by
  rcases h.2 with ⟨h0, h1⟩ | ⟨g, cap, cur, h1, h2, h3, h4, h5, _⟩
  · exact .inl ⟨h0, List.eq_nil_of_length_eq_zero h1⟩
  · exact .inr ⟨g, cap, h1, h2, (Array.getElem?_eq_some_iff.1 h3).1, h4, h5⟩
theorem OwnY.shape2 {base : Nat} {w : World} {v : Value} {l : Bytes} (h : OwnY base w v l) : ∃ a cap, v = .slice a l.length cap ∧ l.length ≤ cap ∧ cap ≤ maxLen := by
  rcases h.shape with ⟨h0, rfl⟩ | ⟨g, cap, h1, _, _, h4, h5⟩
  · exact ⟨none, 0, h0, Nat.le_refl _, Nat.zero_le _⟩
  · exact ⟨_, cap, h1, h4, h5⟩
theorem OwnY.shape3 {base : Nat} {w : World} {v : Value} {l : Bytes} (h : OwnY base w v l) (hl : 0 < l.length) : ∃ g cap, v = .slice (some ⟨g, 0, none⟩) l.length cap ∧ base ≤ g ∧ g < w.heap.size ∧ l.length ≤ cap ∧ cap ≤ maxLen := by
  rcases h.shape with ⟨_, rfl⟩ | h
  · simp at hl
  · exact h
/-- append of bytes. -/
theorem append_Y {ops : Array Oper} {rest : List Oper} {o : Oper} {a : Act} {Q : Exit → Act → World → Prop} {wr : World} (hgd : o.guard = none) (s x : Operand)
    (ho : o.op = .call { callee := .builtin .append, args := #[s, x], argTypes := #[93, 93] }) (base b2 : Nat) (v sv : Value) (l l2 : Bytes)
    (hs : a.eval s = v) (hx : a.eval x = sv) (hown : OwnY base wr v l) (hsv : OwnY b2 wr sv l2) (h2 : 0 < l2.length) (hlen : l.length + l2.length < 140737488355328) (hbase : base ≤ wr.heap.size) (w0 : World) (hb : Below base w0 wr)
    (h : ∀ v' w', OwnY base w' v' (l ++ l2) → wr.grownBy w' v.ownBlock → Below base w0 w' → wpList Tryz.prog ops Q rest (a.put o.dst v') w') : wpList Tryz.prog ops Q (o :: rest) a wr := by
  obtain ⟨i0, hi, hz0, hz1, hz2⟩ := info_parts info_u8
  obtain ⟨g, cap, rfl, hg1, hg2, hg3, hg4⟩ := hsv.shape3 h2
  refine wpList_append_own _ hgd s x 93 ho base 5 i0 (.int .u8 0) 1 1 Tryz.underlying93 hi hz0 hz1 hz2 rfl (by decide) v l.length _ hs hown ⟨g, 0, none⟩ l2.length cap (l2.map (fun x => Value.int .u8 (x.toNat : Int))) hx (by simp) (fun j u hj => World.ownsRow.cells hsv (g := g) rfl j u hj) (fun u hu => ?_) (by unfold maxLen; omega) (by omega) hbase ?_
  · obtain ⟨b, _, rfl⟩ := List.mem_map.1 hu
    rfl
  · intro v' w' hown' hg _
    refine h v' w' ?_ hg (hb.grown hg hbase fun k hk => (World.ownsRow.lt hown k hk).1)
    unfold OwnY
    rw [List.length_append, List.map_append]
    exact hown'
theorem rowY_kept {base : Nat} {l : Bytes} {v : Value} {W W' : World} {c : Option Nat} (h : OwnY base W v l) (hg : W.grownBy W' c) (hc : ∀ g, c = some g → v.ownBlock ≠ some g) : OwnY base W' v l :=
  World.ownsRow.kept h hg (by
    cases c with
    | none => cases v.ownBlock <;> simp
    | some g => exact .inr (hc g rfl))
/-- append of bytes, at one operation. -/
theorem wp_append_Y {o : Oper} {a : Act} {w : World} {K : Act → World → Prop} {Q : Exit → Act → World → Prop} (s x : Operand)
    (ho : o.op = .call { callee := .builtin .append, args := #[s, x], argTypes := #[93, 93] }) (base b2 : Nat) (v sv : Value) (l l2 : Bytes)
    (hs : a.eval s = v) (hx : a.eval x = sv) (hown : OwnY base w v l) (hsv : OwnY b2 w sv l2) (h2 : 0 < l2.length) (hlen : l.length + l2.length < 1000000) (hbase : base ≤ w.heap.size)
    (h : ∀ v' w', OwnY base w' v' (l ++ l2) → w.grownBy w' v.ownBlock → (v'.ownBlock = v.ownBlock ∨ v'.ownBlock = some w.heap.size) → K (a.put o.dst v') w') : Oper.wp Tryz.prog o a w K Q := by
  obtain ⟨i0, hi, hz0, hz1, hz2⟩ := info_parts info_u8
  obtain ⟨g, cap, rfl, hg1, hg2, hg3, hg4⟩ := hsv.shape3 h2
  obtain ⟨v', w', hr, h2, h3, _, h5⟩ := run_append_own_at (P := Tryz.prog) w base 93 o.type 5 i0 (.int .u8 0) 1 1 Tryz.underlying93 hi hz0 hz1 hz2 rfl (by decide) v l.length _ hown ⟨g, 0, none⟩ l2.length cap (l2.map (fun x => Value.int .u8 (x.toNat : Int))) (by simp) (fun j u hj => World.ownsRow.cells hsv (g := g) rfl j u hj) (fun u hu => by obtain ⟨b, _, rfl⟩ := List.mem_map.1 hu; rfl) (by unfold maxLen; omega) (by omega) hbase
  unfold Oper.wp execOp
  simp only [ho, resolve, invoke, builtin, Sem.run_bind, Sem.run_pure, Result.andThen_ok, List.map_toArray, List.map_cons, List.map_nil, hs, hx, hr]
  refine h v' w' ?_ h3 h5
  unfold OwnY
  rw [List.length_append, List.map_append]
  exact h2
/-- append of bytes, as a step of a region that draws. -/
theorem step_append_Y {ops : Array Oper} {o : Oper} {a : Act} {w : World} {K : Act → World → Prop} {Q : Exit → Act → World → Prop} {E : Prop} (hgd : o.guard = none) (s x : Operand)
    (ho : o.op = .call { callee := .builtin .append, args := #[s, x], argTypes := #[93, 93] }) (base b2 : Nat) (v sv : Value) (l l2 : Bytes)
    (hs : a.eval s = v) (hx : a.eval x = sv) (hown : OwnY base w v l) (hsv : OwnY b2 w sv l2) (h2 : 0 < l2.length) (hlen : l.length + l2.length < 1000000) (hbase : base ≤ w.heap.size)
    (h : ∀ v' w', OwnY base w' v' (l ++ l2) → w.grownBy w' v.ownBlock → K (a.put o.dst v') w') :
    if Region.wanted o (yielded ops a.tmps) = true then Oper.wp Tryz.prog o a w K Q else E := by
  have hw : Region.wanted o (yielded ops a.tmps) = true := by simp [Region.wanted, hgd]
  rw [if_pos hw]
  exact wp_append_Y s x ho base b2 v sv l l2 hs hx hown hsv h2 hlen hbase fun v' w' h1 h2 _ => h v' w' h1 h2
theorem ownY_lit (W : World) (base : Nat) (l : Bytes) (cs : Array Value) (n : Nat) (hcs : cs.toList = l.map (fun x => Value.int .u8 (x.toNat : Int))) (hn : l.length = n) (hnn : n ≤ 1000) (hb : base ≤ W.heap.size) : OwnY base (W.alloc (.cells cs 5)) (.slice (some ⟨W.heap.size, 0, none⟩) n n) l := by
  unfold OwnY
  rw [← hcs, hn]
  exact World.ownsRow_lit W cs n hb (by unfold maxLen; omega) (by rw [← Array.length_toList, hcs, List.length_map, hn, Nat.mul_one])
theorem ownY_1 (W : World) (base : Nat) (z : UInt8) (hb : base ≤ W.heap.size) : OwnY base (W.alloc (.cells #[.int .u8 (z.toNat : Int)] 5)) (.slice (some ⟨W.heap.size, 0, none⟩) 1 1) [z] := ownY_lit W base [z] _ 1 rfl rfl (by omega) hb
set_option maxRecDepth 100000 in
set_option maxHeartbeats 1000000 in
theorem extended_any (s : ByteArray) (w : World) (hs : s.size ≤ 1099511627776) :
    Calls Tryz.prog 87 #[.string s] w fun e w' => ∃ rv, e = .returned rv ∧ OwnY w.heap.size w' rv (pad s.data.toList) ∧ Below w.heap.size w w' := by
  obtain ⟨l, hl⟩ : ∃ l, l = s.data.toList := ⟨_, rfl⟩
  have hln : l.length = s.size := by rw [hl]; rfl
  have HL := Lib.hid hl
  have HLn := Lib.hid hln
  rw [← hl]
  clear hl hln
  go_enter Tryz.func87, Tryz.ntmps87
  go_wp2
  go_loopw [3, 4] (fun v i wr => ∃ k : Nat, k ≤ s.size ∧ i = .int .i64 k ∧ OwnY w.heap.size wr v (l.take k) ∧ Below w.heap.size w wr) (fun _ i _ => s.size - (intOf i).toNat)
  case atStart => exact ⟨0, Nat.zero_le _, rfl, OwnY.nil _ _, Below.refl _ _⟩
  case round =>
    obtain ⟨k, hk, rfl, hO, hB⟩ := hrel
    have hzB := hB.size
    have HO := Lib.hid hO
    clear hO
    by_cases hlt : k < s.size
    · have HTk : Hid (l.take (k + 1) = l.take k ++ [s[k]]) := by
        show _ = _
        rw [take_getD l 0 k (by rw [HLn.out]; exact hlt), HL.out, toList_getD s k hlt]
      have hll : (l.take k).length < 1099511627776 := by rw [List.length_take]; omega
      have kk : (k : Int) < (s.size : Int) := by omega
      generalize hx : s[k] = x at *
      have HO1 := Lib.hid (ownY_1 wr w.heap.size x hzB)
      go_wp2_with (at_builtin; refine append_Y rfl _ _ rfl w.heap.size w.heap.size u3 _ (l.take k) [x] rfl rfl (World.ownsRow.alloc HO.out _) HO1.out (by simp) (by simp; omega) (by simp; omega) w (hB.alloc hzB _) ?_; intro v2 w2 hO2 hg2 hb2)
      go_roundw
      case rel => exact ⟨k + 1, by omega, by go_num, by rw [HTk.out]; exact hO2, hb2⟩
      case measure => simp [intOf]; omega
    · obtain rfl : k = s.size := by omega
      have HR : Hid (l.take s.size = l) := List.take_of_length_le (by rw [HLn.out]; exact Nat.le_refl _)
      rw [HR.out] at HO
      have HO1 := Lib.hid (ownY_1 wr w.heap.size 128 hzB)
      clear hlt hk
      obtain ⟨wo, hwo⟩ : ∃ wo : World, wo = wr := ⟨_, rfl⟩
      rw [← hwo] at HO hB hzB HO1 ⊢
      clear hwo
      go_wp2_with (at_builtin; refine append_Y rfl _ _ rfl w.heap.size w.heap.size u3 _ l [128] rfl rfl (World.ownsRow.alloc HO.out _) HO1.out (by simp) (by simp; have := HLn.out; omega) (by simp; omega) w (hB.alloc hzB _) ?_; intro v2 w2 hown2 hg2 hb2)
      have hP64 := padZ_lt s.size
      clear HO HO1 hg2
      go_loopg [3] (padZ s.size) (fun gk v wr => ∃ z, z + gk = padZ s.size ∧ OwnY w.heap.size wr v (l ++ [128] ++ List.replicate z 0) ∧ Below w.heap.size w wr)
      case atStart => exact ⟨0, by omega, by simpa using hown2, hb2⟩
      case round =>
        clear hown2 hb2 hB hzB
        obtain ⟨z, hz, hown, hB⟩ := hrel
        obtain ⟨g, cp, hv, _, _, _, _⟩ := hown.shape3 (by simp; omega)
        have hlen : (l ++ [128] ++ List.replicate z 0).length = s.size + 1 + z := by simp; have := HLn.out; omega
        rw [hlen] at hv
        have hend := padZ_end s.size z (by omega)
        have HOw := Lib.hid hown
        have HLen := Lib.hid hlen
        have hzB := hB.size
        clear hown hlen
        generalize hLL : s.size + 1 + z = L at *
        have hL2 : L ≤ 1099511627776 + 100 := by omega
        have hL3 : L = s.size + 1 + z := hLL.symm
        have HL3 := Lib.hid hL3
        clear hLL hL3
        subst hv
        by_cases hze : z = padZ s.size
        · have ht : (((L : Nat) : Int) % 64 != 56) = false := by
            have : L % 64 = 56 := hend.2 hze
            simp; omega
          clear hend
          have HFull : Hid (OwnY w.heap.size wr (.slice (some ⟨g, 0, none⟩) L cp) (padTo l 8)) := by show OwnY _ _ _ _; rw [padTo_eight, HLn.out, ← hze]; exact HOw.out
          clear HOw HLen HL3 hze hz hP64
          go_wp2
          go_loopw [3, 5] (fun v i wr => ∃ m : Nat, m ≤ 8 ∧ i = .int .i64 ((m : Int) - 1) ∧ OwnY w.heap.size wr v (padTo l m) ∧ Below w.heap.size w wr) (fun _ i _ => (intOf i + 1).toNat)
          case atStart => exact ⟨8, Nat.le_refl _, rfl, HFull.out, hB⟩
          case round =>
            clear HFull hB hzB
            obtain ⟨m, hm, rfl, hown, hB⟩ := hrel
            have hlen := padTo_length l m hm
            have hP64 := padZ_lt l.length
            rw [HLn.out] at hlen hP64
            have hzB := hB.size
            have HOw := Lib.hid hown
            have HLen := Lib.hid hlen
            clear hown hlen
            rcases Nat.eq_zero_or_pos m with hm0 | hm0
            · subst hm0
              rw [padTo_zero] at HOw
              go_wp2
              go_ret
              exact ⟨_, rfl, HOw.out, hB⟩
            · obtain ⟨q, rfl⟩ : ∃ q, m = q + 1 := ⟨m - 1, by omega⟩
              rw [show (((q + 1 : Nat) : Int) - 1) = (q : Int) by omega]
              have HB := Lib.hid (lenByte_val l.length q)
              rw [HLn.out] at HB
              have HS := Lib.hid (padTo_succ l q (by omega))
              rw [HLn.out] at HS
              generalize lenByte s.size q = z at HB HS
              have HO1 := Lib.hid (ownY_1 wr w.heap.size z hzB)
              have hq8 : (q : Int) < 8 := by omega
              go_wp2_with (at_builtin; rw [← HB.out]; refine append_Y rfl _ _ rfl w.heap.size w.heap.size u3 _ (padTo l (q + 1)) [z] rfl rfl (World.ownsRow.alloc HOw.out _) HO1.out (by simp) (by rw [HLen.out]; simp; omega) (by simp; omega) w (hB.alloc hzB _) ?_; intro v3 w3 hown3 hg3 hb3)
              go_roundw
              case rel => exact ⟨q, by omega, by go_num, by rw [HS.out]; exact hown3, hb3⟩
              case measure => simp [intOf]
        · have ht : (((L : Nat) : Int) % 64 != 56) = true := by
            have : L % 64 ≠ 56 := fun e => hze (hend.1 e)
            simp; omega
          have HO1 := Lib.hid (ownY_1 wr w.heap.size 0 hzB)
          clear hend
          go_wp2_with (at_builtin; refine append_Y rfl _ _ rfl w.heap.size w.heap.size _ _ (l ++ [128] ++ List.replicate z 0) [0] rfl rfl (World.ownsRow.alloc HOw.out _) HO1.out (by simp) (by rw [HLen.out]; simp; omega) (by simp; omega) w (hB.alloc hzB _) ?_; intro v3 w3 hown3 hg3 hb3)
          go_roundg (gk - 1)
          case measure => omega
          case rel => exact ⟨z + 1, by omega, by rw [List.replicate_succ', ← List.append_assoc]; exact hown3, hb3⟩
end Go.Proofs.YtcgopilkajfghaaGreatDoor
end

section
/- The reference's block. -/
namespace Go.Proofs.YtcgopilkajfghaaGreatDoor
open Go.RowKit Go.Shelf
attribute [local go_sem] u32w_u8 u32w_shl8 u32w_shl16 u32w_shl24 u32w_add
attribute [local go_sem] u32_signed u32_xor u32_or u32_and u32_add u32_not u32_shr3 u32_shr10 u32_shl8 u32_shl16 u32_shl24 u32_of_u8

theorem mix2 (x : UInt32) (a b : Nat) : mix x [a, b] = rotr x a ^^^ rotr x b := by simp [mix]
theorem mix3 (x : UInt32) (a b c : Nat) : mix x [a, b, c] = rotr x a ^^^ rotr x b ^^^ rotr x c := by simp [mix]
theorem refRotE_2 (x : UInt32) (n : Int) (hn : n = 2) (w : World) : Calls Tryz.prog 97 #[.int .u32 (w32 x), .int .i64 n] w fun e w' => e = .returned (.int .u32 (w32 (rotr x 2))) ∧ ∃ q, w' = w.drewN q := by
  subst hn
  exact refRot_2 x w
theorem refRotE_6 (x : UInt32) (n : Int) (hn : n = 6) (w : World) : Calls Tryz.prog 97 #[.int .u32 (w32 x), .int .i64 n] w fun e w' => e = .returned (.int .u32 (w32 (rotr x 6))) ∧ ∃ q, w' = w.drewN q := by
  subst hn
  exact refRot_6 x w
theorem refRotE_7 (x : UInt32) (n : Int) (hn : n = 7) (w : World) : Calls Tryz.prog 97 #[.int .u32 (w32 x), .int .i64 n] w fun e w' => e = .returned (.int .u32 (w32 (rotr x 7))) ∧ ∃ q, w' = w.drewN q := by
  subst hn
  exact refRot_7 x w
theorem refRotE_11 (x : UInt32) (n : Int) (hn : n = 11) (w : World) : Calls Tryz.prog 97 #[.int .u32 (w32 x), .int .i64 n] w fun e w' => e = .returned (.int .u32 (w32 (rotr x 11))) ∧ ∃ q, w' = w.drewN q := by
  subst hn
  exact refRot_11 x w
theorem refRotE_13 (x : UInt32) (n : Int) (hn : n = 13) (w : World) : Calls Tryz.prog 97 #[.int .u32 (w32 x), .int .i64 n] w fun e w' => e = .returned (.int .u32 (w32 (rotr x 13))) ∧ ∃ q, w' = w.drewN q := by
  subst hn
  exact refRot_13 x w
theorem refRotE_17 (x : UInt32) (n : Int) (hn : n = 17) (w : World) : Calls Tryz.prog 97 #[.int .u32 (w32 x), .int .i64 n] w fun e w' => e = .returned (.int .u32 (w32 (rotr x 17))) ∧ ∃ q, w' = w.drewN q := by
  subst hn
  exact refRot_17 x w
theorem refRotE_18 (x : UInt32) (n : Int) (hn : n = 18) (w : World) : Calls Tryz.prog 97 #[.int .u32 (w32 x), .int .i64 n] w fun e w' => e = .returned (.int .u32 (w32 (rotr x 18))) ∧ ∃ q, w' = w.drewN q := by
  subst hn
  exact refRot_18 x w
theorem refRotE_19 (x : UInt32) (n : Int) (hn : n = 19) (w : World) : Calls Tryz.prog 97 #[.int .u32 (w32 x), .int .i64 n] w fun e w' => e = .returned (.int .u32 (w32 (rotr x 19))) ∧ ∃ q, w' = w.drewN q := by
  subst hn
  exact refRot_19 x w
theorem refRotE_22 (x : UInt32) (n : Int) (hn : n = 22) (w : World) : Calls Tryz.prog 97 #[.int .u32 (w32 x), .int .i64 n] w fun e w' => e = .returned (.int .u32 (w32 (rotr x 22))) ∧ ∃ q, w' = w.drewN q := by
  subst hn
  exact refRot_22 x w
theorem refRotE_25 (x : UInt32) (n : Int) (hn : n = 25) (w : World) : Calls Tryz.prog 97 #[.int .u32 (w32 x), .int .i64 n] w fun e w' => e = .returned (.int .u32 (w32 (rotr x 25))) ∧ ∃ q, w' = w.drewN q := by
  subst hn
  exact refRot_25 x w
theorem ownU_1 (W : World) (base : Nat) (z : UInt32) (hb : base ≤ W.heap.size) : OwnU base (W.alloc (.cells #[.int .u32 (w32 z)] 129)) (.slice (some ⟨W.heap.size, 0, none⟩) 1 1) [z] := ownU_lit W base [z] _ 1 rfl rfl (by omega) hb
theorem plus_get (s v : H8) (i : Nat) (h : i < 8) : (plusH s v).list.take (i + 1) = (plusH s v).list.take i ++ [s.list.getD i 0 + v.list.getD i 0] := by
  obtain ⟨sa, sb, sc, sd, se, sf, sg, sh⟩ := s
  obtain ⟨va, vb, vc, vd, ve, vf, vg, vh⟩ := v
  match i, h with
  | 0, _ => rfl
  | 1, _ => rfl
  | 2, _ => rfl
  | 3, _ => rfl
  | 4, _ => rfl
  | 5, _ => rfl
  | 6, _ => rfl
  | 7, _ => rfl
set_option maxRecDepth 100000 in
set_option maxHeartbeats 12000000 in
theorem block_any (s : H8) (gh ch : Nat) (b : Bytes) (g o cap : Nat) (w : World) (hg : g < w.heap.size) (hc : ∀ j, j < 64 → w.cell? ⟨g, o + j, none⟩ = some (.int .u8 ((b.getD j 0).toNat : Int))) (hU : OwnU 0 w (.slice (some ⟨gh, 0, none⟩) 8 ch) s.list) :
    Calls Tryz.prog 88 #[.slice (some ⟨gh, 0, none⟩) 8 ch, .slice (some ⟨g, o, none⟩) 64 cap] w fun e w' => ∃ rv, e = .returned rv ∧ OwnU w.heap.size w' rv (blockH s b).list ∧ Below w.heap.size w w' := by
  have HC := Lib.hid hc
  have HU := Lib.hid hU
  clear hc hU
  go_enter Tryz.func88, Tryz.ntmps88
  go_wp2
  go_loopw [5, 6] (fun v i wr => ∃ j : Nat, j ≤ 16 ∧ i = .int .i64 j ∧ Below w.heap.size w wr ∧ OwnU w.heap.size wr v (schedTo b j)) (fun _ i _ => 16 - (intOf i).toNat)
  case atStart => exact ⟨0, Nat.zero_le _, rfl, Below.refl _ _, OwnU.nil _ _⟩
  case round =>
    obtain ⟨j, hj, rfl, hBr, hO⟩ := hrel
    obtain ⟨a5, c5, hv5, _, _⟩ := OwnU.shape2 hO
    have hsl := schedTo_length b j
    rw [hsl] at hv5
    subst hv5
    have HO := Lib.hid hO
    clear hO
    by_cases hlt : j < 16
    · have cc0 := HC.out (4 * j) (by omega)
      have cc1 := HC.out (4 * j + 1) (by omega)
      have cc2 := HC.out (4 * j + 2) (by omega)
      have cc3 := HC.out (4 * j + 3) (by omega)
      have HX : Hid (word b j = (b.getD (4 * j) 0).toUInt32 <<< 24 ||| (b.getD (4 * j + 1) 0).toUInt32 <<< 16 ||| (b.getD (4 * j + 2) 0).toUInt32 <<< 8 ||| (b.getD (4 * j + 3) 0).toUInt32) := rfl
      generalize b.getD (4 * j) 0 = b0 at cc0 HX
      generalize b.getD (4 * j + 1) 0 = b1 at cc1 HX
      generalize b.getD (4 * j + 2) 0 = b2 at cc2 HX
      generalize b.getD (4 * j + 3) 0 = b3 at cc3 HX
      have HS := Lib.hid (schedTo_word b j hlt)
      rw [HX.out] at HS
      generalize hzz : b0.toUInt32 <<< 24 ||| b1.toUInt32 <<< 16 ||| b2.toUInt32 <<< 8 ||| b3.toUInt32 = z at HS
      have jj : (j : Int) < 16 := by omega
      have j0 : 0 ≤ (j : Int) := by omega
      have m0 : IntKind.i64.wrap (4 * (j : Int)) = 4 * (j : Int) := IntWalk.i64_in _ (by omega)
      have m1 : IntKind.i64.wrap (4 * (j : Int) + 1) = 4 * (j : Int) + 1 := IntWalk.i64_in _ (by omega)
      have m2 : IntKind.i64.wrap (4 * (j : Int) + 2) = 4 * (j : Int) + 2 := IntWalk.i64_in _ (by omega)
      have m3 : IntKind.i64.wrap (4 * (j : Int) + 3) = 4 * (j : Int) + 3 := IntWalk.i64_in _ (by omega)
      have p0 : 0 ≤ 4 * (j : Int) := by omega
      have p1 : 0 ≤ 4 * (j : Int) + 1 := by omega
      have p2 : 0 ≤ 4 * (j : Int) + 2 := by omega
      have p3 : 0 ≤ 4 * (j : Int) + 3 := by omega
      have q0 : 4 * (j : Int) < 64 := by omega
      have q1 : 4 * (j : Int) + 1 < 64 := by omega
      have q2 : 4 * (j : Int) + 2 < 64 := by omega
      have q3 : 4 * (j : Int) + 3 < 64 := by omega
      have n0 : (4 * (j : Int)).toNat = 4 * j := by omega
      have n1 : (4 * (j : Int) + 1).toNat = 4 * j + 1 := by omega
      have n2 : (4 * (j : Int) + 2).toNat = 4 * j + 2 := by omega
      have n3 : (4 * (j : Int) + 3).toNat = 4 * j + 3 := by omega
      have hzB := hBr.size
      have HCc := Lib.hid (fun (W : World) (hW : Below w.heap.size w W) => And.intro ((hW.cell (p := ⟨g, o + 4 * j, none⟩) hg).trans cc0) (And.intro ((hW.cell (p := ⟨g, o + (4 * j + 1), none⟩) hg).trans cc1) (And.intro ((hW.cell (p := ⟨g, o + (4 * j + 2), none⟩) hg).trans cc2) ((hW.cell (p := ⟨g, o + (4 * j + 3), none⟩) hg).trans cc3))))
      clear cc0 cc1 cc2 cc3
      go_wp2
      have HO1 := Lib.hid (fun W (h : w.heap.size ≤ W.heap.size) => ownU_1 W w.heap.size z h)
      go_region_held3 (fun W => W.cell? ⟨g, o + 4 * j, none⟩ = some (.int .u8 (b0.toNat : Int)) ∧ W.cell? ⟨g, o + (4 * j + 1), none⟩ = some (.int .u8 (b1.toNat : Int)) ∧ W.cell? ⟨g, o + (4 * j + 2), none⟩ = some (.int .u8 (b2.toNat : Int)) ∧ W.cell? ⟨g, o + (4 * j + 3), none⟩ = some (.int .u8 (b3.toNat : Int)))
        (first | exact HCc.out _ hB6 | exact HCc.out _ hBr.drew | exact HCc.out _ (hBr.drew.alloc hzB _) | exact HCc.out _ (hBr.alloc hzB _).drew)
        ((refine step_append_U rfl _ _ rfl w.heap.size w.heap.size (.slice a5 j c5) _ (schedTo b j) [z] rfl rfl (World.ownsRow.alloc HO.out _) (HO1.out wr hzB) (by simp) (by rw [hsl]; simp; omega) (by simp; omega) ?_; intro v6 w6 hO6 hg6; have hB6 : Below w.heap.size w w6 := (hBr.alloc hzB _).drew.grown hg6 (by simp; omega) (fun k hk => (World.ownsRow.lt HO.out k hk).1)))
      all_goals go_wp2
      all_goals exact ⟨⟨j + 1, by omega, by go_num, hB6, by rw [HS.out]; exact hO6⟩, by simp [intOf]; omega⟩
    · obtain rfl : j = 16 := by omega
      clear hlt hj hsl
      go_wp2
      rw [show (((16 : Nat) : Int)) = (16 : Int) from rfl]
      obtain ⟨wo, hwo⟩ : ∃ wo : World, wo = wr := ⟨_, rfl⟩
      rw [← hwo] at hBr HO ⊢
      clear hwo
      go_loopw [5, 7, 8, 9] (fun v i x y wr => ∃ j : Nat, 16 ≤ j ∧ j ≤ 64 ∧ i = .int .i64 j ∧ Below w.heap.size w wr ∧ OwnU w.heap.size wr v (schedTo b j)) (fun _ i _ _ _ => 64 - (intOf i).toNat)
      case atStart => exact ⟨16, Nat.le_refl _, by omega, rfl, hBr, HO.out⟩
      case round =>
        clear hBr HO
        obtain ⟨j, hj16, hj, rfl, hBr, hO⟩ := hrel
        have hsl := schedTo_length b j
        obtain ⟨g5, c5, hv5, hgb5, hg5, hc5, hc5'⟩ := hO.shape3 (by omega)
        rw [hsl] at hv5 hc5
        subst hv5
        by_cases hlt : j < 64
        · have c15 := hO.cell (j - 15) (by omega)
          have HN : Hid (schedNext (schedTo b j) j = (schedTo b j).getD (j - 16) 0 + (rotr ((schedTo b j).getD (j - 15) 0) 7 ^^^ rotr ((schedTo b j).getD (j - 15) 0) 18 ^^^ (schedTo b j).getD (j - 15) 0 >>> 3) + (schedTo b j).getD (j - 7) 0 + (rotr ((schedTo b j).getD (j - 2) 0) 17 ^^^ rotr ((schedTo b j).getD (j - 2) 0) 19 ^^^ (schedTo b j).getD (j - 2) 0 >>> 10)) := by
            show _ = _
            unfold schedNext sig0 sig1
            rw [mix2, mix2]
          have HK : Hid (∀ W : World, OwnU w.heap.size W (.slice (some ⟨g5, 0, none⟩) j c5) (schedTo b j) → W.cell? ⟨g5, j - 16, none⟩ = some (.int .u32 (w32 ((schedTo b j).getD (j - 16) 0))) ∧ W.cell? ⟨g5, j - 7, none⟩ = some (.int .u32 (w32 ((schedTo b j).getD (j - 7) 0))) ∧ W.cell? ⟨g5, j - 2, none⟩ = some (.int .u32 (w32 ((schedTo b j).getD (j - 2) 0)))) := fun W h => ⟨h.cell (j - 16) (by omega), h.cell (j - 7) (by omega), h.cell (j - 2) (by omega)⟩
          have HS := Lib.hid (schedTo_next b j (by omega))
          generalize (schedTo b j).getD (j - 15) 0 = x15 at c15 HN
          generalize (schedTo b j).getD (j - 2) 0 = x2 at HN HK
          generalize (schedTo b j).getD (j - 16) 0 = x16 at HN HK
          generalize (schedTo b j).getD (j - 7) 0 = x7 at HN HK
          generalize hXX : rotr x15 7 ^^^ rotr x15 18 ^^^ x15 >>> 3 = X at HN
          generalize hYY : rotr x2 17 ^^^ rotr x2 19 ^^^ x2 >>> 10 = Y at HN
          generalize hzz : x16 + X + x7 + Y = z at HN
          rw [HN.out] at HS
          have jj : (j : Int) < 64 := by omega
          have j0 : 0 ≤ (j : Int) := by omega
          have w15 : IntKind.i64.wrap ((j : Int) - 15) = (j : Int) - 15 := IntWalk.i64_in _ (by omega)
          have w2 : IntKind.i64.wrap ((j : Int) - 2) = (j : Int) - 2 := IntWalk.i64_in _ (by omega)
          have w16 : IntKind.i64.wrap ((j : Int) - 16) = (j : Int) - 16 := IntWalk.i64_in _ (by omega)
          have w7 : IntKind.i64.wrap ((j : Int) - 7) = (j : Int) - 7 := IntWalk.i64_in _ (by omega)
          have z15 : 15 ≤ (j : Int) := by omega
          have z2 : 2 ≤ (j : Int) := by omega
          have z16 : 16 ≤ (j : Int) := by omega
          have z7 : 7 ≤ (j : Int) := by omega
          have y15 : 0 ≤ (j : Int) - 15 := by omega
          have y2 : 0 ≤ (j : Int) - 2 := by omega
          have y16 : 0 ≤ (j : Int) - 16 := by omega
          have y7 : 0 ≤ (j : Int) - 7 := by omega
          have l15 : (j : Int) - 15 < (j : Int) := by omega
          have l2 : (j : Int) - 2 < (j : Int) := by omega
          have l16 : (j : Int) - 16 < (j : Int) := by omega
          have l7 : (j : Int) - 7 < (j : Int) := by omega
          have n15 : ((j : Int) - 15).toNat = j - 15 := by omega
          have n2 : ((j : Int) - 2).toNat = j - 2 := by omega
          have n16 : ((j : Int) - 16).toNat = j - 16 := by omega
          have n7 : ((j : Int) - 7).toNat = j - 7 := by omega
          have HO := Lib.hid hO
          clear hO
          go_wp2
          go_quiet (first | (go_at_call 97; with_reducible exact quiet_n (refRotE_7 _ _ (by decide) _)) | (go_at_call 97; with_reducible exact quiet_n (refRotE_18 _ _ (by decide) _)))
          go_wp2
          refine wp_gen (fun W => Below w.heap.size w W ∧ OwnU w.heap.size W (.slice (some ⟨g5, 0, none⟩) j c5) (schedTo b j)) ⟨by repeat (first | exact hBr | apply below_drewN0 | apply Below.drew), HO.out⟩ ?_
          rintro W3 ⟨hB3, hO3⟩
          obtain ⟨_, _, c2⟩ := HK.out W3 hO3
          have HO3 := Lib.hid hO3
          clear hO3 HO
          go_quiet (first | (go_at_call 97; with_reducible exact quiet_n (refRotE_17 _ _ (by decide) _)) | (go_at_call 97; with_reducible exact quiet_n (refRotE_19 _ _ (by decide) _)))
          go_wp2
          refine wp_gen (fun W => Below w.heap.size w W ∧ OwnU w.heap.size W (.slice (some ⟨g5, 0, none⟩) j c5) (schedTo b j)) ⟨by repeat (first | exact hB3 | apply below_drewN0 | apply Below.drew), HO3.out⟩ ?_
          rintro W4 ⟨hB4, hO4⟩
          have hz4 := hB4.size
          have HO4 := Lib.hid hO4
          obtain ⟨q16, q7, _⟩ := HK.out W4.drew hO4
          have HB4 := Lib.hid hB4
          clear c15 c2 hO4 hB4 hB3 HO3
          obtain ⟨i0, hi0, hz0, hz1, hz2⟩ := info_parts infoU1
          refine wp_region_noPanic ?_
          go_region_law (refine step_append_lies _ (by rfl) _ _ 137 (by rfl) w.heap.size 129 i0 _ 1 4 Tryz.underlying137 hi0 hz0 hz1 hz2 rfl (by omega) (.slice (some ⟨g5, 0, none⟩) j c5) (schedTo b j).length _ (by rfl) (World.ownsRow.alloc HO4.out _) ⟨W4.heap.size, 0, none⟩ 1 1 [.int .u32 (w32 z)] (by rfl) (by rfl) (World.news_of_block (heap_alloc_new W4.drew _)) (by simp [Value.oneCell']) (by omega) (by unfold maxLen; omega) (by omega) (by simp; omega) (W4.heap.size + 1) (by simp) ?_; intro gg cap' w6 hown6 hgrow hat hlt6)
          all_goals
            refine NoPanic.normal ?_
            have hO6 : OwnU w.heap.size w6 (.slice (some ⟨gg, 0, none⟩) ((schedTo b j).length + 1) cap') (schedTo b (j + 1)) := by
              unfold OwnU
              rw [HS.out, List.length_append, List.map_append, List.map_singleton]
              exact hown6
            rw [hsl] at hO6
            have hB6 : Below w.heap.size w w6 := (HB4.out.drew.alloc hz4 _).grown hgrow (by simp; omega) (fun k hk => (World.ownsRow.lt HO4.out k hk).1)
            clear hown6 hgrow hat hlt6
            change Exit.inBlock _ _ _ (Act.put _ (some 5) _) _
            go_wp2
            go_roundw
            case rel => exact ⟨j + 1, by omega, by omega, by go_num, hB6, hO6⟩
            case measure => simp [intOf]; omega
        · obtain rfl : j = 64 := by omega
          clear hlt hj hj16
          have HWs := Lib.hid hO
          have HB := Lib.hid hBr
          have hzr := hBr.size
          obtain ⟨wo, hwo⟩ : ∃ wo : World, wo = wr := ⟨_, rfl⟩
          rw [← hwo] at HWs HB hzr hg5 ⊢
          have HBlk : Hid (blockH s b = plusH s (rnds s (schedTo b 64) 64)) := rfl
          have hwl := schedTo_length b 64
          generalize schedTo b 64 = ws at *
          clear hO hBr hwo
          go_wp2_with fail
          refine (constants_any wo).mono ?_
          rintro e w2 ⟨vk, rfl, hK, hb2⟩
          obtain ⟨gk, ck, rfl, hgk0, hgk, hck, hck'⟩ := hK.shape3 (by decide)
          rw [show kTab.length = 64 from rfl] at hck ⊢
          have HK := Lib.hid hK
          have hz2 := hb2.size
          have HB2 := Lib.hid (HB.out.trans (hb2.mono hzr))
          have HW2 := Lib.hid (HWs.out.below hb2 (Nat.le_refl _))
          have HU2 : Hid (OwnU 0 w2 (.slice (some ⟨gh, 0, none⟩) 8 ch) s.list) := HU.out.below HB2.out (Nat.le_refl _)
          clear hK hb2 HWs HB
          go_wp2_with (at_builtin; refine append_U rfl _ _ rfl w.heap.size 0 _ (.slice (some ⟨gh, 0, none⟩) 8 ch) [] s.list rfl rfl (OwnU.nil _ _) HU2.out (by show 0 < 8; decide) (by show 0 + 8 < 1099511627776; decide) HB2.out.size w HB2.out ?_; intro v11 w3 hO3 hg3 hb3; have HO3 := Lib.hid hO3; have HB3 := Lib.hid hb3; have HG3 := Lib.hid (show Below w2.heap.size w2 w3 from ⟨hg3.os, hg3.tape, hg3.output, hg3.size, fun k hk => hg3.block k hk (fun e => by cases e)⟩); clear hO3 hg3 hb3)
          have HW3 := Lib.hid (HW2.out.below HG3.out (Nat.le_refl _))
          have HK3 := Lib.hid (HK.out.below HG3.out (Nat.le_refl _))
          have hz3 := HB3.out.size
          have hg53 : g5 < w3.heap.size := by have := HG3.out.size; omega
          clear HU2 HW2 HK HB2
          go_loopw [11, 12, 13, 14, 15, 16] (fun v i a e t u wr => ∃ j : Nat, j ≤ 64 ∧ i = .int .i64 j ∧ Below w3.heap.size w3 wr ∧ OwnU w.heap.size wr v (rnds s ws j).list) (fun _ i _ _ _ _ _ => 64 - (intOf i).toNat)
          case atStart => exact ⟨0, Nat.zero_le _, rfl, Below.refl _ _, HO3.out⟩
          case round =>
            obtain ⟨j, hj, rfl, hBr, hO⟩ := hrel
            obtain ⟨g11, c11, hv11, hgb11, hg11, hc11, hc11'⟩ := hO.shape3 (show 0 < 8 by decide)
            rw [show (rnds s ws j).list.length = 8 from rfl] at hv11 hc11
            subst hv11
            by_cases hlt : j < 64
            · have HS : Hid (rnds s ws (j + 1) = rnd (rnds s ws j) (kTab.getD j 0, ws.getD j 0)) := rfl
              have ck1 := (HK3.out.below hBr (Nat.le_refl _)).cell j (show j < 64 from hlt)
              have cw1 := (HW3.out.below hBr (Nat.le_refl _)).cell j (by rw [hwl]; exact hlt)
              generalize kTab.getD j 0 = kj at ck1 HS
              generalize ws.getD j 0 = wj at cw1 HS
              generalize rnds s ws j = x at hO HS
              obtain ⟨xa, xb, xc, xd, xe, xf, xg, xh⟩ := x
              have HRn : Hid (rnd ⟨xa, xb, xc, xd, xe, xf, xg, xh⟩ (kj, wj) = ⟨(xh + (rotr xe 6 ^^^ rotr xe 11 ^^^ rotr xe 25) + ((xe &&& xf) ^^^ (~~~xe &&& xg)) + kj + wj) + ((rotr xa 2 ^^^ rotr xa 13 ^^^ rotr xa 22) + ((xa &&& xb) ^^^ (xa &&& xc) ^^^ (xb &&& xc))), xa, xb, xc, xd + (xh + (rotr xe 6 ^^^ rotr xe 11 ^^^ rotr xe 25) + ((xe &&& xf) ^^^ (~~~xe &&& xg)) + kj + wj), xe, xf, xg⟩) := by
                show _ = _
                unfold rnd tU uU
                simp only [mix3]
              generalize hTT : xh + (rotr xe 6 ^^^ rotr xe 11 ^^^ rotr xe 25) + ((xe &&& xf) ^^^ (~~~xe &&& xg)) + kj + wj = T at HRn
              generalize hUU : (rotr xa 2 ^^^ rotr xa 13 ^^^ rotr xa 22) + ((xa &&& xb) ^^^ (xa &&& xc) ^^^ (xb &&& xc)) = U at HRn
              have c0 : wr.cell? ⟨g11, 0, none⟩ = some (.int .u32 (w32 xa)) := hO.cell 0 (show 0 < 8 by decide)
              have c1 : wr.cell? ⟨g11, 1, none⟩ = some (.int .u32 (w32 xb)) := hO.cell 1 (show 1 < 8 by decide)
              have c2 : wr.cell? ⟨g11, 2, none⟩ = some (.int .u32 (w32 xc)) := hO.cell 2 (show 2 < 8 by decide)
              have c4 : wr.cell? ⟨g11, 4, none⟩ = some (.int .u32 (w32 xe)) := hO.cell 4 (show 4 < 8 by decide)
              have c5' : wr.cell? ⟨g11, 5, none⟩ = some (.int .u32 (w32 xf)) := hO.cell 5 (show 5 < 8 by decide)
              have c6 : wr.cell? ⟨g11, 6, none⟩ = some (.int .u32 (w32 xg)) := hO.cell 6 (show 6 < 8 by decide)
              have c7 : wr.cell? ⟨g11, 7, none⟩ = some (.int .u32 (w32 xh)) := hO.cell 7 (show 7 < 8 by decide)
              have HC8 : Hid (∀ W : World, OwnU w.heap.size W (.slice (some ⟨g11, 0, none⟩) 8 c11) (H8.mk xa xb xc xd xe xf xg xh).list → W.cell? ⟨g11, 0, none⟩ = some (.int .u32 (w32 xa)) ∧ W.cell? ⟨g11, 1, none⟩ = some (.int .u32 (w32 xb)) ∧ W.cell? ⟨g11, 2, none⟩ = some (.int .u32 (w32 xc)) ∧ W.cell? ⟨g11, 3, none⟩ = some (.int .u32 (w32 xd)) ∧ W.cell? ⟨g11, 5, none⟩ = some (.int .u32 (w32 xf)) ∧ W.cell? ⟨g11, 6, none⟩ = some (.int .u32 (w32 xg))) := fun W h => ⟨h.cell 0 (show 0 < 8 by decide), h.cell 1 (show 1 < 8 by decide), h.cell 2 (show 2 < 8 by decide), h.cell 3 (show 3 < 8 by decide), h.cell 5 (show 5 < 8 by decide), h.cell 6 (show 6 < 8 by decide)⟩
              have jj : (j : Int) < 64 := by omega
              have j0 : 0 ≤ (j : Int) := by omega
              have HO := Lib.hid hO
              clear hO
              go_wp2
              go_quiet (first | (go_at_call 97; with_reducible exact quiet_n (refRotE_6 _ _ (by decide) _)) | (go_at_call 97; with_reducible exact quiet_n (refRotE_11 _ _ (by decide) _)) | (go_at_call 97; with_reducible exact quiet_n (refRotE_25 _ _ (by decide) _)))
              go_wp2
              refine wp_gen (fun W => Below w3.heap.size w3 W ∧ OwnU w.heap.size W (.slice (some ⟨g11, 0, none⟩) 8 c11) (H8.mk xa xb xc xd xe xf xg xh).list) ⟨by repeat (first | exact hBr | apply below_drewN0 | apply Below.drew), HO.out⟩ ?_
              rintro W3 ⟨hB3, hO3⟩
              clear c0 c1 c2 c4 c5' c6 c7 ck1 cw1
              obtain ⟨c0, c1, c2, _, _, _⟩ := HC8.out W3 hO3
              have HO3' := Lib.hid hO3
              clear hO3 HO
              go_quiet (first | (go_at_call 97; with_reducible exact quiet_n (refRotE_2 _ _ (by decide) _)) | (go_at_call 97; with_reducible exact quiet_n (refRotE_13 _ _ (by decide) _)) | (go_at_call 97; with_reducible exact quiet_n (refRotE_22 _ _ (by decide) _)))
              go_wp2
              refine wp_gen (fun W => Below w3.heap.size w3 W ∧ OwnU w.heap.size W (.slice (some ⟨g11, 0, none⟩) 8 c11) (H8.mk xa xb xc xd xe xf xg xh).list) ⟨by repeat (first | exact hB3 | apply below_drewN0 | apply Below.drew), HO3'.out⟩ ?_
              rintro W4 ⟨hB4, hO4⟩
              have hz4 := hB4.size
              obtain ⟨_, q1, q2, q3, q5, q6⟩ := HC8.out W4 hO4
              have HB4 := Lib.hid hB4
              clear hB4 hO4 c0 c1 c2
              go_region
              all_goals
                go_wp2
                go_roundw
                case rel => exact ⟨j + 1, by omega, by go_num, HB4.out.drew.alloc (by simpa using hz4) _, by rw [HS.out, HRn.out]; exact ownU_lit W4.drew w.heap.size _ _ 8 rfl rfl (by omega) (by have : W4.drew.heap.size = W4.heap.size := rfl; omega)⟩
                case measure => simp [intOf]; omega
            · obtain rfl : j = 64 := by omega
              clear hlt hj
              have hUr : OwnU 0 wr (.slice (some ⟨gh, 0, none⟩) 8 ch) s.list := (HU.out.below HB3.out (Nat.le_refl _)).below hBr (Nat.le_refl _)
              have HUr := Lib.hid hUr
              have HV := Lib.hid hO
              have HBw := Lib.hid (HB3.out.trans (hBr.mono hz3))
              generalize rnds s ws 64 = v at HV HBlk
              obtain ⟨wy, hwy⟩ : ∃ wy : World, wy = wr := ⟨_, rfl⟩
              rw [← hwy] at HUr HV HBw ⊢
              clear hUr hO hBr hwy HK3 HW3 HO3 HB3 HG3
              go_wp2
              go_loopw [17, 18] (fun o i wr => ∃ j : Nat, j ≤ 8 ∧ i = .int .i64 j ∧ Below wy.heap.size wy wr ∧ OwnU wy.heap.size wr o ((plusH s v).list.take j)) (fun _ i _ => 8 - (intOf i).toNat)
              case atStart => exact ⟨0, Nat.zero_le _, rfl, Below.refl _ _, OwnU.nil _ _⟩
              case round =>
                obtain ⟨j, hj, rfl, hBr, hO⟩ := hrel
                obtain ⟨a17, c17, hv17, _, _⟩ := OwnU.shape2 hO
                subst hv17
                by_cases hlt : j < 8
                · have HP := Lib.hid (plus_get s v j hlt)
                  have HCc : Hid (∀ W : World, Below wy.heap.size wy W → W.cell? ⟨gh, j, none⟩ = some (.int .u32 (w32 (s.list.getD j 0))) ∧ W.cell? ⟨g11, j, none⟩ = some (.int .u32 (w32 (v.list.getD j 0)))) := fun W h => ⟨(HUr.out.below h (Nat.le_refl _)).cell j (show j < 8 from hlt), (HV.out.below h (Nat.le_refl _)).cell j (show j < 8 from hlt)⟩
                  generalize s.list.getD j 0 = p at HP HCc
                  generalize v.list.getD j 0 = q at HP HCc
                  generalize hzz : p + q = z at HP
                  have hol : ((plusH s v).list.take j).length = j := by rw [List.length_take]; show min j 8 = j; omega
                  rw [hol] at hO ⊢
                  generalize (plusH s v).list.take j = ol at *
                  have jj : (j : Int) < 8 := by omega
                  have j0 : 0 ≤ (j : Int) := by omega
                  have HO := Lib.hid hO
                  clear hO
                  go_wp2
                  have hzy := hBr.size
                  have HO1 := Lib.hid (fun W (h : wy.heap.size ≤ W.heap.size) => ownU_1 W wy.heap.size z h)
                  go_region_held3 (fun W => W.cell? ⟨gh, j, none⟩ = some (.int .u32 (w32 p)) ∧ W.cell? ⟨g11, j, none⟩ = some (.int .u32 (w32 q)))
                    (first | exact HCc.out _ hB6 | exact HCc.out _ hBr.drew | exact HCc.out _ (hBr.alloc hzy _).drew | exact HCc.out _ (hBr.drew.alloc hzy _))
                    ((refine step_append_U rfl _ _ rfl wy.heap.size wy.heap.size (.slice a17 j c17) _ ol [z] rfl rfl (World.ownsRow.alloc HO.out _) (HO1.out wr hzy) (by simp) (by rw [hol]; simp; omega) (by simp; omega) ?_; intro v6 w6 hO6 hg6; have hB6 : Below wy.heap.size wy w6 := (hBr.alloc hzy _).drew.grown hg6 (by simp; omega) (fun k hk => (World.ownsRow.lt HO.out k hk).1)))
                  all_goals
                    go_wp2
                    go_roundw
                    case rel => exact ⟨_, _, _, _, _, _, _, _, _, _, _, _, _, _, _, _, _, _, ⟨j + 1, by omega, by go_num, hB6, by rw [HP.out]; exact hO6⟩, rfl⟩
                    case measure => simp [intOf]; omega
                · obtain rfl : j = 8 := by omega
                  have HO : Hid (OwnU w.heap.size wr (.slice a17 8 c17) (plusH s v).list) := OwnU.mono hO HBw.out.size
                  rw [show ((plusH s v).list.take 8).length = 8 from rfl]
                  clear hO hlt hj
                  go_wp2
                  go_ret
                  exact ⟨_, rfl, by rw [HBlk.out]; exact HO.out, HBw.out.trans (hBr.mono HBw.out.size)⟩
end Go.Proofs.YtcgopilkajfghaaGreatDoor
end
