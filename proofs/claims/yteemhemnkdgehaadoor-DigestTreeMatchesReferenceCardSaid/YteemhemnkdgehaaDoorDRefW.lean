/- The reference's rotated and constants; rows of words of the call's own. -/
import Derived.Test.YteemhemnkdgehaaDoorDWords
import Derived.Test.YteemhemnkdgehaaDoorDOwn
import Derived.BigQuiet
namespace Go.Proofs.YteemhemnkdgehaaDoor
open Go.RowKit Go.Shelf

theorem rot_or2 (x : UInt32) (n : Nat) (hn : n < 32) (hn0 : 0 < n) : bits .or .u32 (w32 x / ((2 ^ n : Nat) : Int)) (w32 x * ((2 ^ (32 - n) : Nat) : Int) % 4294967296) = w32 (rotr x n) := by
  rw [u32_shl x _ (by omega), u32_shr x _ hn, u32_or]
  rfl
theorem quiet_n {P : Program} {f : FuncId} {args : Array Value} {w : World} {n : Nat} {v : Value}
    (h : Calls P f args (w.drewN n) fun e w' => e = .returned v ∧ ∃ q, w' = (w.drewN n).drewN q) : Calls P f args (w.drewN n) fun e w'' => e = .returned v ∧ ∃ m, w'' = w.drewN m :=
  h.mono fun _ _ ⟨he, q, hq⟩ => ⟨he, n + q, by rw [hq]; exact World.drewN_drewN _ _ _⟩
set_option maxRecDepth 100000 in
theorem refRot_2 (x : UInt32) (w : World) : Calls Tryd.prog 69 #[.int .u32 (w32 x), .int .i64 2] w fun e w' => e = .returned (.int .u32 (w32 (rotr x 2))) ∧ ∃ q, w' = w.drewN q := by
  have H := Lib.hid (rot_or2 x 2 (by decide) (by decide))
  go_enter Tryd.func69, Tryd.ntmps69
  go_wp2
  go_quiet (fail)
  go_wp2
  go_ret
  exact ⟨by rw [← H.out]; rfl, _, rfl⟩
set_option maxRecDepth 100000 in
theorem refRot_6 (x : UInt32) (w : World) : Calls Tryd.prog 69 #[.int .u32 (w32 x), .int .i64 6] w fun e w' => e = .returned (.int .u32 (w32 (rotr x 6))) ∧ ∃ q, w' = w.drewN q := by
  have H := Lib.hid (rot_or2 x 6 (by decide) (by decide))
  go_enter Tryd.func69, Tryd.ntmps69
  go_wp2
  go_quiet (fail)
  go_wp2
  go_ret
  exact ⟨by rw [← H.out]; rfl, _, rfl⟩
set_option maxRecDepth 100000 in
theorem refRot_7 (x : UInt32) (w : World) : Calls Tryd.prog 69 #[.int .u32 (w32 x), .int .i64 7] w fun e w' => e = .returned (.int .u32 (w32 (rotr x 7))) ∧ ∃ q, w' = w.drewN q := by
  have H := Lib.hid (rot_or2 x 7 (by decide) (by decide))
  go_enter Tryd.func69, Tryd.ntmps69
  go_wp2
  go_quiet (fail)
  go_wp2
  go_ret
  exact ⟨by rw [← H.out]; rfl, _, rfl⟩
set_option maxRecDepth 100000 in
theorem refRot_11 (x : UInt32) (w : World) : Calls Tryd.prog 69 #[.int .u32 (w32 x), .int .i64 11] w fun e w' => e = .returned (.int .u32 (w32 (rotr x 11))) ∧ ∃ q, w' = w.drewN q := by
  have H := Lib.hid (rot_or2 x 11 (by decide) (by decide))
  go_enter Tryd.func69, Tryd.ntmps69
  go_wp2
  go_quiet (fail)
  go_wp2
  go_ret
  exact ⟨by rw [← H.out]; rfl, _, rfl⟩
set_option maxRecDepth 100000 in
theorem refRot_13 (x : UInt32) (w : World) : Calls Tryd.prog 69 #[.int .u32 (w32 x), .int .i64 13] w fun e w' => e = .returned (.int .u32 (w32 (rotr x 13))) ∧ ∃ q, w' = w.drewN q := by
  have H := Lib.hid (rot_or2 x 13 (by decide) (by decide))
  go_enter Tryd.func69, Tryd.ntmps69
  go_wp2
  go_quiet (fail)
  go_wp2
  go_ret
  exact ⟨by rw [← H.out]; rfl, _, rfl⟩
set_option maxRecDepth 100000 in
theorem refRot_17 (x : UInt32) (w : World) : Calls Tryd.prog 69 #[.int .u32 (w32 x), .int .i64 17] w fun e w' => e = .returned (.int .u32 (w32 (rotr x 17))) ∧ ∃ q, w' = w.drewN q := by
  have H := Lib.hid (rot_or2 x 17 (by decide) (by decide))
  go_enter Tryd.func69, Tryd.ntmps69
  go_wp2
  go_quiet (fail)
  go_wp2
  go_ret
  exact ⟨by rw [← H.out]; rfl, _, rfl⟩
set_option maxRecDepth 100000 in
theorem refRot_18 (x : UInt32) (w : World) : Calls Tryd.prog 69 #[.int .u32 (w32 x), .int .i64 18] w fun e w' => e = .returned (.int .u32 (w32 (rotr x 18))) ∧ ∃ q, w' = w.drewN q := by
  have H := Lib.hid (rot_or2 x 18 (by decide) (by decide))
  go_enter Tryd.func69, Tryd.ntmps69
  go_wp2
  go_quiet (fail)
  go_wp2
  go_ret
  exact ⟨by rw [← H.out]; rfl, _, rfl⟩
set_option maxRecDepth 100000 in
theorem refRot_19 (x : UInt32) (w : World) : Calls Tryd.prog 69 #[.int .u32 (w32 x), .int .i64 19] w fun e w' => e = .returned (.int .u32 (w32 (rotr x 19))) ∧ ∃ q, w' = w.drewN q := by
  have H := Lib.hid (rot_or2 x 19 (by decide) (by decide))
  go_enter Tryd.func69, Tryd.ntmps69
  go_wp2
  go_quiet (fail)
  go_wp2
  go_ret
  exact ⟨by rw [← H.out]; rfl, _, rfl⟩
set_option maxRecDepth 100000 in
theorem refRot_22 (x : UInt32) (w : World) : Calls Tryd.prog 69 #[.int .u32 (w32 x), .int .i64 22] w fun e w' => e = .returned (.int .u32 (w32 (rotr x 22))) ∧ ∃ q, w' = w.drewN q := by
  have H := Lib.hid (rot_or2 x 22 (by decide) (by decide))
  go_enter Tryd.func69, Tryd.ntmps69
  go_wp2
  go_quiet (fail)
  go_wp2
  go_ret
  exact ⟨by rw [← H.out]; rfl, _, rfl⟩
set_option maxRecDepth 100000 in
theorem refRot_25 (x : UInt32) (w : World) : Calls Tryd.prog 69 #[.int .u32 (w32 x), .int .i64 25] w fun e w' => e = .returned (.int .u32 (w32 (rotr x 25))) ∧ ∃ q, w' = w.drewN q := by
  have H := Lib.hid (rot_or2 x 25 (by decide) (by decide))
  go_enter Tryd.func69, Tryd.ntmps69
  go_wp2
  go_quiet (fail)
  go_wp2
  go_ret
  exact ⟨by rw [← H.out]; rfl, _, rfl⟩
theorem infoU1 : (Tryd.prog.info? 69).map (fun i => (i.zero, i.size, i.bytes)) = some (some (.int .u32 0), 1, 4) := by kernel_rfl
/-- A slice of words of the call's own. -/
def OwnU (base : Nat) (w : World) (v : Value) (l : List UInt32) : Prop := w.ownsRow base 69 1 v l.length (l.map (fun x => Value.int .u32 (w32 x)))
theorem OwnU.nil (base : Nat) (w : World) : OwnU base w (.slice none 0 0) [] := World.ownsRow_nil _ _ _ _
theorem OwnU.below {base B : Nat} {w w' : World} {v : Value} {l : List UInt32} (h : OwnU base w v l) (hb : Below B w w') (hB : w.heap.size ≤ B) : OwnU base w' v l := row_below h hb hB
theorem OwnU.mono {base base' : Nat} {w : World} {v : Value} {l : List UInt32} (h : OwnU base w v l) (hB : base' ≤ base) : OwnU base' w v l := row_mono h hB
theorem OwnU.cell {base : Nat} {w : World} {g n cap : Nat} {l : List UInt32} (h : OwnU base w (.slice (some ⟨g, 0, none⟩) n cap) l) (i : Nat) (hi : i < l.length) : w.cell? ⟨g, i, none⟩ = some (.int .u32 (w32 (l.getD i 0))) := by
  have := World.ownsRow.cells h (g := g) rfl i (.int .u32 (w32 (l.getD i 0))) (by simp [hi])
  rw [Addr.add_lit, Nat.zero_add] at this
  exact this
theorem OwnU.shape {base : Nat} {w : World} {v : Value} {l : List UInt32} (h : OwnU base w v l) : (v = .slice none 0 0 ∧ l = []) ∨ ∃ g cap, v = .slice (some ⟨g, 0, none⟩) l.length cap ∧ base ≤ g ∧ g < w.heap.size ∧ l.length ≤ cap ∧ cap ≤ maxLen := by
  rcases h.2 with ⟨h0, h1⟩ | ⟨g, cap, cur, h1, h2, h3, h4, h5, _⟩
  · exact .inl ⟨h0, List.eq_nil_of_length_eq_zero h1⟩
  · exact .inr ⟨g, cap, h1, h2, (Array.getElem?_eq_some_iff.1 h3).1, h4, h5⟩
theorem OwnU.shape2 {base : Nat} {w : World} {v : Value} {l : List UInt32} (h : OwnU base w v l) : ∃ a cap, v = .slice a l.length cap ∧ l.length ≤ cap ∧ cap ≤ maxLen := by
  rcases h.shape with ⟨h0, rfl⟩ | ⟨g, cap, h1, _, _, h4, h5⟩
  · exact ⟨none, 0, h0, Nat.le_refl _, Nat.zero_le _⟩
  · exact ⟨_, cap, h1, h4, h5⟩
theorem OwnU.shape3 {base : Nat} {w : World} {v : Value} {l : List UInt32} (h : OwnU base w v l) (hl : 0 < l.length) : ∃ g cap, v = .slice (some ⟨g, 0, none⟩) l.length cap ∧ base ≤ g ∧ g < w.heap.size ∧ l.length ≤ cap ∧ cap ≤ maxLen := by
  rcases h.shape with ⟨_, rfl⟩ | h
  · simp at hl
  · exact h
/-- append of words. -/
theorem append_U {ops : Array Oper} {rest : List Oper} {o : Oper} {a : Act} {Q : Exit → Act → World → Prop} {wr : World} (hgd : o.guard = none) (s x : Operand)
    (ho : o.op = .call { callee := .builtin .append, args := #[s, x], argTypes := #[77, 77] }) (base b2 : Nat) (v sv : Value) (l l2 : List UInt32)
    (hs : a.eval s = v) (hx : a.eval x = sv) (hown : OwnU base wr v l) (hsv : OwnU b2 wr sv l2) (h2 : 0 < l2.length) (hlen : l.length + l2.length < 1099511627776) (hbase : base ≤ wr.heap.size) (w0 : World) (hb : Below base w0 wr)
    (h : ∀ v' w', OwnU base w' v' (l ++ l2) → wr.grownBy w' v.ownBlock → Below base w0 w' → wpList Tryd.prog ops Q rest (a.put o.dst v') w') : wpList Tryd.prog ops Q (o :: rest) a wr := by
  obtain ⟨i0, hi, hz0, hz1, hz2⟩ := info_parts infoU1
  obtain ⟨g, cap, rfl, hg1, hg2, hg3, hg4⟩ := hsv.shape3 h2
  refine wpList_append_own _ hgd s x 77 ho base 69 i0 (.int .u32 0) 1 4 Tryd.underlying77 hi hz0 hz1 hz2 rfl (by decide) v l.length _ hs hown ⟨g, 0, none⟩ l2.length cap (l2.map (fun x => Value.int .u32 (w32 x))) hx (by simp) (fun j u hj => World.ownsRow.cells hsv (g := g) rfl j u hj) (fun u hu => ?_) (by unfold maxLen; omega) (by omega) hbase ?_
  · obtain ⟨b, _, rfl⟩ := List.mem_map.1 hu
    rfl
  · intro v' w' hown' hg _
    refine h v' w' ?_ hg (hb.grown hg hbase fun k hk => (World.ownsRow.lt hown k hk).1)
    unfold OwnU
    rw [List.length_append, List.map_append]
    exact hown'
/-- append of words, as a step of a region that draws. -/
theorem step_append_U {ops : Array Oper} {o : Oper} {a : Act} {w : World} {K : Act → World → Prop} {Q : Exit → Act → World → Prop} {E : Prop} (hgd : o.guard = none) (s x : Operand)
    (ho : o.op = .call { callee := .builtin .append, args := #[s, x], argTypes := #[77, 77] }) (base b2 : Nat) (v sv : Value) (l l2 : List UInt32)
    (hs : a.eval s = v) (hx : a.eval x = sv) (hown : OwnU base w v l) (hsv : OwnU b2 w sv l2) (h2 : 0 < l2.length) (hlen : l.length + l2.length < 1000000) (hbase : base ≤ w.heap.size)
    (h : ∀ v' w', OwnU base w' v' (l ++ l2) → w.grownBy w' v.ownBlock → K (a.put o.dst v') w') :
    if Region.wanted o (yielded ops a.tmps) = true then Oper.wp Tryd.prog o a w K Q else E := by
  have hw : Region.wanted o (yielded ops a.tmps) = true := by simp [Region.wanted, hgd]
  rw [if_pos hw]
  obtain ⟨i0, hi, hz0, hz1, hz2⟩ := info_parts infoU1
  obtain ⟨g, cap, rfl, hg1, hg2, hg3, hg4⟩ := hsv.shape3 h2
  refine wp_append_own w s x 77 ho base 69 i0 (.int .u32 0) 1 4 Tryd.underlying77 hi hz0 hz1 hz2 rfl (by decide) v l.length _ hs hown ⟨g, 0, none⟩ l2.length cap (l2.map (fun x => Value.int .u32 (w32 x))) hx (by simp) (fun j u hj => World.ownsRow.cells hsv (g := g) rfl j u hj) (fun u hu => ?_) (by unfold maxLen; omega) (by omega) hbase ?_
  · obtain ⟨b, _, rfl⟩ := List.mem_map.1 hu
    rfl
  · intro v' w' hown' hg _
    refine h v' w' ?_ hg
    unfold OwnU
    rw [List.length_append, List.map_append]
    exact hown'
theorem ownU_lit (W : World) (base : Nat) (l : List UInt32) (cs : Array Value) (n : Nat) (hcs : cs.toList = l.map (fun x => Value.int .u32 (w32 x))) (hn : l.length = n) (hnn : n ≤ 1000) (hb : base ≤ W.heap.size) : OwnU base (W.alloc (.cells cs 69)) (.slice (some ⟨W.heap.size, 0, none⟩) n n) l := by
  unfold OwnU
  rw [← hcs, hn]
  exact World.ownsRow_lit W cs n hb (by unfold maxLen; omega) (by rw [← Array.length_toList, hcs, List.length_map, hn, Nat.mul_one])
set_option maxRecDepth 100000 in
theorem constants_any (w : World) : Calls Tryd.prog 70 #[] w fun e w' => ∃ rv, e = .returned rv ∧ OwnU w.heap.size w' rv kTab ∧ Below w.heap.size w w' := by
  go_enter Tryd.func70, Tryd.ntmps70
  go_wp2
  go_ret
  exact ⟨_, rfl, ownU_lit w w.heap.size kTab _ 64 (by rfl) (by rfl) (by omega) (Nat.le_refl _), (Below.refl _ _).alloc (Nat.le_refl _) _⟩
end Go.Proofs.YteemhemnkdgehaaDoor
