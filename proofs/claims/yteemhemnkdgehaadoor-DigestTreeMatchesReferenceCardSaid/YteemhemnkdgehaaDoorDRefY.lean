/- The reference's extended; rows of bytes of the call's own. -/
import Derived.Test.YteemhemnkdgehaaDoorDRefW
import Derived.Test.YteemhemnkdgehaaDoorDSum
import Derived.Test.YteemhemnkdgehaaDoorSmall
import Derived.Maps.AppendAt
import Derived.Test.YteemhemnkdgehaaDoorCalm
namespace Go.Proofs.YteemhemnkdgehaaDoor
open Go.RowKit Go.Shelf

/-- A slice of bytes of the call's own. -/
def OwnY (base : Nat) (w : World) (v : Value) (l : Bytes) : Prop := w.ownsRow base 5 1 v l.length (l.map (fun x => Value.int .u8 (x.toNat : Int)))
theorem OwnY.nil (base : Nat) (w : World) : OwnY base w (.slice none 0 0) [] := World.ownsRow_nil _ _ _ _
theorem OwnY.below {base B : Nat} {w w' : World} {v : Value} {l : Bytes} (h : OwnY base w v l) (hb : Below B w w') (hB : w.heap.size ≤ B) : OwnY base w' v l := row_below h hb hB
theorem OwnY.mono {base base' : Nat} {w : World} {v : Value} {l : Bytes} (h : OwnY base w v l) (hB : base' ≤ base) : OwnY base' w v l := row_mono h hB
theorem OwnY.cell {base : Nat} {w : World} {g n cap : Nat} {l : Bytes} (h : OwnY base w (.slice (some ⟨g, 0, none⟩) n cap) l) (i : Nat) (hi : i < l.length) : w.cell? ⟨g, i, none⟩ = some (.int .u8 ((l.getD i 0).toNat : Int)) := by
  have := World.ownsRow.cells h (g := g) rfl i (.int .u8 ((l.getD i 0).toNat : Int)) (by simp [hi])
  rw [Addr.add_lit, Nat.zero_add] at this
  exact this
theorem OwnY.shape {base : Nat} {w : World} {v : Value} {l : Bytes} (h : OwnY base w v l) : (v = .slice none 0 0 ∧ l = []) ∨ ∃ g cap, v = .slice (some ⟨g, 0, none⟩) l.length cap ∧ base ≤ g ∧ g < w.heap.size ∧ l.length ≤ cap ∧ cap ≤ maxLen := by
  rcases h.2 with ⟨h0, h1⟩ | ⟨g, cap, cur, h1, h2, h3, h4, h5, _⟩
  · exact .inl ⟨h0, List.eq_nil_of_length_eq_zero h1⟩
  · exact .inr ⟨g, cap, h1, h2, (Array.getElem?_eq_some_iff.1 h3).1, h4, h5⟩
theorem OwnY.shape2 {base : Nat} {w : World} {v : Value} {l : Bytes} (h : OwnY base w v l) : ∃ a cap, v = .slice a l.length cap ∧ l.length ≤ cap ∧ cap ≤ maxLen := by
  rcases h.shape with ⟨h0, rfl⟩ | ⟨g, cap, h1, _, _, h4, h5⟩
  · exact ⟨none, 0, h0, Nat.le_refl _, Nat.zero_le _⟩
  · exact ⟨_, cap, h1, h4, h5⟩
theorem OwnY.shape3 {base : Nat} {w : World} {v : Value} {l : Bytes} (h : OwnY base w v l) (hl : 0 < l.length) : ∃ g cap, v = .slice (some ⟨g, 0, none⟩) l.length cap ∧ base ≤ g ∧ g < w.heap.size ∧ l.length ≤ cap ∧ cap ≤ maxLen := by
  rcases h.shape with ⟨_, rfl⟩ | h
  · simp at hl
  · exact h
/-- append of bytes. -/
theorem append_Y {ops : Array Oper} {rest : List Oper} {o : Oper} {a : Act} {Q : Exit → Act → World → Prop} {wr : World} (hgd : o.guard = none) (s x : Operand)
    (ho : o.op = .call { callee := .builtin .append, args := #[s, x], argTypes := #[46, 46] }) (base b2 : Nat) (v sv : Value) (l l2 : Bytes)
    (hs : a.eval s = v) (hx : a.eval x = sv) (hown : OwnY base wr v l) (hsv : OwnY b2 wr sv l2) (h2 : 0 < l2.length) (hlen : l.length + l2.length < 140737488355328) (hbase : base ≤ wr.heap.size) (w0 : World) (hb : Below base w0 wr)
    (h : ∀ v' w', OwnY base w' v' (l ++ l2) → wr.grownBy w' v.ownBlock → Below base w0 w' → wpList Tryd.prog ops Q rest (a.put o.dst v') w') : wpList Tryd.prog ops Q (o :: rest) a wr := by
  obtain ⟨i0, hi, hz0, hz1, hz2⟩ := info_parts info_u8
  obtain ⟨g, cap, rfl, hg1, hg2, hg3, hg4⟩ := hsv.shape3 h2
  refine wpList_append_own _ hgd s x 46 ho base 5 i0 (.int .u8 0) 1 1 Tryd.underlying46 hi hz0 hz1 hz2 rfl (by decide) v l.length _ hs hown ⟨g, 0, none⟩ l2.length cap (l2.map (fun x => Value.int .u8 (x.toNat : Int))) hx (by simp) (fun j u hj => World.ownsRow.cells hsv (g := g) rfl j u hj) (fun u hu => ?_) (by unfold maxLen; omega) (by omega) hbase ?_
  · obtain ⟨b, _, rfl⟩ := List.mem_map.1 hu
    rfl
  · intro v' w' hown' hg _
    refine h v' w' ?_ hg (hb.grown hg hbase fun k hk => (World.ownsRow.lt hown k hk).1)
    unfold OwnY
    rw [List.length_append, List.map_append]
    exact hown'
theorem rowY_kept {base : Nat} {l : Bytes} {v : Value} {W W' : World} {c : Option Nat} (h : OwnY base W v l) (hg : W.grownBy W' c) (hc : ∀ g, c = some g → v.ownBlock ≠ some g) : OwnY base W' v l :=
  World.ownsRow.kept h hg (by
    cases c with
    | none => cases v.ownBlock <;> simp
    | some g => exact .inr (hc g rfl))
/-- append of bytes, at one operation. -/
theorem wp_append_Y {o : Oper} {a : Act} {w : World} {K : Act → World → Prop} {Q : Exit → Act → World → Prop} (s x : Operand)
    (ho : o.op = .call { callee := .builtin .append, args := #[s, x], argTypes := #[46, 46] }) (base b2 : Nat) (v sv : Value) (l l2 : Bytes)
    (hs : a.eval s = v) (hx : a.eval x = sv) (hown : OwnY base w v l) (hsv : OwnY b2 w sv l2) (h2 : 0 < l2.length) (hlen : l.length + l2.length < 1000000) (hbase : base ≤ w.heap.size)
    (h : ∀ v' w', OwnY base w' v' (l ++ l2) → w.grownBy w' v.ownBlock → (v'.ownBlock = v.ownBlock ∨ v'.ownBlock = some w.heap.size) → K (a.put o.dst v') w') : Oper.wp Tryd.prog o a w K Q := by
  obtain ⟨i0, hi, hz0, hz1, hz2⟩ := info_parts info_u8
  obtain ⟨g, cap, rfl, hg1, hg2, hg3, hg4⟩ := hsv.shape3 h2
  obtain ⟨v', w', hr, h2, h3, _, h5⟩ := run_append_own_at (P := Tryd.prog) w base 46 o.type 5 i0 (.int .u8 0) 1 1 Tryd.underlying46 hi hz0 hz1 hz2 rfl (by decide) v l.length _ hown ⟨g, 0, none⟩ l2.length cap (l2.map (fun x => Value.int .u8 (x.toNat : Int))) (by simp) (fun j u hj => World.ownsRow.cells hsv (g := g) rfl j u hj) (fun u hu => by obtain ⟨b, _, rfl⟩ := List.mem_map.1 hu; rfl) (by unfold maxLen; omega) (by omega) hbase
  unfold Oper.wp execOp
  simp only [ho, resolve, invoke, builtin, Sem.run_bind, Sem.run_pure, Result.andThen_ok, List.map_toArray, List.map_cons, List.map_nil, hs, hx, hr]
  refine h v' w' ?_ h3 h5
  unfold OwnY
  rw [List.length_append, List.map_append]
  exact h2
/-- append of bytes, as a step of a region that draws. -/
theorem step_append_Y {ops : Array Oper} {o : Oper} {a : Act} {w : World} {K : Act → World → Prop} {Q : Exit → Act → World → Prop} {E : Prop} (hgd : o.guard = none) (s x : Operand)
    (ho : o.op = .call { callee := .builtin .append, args := #[s, x], argTypes := #[46, 46] }) (base b2 : Nat) (v sv : Value) (l l2 : Bytes)
    (hs : a.eval s = v) (hx : a.eval x = sv) (hown : OwnY base w v l) (hsv : OwnY b2 w sv l2) (h2 : 0 < l2.length) (hlen : l.length + l2.length < 1000000) (hbase : base ≤ w.heap.size)
    (h : ∀ v' w', OwnY base w' v' (l ++ l2) → w.grownBy w' v.ownBlock → K (a.put o.dst v') w') :
    if Region.wanted o (yielded ops a.tmps) = true then Oper.wp Tryd.prog o a w K Q else E := by
  have hw : Region.wanted o (yielded ops a.tmps) = true := by simp [Region.wanted, hgd]
  rw [if_pos hw]
  exact wp_append_Y s x ho base b2 v sv l l2 hs hx hown hsv h2 hlen hbase fun v' w' h1 h2 _ => h v' w' h1 h2
theorem ownY_lit (W : World) (base : Nat) (l : Bytes) (cs : Array Value) (n : Nat) (hcs : cs.toList = l.map (fun x => Value.int .u8 (x.toNat : Int))) (hn : l.length = n) (hnn : n ≤ 1000) (hb : base ≤ W.heap.size) : OwnY base (W.alloc (.cells cs 5)) (.slice (some ⟨W.heap.size, 0, none⟩) n n) l := by
  unfold OwnY
  rw [← hcs, hn]
  exact World.ownsRow_lit W cs n hb (by unfold maxLen; omega) (by rw [← Array.length_toList, hcs, List.length_map, hn, Nat.mul_one])
theorem ownY_1 (W : World) (base : Nat) (z : UInt8) (hb : base ≤ W.heap.size) : OwnY base (W.alloc (.cells #[.int .u8 (z.toNat : Int)] 5)) (.slice (some ⟨W.heap.size, 0, none⟩) 1 1) [z] := ownY_lit W base [z] _ 1 rfl rfl (by omega) hb
set_option maxRecDepth 100000 in
set_option maxHeartbeats 1000000 in
theorem extended_any (s : ByteArray) (w : World) (hs : s.size ≤ 1099511627776) :
    Calls Tryd.prog 57 #[.string s] w fun e w' => ∃ rv, e = .returned rv ∧ OwnY w.heap.size w' rv (pad s.data.toList) ∧ Below w.heap.size w w' := by
  obtain ⟨l, hl⟩ : ∃ l, l = s.data.toList := ⟨_, rfl⟩
  have hln : l.length = s.size := by rw [hl]; rfl
  have HL := Lib.hid hl
  have HLn := Lib.hid hln
  rw [← hl]
  clear hl hln
  go_enter Tryd.func57, Tryd.ntmps57
  go_wp2
  go_loopw [3, 4] (fun v i wr => ∃ k : Nat, k ≤ s.size ∧ i = .int .i64 k ∧ OwnY w.heap.size wr v (l.take k) ∧ Below w.heap.size w wr) (fun _ i _ => s.size - (intOf i).toNat)
  case atStart => exact ⟨0, Nat.zero_le _, rfl, OwnY.nil _ _, Below.refl _ _⟩
  case round =>
    obtain ⟨k, hk, rfl, hO, hB⟩ := hrel
    have hzB := hB.size
    have HO := Lib.hid hO
    clear hO
    by_cases hlt : k < s.size
    · have HTk : Hid (l.take (k + 1) = l.take k ++ [s[k]]) := by
        show _ = _
        rw [take_getD l 0 k (by rw [HLn.out]; exact hlt), HL.out, toList_getD s k hlt]
      have hll : (l.take k).length < 1099511627776 := by rw [List.length_take]; omega
      have kk : (k : Int) < (s.size : Int) := by omega
      generalize hx : s[k] = x at *
      have HO1 := Lib.hid (ownY_1 wr w.heap.size x hzB)
      go_wp2_with (at_builtin; refine append_Y rfl _ _ rfl w.heap.size w.heap.size u3 _ (l.take k) [x] rfl rfl (World.ownsRow.alloc HO.out _) HO1.out (by simp) (by simp; omega) (by simp; omega) w (hB.alloc hzB _) ?_; intro v2 w2 hO2 hg2 hb2)
      go_roundw
      case rel => exact ⟨k + 1, by omega, by go_num, by rw [HTk.out]; exact hO2, hb2⟩
      case measure => simp [intOf]; omega
    · obtain rfl : k = s.size := by omega
      have HR : Hid (l.take s.size = l) := List.take_of_length_le (by rw [HLn.out]; exact Nat.le_refl _)
      rw [HR.out] at HO
      have HO1 := Lib.hid (ownY_1 wr w.heap.size 128 hzB)
      clear hlt hk
      obtain ⟨wo, hwo⟩ : ∃ wo : World, wo = wr := ⟨_, rfl⟩
      rw [← hwo] at HO hB hzB HO1 ⊢
      clear hwo
      go_wp2_with (at_builtin; refine append_Y rfl _ _ rfl w.heap.size w.heap.size u3 _ l [128] rfl rfl (World.ownsRow.alloc HO.out _) HO1.out (by simp) (by simp; have := HLn.out; omega) (by simp; omega) w (hB.alloc hzB _) ?_; intro v2 w2 hown2 hg2 hb2)
      have hP64 := padZ_lt s.size
      clear HO HO1 hg2
      go_loopg [3] (padZ s.size) (fun gk v wr => ∃ z, z + gk = padZ s.size ∧ OwnY w.heap.size wr v (l ++ [128] ++ List.replicate z 0) ∧ Below w.heap.size w wr)
      case atStart => exact ⟨0, by omega, by simpa using hown2, hb2⟩
      case round =>
        clear hown2 hb2 hB hzB
        obtain ⟨z, hz, hown, hB⟩ := hrel
        obtain ⟨g, cp, hv, _, _, _, _⟩ := hown.shape3 (by simp; omega)
        have hlen : (l ++ [128] ++ List.replicate z 0).length = s.size + 1 + z := by simp; have := HLn.out; omega
        rw [hlen] at hv
        have hend := padZ_end s.size z (by omega)
        have HOw := Lib.hid hown
        have HLen := Lib.hid hlen
        have hzB := hB.size
        clear hown hlen
        generalize hLL : s.size + 1 + z = L at *
        have hL2 : L ≤ 1099511627776 + 100 := by omega
        have hL3 : L = s.size + 1 + z := hLL.symm
        have HL3 := Lib.hid hL3
        clear hLL hL3
        subst hv
        by_cases hze : z = padZ s.size
        · have ht : (((L : Nat) : Int) % 64 != 56) = false := by
            have : L % 64 = 56 := hend.2 hze
            simp; omega
          clear hend
          have HFull : Hid (OwnY w.heap.size wr (.slice (some ⟨g, 0, none⟩) L cp) (padTo l 8)) := by show OwnY _ _ _ _; rw [padTo_eight, HLn.out, ← hze]; exact HOw.out
          clear HOw HLen HL3 hze hz hP64
          go_wp2
          go_loopw [3, 5] (fun v i wr => ∃ m : Nat, m ≤ 8 ∧ i = .int .i64 ((m : Int) - 1) ∧ OwnY w.heap.size wr v (padTo l m) ∧ Below w.heap.size w wr) (fun _ i _ => (intOf i + 1).toNat)
          case atStart => exact ⟨8, Nat.le_refl _, rfl, HFull.out, hB⟩
          case round =>
            clear HFull hB hzB
            obtain ⟨m, hm, rfl, hown, hB⟩ := hrel
            have hlen := padTo_length l m hm
            have hP64 := padZ_lt l.length
            rw [HLn.out] at hlen hP64
            have hzB := hB.size
            have HOw := Lib.hid hown
            have HLen := Lib.hid hlen
            clear hown hlen
            rcases Nat.eq_zero_or_pos m with hm0 | hm0
            · subst hm0
              rw [padTo_zero] at HOw
              go_wp2
              go_ret
              exact ⟨_, rfl, HOw.out, hB⟩
            · obtain ⟨q, rfl⟩ : ∃ q, m = q + 1 := ⟨m - 1, by omega⟩
              rw [show (((q + 1 : Nat) : Int) - 1) = (q : Int) by omega]
              have HB := Lib.hid (lenByte_val l.length q)
              rw [HLn.out] at HB
              have HS := Lib.hid (padTo_succ l q (by omega))
              rw [HLn.out] at HS
              generalize lenByte s.size q = z at HB HS
              have HO1 := Lib.hid (ownY_1 wr w.heap.size z hzB)
              have hq8 : (q : Int) < 8 := by omega
              go_wp2_with (at_builtin; rw [← HB.out]; refine append_Y rfl _ _ rfl w.heap.size w.heap.size u3 _ (padTo l (q + 1)) [z] rfl rfl (World.ownsRow.alloc HOw.out _) HO1.out (by simp) (by rw [HLen.out]; simp; omega) (by simp; omega) w (hB.alloc hzB _) ?_; intro v3 w3 hown3 hg3 hb3)
              go_roundw
              case rel => exact ⟨q, by omega, by go_num, by rw [HS.out]; exact hown3, hb3⟩
              case measure => simp [intOf]
        · have ht : (((L : Nat) : Int) % 64 != 56) = true := by
            have : L % 64 ≠ 56 := fun e => hze (hend.1 e)
            simp; omega
          have HO1 := Lib.hid (ownY_1 wr w.heap.size 0 hzB)
          clear hend
          go_wp2_with (at_builtin; refine append_Y rfl _ _ rfl w.heap.size w.heap.size _ _ (l ++ [128] ++ List.replicate z 0) [0] rfl rfl (World.ownsRow.alloc HOw.out _) HO1.out (by simp) (by rw [HLen.out]; simp; omega) (by simp; omega) w (hB.alloc hzB _) ?_; intro v3 w3 hown3 hg3 hb3)
          go_roundg (gk - 1)
          case measure => omega
          case rel => exact ⟨z + 1, by omega, by rw [List.replicate_succ', ← List.append_assoc]; exact hown3, hb3⟩
end Go.Proofs.YteemhemnkdgehaaDoor
