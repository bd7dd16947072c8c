import Derived.Test.YthfenbdlolbikaaGreatDoorMLogA
import Derived.Defers
import Derived.Recover
import Derived.Laws.Pointers
import Derived.WalkSmall
set_option linter.unusedVariables false
set_option linter.unusedSimpArgs false

section
/- logbook: must, and the deferred function of Decode. -/
namespace Go.Proofs.YthfenbdlolbikaaGreatDoor
open Go.RowKit Go.Shelf

/-- What a decoder that fails panics with. -/
abbrev failV : Value := .iface 97 (.agg #[])
theorem mustI_ok (x a : Int) (w : World) :
    Calls Tryz.prog 70 #[.int .i64 x, .int .i64 a, .int .i64 0] w fun e w' => e = .returned (.tuple #[.int .i64 x, .int .i64 a]) ∧ w = w' := by
  go_enter Tryz.func70, Tryz.ntmps70
  go_wp2
  go_ret2
  exact ⟨rfl, rfl⟩
theorem mustI_no (x a k : Int) (w : World) (hk : ¬ k = 0) :
    Calls Tryz.prog 70 #[.int .i64 x, .int .i64 a, .int .i64 k] w fun e w' => e = .panicked [{ v := failV, recovered := false }] ∧ w = w' := by
  have hk2 : (k != 0) = true := by simpa using hk
  go_enter Tryz.func70, Tryz.ntmps70
  go_wp2
  exact ⟨rfl, rfl, rfl⟩
theorem mustS_no (x : ByteArray) (a k : Int) (w : World) (hk : ¬ k = 0) :
    Calls Tryz.prog 72 #[.string x, .int .i64 a, .int .i64 k] w fun e w' => e = .panicked [{ v := failV, recovered := false }] ∧ w = w' := by
  have hk2 : (k != 0) = true := by simpa using hk
  go_enter Tryz.func72, Tryz.ntmps72
  go_wp2
  exact ⟨rfl, rfl, rfl⟩
theorem mustS_ok (x : ByteArray) (a : Int) (w : World) :
    Calls Tryz.prog 72 #[.string x, .int .i64 a, .int .i64 0] w fun e w' => e = .returned (.tuple #[.string x, .int .i64 a]) ∧ w = w' := by
  go_enter Tryz.func72, Tryz.ntmps72
  go_wp2
  go_ret2
  exact ⟨rfl, rfl⟩
theorem catch_idle (p q : Addr) (w : World) :
    CallsD Tryz.prog 69 #[.pointer (some p), .pointer (some q)] .returning w fun e u' w' => e = .returned (.tuple #[]) ∧ u' = .returning ∧ w' = w := by
  refine callsD_of_wpS Tryz.func69 rfl fun c₀ cs hu => ?_
  apply wpS_seq
  apply wpS_region
  simp [wpOpsS, go_sem, recoverD, hu, Tryz.ntmps69, Exit.thenS]
  refine wpS_of_wp ?_
  go_wp2
  cases c₀
  simp_all [bodyPostS, results, Tryz.results69]
theorem heap_set {w : World} {b : Nat} {cs : Array Value} {t : TypeId} {fr : Nat × Nat} (h : w.heap[b]? = some (.cells cs t fr)) (j : Nat) (v : Value) : (w.setCell ⟨b, j, none⟩ v).heap[b]? = some (.cells (cs.setIfInBounds j v) t fr) := by
  simp [World.setCell, Array.getElem?_modify, h]
theorem heap_set_ne (w : World) {b k : Nat} (h : k ≠ b) (j : Nat) (v : Value) : (w.setCell ⟨b, j, none⟩ v).heap[k]? = w.heap[k]? := Below.heap_setCell _ _ _ _ (by simpa using h)
theorem zeroed {w : World} {b b2 : Nat} {x : LRec} {y : Int} (hb : RecBox w b x) (hb2 : w.heap[b2]? = some (.cells #[.int .i64 y] 33 (0, 0))) (hbn : b2 ≠ b) (o : Obj) {W : World}
    (hW : W = (((((((w.setCell ⟨b, 0, none⟩ (.int .i64 0)).setCell ⟨b, 1, none⟩ (.int .i64 0)).setCell ⟨b, 2, none⟩ (.int .i64 0)).setCell ⟨b, 3, none⟩ (.int .i64 0)).setCell ⟨b, 4, none⟩ (.string (⟨#[]⟩ : ByteArray))).setCell ⟨b2, 0, none⟩ (.int .i64 380)).alloc o)) :
    RecBox W b default ∧ W.heap[b2]? = some (.cells #[.int .i64 380] 33 (0, 0)) ∧ ∀ B, B ≤ b → B ≤ b2 → Below B w W := by
  subst hW
  have h1 := heap_set (heap_set (heap_set (heap_set (heap_set hb 0 (.int .i64 0)) 1 (.int .i64 0)) 2 (.int .i64 0)) 3 (.int .i64 0)) 4 (.string (⟨#[]⟩ : ByteArray))
  have h2 := h1
  rw [← heap_set_ne _ (Ne.symm hbn) 0 (.int .i64 380)] at h2
  have h3 := hb2
  rw [← heap_set_ne w hbn 0 (.int .i64 0), ← heap_set_ne _ hbn 1 (.int .i64 0), ← heap_set_ne _ hbn 2 (.int .i64 0), ← heap_set_ne _ hbn 3 (.int .i64 0), ← heap_set_ne _ hbn 4 (.string (⟨#[]⟩ : ByteArray))] at h3
  have h4 := heap_set h3 0 (.int .i64 380)
  refine ⟨?_, ?_, fun B h5 h6 => ?_⟩
  · exact (Below.heap_alloc _ _ _ (Array.getElem?_eq_some_iff.1 h2).1).trans h2
  · exact (Below.heap_alloc _ _ _ (Array.getElem?_eq_some_iff.1 h4).1).trans h4
  · have hs : B ≤ w.heap.size := Nat.le_of_lt (Nat.lt_of_le_of_lt h5 hb.lt)
    exact ((((((Below.refl B w).setCell (p := ⟨b, 0, none⟩) h5 _).setCell (p := ⟨b, 1, none⟩) h5 _).setCell (p := ⟨b, 2, none⟩) h5 _).setCell (p := ⟨b, 3, none⟩) h5 _).setCell (p := ⟨b, 4, none⟩) h5 _).setCell (p := ⟨b2, 0, none⟩) h6 _ |>.alloc (by simp [World.setCell]; exact hs) _
set_option maxRecDepth 100000 in
set_option maxHeartbeats 1000000 in
theorem catch_panicking (b b2 : Nat) (x : LRec) (y : Int) (w : World) (hb : RecBox w b x) (hb2 : w.heap[b2]? = some (.cells #[.int .i64 y] 33 (0, 0))) :
    CallsD Tryz.prog 69 #[.pointer (some ⟨b, 0, none⟩), .pointer (some ⟨b2, 0, none⟩)] (.panicking [{ v := failV, recovered := false }]) w fun e u' w' => e = .returned (.tuple #[]) ∧ u' = .panicking [{ v := failV, recovered := true }] ∧ RecBox w' b default ∧ w'.heap[b2]? = some (.cells #[.int .i64 380] 33 (0, 0)) ∧ ∀ B, B ≤ b → B ≤ b2 → Below B w w' := by
  obtain ⟨c0, c1, c2, c3, c4⟩ := hb.cells
  refine callsD_of_wpS Tryz.func69 rfl fun c₀ cs hu => ?_
  apply wpS_seq
  apply wpS_region
  simp [wpOpsS, go_sem, recoverD, hu, Tryz.ntmps69, Exit.thenS]
  refine wpS_of_wp ?_
  have hlt := hb.lt
  have hbx : RecBox (w.alloc (.cells #[] 97)) b x := hb.below ((Below.refl _ _).alloc (Nat.le_refl _) _) hlt
  obtain ⟨d0, d1, d2, d3, d4⟩ := hbx.cells
  have f0 : ∀ j, (w.alloc (.cells #[] 97)).frozen? ⟨b, j, none⟩ = false := Lib.frozen_of_heap hbx
  have hbn : b2 ≠ b := fun e => by rw [e, hb] at hb2; cases hb2
  have hbn2 : b ≠ b2 := fun e => hbn e.symm
  have hlt2 : b2 < w.heap.size := (Array.getElem?_eq_some_iff.1 hb2).1
  have hb2x : (w.alloc (.cells #[] 97)).heap[b2]? = some (.cells #[.int .i64 y] 33 (0, 0)) := (Below.heap_alloc _ _ _ hlt2).trans hb2
  have e0 : (w.alloc (.cells #[] 97)).cell? ⟨b2, 0, none⟩ = some (.int .i64 y) := by rw [Lib.cell_of_heap hb2x]; rfl
  have g0 : (w.alloc (.cells #[] 97)).frozen? ⟨b2, 0, none⟩ = false := Lib.frozen_of_heap hb2x 0
  have f1 : ∀ j, w.frozen? ⟨b, j, none⟩ = false := Lib.frozen_of_heap hb
  have e1 : w.cell? ⟨b2, 0, none⟩ = some (.int .i64 y) := by rw [Lib.cell_of_heap hb2]; rfl
  have g1 : w.frozen? ⟨b2, 0, none⟩ = false := Lib.frozen_of_heap hb2 0
  have hta : ∀ W : World, (Instr.typeAssert failV 20 97 true).run Tryz.prog W = .ok (.tuple #[.agg #[], .bool true]) W := fun W => by kernel_rfl
  go_wp2
  have hz := zeroed hb hb2 hbn (.cells #[] 97) rfl
  cases c₀
  simp only at hu
  subst hu
  refine ⟨rfl, _, rfl, _, ?_, rfl, rfl, hz⟩
  simp [results, Tryz.results69]
end Go.Proofs.YthfenbdlolbikaaGreatDoor
end

section
/- logbook.Decode. -/
namespace Go.Proofs.YthfenbdlolbikaaGreatDoor
open Go.RowKit Go.Shelf

/-- The numbers at the beginning of a string, and where they end. -/
def decN (l : Bytes) : Nat → Option (List Int × Nat)
  | 0 => some ([], 0)
  | j + 1 => match decN l j with
    | none => none
    | some (xs, a) => match dec (l.drop a) with
      | none => none
      | some (n, c) => some (xs ++ [n], a + c)
theorem decN_length {l : Bytes} : ∀ {j : Nat} {xs : List Int} {a : Nat}, decN l j = some (xs, a) → xs.length = j ∧ a ≤ l.length
  | 0, xs, a, h => by
    simp only [decN, Option.some.injEq, Prod.mk.injEq] at h
    obtain ⟨rfl, rfl⟩ := h
    exact ⟨rfl, Nat.zero_le _⟩
  | j + 1, xs, a, h => by
    unfold decN at h
    cases h1 : decN l j with
    | none => rw [h1] at h; cases h
    | some p =>
      obtain ⟨ys, b⟩ := p
      rw [h1] at h
      simp only at h
      cases h2 : dec (l.drop b) with
      | none => rw [h2] at h; cases h
      | some q =>
        obtain ⟨n, c⟩ := q
        rw [h2] at h
        simp only [Option.some.injEq, Prod.mk.injEq] at h
        obtain ⟨rfl, rfl⟩ := h
        have := decN_length h1
        have h3 := dec_le h2
        rw [List.length_drop] at h3
        exact ⟨by simp [this.1], by omega⟩
theorem decN_stop {l : Bytes} {j : Nat} (h : decN l j = none) : ∀ k, j ≤ k → decN l k = none
  | k, hk => by
    induction k with
    | zero => obtain rfl : j = 0 := by omega
              exact h
    | succ k ih =>
      by_cases e : j = k + 1
      · subst e; exact h
      · unfold decN
        rw [ih (by omega)]
theorem decN_step {l : Bytes} {j : Nat} {xs : List Int} {a : Nat} (h : decN l j = some (xs, a)) {n : Int} {c : Nat} (hd : dec (l.drop a) = some (n, c)) : decN l (j + 1) = some (xs ++ [n], a + c) := by
  conv => lhs; unfold decN
  rw [h]
  simp only
  rw [hd]
theorem decN_fail {l : Bytes} {j : Nat} {xs : List Int} {a : Nat} (h : decN l j = some (xs, a)) (hd : dec (l.drop a) = none) : decN l (j + 1) = none := by
  conv => lhs; unfold decN
  rw [h]
  simp only
  rw [hd]
/-- The record that these numbers make. -/
def recOf (xs : List Int) (t : Bytes) : LRec := ⟨xs.getD 0 0, xs.getD 1 0, xs.getD 2 0, xs.getD 3 0, t⟩
theorem decP_eq (l : Bytes) : decP l = (decN l 4).bind fun p => (decS (l.drop p.2)).map fun q => (recOf p.1 q.1, p.2 + q.2) := by
  unfold decP
  simp only [decN]
  cases h0 : dec l with
  | none => simp [h0]
  | some p0 =>
    obtain ⟨n0, c0⟩ := p0
    simp only [Option.bind_some, List.drop_zero, h0, List.nil_append, Nat.zero_add]
    cases h1 : dec (l.drop c0) with
    | none => simp
    | some p1 =>
      obtain ⟨n1, c1⟩ := p1
      simp only [Option.bind_some]
      cases h2 : dec (l.drop (c0 + c1)) with
      | none => simp
      | some p2 =>
        obtain ⟨n2, c2⟩ := p2
        simp only [Option.bind_some]
        cases h3 : dec (l.drop (c0 + c1 + c2)) with
        | none => simp
        | some p3 =>
          obtain ⟨n3, c3⟩ := p3
          simp [recOf]
/-- What Decode returns. -/
def decE (l : Bytes) : LRec × Int := match decR l with
  | some x => (x, 0)
  | none => (default, 380)
theorem decE_noint {l : Bytes} (h : decN l 4 = none) : decE l = (default, 380) := by
  unfold decE decR
  rw [decP_eq, h]
  rfl
theorem decE_nostr {l : Bytes} {xs : List Int} {a : Nat} (h : decN l 4 = some (xs, a)) (hs : decS (l.drop a) = none) : decE l = (default, 380) := by
  unfold decE decR
  rw [decP_eq, h, Option.bind_some, hs]
  rfl
theorem decE_str {l : Bytes} {xs : List Int} {a : Nat} (h : decN l 4 = some (xs, a)) {t : Bytes} {c : Nat} (hs : decS (l.drop a) = some (t, c)) : decE l = if a + c = l.length ∧ recB (recOf xs t) = true then (recOf xs t, 0) else (default, 380) := by
  unfold decE decR
  rw [decP_eq, h, Option.bind_some, hs]
  simp only [Option.map_some]
  by_cases hc : a + c = l.length ∧ recB (recOf xs t) = true
  · rw [if_pos hc, if_pos hc]
  · rw [if_neg hc, if_neg hc]
theorem recBox_set {w : World} {b j : Nat} {xs : List Int} (h : RecBox w b (recOf xs [])) (hl : xs.length = j) (hj : j < 4) (n : Int) : RecBox (w.setCell ⟨b, j, none⟩ (.int .i64 n)) b (recOf (xs ++ [n]) []) := by
  have := heap_set h j (.int .i64 n)
  unfold RecBox
  rw [this]
  subst hl
  match xs, hj with
  | [], _ => rfl
  | [_], _ => rfl
  | [_, _], _ => rfl
  | [_, _, _], _ => rfl
theorem stored {w : World} {b b2 : Nat} {x : LRec} {y : Int} (hb : RecBox w b x) (hb2 : w.heap[b2]? = some (.cells #[.int .i64 y] 33 (0, 0))) (hbn : b2 ≠ b) {W : World}
    (hW : W = ((((((w.setCell ⟨b, 0, none⟩ (.int .i64 x.sec)).setCell ⟨b, 1, none⟩ (.int .i64 x.kind)).setCell ⟨b, 2, none⟩ (.int .i64 x.a)).setCell ⟨b, 3, none⟩ (.int .i64 x.b)).setCell ⟨b, 4, none⟩ (.string (bs x.text))).setCell ⟨b2, 0, none⟩ (.int .i64 0))) :
    RecBox W b x ∧ W.heap[b2]? = some (.cells #[.int .i64 0] 33 (0, 0)) ∧ ∀ B, B ≤ b → B ≤ b2 → Below B w W := by
  subst hW
  have h1 := heap_set (heap_set (heap_set (heap_set (heap_set hb 0 (.int .i64 x.sec)) 1 (.int .i64 x.kind)) 2 (.int .i64 x.a)) 3 (.int .i64 x.b)) 4 (.string (bs x.text))
  have h2 := h1
  rw [← heap_set_ne _ (Ne.symm hbn) 0 (.int .i64 0)] at h2
  have h3 := hb2
  rw [← heap_set_ne w hbn 0 (.int .i64 x.sec), ← heap_set_ne _ hbn 1 (.int .i64 x.kind), ← heap_set_ne _ hbn 2 (.int .i64 x.a), ← heap_set_ne _ hbn 3 (.int .i64 x.b), ← heap_set_ne _ hbn 4 (.string (bs x.text))] at h3
  refine ⟨h2, heap_set h3 0 (.int .i64 0), fun B h5 h6 => ?_⟩
  exact (((((((Below.refl B w).setCell (p := ⟨b, 0, none⟩) h5 _).setCell (p := ⟨b, 1, none⟩) h5 _).setCell (p := ⟨b, 2, none⟩) h5 _).setCell (p := ⟨b, 3, none⟩) h5 _).setCell (p := ⟨b, 4, none⟩) h5 _).setCell (p := ⟨b2, 0, none⟩) h6 _)
theorem recBox_text {w : World} {b : Nat} {xs : List Int} (h : RecBox w b (recOf xs [])) (t : Bytes) : RecBox (w.setCell ⟨b, 4, none⟩ (.string (bs t))) b (recOf xs t) := by
  have := heap_set h 4 (.string (bs t))
  unfold RecBox
  rw [this]
  rfl
/-- The addresses of the four numbers of a record. -/
abbrev ptrs4 (b : Nat) : Value := .agg #[.pointer (some ⟨b, 0, none⟩), .pointer (some ⟨b, 1, none⟩), .pointer (some ⟨b, 2, none⟩), .pointer (some ⟨b, 3, none⟩)]
theorem ix4_0 (b : Nat) (W : World) : (Instr.index 99 (ptrs4 b) (.int .i64 0)).run Tryz.prog W = .ok (.pointer (some ⟨b, 0, none⟩)) W := by kernel_rfl
theorem ix4_1 (b : Nat) (W : World) : (Instr.index 99 (ptrs4 b) (.int .i64 1)).run Tryz.prog W = .ok (.pointer (some ⟨b, 1, none⟩)) W := by kernel_rfl
theorem ix4_2 (b : Nat) (W : World) : (Instr.index 99 (ptrs4 b) (.int .i64 2)).run Tryz.prog W = .ok (.pointer (some ⟨b, 2, none⟩)) W := by kernel_rfl
theorem ix4_3 (b : Nat) (W : World) : (Instr.index 99 (ptrs4 b) (.int .i64 3)).run Tryz.prog W = .ok (.pointer (some ⟨b, 3, none⟩)) W := by kernel_rfl
set_option maxRecDepth 100000 in
set_option maxHeartbeats 2000000 in
theorem decode_any (s : ByteArray) (w : World) (hs : s.size ≤ maxLen) :
    Calls Tryz.prog 34 #[.string s] w fun e w' => e = .returned (.tuple #[recV (decE s.data.toList).1, .int .i64 (decE s.data.toList).2]) ∧ Below w.heap.size w w' := by
  have hmf : ∀ (fn : Fn) (first cap : Array Value) (w : World), (Instr.makeFunc fn first cap).run Tryz.prog w = .ok (.func fn first cap) w := fun _ _ _ _ => rfl
  have hlen := bsize s
  obtain ⟨l, hl⟩ : ∃ l, l = s.data.toList := ⟨_, rfl⟩
  rw [← hl] at hlen ⊢
  have HIA := Lib.hid (fun (a : Int) (W : World) => int_any s a W hs)
  have HSA := Lib.hid (fun (a : Int) (W : World) => string_any s a W hs)
  rw [← hl] at HIA HSA
  unfold maxLen at hs
  clear hl
  go_enter_defers Tryz.func34, Tryz.ntmps34
  go_wp2
  go_loopw [4, 13] (fun at_ i wr => ∃ (j : Nat) (xs : List Int) (a : Nat), j ≤ 4 ∧ i = .int .i64 j ∧ at_ = .int .i64 a ∧ Hid (decN l j = some (xs, a)) ∧ RecBox wr w.heap.size (recOf xs []) ∧ wr.heap[w.heap.size + 1]? = some (.cells #[.int .i64 0] 33 (0, 0)) ∧ Below w.heap.size w wr) (fun _ i _ => 4 - (intOf i).toNat)
  case atStart =>
    have hb1 : Below w.heap.size w (w.alloc (.cells #[.int .i64 0, .int .i64 0, .int .i64 0, .int .i64 0, .string (⟨#[]⟩ : ByteArray)] 48)) := (Below.refl _ _).alloc (Nat.le_refl _) _
    refine ⟨0, [], 0, Nat.zero_le _, rfl, rfl, rfl, ?_, ?_, hb1.alloc (by simp) _⟩
    · exact (recBox_new w (recOf [] [])).below (B := w.heap.size + 1) ((Below.refl _ _).alloc (by simp) _) (by omega)
    · have := heap_alloc_new (w.alloc (.cells #[.int .i64 0, .int .i64 0, .int .i64 0, .int .i64 0, .string (⟨#[]⟩ : ByteArray)] 48)) (.cells #[.int .i64 0] 33)
      rw [World.size_alloc] at this
      exact this
  case round =>
    obtain ⟨j, xs, a, hj, rfl, rfl, HD, hbox, hen, hB⟩ := hrel
    have hz := hB.size
    have hxl := decN_length HD.out
    have hal : ¬ ((a : Int) < 0 ∨ (l.length : Int) < (a : Int)) := by omega
    by_cases h4 : j < 4
    · have hj4 : (j : Int) < 4 := by omega
      have HI2 : Hid (∀ W : World, Calls Tryz.prog 71 #[.string s, .int .i64 a] W fun e w' => e = .returned (intV l a) ∧ W = w') := fun W => by
        have := HIA.out a W
        rwa [show intAt l a = intV l a from if_neg hal] at this
      cases hd : dec (l.drop a) with
      | none =>
        have HE := Lib.hid (decE_noint (decN_stop (decN_fail HD.out hd) 4 (by omega)))
        rw [intV_none hd] at HI2
        have h3 : j = 0 ∨ j = 1 ∨ j = 2 ∨ j = 3 := by omega
        clear hd hj4 hlen hxl hal
        rcases h3 with rfl | rfl | rfl | rfl
        all_goals
          have i0 := ix4_0 w.heap.size
          have i1 := ix4_1 w.heap.size
          have i2 := ix4_2 w.heap.size
          have i3 := ix4_3 w.heap.size
          go_wp2_with (first | (go_at_call 71; refine (HI2.out _).mono ?_; rintro e w' ⟨rfl, rfl⟩; unfold tup3) | (go_at_call 70; refine (mustI_no _ _ _ _ (by decide)).mono ?_; rintro e w' ⟨rfl, rfl⟩))
          refine leaves_cons (f := 69) (args := #[.pointer (some ⟨w.heap.size, 0, none⟩), .pointer (some ⟨w.heap.size + 1, 0, none⟩)]) (by simp) (by simp [go_sem]) ?_
          refine (catch_panicking w.heap.size (w.heap.size + 1) _ 0 _ hbox hen).mono ?_
          rintro e u' w2 ⟨rfl, rfl, hx2, he2, hb2⟩
          obtain ⟨c0, c1, c2, c3, c4⟩ := hx2.cells
          have ce : w2.cell? ⟨w.heap.size + 1, 0, none⟩ = some (.int .i64 380) := by rw [Lib.cell_of_heap he2]; rfl
          simp [Leaves, settle, results, Tryz.results34, go_sem, c0, c1, c2, c3, c4, ce]
          rw [HE.out]
          exact ⟨⟨⟨rfl, rfl, rfl, rfl, rfl⟩, rfl⟩, hB.trans (hb2 _ (Nat.le_refl _) (Nat.le_succ _))⟩
      | some p =>
        obtain ⟨n, c⟩ := p
        have HD2 := Lib.hid (decN_step HD.out hd)
        rw [intV_some hd] at HI2
        have hfz : ∀ k, wr.frozen? ⟨w.heap.size, k, none⟩ = false := Lib.frozen_of_heap hbox
        obtain ⟨c0, c1, c2, c3, c4⟩ := hbox.cells
        have HBS := Lib.hid (recBox_set hbox hxl.1 h4 n)
        have hen2 := Lib.hid ((heap_set_ne wr (show w.heap.size + 1 ≠ w.heap.size by omega) j (.int .i64 n)).trans hen)
        have hB2 : Below w.heap.size w (wr.setCell ⟨w.heap.size, j, none⟩ (.int .i64 n)) := hB.setCell (p := ⟨w.heap.size, j, none⟩) (Nat.le_refl _) _
        have h3 : j = 0 ∨ j = 1 ∨ j = 2 ∨ j = 3 := by omega
        clear hd hj4 hlen hxl hal hbox hen HD
        rcases h3 with rfl | rfl | rfl | rfl
        all_goals
          have i0 := ix4_0 w.heap.size
          have i1 := ix4_1 w.heap.size
          have i2 := ix4_2 w.heap.size
          have i3 := ix4_3 w.heap.size
          go_wp2_with (first | (go_at_call 71; refine (HI2.out _).mono ?_; rintro e w' ⟨rfl, rfl⟩; unfold tup3) | (go_at_call 70; refine (mustI_ok _ _ _).mono ?_; rintro e w' ⟨rfl, rfl⟩))
          go_roundw
          case rel => exact ⟨_, _, _, by omega, by go_num, rfl, HD2, HBS.out, hen2.out, hB2⟩
          case measure => simp [intOf]
    · obtain rfl : j = 4 := by omega
      have HS2 : Hid (∀ W : World, Calls Tryz.prog 73 #[.string s, .int .i64 a] W fun e w' => e = .returned (match decS (l.drop a) with | some (t, c) => .tuple #[strV t, .int .i64 ((a : Int) + c), .int .i64 0] | none => .tuple #[strV [], .int .i64 0, .int .i64 10]) ∧ W = w') := fun W => by
        have := HSA.out a W
        rwa [show strAt l a = _ from if_neg hal] at this
      cases hd : decS (l.drop a) with
      | none =>
        rw [hd] at HS2
        simp only at HS2
        have HE := Lib.hid (decE_nostr HD.out hd)
        clear hd hlen hxl hal
        go_wp2_with (first | (go_at_call 73; refine (HS2.out _).mono ?_; rintro e w' ⟨rfl, rfl⟩; rw [show strV [] = .string (⟨#[]⟩ : ByteArray) from rfl]) | (go_at_call 72; refine (mustS_no _ _ _ _ (by decide)).mono ?_; rintro e w' ⟨rfl, rfl⟩))
        refine leaves_cons (f := 69) (args := #[.pointer (some ⟨w.heap.size, 0, none⟩), .pointer (some ⟨w.heap.size + 1, 0, none⟩)]) (by simp) (by simp [go_sem]) ?_
        refine (catch_panicking w.heap.size (w.heap.size + 1) _ 0 _ hbox hen).mono ?_
        rintro e u' w2 ⟨rfl, rfl, hx2, he2, hb2⟩
        obtain ⟨c0, c1, c2, c3, c4⟩ := hx2.cells
        have ce : w2.cell? ⟨w.heap.size + 1, 0, none⟩ = some (.int .i64 380) := by rw [Lib.cell_of_heap he2]; rfl
        simp [Leaves, settle, results, Tryz.results34, go_sem, c0, c1, c2, c3, c4, ce]
        rw [HE.out]
        exact ⟨⟨⟨rfl, rfl, rfl, rfl, rfl⟩, rfl⟩, hB.trans (hb2 _ (Nat.le_refl _) (Nat.le_succ _))⟩
      | some p =>
        obtain ⟨t, c⟩ := p
        rw [hd] at HS2
        simp only at HS2
        have HE0 := Lib.hid (decE_str HD.out hd)
        have hle : a + c ≤ l.length := by
          have := (encS_of_decS hd).2.1
          rw [List.length_drop] at this
          omega
        obtain ⟨m, hm⟩ : ∃ m, m = a + c := ⟨_, rfl⟩
        rw [show ((a : Int) + c) = (m : Int) from by omega, show strV t = .string (bs t) from rfl] at HS2
        rw [← hm] at HE0
        have hms : m ≤ s.size := by omega
        have hfz : ∀ k, wr.frozen? ⟨w.heap.size, k, none⟩ = false := Lib.frozen_of_heap hbox
        obtain ⟨p0, p1, p2, p3, p4⟩ := hbox.cells
        have hbox1 := recBox_text hbox t
        have hen1 := (heap_set_ne wr (show w.heap.size + 1 ≠ w.heap.size by omega) 4 (.string (bs t))).trans hen
        have hB1 : Below w.heap.size w (wr.setCell ⟨w.heap.size, 4, none⟩ (.string (bs t))) := hB.setCell (p := ⟨w.heap.size, 4, none⟩) (Nat.le_refl _) _
        have HB1 := Lib.hid hbox1
        have HEn1 := Lib.hid hen1
        have HW1 := Lib.hid hB1
        have hlt : w.heap.size + 1 < wr.heap.size := (Array.getElem?_eq_some_iff.1 hen).1
        obtain ⟨q0, q1, q2, q3, q4⟩ := hbox1.cells
        obtain ⟨x, hx⟩ : ∃ x, x = recOf xs t := ⟨_, rfl⟩
        rw [← hx] at HE0 HB1 q0 q1 q2 q3 q4
        have HX := Lib.hid hx
        have hbt : x.text = t := by rw [hx]; rfl
        rw [hbt] at q4
        have HBt := Lib.hid hbt
        rw [← hlen] at hms
        have HL := Lib.hid hlen
        clear hd hxl hal hbox hen HD hbox1 hen1 hB hB1 hm hx hlen hbt
        by_cases h1 : m < l.length
        · have HE : Hid (decE l = (default, 380)) := by show _ = _; rw [HE0.out]; exact if_neg (by omega)
          have h2 : (m : Int) < (s.size : Int) := by have := HL.out; omega
          go_wp2_with (first | (go_at_call 73; refine (HS2.out _).mono ?_; rintro e w' ⟨rfl, rfl⟩) | (go_at_call 72; refine (mustS_ok _ _ _).mono ?_; rintro e w' ⟨rfl, rfl⟩))
          refine leaves_cons (f := 69) (args := #[.pointer (some ⟨w.heap.size, 0, none⟩), .pointer (some ⟨w.heap.size + 1, 0, none⟩)]) (by simp) (by simp [go_sem]) ?_
          refine (catch_panicking w.heap.size (w.heap.size + 1) _ 0 _ HB1.out HEn1.out).mono ?_
          rintro e u' w2 ⟨rfl, rfl, hx2, he2, hb2⟩
          obtain ⟨c0, c1, c2, c3, c4⟩ := hx2.cells
          have ce : w2.cell? ⟨w.heap.size + 1, 0, none⟩ = some (.int .i64 380) := by rw [Lib.cell_of_heap he2]; rfl
          simp [Leaves, settle, results, Tryz.results34, go_sem, c0, c1, c2, c3, c4, ce]
          rw [HE.out]
          exact ⟨⟨⟨rfl, rfl, rfl, rfl, rfl⟩, rfl⟩, HW1.out.trans (hb2 _ (Nat.le_refl _) (Nat.le_succ _))⟩
        · have h2 : ¬ ((m : Int) < (s.size : Int)) := by have := HL.out; omega
          have HR : Hid (∀ W : World, Calls Tryz.prog 64 #[.agg #[.int .i64 x.sec, .int .i64 x.kind, .int .i64 x.a, .int .i64 x.b, .string (bs t)]] W fun e w' => e = .returned (.bool (recB x)) ∧ Below W.heap.size W w') := fun W => by
            have := isRecord_any x W
            unfold recV at this
            rwa [HBt.out] at this
          cases hr : recB x
          · have HE : Hid (decE l = (default, 380)) := by show _ = _; rw [HE0.out]; exact if_neg (by rw [hr]; simp)
            rw [hr] at HR
            go_wp2_with (first | (go_at_call 73; refine (HS2.out _).mono ?_; rintro e w' ⟨rfl, rfl⟩) | (go_at_call 72; refine (mustS_ok _ _ _).mono ?_; rintro e w' ⟨rfl, rfl⟩))
            refine (HR.out _).mono ?_
            rintro e w3 ⟨rfl, hb3⟩
            have hbox3 := HB1.out.below hb3 HB1.out.lt
            have hen3 := (hb3.block _ (Array.getElem?_eq_some_iff.1 HEn1.out).1).trans HEn1.out
            have hB3 := HW1.out.trans (hb3.mono HW1.out.size)
            obtain ⟨r0, r1, r2, r3, r4⟩ := hbox3.cells
            rw [HBt.out] at r4
            clear p0 p1 p2 p3 p4 q0 q1 q2 q3 q4 hb3
            go_wp2
            refine leaves_cons (f := 69) (args := #[.pointer (some ⟨w.heap.size, 0, none⟩), .pointer (some ⟨w.heap.size + 1, 0, none⟩)]) (by simp) (by simp [go_sem]) ?_
            refine (catch_panicking w.heap.size (w.heap.size + 1) _ 0 _ hbox3 hen3).mono ?_
            rintro e u' w2 ⟨rfl, rfl, hx2, he2, hb2⟩
            obtain ⟨c0, c1, c2, c3, c4⟩ := hx2.cells
            have ce : w2.cell? ⟨w.heap.size + 1, 0, none⟩ = some (.int .i64 380) := by rw [Lib.cell_of_heap he2]; rfl
            simp [Leaves, settle, results, Tryz.results34, go_sem, c0, c1, c2, c3, c4, ce]
            rw [HE.out]
            exact ⟨⟨⟨rfl, rfl, rfl, rfl, rfl⟩, rfl⟩, hB3.trans (hb2 _ (Nat.le_refl _) (Nat.le_succ _))⟩
          · have HE : Hid (decE l = (x, 0)) := by show _ = _; rw [HE0.out]; exact if_pos ⟨by omega, hr⟩
            rw [hr] at HR
            go_wp2_with (first | (go_at_call 73; refine (HS2.out _).mono ?_; rintro e w' ⟨rfl, rfl⟩) | (go_at_call 72; refine (mustS_ok _ _ _).mono ?_; rintro e w' ⟨rfl, rfl⟩))
            refine (HR.out _).mono ?_
            rintro e w3 ⟨rfl, hb3⟩
            have hbox3 := HB1.out.below hb3 HB1.out.lt
            have hen3 := (hb3.block _ (Array.getElem?_eq_some_iff.1 HEn1.out).1).trans HEn1.out
            have hB3 := HW1.out.trans (hb3.mono HW1.out.size)
            obtain ⟨r0, r1, r2, r3, r4⟩ := hbox3.cells
            rw [HBt.out] at r4
            clear p0 p1 p2 p3 p4 q0 q1 q2 q3 q4 hb3
            have hfz3 : ∀ k, w3.frozen? ⟨w.heap.size, k, none⟩ = false := Lib.frozen_of_heap hbox3
            have r5 : w3.cell? ⟨w.heap.size + 1, 0, none⟩ = some (.int .i64 0) := by rw [Lib.cell_of_heap hen3]; rfl
            have f5 : w3.frozen? ⟨w.heap.size + 1, 0, none⟩ = false := Lib.frozen_of_heap hen3 0
            have HBx3 := Lib.hid hbox3
            have HEn3 := Lib.hid hen3
            clear hbox3 hen3
            go_wp2
            have hst := stored HBx3.out HEn3.out (by omega) rfl
            rw [HBt.out] at hst
            obtain ⟨hx4, he4, hb4⟩ := hst
            refine leaves_cons (f := 69) (args := #[.pointer (some ⟨w.heap.size, 0, none⟩), .pointer (some ⟨w.heap.size + 1, 0, none⟩)]) (by simp) (by simp [go_sem]) ?_
            refine (catch_idle _ _ _).mono ?_
            rintro e u' w5 ⟨rfl, rfl, hw5⟩
            rw [← hw5] at hx4 he4 hb4
            clear hw5
            obtain ⟨c0, c1, c2, c3, c4⟩ := hx4.cells
            have ce : w5.cell? ⟨w.heap.size + 1, 0, none⟩ = some (.int .i64 0) := by rw [Lib.cell_of_heap he4]; rfl
            simp [Leaves, settle, results, Tryz.results34, go_sem, c0, c1, c2, c3, c4, ce]
            rw [HE.out]
            exact ⟨⟨⟨rfl, rfl, rfl, rfl, rfl⟩, rfl⟩, hB3.trans (hb4 _ (Nat.le_refl _) (Nat.le_succ _))⟩
end Go.Proofs.YthfenbdlolbikaaGreatDoor
end

section
/- logbook.Add. -/
namespace Go.Proofs.YthfenbdlolbikaaGreatDoor
open Go.RowKit Go.Shelf

theorem infoG : (Tryz.prog.info? 48).map (fun i => (i.zero, i.size, i.bytes)) = some (some (.agg #[.int .i64 0, .int .i64 0, .int .i64 0, .int .i64 0, .string (⟨#[]⟩ : ByteArray)]), 5, 48) := by kernel_rfl
theorem cellsG_one : ∀ (l : List LRec), ∀ u ∈ cellsG l, u.oneCell' = true := by
  intro l u hu
  unfold cellsG at hu
  obtain ⟨x, _, hx⟩ := List.mem_flatMap.1 hu
  simp only [recC, List.mem_cons, List.not_mem_nil, or_false] at hx
  rcases hx with rfl | rfl | rfl | rfl | rfl <;> rfl
theorem RecAt.get {W : World} {b o : Nat} {x : LRec} (h : RecAt W b o x) : ∀ (k : Nat) u, (recC x)[k]? = some u → W.cell? ⟨b, o + k, none⟩ = some u
  | 0, u, hu => by rw [← hu]; exact h.1
  | 1, u, hu => by rw [← hu]; exact h.2.1
  | 2, u, hu => by rw [← hu]; exact h.2.2.1
  | 3, u, hu => by rw [← hu]; exact h.2.2.2.1
  | 4, u, hu => by rw [← hu]; exact h.2.2.2.2
  | k + 5, u, hu => by simp [recC] at hu
theorem recs_cells {W : World} {b off : Nat} {l : List LRec} (h : ∀ i, i < l.length → RecAt W b (off + i * 5) (l.getD i default)) (j : Nat) (u : Value) (hu : (cellsG l)[j]? = some u) : W.cell? ((⟨b, off, none⟩ : Addr).add j) = some u := by
  have hj := (List.getElem?_eq_some_iff.1 hu).1
  rw [cellsG_length] at hj
  have hq : j / 5 < l.length := by omega
  have e := cellsG_get l (j / 5) (j % 5) hq (by omega)
  rw [show j / 5 * 5 + j % 5 = j from by omega, hu] at e
  have := (h _ hq).get (j % 5) u (by rw [List.getD_eq_getElem?_getD, List.getElem?_eq_getElem hq]; exact e.symm)
  rw [Addr.add_lit]
  rwa [show off + j / 5 * 5 + j % 5 = off + j from by omega] at this
theorem rowG_kept {base : Nat} {l : List LRec} {v : Value} {W W' : World} {c : Option Nat} (h : OwnG base W v l) (hg : W.grownBy W' c) (hc : ∀ g, c = some g → v.ownBlock ≠ some g) : OwnG base W' v l :=
  World.ownsRow.kept h hg (by
    cases c with
    | none => cases v.ownBlock <;> simp
    | some g => exact .inr (hc g rfl))
theorem OwnG.below {base B : Nat} {w w' : World} {v : Value} {l : List LRec} (h : OwnG base w v l) (hb : Below B w w') (hB : w.heap.size ≤ B) : OwnG base w' v l := row_below h hb hB
theorem OwnG.mono {base base' : Nat} {w : World} {v : Value} {l : List LRec} (h : OwnG base w v l) (hB : base' ≤ base) : OwnG base' w v l := row_mono h hB
theorem OwnG.shape {base : Nat} {w : World} {v : Value} {l : List LRec} (h : OwnG base w v l) : ∃ a c, v = .slice a l.length c ∧ l.length ≤ c ∧ c ≤ maxLen := by
  rcases h.2 with ⟨rfl, h0⟩ | ⟨g, cap, cur, rfl, _, _, h1, h2, _⟩
  · exact ⟨none, 0, by rw [h0], by omega, Nat.zero_le _⟩
  · exact ⟨_, cap, rfl, h1, h2⟩
theorem ownG_lit0 (W : World) : OwnG W.heap.size (W.alloc (.cells #[] 48)) (.slice (some ⟨W.heap.size, 0, none⟩) 0 0) [] :=
  ⟨rfl, .inr ⟨W.heap.size, 0, #[], rfl, Nat.le_refl _, heap_alloc_new W _, Nat.le_refl _, Nat.zero_le _, rfl, rfl⟩⟩
theorem ownG_lit1 (W : World) (x : LRec) : OwnG W.heap.size (W.alloc (.cells #[.int .i64 x.sec, .int .i64 x.kind, .int .i64 x.a, .int .i64 x.b, .string (bs x.text)] 48)) (.slice (some ⟨W.heap.size, 0, none⟩) 1 1) [x] :=
  ⟨rfl, .inr ⟨W.heap.size, 1, _, rfl, Nat.le_refl _, heap_alloc_new W _, Nat.le_refl _, by unfold maxLen; omega, rfl, rfl⟩⟩
/-- append of records, at one operation. -/
theorem wp_append_G {o : Oper} {a : Act} {w : World} {K : Act → World → Prop} {Q : Exit → Act → World → Prop} (s x : Operand)
    (ho : o.op = .call { callee := .builtin .append, args := #[s, x], argTypes := #[23, 23] }) (base B2 : Nat) (v sv : Value) (l l2 : List LRec)
    (hs : a.eval s = v) (hx : a.eval x = sv) (hown : OwnG base w v l) (hsv : RecsAt B2 w sv l2) (hlen : l.length + l2.length < 1000000) (hbase : base ≤ w.heap.size)
    (h : ∀ v' w', OwnG base w' v' (l ++ l2) → w.grownBy w' v.ownBlock → (v'.ownBlock = v.ownBlock ∨ v'.ownBlock = some w.heap.size) → K (a.put o.dst v') w') : Oper.wp Tryz.prog o a w K Q := by
  obtain ⟨i0, hi, hz0, hz1, hz2⟩ := info_parts infoG
  obtain ⟨sa, sc, rfl, hs1, hs2, hs3⟩ := hsv
  by_cases hp : 0 < l2.length
  · obtain ⟨b, off, rfl, hb, hc⟩ := hs3 hp
    obtain ⟨v', w', hr, h2, h3, _, h5⟩ := run_append_own_at (P := Tryz.prog) w base 23 o.type 48 i0 (.agg #[.int .i64 0, .int .i64 0, .int .i64 0, .int .i64 0, .string (⟨#[]⟩ : ByteArray)]) 5 48 Tryz.underlying23 hi hz0 hz1 hz2 rfl (by decide) v l.length _ hown ⟨b, off, none⟩ l2.length sc (cellsG l2) (cellsG_length l2) (recs_cells hc) (cellsG_one l2) (by unfold maxLen; omega) (by omega) hbase
    unfold Oper.wp execOp
    simp only [ho, resolve, invoke, builtin, Sem.run_bind, Sem.run_pure, Result.andThen_ok, List.map_toArray, List.map_cons, List.map_nil, hs, hx, hr]
    refine h v' w' ?_ h3 h5
    unfold OwnG
    rw [List.length_append, show cellsG (l ++ l2) = cellsG l ++ cellsG l2 from by simp [cellsG]]
    exact h2
  · obtain rfl : l2 = [] := List.eq_nil_of_length_eq_zero (by omega)
    have hend : ∀ v' w', w'.ownsRow base 48 5 v' (l.length + 0) (cellsG l ++ []) → w.grownBy w' v.ownBlock → (v'.ownBlock = v.ownBlock ∨ v'.ownBlock = some w.heap.size) → K (a.put o.dst v') w' := fun v' w' h2 h3 h5 => h v' w' (by
      unfold OwnG
      rw [List.append_nil] at h2 ⊢
      exact h2) h3 h5
    cases sa with
    | none =>
      have hr : (Builtin.append_ #[23, 23] o.type #[v, .slice none 0 sc]).run Tryz.prog w = .ok v w := by
        rcases hown.2 with ⟨rfl, h0⟩ | ⟨g, cap, cur, rfl, _, _, hnc, _⟩
        · simp [Builtin.append_, run_underlying Tryz.underlying23, sizeOf, typeInfo, hi, Builtin.lenOf, Builtin.firstCells]
        · simp [Builtin.append_, run_underlying Tryz.underlying23, sizeOf, typeInfo, hi, Builtin.lenOf, Builtin.firstCells, hnc, storeCells]
      unfold Oper.wp execOp
      simp only [ho, resolve, invoke, builtin, Sem.run_bind, Sem.run_pure, Result.andThen_ok, List.map_toArray, List.map_cons, List.map_nil, hs, hx, hr, List.length_nil]
      exact hend v w (by rw [List.append_nil]; exact hown) ⟨rfl, rfl, rfl, Nat.le_refl _, fun _ _ _ => rfl⟩ (.inl rfl)
    | some ad =>
      obtain ⟨v', w', hr, h2, h3, _, h5⟩ := run_append_own_at (P := Tryz.prog) w base 23 o.type 48 i0 (.agg #[.int .i64 0, .int .i64 0, .int .i64 0, .int .i64 0, .string (⟨#[]⟩ : ByteArray)]) 5 48 Tryz.underlying23 hi hz0 hz1 hz2 rfl (by decide) v l.length _ hown ad 0 sc [] rfl (fun j u hu => by simp at hu) (fun u hu => by simp at hu) (by unfold maxLen; omega) (by simp at hlen; omega) hbase
      unfold Oper.wp execOp
      simp only [ho, resolve, invoke, builtin, Sem.run_bind, Sem.run_pure, Result.andThen_ok, List.map_toArray, List.map_cons, List.map_nil, hs, hx, List.length_nil, hr]
      exact hend v' w' h2 h3 h5
/-- What Add returns. -/
def addE (b : LBook) (x : LRec) : LBook × Int := if bookB b && bookB (addBook b x) then (addBook b x, 0) else (⟨0, []⟩, 380)
/-- What the steps of the region leave. -/
def AddF (B : Nat) (l : List LRec) (x : LRec) : Nat → Value → World → Prop := fun k v W =>
  if k = 2 then OwnG B W v [] else if k = 5 then OwnG B W v l else if k = 7 then OwnG B W v [x] else if k = 8 then OwnG B W v (l ++ [x])
  else ∃ g, v = .pointer (some ⟨g, 0, none⟩) ∧ B ≤ g ∧ W.heap[g]? = some (.cells #[.int .i64 0, .slice none 0 0] 25 (0, 0))
theorem ownG_block {base : Nat} {W : World} {u : Value} {l : List LRec} {g : Nat} {cs : Array Value} {t : TypeId} {fr : Nat × Nat} (h : OwnG base W u l) (hu : u.ownBlock = some g) (hb : W.heap[g]? = some (.cells cs t fr)) : t = 48 := by
  rcases h.2 with ⟨rfl, _⟩ | ⟨g', cap, cur, rfl, _, hg, _⟩
  · cases hu
  · simp only [Value.ownBlock, Option.some.injEq] at hu
    subst hu
    rw [hg] at hb
    cases hb
    rfl
theorem addF_kept {B k : Nat} {l : List LRec} {x : LRec} {v : Value} {W W' : World} {c : Option Nat} (h : AddF B l x k v W) (hg : W.grownBy W' c)
    (hc : ∀ g, c = some g → v.ownBlock ≠ some g ∧ ∃ j u, (j = 2 ∨ j = 5) ∧ u.ownBlock = some g ∧ AddF B l x j u W) : AddF B l x k v W' := by
  unfold AddF at h ⊢
  split at h
  · rename_i hk; rw [if_pos hk]; exact rowG_kept h hg fun g hh => (hc g hh).1
  · rename_i hk; rw [if_neg hk]; split at h
    · rename_i hk; rw [if_pos hk]; exact rowG_kept h hg fun g hh => (hc g hh).1
    · rename_i hk; rw [if_neg hk]; split at h
      · rename_i hk; rw [if_pos hk]; exact rowG_kept h hg fun g hh => (hc g hh).1
      · rename_i hk; rw [if_neg hk]; split at h
        · rename_i hk; rw [if_pos hk]; exact rowG_kept h hg fun g hh => (hc g hh).1
        · rename_i hk; rw [if_neg hk]
          obtain ⟨g, rfl, hB, hb⟩ := h
          refine ⟨g, rfl, hB, (hg.block g (Array.getElem?_eq_some_iff.1 hb).1 fun e => ?_).trans hb⟩
          obtain ⟨_, j, u, hj, hu, hF⟩ := hc g e.symm
          rcases hj with rfl | rfl
          · have := ownG_block (show OwnG B W u [] from hF) hu hb
            exact absurd this (by decide)
          · have := ownG_block (show OwnG B W u l from hF) hu hb
            exact absurd this (by decide)
/-- A logbook lies in a block of its own. -/
def LogBox (W : World) (n : Nat) (o : Int) (rv : Value) : Prop := W.heap[n]? = some (.cells #[.int .i64 o, rv] 25 (0, 0))
theorem LogBox.below {W W' : World} {n : Nat} {o : Int} {rv : Value} {B : Nat} (h : LogBox W n o rv) (hb : Below B W W') (hn : n < B) : LogBox W' n o rv := (hb.block n hn).trans h
theorem LogBox.lt {W : World} {n : Nat} {o : Int} {rv : Value} (h : LogBox W n o rv) : n < W.heap.size := (Array.getElem?_eq_some_iff.1 h).1
theorem LogBox.c0 {W : World} {n : Nat} {o : Int} {rv : Value} (h : LogBox W n o rv) : W.cell? ⟨n, 0, none⟩ = some (.int .i64 o) := by rw [Lib.cell_of_heap h]; rfl
theorem LogBox.c1 {W : World} {n : Nat} {o : Int} {rv : Value} (h : LogBox W n o rv) : W.cell? ⟨n, 1, none⟩ = some rv := by rw [Lib.cell_of_heap h]; rfl
theorem LogBox.frozen {W : World} {n : Nat} {o : Int} {rv : Value} (h : LogBox W n o rv) (j : Nat) : W.frozen? ⟨n, j, none⟩ = false := Lib.frozen_of_heap h j
theorem logBox_new (W : World) (o : Int) (rv : Value) : LogBox (W.alloc (.cells #[.int .i64 o, rv] 25)) W.heap.size o rv := heap_alloc_new W _
theorem LogBox.set {W : World} {n : Nat} {o : Int} {rv : Value} (h : LogBox W n o rv) (o' : Int) (rv' : Value) : LogBox ((W.setCell ⟨n, 0, none⟩ (.int .i64 o')).setCell ⟨n, 1, none⟩ rv') n o' rv' := by
  have h0 := heap_set h 0 (.int .i64 o')
  have h1 := heap_set h0 1 rv'
  exact h1
theorem grownBy_setG (W : World) (g j : Nat) (v : Value) : W.grownBy (W.setCell ⟨g, j, none⟩ v) (some g) := ⟨rfl, rfl, rfl, by simp [World.setCell], fun k _ hk => Below.heap_setCell _ _ _ _ (fun e => hk (by simp [e]))⟩
theorem OwnG.set {base : Nat} {W : World} {v : Value} {l : List LRec} {g : Nat} {cs : Array Value} {t : TypeId} {fr : Nat × Nat} (h : OwnG base W v l) (hb : W.heap[g]? = some (.cells cs t fr)) (ht : t ≠ 48) (j : Nat) (u : Value) : OwnG base (W.setCell ⟨g, j, none⟩ u) v l :=
  rowG_kept h (grownBy_setG W g j u) fun g' hg' e => by
    cases hg'
    exact ht (ownG_block h e hb)
set_option maxRecDepth 100000 in
set_option maxHeartbeats 4000000 in
theorem gadd_any (o : Int) (rv : Value) (l : List LRec) (x : LRec) (w : World) (hR : RecsAt w.heap.size w rv l) (hl : l.length ≤ 100000) :
    Calls Tryz.prog 35 #[bookV o rv, recV x] w fun e w' => ∃ rv', e = .returned (.tuple #[bookV (addE ⟨o, l⟩ x).1.office rv', .int .i64 (addE ⟨o, l⟩ x).2]) ∧ OwnG w.heap.size w' rv' (addE ⟨o, l⟩ x).1.recs ∧ Below w.heap.size w w' := by
  obtain ⟨ra, rc, rfl, hrc, hrm⟩ := hR.shape
  unfold maxLen at hrm
  have HR := Lib.hid hR
  clear hR
  go_enter Tryz.func35, Tryz.ntmps35
  go_wp2_with fail
  obtain ⟨W0, hW0⟩ : ∃ W0, W0 = ((w.alloc (.cells #[.int .i64 o, .slice ra l.length rc] 25)).alloc (.cells #[.int .i64 x.sec, .int .i64 x.kind, .int .i64 x.a, .int .i64 x.b, .string (bs x.text)] 48)).alloc (.cells #[.int .i64 0, .slice none 0 0] 25) := ⟨_, rfl⟩
  have hb0 : Below w.heap.size w W0 := by rw [hW0]; exact (((Below.refl _ _).alloc (Nat.le_refl _) _).alloc (by simp) _).alloc (by simp; omega) _
  have hsz0 : W0.heap.size = w.heap.size + 3 := by rw [hW0]; simp
  have hL0 : LogBox W0 w.heap.size o (.slice ra l.length rc) := by rw [hW0]; exact (logBox_new w o (.slice ra l.length rc)).below (((Below.refl (w.heap.size + 1) _).alloc (by simp) _).alloc (by simp) _) (by omega)
  have hX0 : RecBox W0 (w.heap.size + 1) x := by
    rw [hW0]
    have := recBox_new (w.alloc (.cells #[.int .i64 o, .slice ra l.length rc] 25)) x
    rw [World.size_alloc] at this
    exact this.below ((Below.refl (w.heap.size + 2) _).alloc (by simp) _) (by omega)
  have hR0 : LogBox W0 (w.heap.size + 2) 0 (.slice none 0 0) := by
    rw [hW0]
    have := logBox_new ((w.alloc (.cells #[.int .i64 o, .slice ra l.length rc] 25)).alloc (.cells #[.int .i64 x.sec, .int .i64 x.kind, .int .i64 x.a, .int .i64 x.b, .string (bs x.text)] 48)) 0 (.slice none 0 0)
    rwa [World.size_alloc, World.size_alloc] at this
  rw [← hW0]
  simp only [Nat.add_assoc, Nat.reduceAdd]
  clear hW0
  have HQ : Hid (∀ W, W0.grownBy W none → W.cell? ⟨w.heap.size, 0, none⟩ = some (.int .i64 o) ∧ W.cell? ⟨w.heap.size, 1, none⟩ = some (.slice ra l.length rc) ∧ W.cell? ⟨w.heap.size + 1, 0, none⟩ = some (.int .i64 x.sec) ∧ W.cell? ⟨w.heap.size + 1, 1, none⟩ = some (.int .i64 x.kind) ∧ W.cell? ⟨w.heap.size + 1, 2, none⟩ = some (.int .i64 x.a) ∧ W.cell? ⟨w.heap.size + 1, 3, none⟩ = some (.int .i64 x.b) ∧ W.cell? ⟨w.heap.size + 1, 4, none⟩ = some (.string (bs x.text))) := fun W hW => by
    have hb := grown_below hW
    have h1 := hL0.below hb hL0.lt
    have h2 := (hX0.below hb hX0.lt).cells
    exact ⟨h1.c0, h1.c1, h2⟩
  have HB0 := Lib.hid hb0
  have HL0 := Lib.hid hL0
  have HR0 := Lib.hid hR0
  have HRs := Lib.hid (HR.out.later hb0 (Nat.le_refl _))
  clear hb0 hL0 hX0 hR0
  refine wp_region_calm ⟨[2, 5, 7, 8, 10], AddF W0.heap.size l x, fun k => if k = 5 then [2] else if k = 8 then [5] else [], 99, none, 11⟩ (by kernel_rfl) (by kernel_rfl) (by kernel_rfl) (fun g h => by cases h) (fun k hk v W W' c h hg hc => addF_kept h hg fun g hh => ?_) ?_
  · obtain ⟨n1, _, i, j, u, hd, hik, hre, hu, hF⟩ := hc g hh
    refine ⟨n1, j, u, ?_, hu, hF⟩
    simp only at hd
    split at hd
    · exact .inl (by simpa using hd)
    · split at hd
      · exact .inr (by simpa using hd)
      · simp at hd
  iterate 2 (refine calm_quiet (v := ?_) (by rfl) (by rfl) (fun W hW hD => ?_) ?_; rotate_left; (· (obtain ⟨z0, z1, z2, z3, z4, z5, z6⟩ := HQ.out W hW; clear hD hW; go_simp; try with_reducible rfl)); simp only [Act.put, List.setIfInBounds_toArray, List.set_cons_zero, List.set_cons_succ, Nat.reduceAdd, Nat.zero_add])
  refine calm_makes (by rfl) (by rfl) (fun W hW hD K hK => ?_) (fun v9 => ?_)
  · refine wp_of_run (v := .slice (some ⟨W.heap.size, 0, none⟩) 0 0) (w' := W.alloc (.cells #[] 48)) ?_ (hK _ _ (made_below (OwnG.mono (ownG_lit0 W) hW.size) ((Below.refl _ _).alloc (Nat.le_refl _) _) (World.ownsRow.lt (ownG_lit0 W))))
    clear hD hW hK
    go_simp
  simp only [Act.put, List.setIfInBounds_toArray, List.set_cons_zero, List.set_cons_succ, Nat.reduceAdd, Nat.zero_add]
  iterate 2 (refine calm_quiet (v := ?_) (by rfl) (by rfl) (fun W hW hD => ?_) ?_; rotate_left; (· (obtain ⟨z0, z1, z2, z3, z4, z5, z6⟩ := HQ.out W hW; clear hD hW; go_simp; try with_reducible rfl)); simp only [Act.put, List.setIfInBounds_toArray, List.set_cons_zero, List.set_cons_succ, Nat.reduceAdd, Nat.zero_add])
  refine calm_makes (by rfl) (by rfl) (fun W hW hD K hK => ?_) (fun v12 => ?_)
  · have h2 : OwnG W0.heap.size W v9 [] := hD [] 2 (by kernel_rfl) (by kernel_rfl) (by kernel_rfl)
    exact wp_append_G (.tmp 9) (.tmp 11) rfl W0.heap.size _ v9 (.slice ra l.length rc) [] l rfl rfl h2 (HRs.out.below (grown_below hW) (Nat.le_refl _)) (by simp; omega) hW.size (fun v' w' h1 h2 h3 => hK _ _ (made_grown (j := 2) (u := v9) (by kernel_rfl) rfl h1 h2 (fun g hg => ⟨(World.ownsRow.lt h1 g hg).2, grown_own h3 hg⟩)))
  simp only [Act.put, List.setIfInBounds_toArray, List.set_cons_zero, List.set_cons_succ, Nat.reduceAdd, Nat.zero_add]
  refine calm_quiet (v := recV x) (by rfl) (by rfl) (fun W hW hD => ?_) ?_
  · obtain ⟨z0, z1, z2, z3, z4, z5, z6⟩ := HQ.out W hW
    clear hD hW
    go_simp
  simp only [Act.put, List.setIfInBounds_toArray, List.set_cons_zero, List.set_cons_succ, Nat.reduceAdd, Nat.zero_add]
  refine calm_makes (by rfl) (by rfl) (fun W hW hD K hK => ?_) (fun v14 => ?_)
  · refine wp_of_run (v := .slice (some ⟨W.heap.size, 0, none⟩) 1 1) (w' := W.alloc (.cells #[.int .i64 x.sec, .int .i64 x.kind, .int .i64 x.a, .int .i64 x.b, .string (bs x.text)] 48)) ?_ (hK _ _ (made_below (OwnG.mono (ownG_lit1 W x) hW.size) ((Below.refl _ _).alloc (Nat.le_refl _) _) (World.ownsRow.lt (ownG_lit1 W x))))
    clear hD hW hK
    go_simp
  simp only [Act.put, List.setIfInBounds_toArray, List.set_cons_zero, List.set_cons_succ, Nat.reduceAdd, Nat.zero_add]
  refine calm_makes (by rfl) (by rfl) (fun W hW hD K hK => ?_) (fun v15 => ?_)
  · have h5 : OwnG W0.heap.size W v12 l := hD [] 5 (by kernel_rfl) (by kernel_rfl) (by kernel_rfl)
    have h7 : OwnG W0.heap.size W v14 [x] := hD [] 7 (by kernel_rfl) (by kernel_rfl) (by kernel_rfl)
    exact wp_append_G (.tmp 12) (.tmp 14) rfl W0.heap.size _ v12 v14 l [x] rfl rfl h5 h7.recs (by simp; omega) hW.size (fun v' w' h1 h2 h3 => hK _ _ (made_grown (j := 5) (u := v12) (by kernel_rfl) rfl h1 h2 (fun g hg => ⟨(World.ownsRow.lt h1 g hg).2, grown_own h3 hg⟩)))
  simp only [Act.put, List.setIfInBounds_toArray, List.set_cons_zero, List.set_cons_succ, Nat.reduceAdd, Nat.zero_add]
  refine calm_quiet (v := bookV o v15) (by rfl) (by rfl) (fun W hW hD => ?_) ?_
  · have h8 : OwnG W0.heap.size W v15 (l ++ [x]) := hD [] 8 (by kernel_rfl) (by kernel_rfl) (by kernel_rfl)
    obtain ⟨xa, xc, rfl, _, _⟩ := h8.shape
    clear hD hW h8
    go_simp
  simp only [Act.put, List.setIfInBounds_toArray, List.set_cons_zero, List.set_cons_succ, Nat.reduceAdd, Nat.zero_add]
  refine calm_makes (by rfl) (by rfl) (fun W hW hD K hK => ?_) (fun v6 => ?_)
  · refine wp_of_run (v := .pointer (some ⟨W.heap.size, 0, none⟩)) (w' := W.alloc (.cells #[.int .i64 0, .slice none 0 0] 25)) ?_ (hK _ _ (made_plain ⟨W.heap.size, rfl, hW.size, heap_alloc_new W _⟩ ((Below.refl _ _).alloc (Nat.le_refl _) _) rfl))
    clear hD hW hK
    go_simp
  simp only [Act.put, List.setIfInBounds_toArray, List.set_cons_zero, List.set_cons_succ, Nat.reduceAdd, Nat.zero_add]
  refine calm_tail (by rfl) fun W hW hF => ?_
  have h8 : OwnG W0.heap.size W v15 (l ++ [x]) := hF 8 (by kernel_rfl) (by kernel_rfl)
  obtain ⟨g, hv6, hgB, hgb⟩ : ∃ g, v6 = .pointer (some ⟨g, 0, none⟩) ∧ W0.heap.size ≤ g ∧ W.heap[g]? = some (.cells #[.int .i64 0, .slice none 0 0] 25 (0, 0)) := hF 10 (by kernel_rfl) (by kernel_rfl)
  subst hv6
  have hbW := grown_below hW
  obtain ⟨xa, xc, hv15, hxc1, hxc2⟩ := h8.shape
  subst hv15
  clear hF hW
  have hgl : g < W.heap.size := (Array.getElem?_eq_some_iff.1 hgb).1
  obtain ⟨W1, hW1⟩ : ∃ W1, W1 = (W.setCell ⟨g, 0, none⟩ (.int .i64 o)).setCell ⟨g, 1, none⟩ (.slice xa (l ++ [x]).length xc) := ⟨_, rfl⟩
  have hb1 : Below W0.heap.size W0 W1 := by rw [hW1]; exact (hbW.setCell (p := ⟨g, 0, none⟩) hgB _).setCell (p := ⟨g, 1, none⟩) hgB _
  have hg1 : LogBox W1 g o (.slice xa (l ++ [x]).length xc) := by rw [hW1]; exact LogBox.set (o := 0) (rv := .slice none 0 0) hgb o _
  have ho1 : OwnG W0.heap.size W1 (.slice xa (l ++ [x]).length xc) (l ++ [x]) := by
    rw [hW1]
    exact (h8.set hgb (by decide) 0 (.int .i64 o)).set (heap_set hgb 0 (.int .i64 o)) (by decide) 1 _
  have g0 : W.cell? ⟨g, 0, none⟩ = some (.int .i64 0) := by rw [Lib.cell_of_heap hgb]; rfl
  have g1 : W.cell? ⟨g, 1, none⟩ = some (.slice none 0 0) := by rw [Lib.cell_of_heap hgb]; rfl
  have gf : ∀ j, W.frozen? ⟨g, j, none⟩ = false := Lib.frozen_of_heap hgb
  have hLx := HL0.out.below hbW HL0.out.lt
  have e0 := hLx.c0
  have e1 := hLx.c1
  have ne1 : w.heap.size ≠ g := by omega
  have ne2 : g ≠ w.heap.size := by omega
  have HW1 := Lib.hid hW1
  have HBl := Lib.hid (HB0.out.trans (hb1.mono HB0.out.size))
  have HG1 := Lib.hid hg1
  have HO1 := Lib.hid ho1
  have HRW := Lib.hid (HR0.out.below hb1 HR0.out.lt)
  have HLW := Lib.hid (HL0.out.below hb1 HL0.out.lt)
  have HRW1 := Lib.hid (HRs.out.later hb1 (Nat.le_refl _))
  have hz1 := hb1.size
  have HNN : Hid ((l ++ [x]).length = l.length + 1) := by show _ = _; simp
  have HE : Hid (addE ⟨o, l⟩ x = if bookB ⟨o, l⟩ && bookB ⟨o, l ++ [x]⟩ then (⟨o, l ++ [x]⟩, 0) else (⟨0, []⟩, 380)) := rfl
  have hzz : W0.heap.size ≤ W1.heap.size := hz1
  clear hW1 hb1 hg1 ho1 h8 hbW hgb HQ HL0 HR0 HB0 HR hLx hxc1 hxc2 hz1
  generalize hN : (l ++ [x]).length = N at *
  clear hN
  go_wp2_with fail
  rw [← HW1.out]
  refine (valid_any o _ l W1 HRW1.out).mono ?_
  rintro e W2 ⟨rfl, hb2⟩
  have HR2 := Lib.hid (HRW.out.below hb2 HRW.out.lt)
  have HG2 := Lib.hid (HG1.out.below hb2 HG1.out.lt)
  have HO2 := Lib.hid (HO1.out.below hb2 (Nat.le_refl _))
  have HBx := Lib.hid (HBl.out.trans (hb2.mono HBl.out.size))
  have hz2 := hb2.size
  clear hb2 HRW HLW HRW1 HBl HO1 HG1 HRs e0 e1 g0 g1 gf
  cases hv1 : bookB ⟨o, l⟩
  · have HF : Hid (addE ⟨o, l⟩ x = (⟨0, []⟩, 380)) := by show _ = _; rw [HE.out, hv1]; rfl
    clear HW1 hv1
    have hE := HR2.out.set 0 (.slice none 0 0)
    have rc0 := HR2.out.c0
    have rc1 := HR2.out.c1
    have rf := HR2.out.frozen
    have HE2 := Lib.hid hE
    have HBf := Lib.hid ((HBx.out.setCell (p := ⟨w.heap.size + 2, 0, none⟩) (by simp) (.int .i64 0)).setCell (p := ⟨w.heap.size + 2, 1, none⟩) (by simp) (.slice none 0 0))
    skip
    clear hE
    go_wp2
    have hE := HE2.out
    exact bodyPost_ret (v := .tuple #[bookV 0 (.slice none 0 0), .int .i64 380]) (by simp [results, Tryz.results35, go_sem, hE.c0, hE.c1]) rfl ⟨(.slice none 0 0), by rw [HF.out], by rw [HF.out]; exact World.ownsRow_nil _ _ _ _, HBf.out⟩
  · rw [hv1, Bool.true_and] at HE
    have k0 := HG2.out.c0
    have k1 := HG2.out.c1
    clear HW1 hv1
    go_wp2_with fail
    refine (valid_any o _ (l ++ [x]) W2 (by rw [HNN.out] at HO2 ⊢; exact HO2.out.recs)).mono ?_
    rintro e W3 ⟨rfl, hb3⟩
    have HR3 := Lib.hid (HR2.out.below hb3 HR2.out.lt)
    have HG3 := Lib.hid (HG2.out.below hb3 HG2.out.lt)
    have HO3 := Lib.hid (HO2.out.below hb3 (Nat.le_refl _))
    have HBy := Lib.hid (HBx.out.trans (hb3.mono HBx.out.size))
    clear hb3 HR2 HG2 HO2 HBx k0 k1
    have HBx := HBy
    cases hv2 : bookB ⟨o, l ++ [x]⟩
    · have HF : Hid (addE ⟨o, l⟩ x = (⟨0, []⟩, 380)) := by show _ = _; rw [HE.out, hv2]; rfl
      clear hv2
      have hE := HR3.out.set 0 (.slice none 0 0)
      have rc0 := HR3.out.c0
      have rc1 := HR3.out.c1
      have rf := HR3.out.frozen
      have HE2 := Lib.hid hE
      have HBf := Lib.hid ((HBx.out.setCell (p := ⟨w.heap.size + 2, 0, none⟩) (by simp) (.int .i64 0)).setCell (p := ⟨w.heap.size + 2, 1, none⟩) (by simp) (.slice none 0 0))
      skip
      clear hE
      go_wp2
      have hE := HE2.out
      exact bodyPost_ret (v := .tuple #[bookV 0 (.slice none 0 0), .int .i64 380]) (by simp [results, Tryz.results35, go_sem, hE.c0, hE.c1]) rfl ⟨(.slice none 0 0), by rw [HF.out], by rw [HF.out]; exact World.ownsRow_nil _ _ _ _, HBf.out⟩
    · have HF : Hid (addE ⟨o, l⟩ x = (⟨o, l ++ [x]⟩, 0)) := by show _ = _; rw [HE.out, hv2]; rfl
      have k0 := HG3.out.c0
      have k1 := HG3.out.c1
      clear hv2
      have hE := HR3.out.set o (.slice xa N xc)
      have rc0 := HR3.out.c0
      have rc1 := HR3.out.c1
      have rf := HR3.out.frozen
      have HE2 := Lib.hid hE
      have HBf := Lib.hid ((HBx.out.setCell (p := ⟨w.heap.size + 2, 0, none⟩) (by simp) (.int .i64 o)).setCell (p := ⟨w.heap.size + 2, 1, none⟩) (by simp) (.slice xa N xc))
      have HOf := Lib.hid ((HO3.out.set HR3.out (by decide) 0 (.int .i64 o)).set (heap_set HR3.out 0 (.int .i64 o)) (by decide) 1 (.slice xa N xc))
      clear hE
      go_wp2
      have hE := HE2.out
      exact bodyPost_ret (v := .tuple #[bookV o (.slice xa N xc), .int .i64 0]) (by simp [results, Tryz.results35, go_sem, hE.c0, hE.c1]) rfl ⟨(.slice xa N xc), by rw [HF.out], by rw [HF.out]; exact HOf.out.mono (by omega), HBf.out⟩
end Go.Proofs.YthfenbdlolbikaaGreatDoor
end
