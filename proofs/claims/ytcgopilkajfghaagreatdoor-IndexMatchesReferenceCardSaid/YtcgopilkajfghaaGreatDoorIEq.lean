/- Equality of cards and levels; the reference's Ints, Same, SameLevels; contains of the statements on indices. -/
import Derived.Test.YtcgopilkajfghaaGreatDoorICard
set_option linter.unusedVariables false
set_option linter.unusedSimpArgs false
namespace Go.Proofs.YtcgopilkajfghaaGreatDoor
open Go.RowKit Go.Shelf

theorem cardEq_parts (x y : ICard) : (x == y) = (x.id == y.id && (x.unit == y.unit && (x.kind == y.kind && (x.beg == y.beg && x.fin == y.fin)))) := by
  rw [Bool.eq_iff_iff]
  cases x; cases y
  simp
theorem run_eqlCard (x y : ICard) (W : World) : (binOp .eql 35 (cardV x) (cardV y)).run Tryz.prog W = .ok (.bool (x == y)) W := by
  rw [cardEq_parts]
  go_simp
  by_cases h1 : x.id = y.id <;> by_cases h2 : x.unit = y.unit <;> by_cases h3 : x.kind = y.kind <;> by_cases h4 : x.beg = y.beg <;> by_cases h5 : x.fin = y.fin <;> simp [h1, h2, h3, h4, h5]
theorem run_neqCard (x y : ICard) (W : World) : (binOp .neq 35 (cardV x) (cardV y)).run Tryz.prog W = .ok (.bool (x != y)) W := by
  rw [bne, cardEq_parts]
  go_simp
  by_cases h1 : x.id = y.id <;> by_cases h2 : x.unit = y.unit <;> by_cases h3 : x.kind = y.kind <;> by_cases h4 : x.beg = y.beg <;> by_cases h5 : x.fin = y.fin <;> simp [h1, h2, h3, h4, h5]
theorem levEq_parts (x y : ILev) : (x == y) = (x.beg == y.beg && (x.fin == y.fin && x.cnt == y.cnt)) := by
  rw [Bool.eq_iff_iff]
  cases x; cases y
  simp
theorem run_eqlLev (x y : ILev) (W : World) : (binOp .eql 60 (levV x) (levV y)).run Tryz.prog W = .ok (.bool (x == y)) W := by
  rw [levEq_parts]
  go_simp
  have q1 : (((x.beg : Nat) : Int) = ((y.beg : Nat) : Int)) = (x.beg = y.beg) := propext ⟨fun h => by omega, fun h => by omega⟩
  have q2 : (((x.fin : Nat) : Int) = ((y.fin : Nat) : Int)) = (x.fin = y.fin) := propext ⟨fun h => by omega, fun h => by omega⟩
  simp only [q1, q2]
  by_cases h1 : x.beg = y.beg <;> by_cases h2 : x.fin = y.fin <;> by_cases h3 : x.cnt = y.cnt <;> simp [h1, h2, h3]
theorem run_neqLev (x y : ILev) (W : World) : (binOp .neq 60 (levV x) (levV y)).run Tryz.prog W = .ok (.bool (x != y)) W := by
  rw [bne, levEq_parts]
  go_simp
  have q1 : (((x.beg : Nat) : Int) = ((y.beg : Nat) : Int)) = (x.beg = y.beg) := propext ⟨fun h => by omega, fun h => by omega⟩
  have q2 : (((x.fin : Nat) : Int) = ((y.fin : Nat) : Int)) = (x.fin = y.fin) := propext ⟨fun h => by omega, fun h => by omega⟩
  simp only [q1, q2]
  by_cases h1 : x.beg = y.beg <;> by_cases h2 : x.fin = y.fin <;> by_cases h3 : x.cnt = y.cnt <;> simp [h1, h2, h3]
theorem intsK_at {B : Nat} {w : World} {a : Option Addr} {n c : Nat} {l : List Int} (h : RowsAt intK B w (.slice a n c) l) (j : Nat) (x : Int) (hj : l[j]? = some x) : ∃ b off, a = some ⟨b, off, none⟩ ∧ b < B ∧ w.cell? ⟨b, off + j, none⟩ = some (.int .i64 x) := by
  obtain ⟨b, off, ha, hb, hc⟩ := h.at j x hj
  have := hc 0 _ rfl
  exact ⟨b, off, ha, hb, by simpa [intK] using this⟩
theorem sameK_succ {α : Type} [DecidableEq α] [Inhabited α] (a b : List α) (k : Nat) (ha : k < a.length) (hb : k < b.length) : (a.take (k + 1) == b.take (k + 1)) = (a.take k == b.take k && a.getD k default == b.getD k default) := by
  rw [take_getD a default k ha, take_getD b default k hb, Bool.eq_iff_iff]
  simp only [beq_iff_eq, Bool.and_eq_true]
  constructor
  · intro h
    have := List.append_inj h (by rw [List.length_take, List.length_take]; omega)
    exact ⟨this.1, by simpa using this.2⟩
  · rintro ⟨h1, h2⟩
    rw [h1, h2]
theorem sameK_no {α : Type} [DecidableEq α] [Inhabited α] (a b : List α) (k : Nat) (h : (a.getD k default == b.getD k default) = false) : (a == b) = false := by
  rw [beq_eq_false_iff_ne] at h ⊢
  intro e
  rw [e] at h
  exact h rfl
set_option maxRecDepth 100000 in
set_option maxHeartbeats 1000000 in
theorem sameC_any (va vb : Value) (la lb : List ICard) (w : World) (hA : RowsAt cardK w.heap.size w va la) (hB : RowsAt cardK w.heap.size w vb lb) :
    Calls Tryz.prog 25 #[va, vb] w fun e w' => e = .returned (.bool (la == lb)) ∧ Below w.heap.size w w' := by
  obtain ⟨a, c, rfl, hac, hcm⟩ := hA.shape
  obtain ⟨a', c', rfl, hac', hcm'⟩ := hB.shape
  unfold maxLen at hcm hcm'
  have HA := Lib.hid hA
  have HB := Lib.hid hB
  clear hA hB
  by_cases hlen : la.length = lb.length
  · generalize hn : la.length = n at *
    have Hn := Lib.hid hn
    have Hm : Hid (lb.length = n) := hlen.symm
    rw [← hlen] at hac' HB ⊢
    clear hn hlen
    go_enter Tryz.func25, Tryz.ntmps25
    go_wp2
    go_loopw [5] (fun i wr => ∃ k : Nat, k ≤ n ∧ i = .int .i64 k ∧ Hid ((la.take k == lb.take k) = true) ∧ Below w.heap.size w wr) (fun i _ => n - (intOf i).toNat)
    case atStart => exact ⟨0, Nat.zero_le _, rfl, rfl, Below.refl _ _⟩
    case round =>
      obtain ⟨k, hk, rfl, HC, hW⟩ := hrel
      by_cases h1 : k < n
      · have ga : la[k]? = some (la.getD k default) := by rw [List.getD_eq_getElem?_getD, List.getElem?_eq_getElem (by rw [Hn.out]; exact h1)]; rfl
        have gb : lb[k]? = some (lb.getD k default) := by rw [List.getD_eq_getElem?_getD, List.getElem?_eq_getElem (by rw [Hm.out]; exact h1)]; rfl
        obtain ⟨b, off, hae, hb, q1⟩ := cards_at (HA.out.later hW (Nat.le_refl _)) k _ ga
        obtain ⟨b', off', hbe, hb', q2⟩ := cards_at (HB.out.later hW (Nat.le_refl _)) k _ gb
        subst hae hbe
        obtain ⟨p0, p1, p2, p3, p4⟩ := q1
        obtain ⟨r0, r1, r2, r3, r4⟩ := q2
        clear ga gb
        have HC2 := Lib.hid (sameK_succ la lb k (by rw [Hn.out]; exact h1) (by rw [Hm.out]; exact h1))
        rw [HC.out, Bool.true_and] at HC2
        have HC3 := Lib.hid (sameK_no la lb k)
        generalize la.getD k default = x at *
        generalize lb.getD k default = y at *
        have hc1 := fun W => run_neqCard x y W
        rw [bne] at hc1
        have kk1 : (k : Int) < (n : Int) := by omega
        have k0 : 0 ≤ (k : Int) := by omega
        cases hxy : (x == y)
        all_goals
          rw [hxy] at hc1 HC2 HC3
          clear hxy
        · simp only [Bool.not_false] at hc1
          go_wp2
          try (go_quiet (fail); go_wp2)
          go_ret
          exact ⟨by rw [(by first | exact HC3.out rfl | exact HC3.out trivial : (la == lb) = false)]; rfl, below_drewN0 hW _⟩
        · simp only [Bool.not_true] at hc1
          go_wp2
          try (go_quiet (fail); go_wp2)
          go_roundw
          case rel => exact ⟨k + 1, by omega, by go_num, HC2, below_drewN0 hW _⟩
          case measure => simp [intOf]; omega
      · obtain rfl : k = n := by omega
        have HR : Hid ((la == lb) = true) := by
          have := HC.out
          rw [List.take_of_length_le (by rw [Hn.out]; exact Nat.le_refl _), List.take_of_length_le (by rw [Hm.out]; exact Nat.le_refl _)] at this
          exact this
        go_wp2
        go_ret
        exact ⟨by rw [HR.out]; rfl, hW⟩
  · have HR : Hid ((la == lb) = false) := by
      show _ = _
      rw [beq_eq_false_iff_ne]
      intro e
      exact hlen (congrArg List.length e)
    generalize la.length = n at *
    generalize lb.length = m at *
    have hne : ¬ ((n : Int) = (m : Int)) := by omega
    go_enter Tryz.func25, Tryz.ntmps25
    go_wp2
    go_ret
    exact ⟨by rw [HR.out]; rfl, Below.refl _ _⟩
set_option maxRecDepth 100000 in
set_option maxHeartbeats 1000000 in
theorem sameL_any (va vb : Value) (la lb : List ILev) (w : World) (hA : RowsAt levK w.heap.size w va la) (hB : RowsAt levK w.heap.size w vb lb) :
    Calls Tryz.prog 27 #[va, vb] w fun e w' => e = .returned (.bool (la == lb)) ∧ Below w.heap.size w w' := by
  obtain ⟨a, c, rfl, hac, hcm⟩ := hA.shape
  obtain ⟨a', c', rfl, hac', hcm'⟩ := hB.shape
  unfold maxLen at hcm hcm'
  have HA := Lib.hid hA
  have HB := Lib.hid hB
  clear hA hB
  by_cases hlen : la.length = lb.length
  · generalize hn : la.length = n at *
    have Hn := Lib.hid hn
    have Hm : Hid (lb.length = n) := hlen.symm
    rw [← hlen] at hac' HB ⊢
    clear hn hlen
    go_enter Tryz.func27, Tryz.ntmps27
    go_wp2
    go_loopw [5] (fun i wr => ∃ k : Nat, k ≤ n ∧ i = .int .i64 k ∧ Hid ((la.take k == lb.take k) = true) ∧ Below w.heap.size w wr) (fun i _ => n - (intOf i).toNat)
    case atStart => exact ⟨0, Nat.zero_le _, rfl, rfl, Below.refl _ _⟩
    case round =>
      obtain ⟨k, hk, rfl, HC, hW⟩ := hrel
      by_cases h1 : k < n
      · have ga : la[k]? = some (la.getD k default) := by rw [List.getD_eq_getElem?_getD, List.getElem?_eq_getElem (by rw [Hn.out]; exact h1)]; rfl
        have gb : lb[k]? = some (lb.getD k default) := by rw [List.getD_eq_getElem?_getD, List.getElem?_eq_getElem (by rw [Hm.out]; exact h1)]; rfl
        obtain ⟨b, off, hae, hb, q1⟩ := levs_at (HA.out.later hW (Nat.le_refl _)) k _ ga
        obtain ⟨b', off', hbe, hb', q2⟩ := levs_at (HB.out.later hW (Nat.le_refl _)) k _ gb
        subst hae hbe
        obtain ⟨p0, p1, p2⟩ := q1
        obtain ⟨r0, r1, r2⟩ := q2
        clear ga gb
        have HC2 := Lib.hid (sameK_succ la lb k (by rw [Hn.out]; exact h1) (by rw [Hm.out]; exact h1))
        rw [HC.out, Bool.true_and] at HC2
        have HC3 := Lib.hid (sameK_no la lb k)
        generalize la.getD k default = x at *
        generalize lb.getD k default = y at *
        have hc1 := fun W => run_neqLev x y W
        rw [bne] at hc1
        have kk1 : (k : Int) < (n : Int) := by omega
        have k0 : 0 ≤ (k : Int) := by omega
        cases hxy : (x == y)
        all_goals
          rw [hxy] at hc1 HC2 HC3
          clear hxy
        · simp only [Bool.not_false] at hc1
          go_wp2
          try (go_quiet (fail); go_wp2)
          go_ret
          exact ⟨by rw [(by first | exact HC3.out rfl | exact HC3.out trivial : (la == lb) = false)]; rfl, below_drewN0 hW _⟩
        · simp only [Bool.not_true] at hc1
          go_wp2
          try (go_quiet (fail); go_wp2)
          go_roundw
          case rel => exact ⟨k + 1, by omega, by go_num, HC2, below_drewN0 hW _⟩
          case measure => simp [intOf]; omega
      · obtain rfl : k = n := by omega
        have HR : Hid ((la == lb) = true) := by
          have := HC.out
          rw [List.take_of_length_le (by rw [Hn.out]; exact Nat.le_refl _), List.take_of_length_le (by rw [Hm.out]; exact Nat.le_refl _)] at this
          exact this
        go_wp2
        go_ret
        exact ⟨by rw [HR.out]; rfl, hW⟩
  · have HR : Hid ((la == lb) = false) := by
      show _ = _
      rw [beq_eq_false_iff_ne]
      intro e
      exact hlen (congrArg List.length e)
    generalize la.length = n at *
    generalize lb.length = m at *
    have hne : ¬ ((n : Int) = (m : Int)) := by omega
    go_enter Tryz.func27, Tryz.ntmps27
    go_wp2
    go_ret
    exact ⟨by rw [HR.out]; rfl, Below.refl _ _⟩
set_option maxRecDepth 100000 in
set_option maxHeartbeats 1000000 in
theorem sameI_any (va vb : Value) (la lb : List Int) (w : World) (hA : RowsAt intK w.heap.size w va la) (hB : RowsAt intK w.heap.size w vb lb) :
    Calls Tryz.prog 14 #[va, vb] w fun e w' => e = .returned (.bool (la == lb)) ∧ Below w.heap.size w w' := by
  obtain ⟨a, c, rfl, hac, hcm⟩ := hA.shape
  obtain ⟨a', c', rfl, hac', hcm'⟩ := hB.shape
  unfold maxLen at hcm hcm'
  have HA := Lib.hid hA
  have HB := Lib.hid hB
  clear hA hB
  by_cases hlen : la.length = lb.length
  · generalize hn : la.length = n at *
    have Hn := Lib.hid hn
    have Hm : Hid (lb.length = n) := hlen.symm
    rw [← hlen] at hac' HB ⊢
    clear hn hlen
    go_enter Tryz.func14, Tryz.ntmps14
    go_wp2
    go_loopw [5] (fun i wr => ∃ k : Nat, k ≤ n ∧ i = .int .i64 k ∧ Hid ((la.take k == lb.take k) = true) ∧ Below w.heap.size w wr) (fun i _ => n - (intOf i).toNat)
    case atStart => exact ⟨0, Nat.zero_le _, rfl, rfl, Below.refl _ _⟩
    case round =>
      obtain ⟨k, hk, rfl, HC, hW⟩ := hrel
      by_cases h1 : k < n
      · have ga : la[k]? = some (la.getD k default) := by rw [List.getD_eq_getElem?_getD, List.getElem?_eq_getElem (by rw [Hn.out]; exact h1)]; rfl
        have gb : lb[k]? = some (lb.getD k default) := by rw [List.getD_eq_getElem?_getD, List.getElem?_eq_getElem (by rw [Hm.out]; exact h1)]; rfl
        obtain ⟨b, off, hae, hb, q1⟩ := intsK_at (HA.out.later hW (Nat.le_refl _)) k _ ga
        obtain ⟨b', off', hbe, hb', q2⟩ := intsK_at (HB.out.later hW (Nat.le_refl _)) k _ gb
        subst hae hbe
        clear ga gb
        have HC2 := Lib.hid (sameK_succ la lb k (by rw [Hn.out]; exact h1) (by rw [Hm.out]; exact h1))
        rw [HC.out, Bool.true_and] at HC2
        have HC3 := Lib.hid (sameK_no la lb k)
        generalize la.getD k default = x at *
        generalize lb.getD k default = y at *
        have hc1 : (x != y) = !(x == y) := rfl
        have kk1 : (k : Int) < (n : Int) := by omega
        have k0 : 0 ≤ (k : Int) := by omega
        cases hxy : (x == y)
        all_goals
          rw [hxy] at hc1 HC2 HC3
          clear hxy
        · simp only [Bool.not_false] at hc1
          go_wp2
          try (go_quiet (fail); go_wp2)
          go_ret
          exact ⟨by rw [(by first | exact HC3.out rfl | exact HC3.out trivial : (la == lb) = false)]; rfl, below_drewN0 hW _⟩
        · simp only [Bool.not_true] at hc1
          go_wp2
          try (go_quiet (fail); go_wp2)
          go_roundw
          case rel => exact ⟨k + 1, by omega, by go_num, HC2, below_drewN0 hW _⟩
          case measure => simp [intOf]; omega
      · obtain rfl : k = n := by omega
        have HR : Hid ((la == lb) = true) := by
          have := HC.out
          rw [List.take_of_length_le (by rw [Hn.out]; exact Nat.le_refl _), List.take_of_length_le (by rw [Hm.out]; exact Nat.le_refl _)] at this
          exact this
        go_wp2
        go_ret
        exact ⟨by rw [HR.out]; rfl, hW⟩
  · have HR : Hid ((la == lb) = false) := by
      show _ = _
      rw [beq_eq_false_iff_ne]
      intro e
      exact hlen (congrArg List.length e)
    generalize la.length = n at *
    generalize lb.length = m at *
    have hne : ¬ ((n : Int) = (m : Int)) := by omega
    go_enter Tryz.func14, Tryz.ntmps14
    go_wp2
    go_ret
    exact ⟨by rw [HR.out]; rfl, Below.refl _ _⟩
end Go.Proofs.YtcgopilkajfghaaGreatDoor
