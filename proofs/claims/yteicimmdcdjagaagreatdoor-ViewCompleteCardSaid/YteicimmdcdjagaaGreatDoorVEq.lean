import Derived.Test.YteicimmdcdjagaaGreatDoorMTreeB
import Derived.Test.YteicimmdcdjagaaGreatDoorVMem
set_option linter.unusedVariables false
set_option linter.unusedSimpArgs false

/- Equality of notes: the model's comparison; the reference's SameNotes. -/
set_option linter.unusedVariables false
set_option linter.unusedSimpArgs false
namespace Go.Proofs.YteicimmdcdjagaaGreatDoor
open Go.RowKit Go.Shelf

theorem noteEq_parts (x y : VNote) : (x == y) = (x.unit == y.unit && (x.day == y.day && (x.kind == y.kind && x.text == y.text))) := by
  rw [Bool.eq_iff_iff]
  cases x; cases y
  simp
theorem run_eqlNote (x y : VNote) (W : World) : (binOp .eql 48 (noteV x) (noteV y)).run Tryz.prog W = .ok (.bool (x == y)) W := by
  rw [noteEq_parts]
  go_simp
  rw [bs_toList, bs_toList]
  by_cases h1 : x.unit = y.unit <;> by_cases h2 : x.day = y.day <;> by_cases h3 : x.kind = y.kind <;> by_cases h4 : x.text = y.text <;> simp [h1, h2, h3, h4]
theorem run_neqNote (x y : VNote) (W : World) : (binOp .neq 48 (noteV x) (noteV y)).run Tryz.prog W = .ok (.bool (x != y)) W := by
  rw [bne, noteEq_parts]
  go_simp
  rw [bs_toList, bs_toList]
  by_cases h1 : x.unit = y.unit <;> by_cases h2 : x.day = y.day <;> by_cases h3 : x.kind = y.kind <;> by_cases h4 : x.text = y.text <;> simp [h1, h2, h3, h4]
theorem sameN_succ (a b : List VNote) (k : Nat) (ha : k < a.length) (hb : k < b.length) : (a.take (k + 1) == b.take (k + 1)) = (a.take k == b.take k && a.getD k default == b.getD k default) := by
  rw [take_getD a default k ha, take_getD b default k hb, Bool.eq_iff_iff]
  simp only [beq_iff_eq, Bool.and_eq_true]
  constructor
  · intro h
    have := List.append_inj h (by rw [List.length_take, List.length_take]; omega)
    exact ⟨this.1, by simpa using this.2⟩
  · rintro ⟨h1, h2⟩
    rw [h1, h2]
theorem sameN_no (a b : List VNote) (k : Nat) (h : (a.getD k default == b.getD k default) = false) : (a == b) = false := by
  rw [beq_eq_false_iff_ne] at h ⊢
  intro e
  rw [e] at h
  exact h rfl
set_option maxRecDepth 100000 in
set_option maxHeartbeats 1000000 in
theorem sameNotes_any (va vb : Value) (la lb : List VNote) (w : World) (hA : RowsAt noteK w.heap.size w va la) (hB : RowsAt noteK w.heap.size w vb lb) :
    Calls Tryz.prog 13 #[va, vb] w fun e w' => e = .returned (.bool (la == lb)) ∧ Below w.heap.size w w' := by
  obtain ⟨a, c, rfl, hac, hcm⟩ := hA.shape
  obtain ⟨a', c', rfl, hac', hcm'⟩ := hB.shape
  unfold maxLen at hcm hcm'
  have HA := Lib.hid hA
  have HB := Lib.hid hB
  clear hA hB
  by_cases hlen : la.length = lb.length
  · generalize hn : la.length = n at *
    have Hn := Lib.hid hn
    have Hm : Hid (lb.length = n) := hlen.symm
    rw [← hlen] at hac' HB ⊢
    clear hn hlen
    go_enter Tryz.func13, Tryz.ntmps13
    go_wp2
    go_loopw [5] (fun i wr => ∃ k : Nat, k ≤ n ∧ i = .int .i64 k ∧ Hid ((la.take k == lb.take k) = true) ∧ Below w.heap.size w wr) (fun i _ => n - (intOf i).toNat)
    case atStart => exact ⟨0, Nat.zero_le _, rfl, rfl, Below.refl _ _⟩
    case round =>
      obtain ⟨k, hk, rfl, HC, hW⟩ := hrel
      by_cases h1 : k < n
      · have ga : la[k]? = some (la.getD k default) := by rw [List.getD_eq_getElem?_getD, List.getElem?_eq_getElem (by rw [Hn.out]; exact h1)]; rfl
        have gb : lb[k]? = some (lb.getD k default) := by rw [List.getD_eq_getElem?_getD, List.getElem?_eq_getElem (by rw [Hm.out]; exact h1)]; rfl
        obtain ⟨b, off, hae, hb, q1⟩ := notes_at (HA.out.later hW (Nat.le_refl _)) k _ ga
        obtain ⟨b', off', hbe, hb', q2⟩ := notes_at (HB.out.later hW (Nat.le_refl _)) k _ gb
        subst hae hbe
        obtain ⟨p0, p1, p2, p3⟩ := q1
        obtain ⟨r0, r1, r2, r3⟩ := q2
        clear ga gb
        have HC2 := Lib.hid (sameN_succ la lb k (by rw [Hn.out]; exact h1) (by rw [Hm.out]; exact h1))
        rw [HC.out, Bool.true_and] at HC2
        have HC3 := Lib.hid (sameN_no la lb k)
        generalize la.getD k default = x at *
        generalize lb.getD k default = y at *
        have hc1 := fun W => run_neqNote x y W
        have kk1 : (k : Int) < (n : Int) := by omega
        have k0 : 0 ≤ (k : Int) := by omega
        rw [bne] at hc1
        cases hxy : (x == y)
        all_goals
          rw [hxy] at hc1 HC2 HC3
          clear hxy
        · simp only [Bool.not_false] at hc1
          go_wp2
          try (go_quiet (fail); go_wp2)
          go_ret
          exact ⟨by rw [(by first | exact HC3.out rfl | exact HC3.out trivial : (la == lb) = false)]; rfl, below_drewN0 hW _⟩
        · simp only [Bool.not_true] at hc1
          go_wp2
          try (go_quiet (fail); go_wp2)
          go_roundw
          case rel => exact ⟨k + 1, by omega, by go_num, HC2, below_drewN0 hW _⟩
          case measure => simp [intOf]; omega
      · obtain rfl : k = n := by omega
        have HR : Hid ((la == lb) = true) := by
          have := HC.out
          rw [List.take_of_length_le (by rw [Hn.out]; exact Nat.le_refl _), List.take_of_length_le (by rw [Hm.out]; exact Nat.le_refl _)] at this
          exact this
        go_wp2
        go_ret
        exact ⟨by rw [HR.out]; rfl, hW⟩
  · have HR : Hid ((la == lb) = false) := by
      show _ = _
      rw [beq_eq_false_iff_ne]
      intro e
      exact hlen (congrArg List.length e)
    generalize la.length = n at *
    generalize lb.length = m at *
    have hne : ¬ ((n : Int) = (m : Int)) := by omega
    go_enter Tryz.func13, Tryz.ntmps13
    go_wp2
    go_ret
    exact ⟨by rw [HR.out]; rfl, Below.refl _ _⟩
end Go.Proofs.YteicimmdcdjagaaGreatDoor
