/- Equality of records: the model's comparison. -/
import Derived.Test.YthfenbdlolbikaaGreatDoorMTreeB
import Derived.Test.YthfenbdlolbikaaGreatDoorMLogB
namespace Go.Proofs.YthfenbdlolbikaaGreatDoor
open Go.RowKit Go.Shelf

theorem recEq_parts (x y : LRec) : (x == y) = (x.sec == y.sec && (x.kind == y.kind && (x.a == y.a && (x.b == y.b && x.text == y.text)))) := by
  rw [Bool.eq_iff_iff]
  cases x; cases y
  simp
theorem run_eqlRec (x y : LRec) (W : World) : (binOp .eql 48 (recV x) (recV y)).run Tryz.prog W = .ok (.bool (x == y)) W := by
  rw [recEq_parts]
  go_simp
  rw [bs_toList, bs_toList]
  by_cases h1 : x.sec = y.sec <;> by_cases h2 : x.kind = y.kind <;> by_cases h3 : x.a = y.a <;> by_cases h4 : x.b = y.b <;> by_cases h5 : x.text = y.text <;> simp [h1, h2, h3, h4, h5]
theorem run_neqRec (x y : LRec) (W : World) : (binOp .neq 48 (recV x) (recV y)).run Tryz.prog W = .ok (.bool (x != y)) W := by
  rw [bne, recEq_parts]
  go_simp
  rw [bs_toList, bs_toList]
  by_cases h1 : x.sec = y.sec <;> by_cases h2 : x.kind = y.kind <;> by_cases h3 : x.a = y.a <;> by_cases h4 : x.b = y.b <;> by_cases h5 : x.text = y.text <;> simp [h1, h2, h3, h4, h5]
theorem sameR_succ (a b : List LRec) (k : Nat) (ha : k < a.length) (hb : k < b.length) : (a.take (k + 1) == b.take (k + 1)) = (a.take k == b.take k && a.getD k default == b.getD k default) := by
  rw [take_getD a default k ha, take_getD b default k hb, Bool.eq_iff_iff]
  simp only [beq_iff_eq, Bool.and_eq_true]
  constructor
  · intro h
    have := List.append_inj h (by rw [List.length_take, List.length_take]; omega)
    exact ⟨this.1, by simpa using this.2⟩
  · rintro ⟨h1, h2⟩
    rw [h1, h2]
theorem sameR_no (a b : List LRec) (k : Nat) (h : (a.getD k default == b.getD k default) = false) : (a == b) = false := by
  rw [beq_eq_false_iff_ne] at h ⊢
  intro e
  rw [e] at h
  exact h rfl
set_option maxRecDepth 100000 in
set_option maxHeartbeats 1000000 in
theorem sameRecs_any (va vb : Value) (la lb : List LRec) (w : World) (hA : RecsAt w.heap.size w va la) (hB : RecsAt w.heap.size w vb lb) :
    Calls Tryz.prog 60 #[va, vb] w fun e w' => e = .returned (.bool (la == lb)) ∧ Below w.heap.size w w' := by
  obtain ⟨a, c, rfl, hac, hcm⟩ := hA.shape
  obtain ⟨a', c', rfl, hac', hcm'⟩ := hB.shape
  unfold maxLen at hcm hcm'
  have HA := Lib.hid hA
  have HB := Lib.hid hB
  clear hA hB
  by_cases hlen : la.length = lb.length
  · generalize hn : la.length = n at *
    have Hn := Lib.hid hn
    have Hm : Hid (lb.length = n) := hlen.symm
    rw [← hlen] at hac' HB ⊢
    clear hn hlen
    go_enter Tryz.func60, Tryz.ntmps60
    go_wp2
    go_loopw [5] (fun i wr => ∃ k : Nat, k ≤ n ∧ i = .int .i64 k ∧ Hid ((la.take k == lb.take k) = true) ∧ Below w.heap.size w wr) (fun i _ => n - (intOf i).toNat)
    case atStart => exact ⟨0, Nat.zero_le _, rfl, rfl, Below.refl _ _⟩
    case round =>
      obtain ⟨k, hk, rfl, HC, hW⟩ := hrel
      by_cases h1 : k < n
      · obtain ⟨b, off, rfl, hb, q1⟩ := HA.out.at k (by rw [Hn.out]; exact h1)
        obtain ⟨b', off', rfl, hb', q2⟩ := HB.out.at k (by rw [Hm.out]; exact h1)
        obtain ⟨p0, p1, p2, p3, p4⟩ := q1.below hW hb
        obtain ⟨r0, r1, r2, r3, r4⟩ := q2.below hW hb'
        have HC2 := Lib.hid (sameR_succ la lb k (by rw [Hn.out]; exact h1) (by rw [Hm.out]; exact h1))
        rw [HC.out, Bool.true_and] at HC2
        have HC3 := Lib.hid (sameR_no la lb k)
        generalize la.getD k default = x at *
        generalize lb.getD k default = y at *
        have hc1 := fun W => run_neqRec x y W
        have kk1 : (k : Int) < (n : Int) := by omega
        have k0 : 0 ≤ (k : Int) := by omega
        clear q1 q2
        rw [bne] at hc1
        cases hxy : (x == y)
        all_goals
          rw [hxy] at hc1 HC2 HC3
          clear hxy
        · simp only [Bool.not_false] at hc1
          go_wp2
          try (go_quiet (fail); go_wp2)
          go_ret
          exact ⟨by rw [(by first | exact HC3.out rfl | exact HC3.out trivial : (la == lb) = false)]; rfl, below_drewN0 hW _⟩
        · simp only [Bool.not_true] at hc1
          go_wp2
          try (go_quiet (fail); go_wp2)
          go_roundw
          case rel => exact ⟨k + 1, by omega, by go_num, HC2, below_drewN0 hW _⟩
          case measure => simp [intOf]; omega
      · obtain rfl : k = n := by omega
        have HR : Hid ((la == lb) = true) := by
          have := HC.out
          rw [List.take_of_length_le (by rw [Hn.out]; exact Nat.le_refl _), List.take_of_length_le (by rw [Hm.out]; exact Nat.le_refl _)] at this
          exact this
        go_wp2
        go_ret
        exact ⟨by rw [HR.out]; rfl, hW⟩
  · have HR : Hid ((la == lb) = false) := by
      show _ = _
      rw [beq_eq_false_iff_ne]
      intro e
      exact hlen (congrArg List.length e)
    generalize la.length = n at *
    generalize lb.length = m at *
    have hne : ¬ ((n : Int) = (m : Int)) := by omega
    go_enter Tryz.func60, Tryz.ntmps60
    go_wp2
    go_ret
    exact ⟨by rw [HR.out]; rfl, Below.refl _ _⟩
set_option maxRecDepth 100000 in
set_option maxHeartbeats 1000000 in
theorem sameBook_any (oa ob : Int) (va vb : Value) (la lb : List LRec) (w : World) (hA : RecsAt w.heap.size w va la) (hB : RecsAt w.heap.size w vb lb) :
    Calls Tryz.prog 27 #[bookV oa va, bookV ob vb] w fun e w' => e = .returned (.bool ((⟨oa, la⟩ : LBook) == ⟨ob, lb⟩)) ∧ Below w.heap.size w w' := by
  have HE : Hid (((⟨oa, la⟩ : LBook) == ⟨ob, lb⟩) = (oa == ob && la == lb)) := by
    show _ = _
    rw [Bool.eq_iff_iff]
    simp
  obtain ⟨a, c, rfl, hac, hcm⟩ := hA.shape
  obtain ⟨a', c', rfl, hac', hcm'⟩ := hB.shape
  have hb : Below w.heap.size w ((w.alloc (.cells #[.int .i64 oa, .slice a la.length c] 25)).alloc (.cells #[.int .i64 ob, .slice a' lb.length c'] 25)) := ((Below.refl _ _).alloc (Nat.le_refl _) _).alloc (by simp) _
  have HS := Lib.hid (sameRecs_any _ _ la lb _ (hA.later hb (Nat.le_refl _)) (hB.later hb (Nat.le_refl _)))
  have HB := Lib.hid hb
  have hl : la.length ≠ lb.length → (la == lb) = false := fun h => by rw [beq_eq_false_iff_ne]; intro e; exact h (congrArg List.length e)
  clear hA hB hb hac hcm hac' hcm' hl
  by_cases ho : oa = ob
  · subst ho
    go_enter Tryz.func27, Tryz.ntmps27
    go_wp2_with fail
    refine HS.out.mono ?_
    rintro e w2 ⟨rfl, hb2⟩
    have HF := Lib.hid (HB.out.trans (hb2.mono HB.out.size))
    clear hb2
    go_wp2
    go_ret
    exact ⟨by rw [HE.out, beq_self_eq_true, Bool.true_and]; rfl, HF.out⟩
  · have ho2 : (oa == ob) = false := by simp [ho]
    rw [ho2, Bool.false_and] at HE
    go_enter Tryz.func27, Tryz.ntmps27
    go_wp2
    go_ret
    exact ⟨by rw [HE.out]; try rfl, HB.out⟩
end Go.Proofs.YthfenbdlolbikaaGreatDoor
