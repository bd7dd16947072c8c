/- The small functions of the statements on justify and of the reference: pick, contains, Ints, Within, has, Listed. -/
import Derived.Test.YtmihkbiihfhpoaaDoorJCore
namespace Go.Proofs.YtmihkbiihfhpoaaDoor
open Go.RowKit Go.Shelf

theorem ret_int {k : IntKind} {a b : Int} (h : a = b) : Ending.returned (.int k a) = .returned (.int k b) := by rw [h]
theorem ret_bool {a b : Bool} (h : a = b) : Ending.returned (.bool a) = .returned (.bool b) := by rw [h]
/-- pick. -/
def pickZ (c n : Int) : Int := (if c < 0 then -(c + 1) else c).tmod n
theorem pickZ_bd (c n : Int) (hn : 1 ≤ n) : 0 ≤ pickZ c n ∧ pickZ c n < n := by
  unfold pickZ
  have h : 0 ≤ (if c < 0 then -(c + 1) else c) := by split <;> omega
  rw [Int.tmod_eq_emod_of_nonneg h]
  exact ⟨Int.emod_nonneg _ (by omega), Int.emod_lt_of_pos _ (by omega)⟩
set_option maxHeartbeats 400000 in
theorem pick_any (c n : Int) (w : World) (h1 : -9223372036854775808 ≤ c) (h2 : c ≤ 9223372036854775807) (hn : 1 ≤ n) (hn2 : n ≤ 9223372036854775807) :
    Calls Tryd.prog 16 #[.int .i64 c, .int .i64 n] w fun e w' => e = .returned (.int .i64 (pickZ c n)) ∧ w = w' := by
  by_cases hc : c < 0
  · have hp : pickZ c n = (-(c + 1)).tmod n := by rw [pickZ, if_pos hc]
    rw [hp]
    clear hp
    go_enter Tryd.func16, Tryd.ntmps16
    go_wp2
    go_ret
    exact ⟨ret_int (Int.neg_tmod _ _).symm, rfl⟩
  · have hp : pickZ c n = c.tmod n := by rw [pickZ, if_neg hc]
    rw [hp]
    clear hp
    go_enter Tryd.func16, Tryd.ntmps16
    go_wp2
    go_ret
    exact ⟨ret_int (Int.tmod_eq_emod_of_nonneg (by omega)).symm, rfl⟩
set_option maxHeartbeats 400000 in
theorem pickR_any (c n : Int) (w : World) (h1 : -9223372036854775808 ≤ c) (h2 : c ≤ 9223372036854775807) (hn : 1 ≤ n) (hn2 : n ≤ 9223372036854775807) :
    Calls Tryd.prog 37 #[.int .i64 c, .int .i64 n] w fun e w' => e = .returned (.int .i64 (pickZ c n)) ∧ w = w' := by
  by_cases hc : c < 0
  · have hp : pickZ c n = (-(c + 1)).tmod n := by rw [pickZ, if_pos hc]
    rw [hp]
    clear hp
    go_enter Tryd.func37, Tryd.ntmps37
    go_wp2
    go_ret
    exact ⟨ret_int (Int.neg_tmod _ _).symm, rfl⟩
  · have hp : pickZ c n = c.tmod n := by rw [pickZ, if_neg hc]
    rw [hp]
    clear hp
    go_enter Tryd.func37, Tryd.ntmps37
    go_wp2
    go_ret
    exact ⟨ret_int (Int.tmod_eq_emod_of_nonneg (by omega)).symm, rfl⟩

/-- contains. -/
def hasZ (l : List Int) (n : Int) : Bool := l.any fun z => z == n
theorem hasZ_iff (l : List Int) (n : Int) : hasZ l n = true ↔ n ∈ l := by
  unfold hasZ
  rw [List.any_eq_true]
  constructor
  · rintro ⟨z, hz, h⟩
    have : z = n := by simpa using h
    exact this ▸ hz
  · intro h
    exact ⟨n, h, by simp⟩
theorem any_take {α : Type} (p : α → Bool) (d : α) (l : List α) (j : Nat) (h : j < l.length) : (l.take (j + 1)).any p = ((l.take j).any p || p (l.getD j d)) := by
  rw [List.take_succ_eq_append_getElem h, List.any_append, List.getD_eq_getElem?_getD, List.getElem?_eq_getElem h]
  simp
set_option maxRecDepth 100000 in
theorem contains_any (v : Value) (l : List Int) (n : Int) (w : World) (hl : IntsAt w.heap.size w v l) :
    Calls Tryd.prog 25 #[v, .int .i64 n] w fun e w' => e = .returned (.bool (hasZ l n)) ∧ w = w' := by
  obtain ⟨a, c, rfl, hlc, hcm⟩ := hl.shape
  have HI := Lib.hid hl
  clear hl
  unfold maxLen at hcm
  generalize hm : l.length = m at *
  have Hm := Lib.hid hm
  clear hm
  go_enter Tryd.func25, Tryd.ntmps25
  go_wp2
  go_loop [5] (fun i => ∃ j : Nat, j ≤ m ∧ i = .int .i64 j ∧ Hid ((l.take j).any (fun z => z == n) = false)) (fun i => m - (intOf i).toNat)
  case atStart => exact ⟨0, Nat.zero_le _, rfl, by show _ = _; simp⟩
  case round =>
    obtain ⟨j, hj, rfl, HF⟩ := hrel
    by_cases hlt : j < m
    · obtain ⟨b, off, hae, _, hcl⟩ := HI.out.at j (by rw [Hm.out]; exact hlt)
      subst hae
      have HS := Lib.hid (any_take (fun z => z == n) 0 l j (by rw [Hm.out]; exact hlt))
      rw [HF.out, Bool.false_or] at HS
      have HM : Hid (l.getD j 0 ∈ l) := getD_mem _ _ _ (by rw [Hm.out]; exact hlt)
      have jj : (j : Int) < (m : Int) := by omega
      generalize l.getD j 0 = z at *
      by_cases hz : z = n
      · subst hz
        go_wp2
        go_ret
        exact ⟨ret_bool ((hasZ_iff l z).2 HM.out).symm, rfl⟩
      · have hzn : (z == n) = false := by simp [hz]
        rw [hzn] at HS
        go_wp2
        go_round
        case rel => exact ⟨j + 1, by omega, by go_num, HS.out⟩
        case measure => simp [intOf]; omega
    · obtain rfl : j = m := by omega
      have HF2 : Hid (hasZ l n = false) := by show _ = _; have := HF.out; rw [List.take_of_length_le (by rw [Hm.out]; exact Nat.le_refl _)] at this; exact this
      clear HF
      go_wp2
      go_ret
      exact ⟨ret_bool HF2.out.symm, rfl⟩

/-- Ints. -/
theorem eq_of_take {a b : List Int} (h : a.length = b.length) (hf : ∀ j, j < a.length → a.getD j 0 = b.getD j 0) : a = b := by
  apply List.ext_getElem h
  intro j h1 h2
  have := hf j h1
  rw [List.getD_eq_getElem?_getD, List.getElem?_eq_getElem h1, List.getD_eq_getElem?_getD, List.getElem?_eq_getElem h2] at this
  exact this
set_option maxRecDepth 100000 in
set_option maxHeartbeats 400000 in
theorem ints_any (v u : Value) (l k : List Int) (w : World) (hl : IntsAt w.heap.size w v l) (hk : IntsAt w.heap.size w u k) :
    Calls Tryd.prog 19 #[v, u] w fun e w' => e = .returned (.bool (l == k)) ∧ Below w.heap.size w w' := by
  obtain ⟨a, c, rfl, hlc, hcm⟩ := hl.shape
  obtain ⟨a2, c2, rfl, hlc2, hcm2⟩ := hk.shape
  unfold maxLen at hcm hcm2
  have HI := Lib.hid hl
  have HK := Lib.hid hk
  clear hl hk
  by_cases hne : l.length = k.length
  · rw [← hne]
    rw [← hne] at HK hlc2
    have Hne := Lib.hid hne
    clear hne
    generalize hm : l.length = m at *
    have Hm := Lib.hid hm
    clear hm
    go_enter Tryd.func19, Tryd.ntmps19
    go_wp2
    go_loopw [5] (fun i wr => ∃ j : Nat, j ≤ m ∧ i = .int .i64 j ∧ Hid (∀ t, t < j → l.getD t 0 = k.getD t 0) ∧ Below w.heap.size w wr) (fun i _ => m - (intOf i).toNat)
    case atStart => exact ⟨0, Nat.zero_le _, rfl, fun t ht => by omega, Below.refl _ _⟩
    case round =>
      obtain ⟨j, hj, rfl, HF, hB⟩ := hrel
      by_cases hlt : j < m
      · obtain ⟨b, off, hae, hb, hcl⟩ := HI.out.at j (by rw [Hm.out]; exact hlt)
        obtain ⟨b2, off2, hae2, hb2, hcl2⟩ := HK.out.at j (by rw [← Hne.out]; exact hlt)
        subst hae
        subst hae2
        have c1 := (hB.cell (p := ⟨b, off + j, none⟩) hb).trans hcl
        have c2 := (hB.cell (p := ⟨b2, off2 + j, none⟩) hb2).trans hcl2
        have Hx : Hid (l.getD j 0 = l.getD j 0) := rfl
        have jj : (j : Int) < (m : Int) := by omega
        clear hcl hcl2
        generalize hx : l.getD j 0 = x at *
        generalize hy : k.getD j 0 = y at *
        have HX := Lib.hid hx
        have HY := Lib.hid hy
        clear hx hy
        by_cases hxy : x = y
        · have HXY := Lib.hid hxy
          have hne : (x != y) = false := by simp [hxy]
          clear hxy
          go_wp2
          go_quiet (fail)
          go_wp2
          go_roundw
          case rel => exact ⟨j + 1, by omega, by go_num, (show _ from fun t ht => by
            by_cases e : t = j
            · subst e; rw [HX.out, HY.out, HXY.out]
            · exact HF.out t (by omega)), below_drewN hB _⟩
          case measure => simp [intOf]; omega
        · have hne : (x != y) = true := by simp [hxy]
          have HE : Hid ((l == k) = false) := by
            show _ = _
            rw [beq_eq_false_iff_ne]
            intro e
            apply hxy
            rw [← HX.out, ← HY.out, e]
          clear hxy
          go_wp2
          go_quiet (fail)
          go_wp2
          go_ret
          exact ⟨ret_bool HE.out.symm, below_drewN hB _⟩
      · obtain rfl : j = m := by omega
        have HE : Hid ((l == k) = true) := by
          show _ = _
          rw [beq_iff_eq]
          exact eq_of_take (Hm.out.trans Hne.out) (by rw [Hm.out]; exact HF.out)
        clear HF
        go_wp2
        go_ret
        exact ⟨ret_bool HE.out.symm, hB⟩
  · have HE : Hid ((l == k) = false) := by
      show _ = _
      rw [beq_eq_false_iff_ne]
      exact fun e => hne (by rw [e])
    have hnn : ((l.length : Int) != (k.length : Int)) = true := by simp; omega
    clear hne
    generalize l.length = m at *
    generalize k.length = m2 at *
    go_enter Tryd.func19, Tryd.ntmps19
    go_wp2
    go_ret
    exact ⟨ret_bool HE.out.symm, Below.refl _ _⟩

/-- Within. -/
def subB (a b : Nat) : Bool := a &&& b == a
theorem subB_iff (a b : Nat) : subB a b = true ↔ SubS a b := by unfold subB; rw [beq_iff_eq]; exact within_iff a b
theorem within_any (a b : Nat) (w : World) (ha : a < 9223372036854775808) (hb : b < 9223372036854775808) :
    Calls Tryd.prog 32 #[.int .i64 a, .int .i64 b] w fun e w' => e = .returned (.bool (subB a b)) ∧ w = w' := by
  have hand := i64_and_nat a b ha hb
  have HS : Hid ((((a &&& b : Nat) : Int) == (a : Int)) = subB a b) := by
    show _ = _
    unfold subB
    rw [Bool.eq_iff_iff]
    simp only [beq_iff_eq]
    omega
  generalize a &&& b = q at *
  go_enter Tryd.func32, Tryd.ntmps32
  go_wp2
  go_ret
  exact ⟨ret_bool HS.out, rfl⟩
/-- has. -/
theorem hasR_any (S n : Nat) (w : World) (hS : S < 9223372036854775808) (hn : n < 64) :
    Calls Tryd.prog 54 #[.int .i64 S, .int .i64 n] w fun e w' => e = .returned (.bool (S.testBit n)) ∧ w = w' := by
  have he := Lib.hid (bit_eq1 S n)
  have hp : (0 : Int) ≤ (S : Int) / 2 ^ n := Int.ediv_nonneg (by omega) (Int.pow_nonneg (by omega))
  go_enter Tryd.func54, Tryd.ntmps54
  go_wp2
  go_ret
  exact ⟨ret_bool he.out, rfl⟩
end Go.Proofs.YtmihkbiihfhpoaaDoor
