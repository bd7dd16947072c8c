/- Small facts that the laws of digest and its reference share; the reference's Left, Same, Digests. -/
import Derived.Test.YteicimmdcdjagaaGreatDoorMRefB
import Derived.Deep.RegionHeld3
set_option linter.unusedVariables false
set_option linter.unusedSimpArgs false
namespace Go.Proofs.YteicimmdcdjagaaGreatDoor
open Go.RowKit Go.Shelf

theorem extract_bs (x : Bytes) (q : Nat) : (bs x).extract 0 q = bs (x.take q) := by
  apply ByteArray.ext
  apply Array.ext'
  simp [bs, ByteArray.data_extract]
theorem leftN_exit {n e : Nat} (h : 2 ^ e < n) (h2 : (n : Int) - ((2 ^ e : Nat) : Int) ≤ ((2 ^ e : Nat) : Int)) : leftN n = 2 ^ e := leftN_of h (by rw [Nat.pow_succ]; omega)
theorem refLeft_any (n : Nat) (w : World) (h2 : 2 ≤ n) (hn : n ≤ 9223372036854775807) :
    Calls Tryz.prog 76 #[.int .i64 n] w fun e w' => e = .returned (.int .i64 (leftN n : Nat)) ∧ w = w' := by
  have HX : Hid (∀ e, 2 ^ e < n → (n : Int) - ((2 ^ e : Nat) : Int) ≤ ((2 ^ e : Nat) : Int) → leftN n = 2 ^ e) := fun e h h' => leftN_exit h h'
  go_enter Tryz.func76, Tryz.ntmps76
  go_wp2
  go_loop [3] (fun s => ∃ k : Nat, 1 ≤ k ∧ k < n ∧ s = .int .i64 k ∧ Hid (∃ e, k = 2 ^ e)) (fun s => n - (intOf s).toNat)
  case atStart => exact ⟨1, by omega, by omega, rfl, 0, rfl⟩
  case round =>
    obtain ⟨k, hk1, hkn, rfl, HE⟩ := hrel
    have w1 : IntKind.i64.wrap ((n : Int) - (k : Int)) = (n : Int) - (k : Int) := IntWalk.i64_in _ (by omega)
    by_cases hlt : (k : Int) < (n : Int) - (k : Int)
    · have w2 : IntKind.i64.wrap (2 * (k : Int)) = 2 * (k : Int) := IntWalk.i64_in _ (by omega)
      go_wp2
      go_round
      case rel =>
        refine ⟨2 * k, by omega, by omega, by go_num, ?_⟩
        obtain ⟨e, he⟩ := HE
        exact ⟨e + 1, by rw [he, Nat.pow_succ]; omega⟩
      case measure => simp [intOf]; omega
    · have HR : Hid (leftN n = k) := by
        obtain ⟨e, he⟩ := HE
        subst he
        exact HX.out e hkn (by omega)
      go_wp2
      go_ret
      exact ⟨by rw [HR.out]; rfl, rfl⟩
/-- What few and the cut of an entry make. -/
theorem cut_size (s : ByteArray) (q : Nat) (h : (q : Int) ≤ 60) : (s.extract 0 q).size ≤ 60 := by rw [ByteArray.size_extract]; omega
theorem bind_plain {root s t : Bytes} {n i : Int} {p q : List Bytes} (h1 : verB root n i s p = true) (h2 : verB root n i t q = true) (hne : s ≠ t) :
    0 ≤ i ∧ i < n ∧ collB (wayR p.reverse n.toNat i.toNat s).1 (wayR q.reverse n.toNat i.toNat t).1 = true := by
  unfold verB at h1 h2
  simp only [Bool.and_eq_true, decide_eq_true_eq, beq_iff_eq] at h1 h2
  obtain ⟨⟨⟨h3, h4⟩, h5⟩, h6⟩ := h1
  obtain ⟨⟨_, h7⟩, h8⟩ := h2
  have hd : ∀ l : List Bytes, digB l = true → ∀ x ∈ l.reverse, x.length = 32 := fun l hl x hx => by
    have := List.all_eq_true.1 hl x (List.mem_reverse.1 hx)
    simpa using this
  exact ⟨h3, h4, binding p.reverse q.reverse n.toNat i.toNat s t root (hd p h5) (hd q h7) hne h6 h8⟩
theorem wayR_el (p : List Bytes) : ∀ (n i : Nat) (s : Bytes), s.length ≤ 1000 → (∀ x ∈ p, x.length ≤ 1000) → ∀ x ∈ (wayR p n i s).1, x.length ≤ 1000000 := by
  induction p with
  | nil => intro n i s hs _ x hx; simp [wayR] at hx; rw [hx]; simp; omega
  | cons y t ih =>
    intro n i s hs hp x hx
    unfold wayR at hx
    have hy := hp y (by simp)
    have ht : ∀ z ∈ t, z.length ≤ 1000 := fun z hz => hp z (by simp [hz])
    split at hx
    · simp at hx; rw [hx]; simp; omega
    · split at hx
      · rcases List.mem_cons.1 hx with rfl | hx
        · have := (wayR_len t (leftN n) i s).2
          simp; omega
        · exact ih _ _ _ hs ht x hx
      · rcases List.mem_cons.1 hx with rfl | hx
        · have := (wayR_len t (n - leftN n) (i - leftN n) s).2
          simp; omega
        · exact ih _ _ _ hs ht x hx
theorem blen (s : ByteArray) : s.data.toList.length = s.size := by rw [Array.length_toList]; rfl
theorem str_eq (x y : ByteArray) : (x.toList == y.toList) = decide (x.data.toList = y.data.toList) := by
  rw [Lib.toList_data, Lib.toList_data, Bool.eq_iff_iff]; simp
theorem cut_min (s : ByteArray) (N : Int) (hN : 0 ≤ N) : ∃ m : Nat, min ((s.size : Nat) : Int) N = (m : Int) ∧ m ≤ s.size ∧ (m : Int) ≤ N :=
  ⟨min s.size N.toNat, by omega, by omega, by omega⟩
theorem rootL_eqs (l : List Bytes) (s : Bytes) (h : l.length = 0) : rootL (l ++ [s]) = leafB s ∧ rootL l = sha [] := by
  obtain rfl : l = [] := List.eq_nil_of_length_eq_zero h
  exact ⟨rootL_one s, rfl⟩
theorem Sm.snoc {l : List Bytes} (h : Sm l) (hl : l.length ≤ 1000) (s : Bytes) (hs : s.length ≤ 1000) : Sm (l ++ [s]) := ⟨by rw [List.length_append, List.length_singleton]; omega, fun x hx => by
  rcases List.mem_append.1 hx with hx | hx
  · exact h.2 x hx
  · rw [List.mem_singleton.1 hx]; exact hs⟩
theorem bs_self (x y : Bytes) (h : x = y) : ((bs x).toList == (bs y).toList) = true := by rw [h]; exact beq_self_eq_true _
theorem zip_take {α β : Type} : ∀ (k : Nat) (a : List α) (b : List β), (a.take k).zip (b.take k) = (a.zip b).take k
  | 0, _, _ => by simp
  | k + 1, [], _ => by simp
  | k + 1, _ :: _, [] => by simp
  | k + 1, x :: a, y :: b => by simp [zip_take k a b]
theorem bs_eq_list (x y : Bytes) : ((bs x).toList == (bs y).toList) = (x == y) := by rw [bs_toList, bs_toList]
theorem same_succ (a b : List Bytes) (k : Nat) (ha : k < a.length) (hb : k < b.length) : (a.take (k + 1) == b.take (k + 1)) = (a.take k == b.take k && a.getD k [] == b.getD k []) := by
  rw [take_getD a [] k ha, take_getD b [] k hb, Bool.eq_iff_iff]
  simp only [beq_iff_eq, Bool.and_eq_true]
  constructor
  · intro h
    have := List.append_inj h (by rw [List.length_take, List.length_take]; omega)
    exact ⟨this.1, by simpa using this.2⟩
  · rintro ⟨h1, h2⟩
    rw [h1, h2]
theorem same_no (a b : List Bytes) (k : Nat) (h : (a.getD k [] == b.getD k []) = false) : (a == b) = false := by
  rw [beq_eq_false_iff_ne] at h ⊢
  intro e
  rw [e] at h
  exact h rfl
set_option maxRecDepth 100000 in
set_option maxHeartbeats 1000000 in
theorem same_any (va vb : Value) (la lb : List Bytes) (w : World) (hA : StrsAt w.heap.size w va la) (hB : StrsAt w.heap.size w vb lb) :
    Calls Tryz.prog 26 #[va, vb] w fun e w' => e = .returned (.bool (la == lb)) ∧ Below w.heap.size w w' := by
  obtain ⟨a, c, rfl, hac, hcm⟩ := hA.shape
  obtain ⟨a', c', rfl, hac', hcm'⟩ := hB.shape
  unfold maxLen at hcm hcm'
  have HA := Lib.hid hA
  have HB := Lib.hid hB
  clear hA hB
  by_cases hlen : la.length = lb.length
  · generalize hn : la.length = n at *
    have Hn := Lib.hid hn
    have Hm : Hid (lb.length = n) := hlen.symm
    rw [← hlen] at hac' HB ⊢
    clear hn hlen
    go_enter Tryz.func26, Tryz.ntmps26
    go_wp2
    go_loopw [5] (fun i wr => ∃ k : Nat, k ≤ n ∧ i = .int .i64 k ∧ Hid ((la.take k == lb.take k) = true) ∧ Below w.heap.size w wr) (fun i _ => n - (intOf i).toNat)
    case atStart => exact ⟨0, Nat.zero_le _, rfl, rfl, Below.refl _ _⟩
    case round =>
      obtain ⟨k, hk, rfl, HC, hW⟩ := hrel
      by_cases h1 : k < n
      · obtain ⟨b, off, rfl, hb, q1⟩ := HA.out.at k (by rw [Hn.out]; exact h1)
        obtain ⟨b', off', rfl, hb', q2⟩ := HB.out.at k (by rw [Hm.out]; exact h1)
        have p1 := (hW.cell (p := ⟨b, off + k, none⟩) hb).trans q1
        have p2 := (hW.cell (p := ⟨b', off' + k, none⟩) hb').trans q2
        have HC2 := Lib.hid (same_succ la lb k (by rw [Hn.out]; exact h1) (by rw [Hm.out]; exact h1))
        rw [HC.out, Bool.true_and] at HC2
        have HC3 := Lib.hid (same_no la lb k)
        generalize la.getD k [] = x at *
        generalize lb.getD k [] = y at *
        have hc1 := bs_eq_list x y
        have kk1 : (k : Int) < (n : Int) := by omega
        clear q1 q2
        cases hxy : (x == y)
        all_goals
          rw [hxy] at hc1 HC2 HC3
          clear hxy
          generalize bs x = X at *
          generalize bs y = Y at *
        · have hc4 : (X.toList != Y.toList) = true := by rw [bne, hc1]; rfl
          go_wp2
          try (go_quiet (fail); go_wp2)
          go_ret
          exact ⟨by rw [(by first | exact HC3.out rfl | exact HC3.out trivial : (la == lb) = false)]; rfl, below_drewN0 hW _⟩
        · have hc4 : (X.toList != Y.toList) = false := by rw [bne, hc1]; rfl
          go_wp2
          try (go_quiet (fail); go_wp2)
          go_roundw
          case rel => exact ⟨k + 1, by omega, by go_num, HC2, below_drewN0 hW _⟩
          case measure => simp [intOf]; omega
      · obtain rfl : k = n := by omega
        have HR : Hid ((la == lb) = true) := by
          have := HC.out
          rw [List.take_of_length_le (by rw [Hn.out]; exact Nat.le_refl _), List.take_of_length_le (by rw [Hm.out]; exact Nat.le_refl _)] at this
          exact this
        go_wp2
        go_ret
        exact ⟨by rw [HR.out]; rfl, hW⟩
  · have HR : Hid ((la == lb) = false) := by
      show _ = _
      rw [beq_eq_false_iff_ne]
      intro e
      exact hlen (congrArg List.length e)
    generalize la.length = n at *
    generalize lb.length = m at *
    have hne : ¬ ((n : Int) = (m : Int)) := by omega
    go_enter Tryz.func26, Tryz.ntmps26
    go_wp2
    go_ret
    exact ⟨by rw [HR.out]; rfl, Below.refl _ _⟩
theorem digB_succ (l : List Bytes) (k : Nat) (h : k < l.length) : digB (l.take (k + 1)) = (digB (l.take k) && decide ((l.getD k []).length = 32)) := by
  rw [take_getD l [] k h]
  unfold digB
  rw [List.all_append]
  simp
theorem digB_no (l : List Bytes) (k : Nat) (h : k < l.length) (hne : ¬ (l.getD k []).length = 32) : digB l = false := by
  unfold digB
  rw [List.all_eq_false]
  exact ⟨_, getD_mem' l [] k h, by simpa using hne⟩
end Go.Proofs.YteicimmdcdjagaaGreatDoor
