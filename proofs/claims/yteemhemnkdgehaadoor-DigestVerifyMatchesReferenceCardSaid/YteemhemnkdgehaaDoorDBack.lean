/- slices.Backward at []string: its iterator yields the elements, the last one first. -/
import Derived.Test.YteemhemnkdgehaaDoorDNode
namespace Go.Proofs.YteemhemnkdgehaaDoor
open Go.RowKit Go.Shelf
attribute [local go_sem] Oper.semAt_some

/-- The first k numbers below m, the greatest first. -/
def dn (m k : Nat) : List (Fin m) := (List.range k).filterMap fun j => if h : j < m then some ⟨m - 1 - j, by omega⟩ else none
theorem dn_succ (m k : Nat) (h : k < m) : dn m (k + 1) = dn m k ++ [⟨m - 1 - k, by omega⟩] := by
  unfold dn
  rw [List.range_succ, List.filterMap_append]
  simp [h]
theorem dn_length (m : Nat) : ∀ k, k ≤ m → (dn m k).length = k
  | 0, _ => rfl
  | k + 1, h => by rw [dn_succ m k h, List.length_append, dn_length m k (by omega)]; rfl
theorem back_any (v : Value) (hv : ∃ a n c, v = .slice a n c) (w : World) :
    Calls Tryd.prog 44 #[v] w fun e w' => e = .returned (.func (.func 60) #[] #[.pointer (some ⟨w.heap.size, 0, none⟩)]) ∧ w' = w.alloc (.cells #[v] 22) := by
  obtain ⟨a, n, c, rfl⟩ := hv
  go_enter Tryd.func44, Tryd.ntmps44
  go_wp2
  go_ret
  exact ⟨rfl, rfl⟩

set_option maxRecDepth 100000 in
set_option maxHeartbeats 400000 in
theorem back1_seq (n Bs gb off m C : Nat) (a : Option Addr) (R : Nat → ByteArray) (Kp : World → World → Prop) (w : World) (hs : Boxed w Bs 22 (.slice a m C)) (hm : m ≤ 1099511627776)
    (ha : 0 < m → a = some ⟨gb, off, none⟩) (hc : ∀ i, i < m → w.cell? ⟨gb, off + i, none⟩ = some (.string (R i))) (hKs : ∀ A B, Kp A B → B.heap[Bs]? = A.heap[Bs]?) (hKg : ∀ A B, Kp A B → B.heap[gb]? = A.heap[gb]?) :
    SeqStopsK Fence.wide n Tryd.prog 60 #[.pointer (some ⟨Bs, 0, none⟩)] (fun i : Fin m => #[.int .i64 (i.1 : Int), .string (R i.1)]) Kp (fun xs => xs = dn m m) (fun _ => True) m w := by
  intro l J Jx W hW hJ _ hY h0
  have hs1 : Boxed W Bs 22 (.slice a m C) := (hW.block _ hs.lt).trans hs
  have hc1 : ∀ i, i < m → W.cell? ⟨gb, off + i, none⟩ = some (.string (R i)) := fun i hi => (hW.cell (p := ⟨gb, off + i, none⟩) (World.block_lt_of_cell? w _ (hc i hi))).trans (hc i hi)
  have HY := Lib.hid hY
  have HKs := Lib.hid hKs
  have HKg := Lib.hid hKg
  have HC1 := Lib.hid hc1
  have HA := Lib.hid ha
  clear hY hJ hs hW hKs hKg hc hc1 ha
  refine callsIn_of_wp Tryd.func60 rfl trivial ?_
  simp only [Tryd.ntmps60, List.size_toArray, List.length_cons, List.length_nil, Nat.reduceAdd, Nat.reduceSub, Array.replicate_succ, Array.replicate_zero, List.push_toArray, List.append_toArray, List.nil_append, List.cons_append]
  have cs := hs1.cell
  gi_wp2
  clear cs
  gi_loopw [3] (fun u wr => ∃ i : Nat, i ≤ m ∧ u = .int .i64 ((i : Int) - 1) ∧ Boxed wr Bs 22 (.slice a m C) ∧ (∀ i, i < m → wr.cell? ⟨gb, off + i, none⟩ = some (.string (R i))) ∧ J (dn m (m - i)) wr) (fun u _ => (intOf u + 1).toNat)
  case atStart => exact ⟨m, Nat.le_refl _, rfl, hs1, HC1.out, by rw [Nat.sub_self]; exact h0⟩
  case round =>
    clear HC1 hs1
    obtain ⟨i, hi, rfl, hs2, hc2, hJ2⟩ := hrel
    have HS2 := Lib.hid hs2
    have HC2 := Lib.hid hc2
    have cs := hs2.cell
    clear hs2 hc2
    rcases Nat.eq_zero_or_pos i with hi0 | hi0
    · subst hi0
      gi_wp2
      go_end0
      exact ⟨⟨_, rfl⟩, .inl ⟨_, rfl, hJ2⟩⟩
    · obtain ⟨q, rfl⟩ : ∃ q, i = q + 1 := ⟨i - 1, by omega⟩
      rw [show (((q + 1 : Nat) : Int) - 1) = (q : Int) by omega]
      have hqm : q < m := by omega
      have c1 := HC2.out q hqm
      have haa := HA.out (by omega)
      subst haa
      have hqq : (q : Int) < (m : Int) := by omega
      have HD := Lib.hid (dn_succ m (m - (q + 1)) (by omega))
      rw [show m - (q + 1) + 1 = m - q from by omega] at HD
      have HE : Hid ((⟨m - 1 - (m - (q + 1)), by omega⟩ : Fin m) = ⟨q, hqm⟩) := by show _ = _; exact Fin.ext (by show m - 1 - (m - (q + 1)) = q; omega)
      rw [HE.out] at HD
      obtain ⟨fn, tmps, assign, body, hyi, hR⟩ := HY.out (dn m (m - (q + 1))) ⟨q, hqm⟩ wr hJ2 (by rw [dn_length m _ (by omega)]; omega)
      try dsimp only at hyi
      gi_wp2
      refine ⟨(fun h => by cases h), hR.mono ?_⟩
      rintro e W3 (⟨rfl, hJ3, hk3⟩ | ⟨rfl, hJx3⟩)
      · have hs3 : Boxed W3 Bs 22 (.slice (some ⟨gb, off, none⟩) m C) := (HKs.out _ _ hk3).trans HS2.out
        have hc3 : ∀ i, i < m → W3.cell? ⟨gb, off + i, none⟩ = some (.string (R i)) := fun i hi => by
          have := HC2.out i hi
          simp only [World.cell?] at this ⊢
          rw [HKg.out _ _ hk3]
          exact this
        have HS3 := Lib.hid hs3
        have HC3 := Lib.hid hc3
        clear hs3 hc3 cs c1
        gi_wp2
        go_roundw
        case rel => exact ⟨q, by omega, by go_num, HS3.out, HC3.out, by rw [HD.out]; exact hJ3⟩
        case measure => simp [intOf]
      · gi_wp2
        refine bodyPost_ret (results_none rfl _ _ _) rfl ?_
        exact ⟨⟨_, rfl⟩, .inr ⟨_, trivial, hJx3⟩⟩
end Go.Proofs.YteemhemnkdgehaaDoor
