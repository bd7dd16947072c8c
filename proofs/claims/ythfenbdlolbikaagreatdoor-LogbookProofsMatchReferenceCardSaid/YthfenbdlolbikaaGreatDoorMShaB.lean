import Derived.Test.YthfenbdlolbikaaGreatDoorMShaA
import Derived.RangeFuncNested
import Derived.RangeFuncBound
import Derived.RangeFuncCalls
import Derived.RangeFuncLeaves
import Derived.RangeFuncBox
import Derived.Shelf.RegionOpen
import Derived.OwnWalkIn
import Derived.TacticsInMore
import Derived.LoopNIn
import Derived.LoopIn
set_option linter.unusedVariables false
set_option linter.unusedSimpArgs false

section
/- slices.Chunk at []byte: its iterator yields pieces of 64 bytes. -/
namespace Go.Proofs.YthfenbdlolbikaaGreatDoor
open Go.RowKit Go.Shelf
attribute [local go_sem] Oper.semAt_some

theorem chunk_any (gb L C : Nat) (w : World) :
    Calls Tryz.prog 100 #[.slice (some ⟨gb, 0, none⟩) L C, .int .i64 64] w fun e w' => e = .returned (.func (.func 114) #[] #[.pointer (some ⟨w.heap.size, 0, none⟩), .pointer (some ⟨w.heap.size + 1, 0, none⟩)]) ∧ w' = (w.alloc (.cells #[.slice (some ⟨gb, 0, none⟩) L C] 68)).alloc (.cells #[.int .i64 64] 3) := by
  go_enter Tryz.func100, Tryz.ntmps100
  go_wp2
  go_ret
  exact ⟨rfl, rfl⟩

/-- The first numbers below m. -/
def upTo (m i : Nat) : List (Fin m) := (List.range i).filterMap fun k => if h : k < m then some ⟨k, h⟩ else none
theorem upTo_succ (m i : Nat) (h : i < m) : upTo m (i + 1) = upTo m i ++ [⟨i, h⟩] := by
  unfold upTo
  rw [List.range_succ, List.filterMap_append]
  simp [h]
theorem upTo_length (m : Nat) : ∀ i, i ≤ m → (upTo m i).length = i
  | 0, _ => rfl
  | i + 1, h => by rw [upTo_succ m i h, List.length_append, upTo_length m i (by omega)]; rfl
set_option maxRecDepth 100000 in
set_option maxHeartbeats 400000 in
theorem chunk1_seq (n Bs Bn gb m C : Nat) (Kp : World → World → Prop) (w : World) (hs : Boxed w Bs 68 (.slice (some ⟨gb, 0, none⟩) (64 * m) C)) (hn : Boxed w Bn 3 (.int .i64 64))
    (hC : 64 * m ≤ C) (hCm : C ≤ maxLen) (hKs : ∀ A B, Kp A B → B.heap[Bs]? = A.heap[Bs]?) (hKn : ∀ A B, Kp A B → B.heap[Bn]? = A.heap[Bn]?) :
    SeqStopsK Fence.wide n Tryz.prog 114 #[.pointer (some ⟨Bs, 0, none⟩), .pointer (some ⟨Bn, 0, none⟩)] (fun i : Fin m => #[.slice (some ⟨gb, 64 * i.1, none⟩) 64 64]) Kp (fun xs => xs = upTo m m) (fun _ => True) m w := by
  intro l J Jx W hW hJ _ hY h0
  have hs1 : Boxed W Bs 68 (.slice (some ⟨gb, 0, none⟩) (64 * m) C) := (hW.block _ hs.lt).trans hs
  have hn1 : Boxed W Bn 3 (.int .i64 64) := (hW.block _ hn.lt).trans hn
  have HY := Lib.hid hY
  have HJ := Lib.hid hJ
  have HKs := Lib.hid hKs
  have HKn := Lib.hid hKn
  unfold maxLen at hCm
  clear hY hJ hs hn hW hKs hKn
  refine callsIn_of_wp Tryz.func114 rfl trivial ?_
  simp only [Tryz.ntmps114, List.size_toArray, List.length_cons, List.length_nil, Nat.reduceAdd, Nat.reduceSub, Array.replicate_succ, Array.replicate_zero, List.push_toArray, List.append_toArray, List.nil_append, List.cons_append]
  gi_wp2
  gi_loopw [4] (fun u wr => ∃ i : Nat, i ≤ m ∧ u = .int .i64 ((64 * i : Nat) : Int) ∧ Boxed wr Bs 68 (.slice (some ⟨gb, 0, none⟩) (64 * m) C) ∧ Boxed wr Bn 3 (.int .i64 64) ∧ J (upTo m i) wr) (fun u _ => 64 * m - (intOf u).toNat)
  case atStart => exact ⟨0, Nat.zero_le _, rfl, hs1, hn1, h0⟩
  case round =>
    obtain ⟨i, hi, rfl, hs2, hn2, hJ2⟩ := hrel
    have HS2 := Lib.hid hs2
    have HN2 := Lib.hid hn2
    have cs := hs2.cell
    have cn := hn2.cell
    clear hs2 hn2
    by_cases hlt : i < m
    · obtain ⟨fn, tmps, assign, body, hyi, hR⟩ := HY.out (upTo m i) ⟨i, hlt⟩ wr.drew (by have := HJ.out _ _ wr.drew none hJ2 ⟨rfl, rfl, rfl, Nat.le_refl _, fun _ _ _ => rfl⟩ (fun r h => by cases h); exact this) (by rw [upTo_length m i (by omega)]; exact hlt)
      try dsimp only at hyi
      have hii : ((64 * i : Nat) : Int) < ((64 * m : Nat) : Int) := by omega
      have h64 : ((64 * m : Nat) : Int) - ((64 * i : Nat) : Int) ≥ 64 := by omega
      gi_wp2
      gi_region
      all_goals
        have e1 : 64 * i + 64 ≤ 64 * m := by omega
        have cs' : wr.drew.cell? ⟨Bs, 0, none⟩ = some (.slice (some ⟨gb, 0, none⟩) (64 * m) C) := cs
        have HRg := Lib.hid (upTo_succ m i hlt)
        gi_wp2
        refine ⟨(fun h => by cases h), hR.mono ?_⟩
        rintro e W3 (⟨rfl, hJ3, hk3⟩ | ⟨rfl, hJx3⟩)
        · have hs3 : Boxed W3 Bs 68 (.slice (some ⟨gb, 0, none⟩) (64 * m) C) := (HKs.out _ _ hk3).trans HS2.out
          have hn3 : Boxed W3 Bn 3 (.int .i64 64) := (HKn.out _ _ hk3).trans HN2.out
          have HS3 := Lib.hid hs3
          have HN3 := Lib.hid hn3
          have cn3 := hn3.cell
          clear hs3 hn3 cs cs' cn
          gi_wp2
          go_roundw
          case rel => exact ⟨i + 1, by omega, congrArg (Value.int .i64) (by omega), HS3.out, HN3.out, by rw [HRg.out]; exact hJ3⟩
          case measure => simp [intOf]; omega
        · gi_wp2
          refine bodyPost_ret (results_none rfl _ _ _) rfl ?_
          exact ⟨⟨_, rfl⟩, .inr ⟨_, trivial, hJx3⟩⟩
    · obtain rfl : i = m := by omega
      gi_wp2
      go_end0
      exact ⟨⟨_, rfl⟩, .inl ⟨_, rfl, hJ2⟩⟩
end Go.Proofs.YthfenbdlolbikaaGreatDoor
end
