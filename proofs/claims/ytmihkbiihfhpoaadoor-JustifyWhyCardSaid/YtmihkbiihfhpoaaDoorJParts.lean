/- justify.parts yields the parts of a set. -/
import Derived.Test.YtmihkbiihfhpoaaDoorJWhy
import Derived.RangeFuncNested
import Derived.RangeFuncBound
import Derived.RangeFuncCalls
import Derived.RangeFuncLeaves
import Derived.Shelf.AbstractIn
import Derived.Shelf.RegionOpen
import Derived.OwnWalkIn
import Derived.TacticsInMore
import Derived.LoopNIn
import Derived.LoopIn
namespace Go.Proofs.YtmihkbiihfhpoaaDoor
open Go.RowKit Go.Shelf
attribute [local go_sem] Oper.semAt_some

theorem parts_any (s : Int) (w : World) :
    Calls Tryd.prog 69 #[.int .i64 s] w fun e w' => e = .returned (.func (.func 73) #[] #[.pointer (some ⟨w.heap.size, 0, none⟩)]) ∧ w' = w.alloc (.cells #[.int .i64 s] 3) := by
  go_enter Tryd.func69, Tryd.ntmps69
  go_wp2
  go_ret
  exact ⟨rfl, rfl⟩
/-- Sets, as numbers that are not too great. -/
abbrev N32 := { x : Nat // x < 4294967296 }
def partOf (s : N32) (i : Nat) : N32 := ⟨sdiff s.1 (2 ^ i), Nat.lt_of_le_of_lt (sdiff_le _ _) s.2⟩
def partsL (s : N32) : List N32 := (bitsN s.1).map (partOf s)
theorem low_bits (x : Nat) (h0 : x ≠ 0) (h : x < 4294967296) : bits .and .i64 (x : Int) (-(x : Int)) = ((2 ^ Lib.ctz 64 x : Nat) : Int) ∧ 2 ^ Lib.ctz 64 x ≤ x := by
  obtain ⟨h1, h2⟩ := Lib.lowest_bit 64 x h0 (by omega)
  have hle : 2 ^ Lib.ctz 64 x ≤ x := by rw [← h1]; exact Nat.and_le_left
  refine ⟨?_, hle⟩
  show IntKind.i64.wrap ((BitVec.ofInt 64 (x : Int) &&& BitVec.ofInt 64 (-(x : Int))).toNat : Int) = _
  rw [BitVec.toNat_and, BitVec.toNat_ofInt, BitVec.toNat_ofInt, show ((x : Int) % ((2 ^ 64 : Nat) : Int)).toNat = x from by omega, show ((-(x : Int)) % ((2 ^ 64 : Nat) : Int)).toNat = 2 ^ 64 - x from by omega, h1, IntKind.wrap_i64]
  omega
theorem bitsN_ne {x : Nat} (h0 : x ≠ 0) : ((x : Int) != 0) = true := by simp; omega

set_option maxRecDepth 100000 in
set_option maxHeartbeats 400000 in
theorem parts1_seq (n Bz n₀ : Nat) (s : N32) (w : World) (hb : w.cell? ⟨Bz, 0, none⟩ = some (.int .i64 s.1)) (hz : Bz < n₀) (hn : n₀ ≤ w.heap.size) :
    SeqStopsK Fence.wide n Tryd.prog 73 #[.pointer (some ⟨Bz, 0, none⟩)] (fun x : N32 => #[.int .i64 (x.1 : Int)]) (Below n₀) (fun xs => xs = partsL s) (fun pre => pre <+: partsL s) 33 w := by
  intro l J Jx W hW _ _ hY h0
  have hb1 : W.cell? ⟨Bz, 0, none⟩ = some (.int .i64 s.1) := (hW.cell (p := ⟨Bz, 0, none⟩) (Nat.lt_of_lt_of_le hz hn)).trans hb
  have HY := Lib.hid hY
  have hs := s.2
  clear hY hb hW
  refine callsIn_of_wp Tryd.func73 rfl trivial ?_
  simp only [Tryd.ntmps73, List.size_toArray, List.length_cons, List.length_nil, Nat.reduceAdd, Nat.reduceSub, Array.replicate_succ, Array.replicate_zero, List.push_toArray, List.append_toArray, List.nil_append, List.cons_append]
  gi_wp2
  gi_loopw [3] (fun u wr => ∃ (pre : List N32) (x : Nat), u = .int .i64 x ∧ Hid (partsL s = pre ++ (bitsN x).map (partOf s)) ∧ x < 4294967296 ∧ wr.cell? ⟨Bz, 0, none⟩ = some (.int .i64 s.1) ∧ J pre wr) (fun u _ => (intOf u).toNat)
  case atStart => exact ⟨[], s.1, rfl, Lib.hid rfl, hs, hb1, h0⟩
  case round =>
    obtain ⟨pre, x, rfl, hg, hx, hcell, hJ⟩ := hrel
    by_cases hx0 : x = 0
    · subst hx0
      gi_wp2
      go_end0
      exact ⟨⟨_, rfl⟩, .inl ⟨pre, by rw [hg.out, bitsN_zero]; simp, hJ⟩⟩
    · have hlow := bitsN_low x hx0 hx
      have hL := low_bits x hx0 hx
      have hlen : pre.length < 33 := by
        have h1 := bitsN_length s.1
        have h2 := congrArg List.length hg.out
        rw [partsL, List.length_map, List.length_append] at h2
        omega
      obtain ⟨fn, tmps, assign, body, hyi, hR⟩ := HY.out pre (partOf s (Lib.ctz 64 x)) wr hJ hlen
      try dsimp only at hyi
      have hand := hL.1
      have hnot := i64_andNot s.1 (2 ^ Lib.ctz 64 x) (by omega)
      have hne := bitsN_ne hx0
      have hoff := Lib.hid (lowOff_bits x hx0 hx)
      have hoff' := hoff.out
      have hlt := lowOff_lt x hx0
      have HL := Lib.hid hlow
      have hple := hL.2
      rw [show ((partOf s (Lib.ctz 64 x)).1 : Int) = ((sdiff s.1 (2 ^ Lib.ctz 64 x) : Nat) : Int) from rfl] at hyi
      have HP : Hid ((partOf s (Lib.ctz 64 x)).1 = sdiff s.1 (2 ^ Lib.ctz 64 x)) := rfl
      generalize hpo : partOf s (Lib.ctz 64 x) = po at *
      have HPo := Lib.hid hpo
      clear hL hlow hpo
      generalize hpw : 2 ^ Lib.ctz 64 x = pw at *
      clear hpw
      gi_wp2
      refine ⟨(fun h => by cases h), hR.mono ?_⟩
      rintro e W3 (⟨rfl, hJ3, hk3⟩ | ⟨rfl, hJx3⟩)
      · have hc3 : W3.cell? ⟨Bz, 0, none⟩ = some (.int .i64 s.1) := (hk3.cell (p := ⟨Bz, 0, none⟩) hz).trans hcell
        gi_wp2
        go_roundw
        case rel => exact ⟨pre ++ [po], lowOff x, rfl, Lib.hid (by rw [hg.out, HL.out, List.map_cons, HPo.out, List.append_assoc]; rfl), by omega, hc3, hJ3⟩
        case measure => simp [intOf]; omega
      · gi_wp2
        refine bodyPost_ret (results_none rfl _ _ _) rfl ?_
        exact ⟨⟨_, rfl⟩, .inr ⟨pre ++ [po], ⟨(bitsN (lowOff x)).map (partOf s), by rw [hg.out, HL.out, List.map_cons, HPo.out]; simp⟩, hJx3⟩⟩
end Go.Proofs.YtmihkbiihfhpoaaDoor
