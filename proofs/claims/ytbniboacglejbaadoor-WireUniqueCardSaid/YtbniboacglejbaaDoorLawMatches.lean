/- WireMatchesReference returns true. -/
import Derived.Test.YtbniboacglejbaaDoorSane1
import Derived.Test.YtbniboacglejbaaDoorRefInt
import Derived.Test.YtbniboacglejbaaDoorRefSum
import Derived.WalkLawsBesides
import Derived.Deep.QuietTactic
import Derived.BigQuiet
import Derived.WalkSmall
namespace Go.Proofs.YtbniboacglejbaaDoor
open Go.RowKit Go.Shelf

theorem intAt_form (l : List UInt8) (a : Int) : ∃ x y z : Int, intAt l a = .tuple #[.int .i64 x, .int .i64 y, .int .i64 z] := by
  unfold intAt intV tup3
  split
  · exact ⟨_, _, _, rfl⟩
  · split <;> exact ⟨_, _, _, rfl⟩
theorem strAt_form (l : List UInt8) (a : Int) : ∃ (x : List UInt8) (y z : Int), strAt l a = .tuple #[strV x, .int .i64 y, .int .i64 z] := by
  unfold strAt
  split
  · exact ⟨_, _, _, rfl⟩
  · split <;> exact ⟨_, _, _, rfl⟩
theorem two_cells {W wr : World} {a b : Int} {t : TypeId} (h : Below (W.heap.size + 1) (W.alloc (.cells #[.int .i64 a, .int .i64 b] t)) wr) (j : Nat) (hj : j < 2) : ∃ x : Int, (x = a ∨ x = b) ∧ wr.cell? ⟨W.heap.size, j, none⟩ = some (.int .i64 x) := by
  rw [h.cell (p := ⟨W.heap.size, j, none⟩) (by show W.heap.size < _; omega)]
  match j, hj with
  | 0, _ => exact ⟨a, .inl rfl, cell_alloc_at W _ _ 0 _ rfl⟩
  | 1, _ => exact ⟨b, .inr rfl, cell_alloc_at W _ _ 1 _ rfl⟩

set_option maxRecDepth 100000 in
set_option maxHeartbeats 2000000 in
theorem matches_any (n : Int) (s : ByteArray) (at' : Int) (w : World) (hn1 : -9223372036854775808 ≤ n) (hn2 : n ≤ 9223372036854775807) (hs : s.size ≤ maxLen) (ha1 : -9223372036854775808 ≤ at') (ha2 : at' ≤ 9223372036854775807) (hn : Nibs w) (hz : 0 < w.heap.size) :
    Calls Tryd.prog 3 #[.int .i64 n, .string s, .int .i64 at'] w fun e w' => e = .returned (.bool true) ∧ Below w.heap.size w w' := by
  have HN := Lib.hid hn
  clear hn
  unfold maxLen at hs
  obtain ⟨m, hm⟩ : ∃ m : Nat, (m : Int) = if (300 : Int) < (s.size : Int) then 300 else (s.size : Int) := ⟨min 300 s.size, by split <;> omega⟩
  have hm1 : m ≤ s.size := by split at hm <;> omega
  have hm2 : m ≤ 300 := by split at hm <;> omega
  have hm' := hm.symm
  clear hm
  generalize hf : s.extract 0 m = few
  have hfs : few.size ≤ 300 := by rw [← hf, ByteArray.size_extract]; omega
  have hfm : few.size ≤ maxLen := by unfold maxLen; omega
  go_enter Tryd.func3, Tryd.ntmps3
  go_wp2_with (go_at_call 10; refine (sane_any _ HN.out hz).mono ?_; rintro e w1 ⟨rfl, hb1⟩)
  refine (number_any _ _ hn1 hn2).mono ?_
  rintro e w2 ⟨rfl, hb2⟩
  have hB2 : Below w.heap.size w w2 := hb1.trans (hb2.mono hb1.size)
  have hz2 := hB2.size
  go_wp2
  go_loopw [44] (fun i wr => ∃ j : Nat, j ≤ 2 ∧ i = .int .i64 j ∧ Below (w2.heap.size + 1) (w2.alloc (.cells #[.int .i64 n, .int .i64 (numF n)] 3)) wr) (fun i _ => 2 - (intOf i).toNat)
  case atStart => exact ⟨0, by omega, rfl, Below.refl _ _⟩
  case round =>
    obtain ⟨j, hj, rfl, hB⟩ := hrel
    have hsz := hB.size
    rw [World.size_alloc] at hsz
    by_cases hlt : j < 2
    · obtain ⟨x, _, hx⟩ := two_cells hB j hlt
      go_wp2_with (first | (go_at_call 12; refine (putInt_any _ _).mono ?_; rintro e wa ⟨rfl, hba⟩) | (go_at_call 13; refine (refPutInt_any _ _).mono ?_; rintro e wb ⟨rfl, hbb⟩))
      exact ⟨⟨j + 1, by omega, by go_num, (hB.trans (hba.mono hsz)).trans (hbb.mono (Nat.le_trans hsz hba.size))⟩, by simp [intOf]; omega⟩
    · obtain rfl : j = 2 := by omega
      have hB3 : Below w.heap.size w wr := (hB2.alloc hz2 _).trans (hB.mono (by omega))
      clear hB hlt hj
      obtain ⟨wo, rfl⟩ : ∃ wo : World, wo = wr := ⟨_, rfl⟩
      have hz3 := hB3.size
      go_wp2_with (go_at_call 14; refine (pick_any _ _ _ ha1 ha2 (by omega) (by omega)).mono ?_; rintro e w' ⟨rfl, rfl⟩)
      go_loopw [75] (fun i wr => ∃ j : Nat, j ≤ 2 ∧ i = .int .i64 j ∧ Below (wo.heap.size + 1) (wo.alloc (.cells #[.int .i64 at', .int .i64 (pickZ at' ((few.size : Int) + 2))] 3)) wr) (fun i _ => 2 - (intOf i).toNat)
      case atStart => exact ⟨0, by omega, rfl, Below.refl _ _⟩
      case round =>
        obtain ⟨j, hj, rfl, hB⟩ := hrel
        have hsz := hB.size
        rw [World.size_alloc] at hsz
        by_cases hlt : j < 2
        · obtain ⟨x, _, hx⟩ := two_cells hB j hlt
          obtain ⟨x1, x2, x3, hI⟩ := intAt_form few.data.toList x
          obtain ⟨y1, y2, y3, hS⟩ := strAt_form few.data.toList x
          have HI := Lib.hid hI
          have HS := Lib.hid hS
          clear hI hS
          go_wp2_with (first | (go_at_call 15; refine (int_any _ _ _ hfm).mono ?_; rintro e w' ⟨rfl, rfl⟩; rw [HI.out]) | (go_at_call 16; refine (refInt_any _ _ _ hfm).mono ?_; rintro e wa ⟨rfl, hba⟩; rw [HI.out]) | (go_at_call 17; refine (string_any _ _ _ hfm).mono ?_; rintro e w' ⟨rfl, rfl⟩; rw [HS.out]) | (go_at_call 18; refine (refString_any _ _ _ hfm).mono ?_; rintro e wb ⟨rfl, hbb⟩; rw [HS.out]))
          exact ⟨⟨j + 1, by omega, by go_num, (hB.trans (hba.mono hsz)).trans (hbb.mono (Nat.le_trans hsz hba.size))⟩, by simp [intOf]; omega⟩
        · obtain rfl : j = 2 := by omega
          have hB4 : Below w.heap.size w wr := (hB3.alloc hz3 _).trans (hB.mono (by omega))
          clear hB hlt hj
          go_wp2_with (first | (go_at_call 19; refine (putString_any _ _ hfm).mono ?_; rintro e wa ⟨rfl, hba⟩) | (go_at_call 20; refine (refPutString_any _ _ hfm).mono ?_; rintro e wb ⟨rfl, hbb⟩; have hB5 : Below w.heap.size w wb := (hB4.trans (hba.mono hB4.size)).trans (hbb.mono (Nat.le_trans hB4.size hba.size))) | (go_at_call 21; refine (sum_any _ _ hfm (HN.out.below hB5 hz)).mono ?_; rintro e w' ⟨rfl, rfl⟩) | (go_at_call 22; refine (refSum_any _ _ hfm).mono ?_; rintro e w' ⟨rfl, rfl⟩))
          go_ret
          exact ⟨by simp, hB5⟩
end Go.Proofs.YtbniboacglejbaaDoor
