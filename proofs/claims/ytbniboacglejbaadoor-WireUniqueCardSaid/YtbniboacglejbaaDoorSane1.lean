/- The examples of the statements on wire hold. -/
import Derived.Test.YtbniboacglejbaaDoorLaw1
namespace Go.Proofs.YtbniboacglejbaaDoor
open Go.RowKit Go.Shelf

theorem isTup3 (n m e : Int) : tup3 n m e = .tuple #[.int .i64 n, .int .i64 m, .int .i64 e] := rfl
set_option maxRecDepth 100000 in
set_option maxHeartbeats 1000000 in
theorem sane_any (w : World) (hn : Nibs w) (hz : 0 < w.heap.size) :
    Calls Tryd.prog 10 #[] w fun e w' => e = .returned (.bool true) ∧ Below w.heap.size w w' := by
  have HN := Lib.hid hn
  clear hn
  go_enter Tryd.func10, Tryd.ntmps10
  go_wp2_with fail
  refine (putInt_any _ _).mono ?_
  rintro e w1 ⟨rfl, hb1⟩
  rw [sane1]
  go_wp2_with fail
  refine (putInt_any _ _).mono ?_
  rintro e w2 ⟨rfl, hb2⟩
  rw [sane2]
  go_wp2_with fail
  refine (int_any _ _ _ (by decide)).mono ?_
  rintro e w' ⟨rfl, rfl⟩
  rw [show intAt _ _ = _ from sane3, isTup3]
  go_wp2_with fail
  refine (int_any _ _ _ (by decide)).mono ?_
  rintro e w' ⟨rfl, rfl⟩
  rw [show intAt _ _ = _ from sane4, isTup3]
  go_wp2_with fail
  refine (putString_any _ _ (by decide)).mono ?_
  rintro e w3 ⟨rfl, hb3⟩
  rw [show putStr _ = _ from sane5]
  go_wp2_with fail
  refine (string_any _ _ _ (by decide)).mono ?_
  rintro e w' ⟨rfl, rfl⟩
  rw [show strAt _ _ = _ from sane6]
  go_wp2_with fail
  refine (string_any _ _ _ (by decide)).mono ?_
  rintro e w' ⟨rfl, rfl⟩
  rw [show strAt _ _ = _ from sane7]
  go_wp2_with fail
  refine (putInt_any _ _).mono ?_
  rintro e w4 ⟨rfl, hb4⟩
  rw [sane8]
  go_wp2_with fail
  refine (int_any _ _ _ (by decide)).mono ?_
  rintro e w' ⟨rfl, rfl⟩
  rw [show intAt _ _ = _ from sane9, isTup3]
  have hB : Below w.heap.size w w4 := ((hb1.trans (hb2.mono hb1.size)).trans (hb3.mono (Nat.le_trans hb1.size hb2.size))).trans (hb4.mono (Nat.le_trans (Nat.le_trans hb1.size hb2.size) hb3.size))
  go_wp2_with fail
  refine (sum_any _ _ (by decide) (HN.out.below hB hz)).mono ?_
  rintro e w' ⟨rfl, rfl⟩
  rw [show w32 (crc _) = _ from sane10]
  go_wp2
  go_ret
  exact ⟨rfl, hB⟩
end Go.Proofs.YtbniboacglejbaaDoor
