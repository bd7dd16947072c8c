/- WireRoundTrip returns true. -/
import Derived.Test.YtbniboacglejbaaDoorSane1
import Derived.Test.YtbniboacglejbaaDoorStrLaws
import Derived.Test.YtbniboacglejbaaDoorSmall
import Derived.WalkLawsBesides
import Derived.Deep.Light
namespace Go.Proofs.YtbniboacglejbaaDoor
open Go.RowKit Go.Shelf

set_option maxRecDepth 100000 in
set_option maxHeartbeats 2000000 in
theorem round_any (c : Int) (s p0 q0 : ByteArray) (w : World) (hc1 : -9223372036854775808 ≤ c) (hc2 : c ≤ 9223372036854775807) (_ : s.size ≤ maxLen) (_ : p0.size ≤ maxLen) (_ : q0.size ≤ maxLen) (hn : Nibs w) (hz : 0 < w.heap.size) :
    Calls Tryd.prog 4 #[.int .i64 c, .string s, .agg #[.string p0, .string q0]] w fun e w' => e = .returned (.bool true) ∧ Below w.heap.size w w' := by
  have HN := Lib.hid hn
  clear hn
  obtain ⟨ms, ems, hms1, hms2⟩ := cut_at s 200 (by omega)
  obtain ⟨mp, emp, hmp1, hmp2⟩ := cut_at p0 200 (by omega)
  obtain ⟨mq, emq, hmq1, hmq2⟩ := cut_at q0 200 (by omega)
  generalize hft : s.extract 0 ms = t
  generalize hfp : p0.extract 0 mp = p
  generalize hfq : q0.extract 0 mq = q
  have st : t.size ≤ 200 := by rw [← hft, ByteArray.size_extract]; omega
  have sp : p.size ≤ 200 := by rw [← hfp, ByteArray.size_extract]; omega
  have sq : q.size ≤ 200 := by rw [← hfq, ByteArray.size_extract]; omega
  have hnb := numF_bd c
  have HI : Hid (putInt (numF c) = (enc (zz (numF c)), 0)) := putInt_ok _ hnb.1 hnb.2
  have HS : Hid (putStr t.data.toList = (encS t.data.toList, 0)) := putStr_ok _ (by rw [bsize]; omega)
  have sa := enc_length (zz (numF c))
  have sb : (encS t.data.toList).length ≤ 210 := by rw [encS, List.length_append, bsize]; have := enc_length (zz t.size); omega
  have H1 : Hid (intAt (p ++ ⟨(enc (zz (numF c))).toArray⟩ ++ q).data.toList p.size = tup3 (numF c) (p.size + (enc (zz (numF c))).length : Nat) 0) := by
    show _ = _
    rw [toList_append, toList_append, ← bsize p]
    exact intAt_mid _ _ _ hnb.1 hnb.2
  have H2 : Hid (strAt (p ++ ⟨(encS t.data.toList).toArray⟩ ++ q).data.toList p.size = .tuple #[strV t.data.toList, .int .i64 ((p.size : Int) + (encS t.data.toList).length), .int .i64 0]) := by
    show _ = _
    rw [toList_append, toList_append, ← bsize p]
    exact strAt_mid _ _ _ (by rw [bsize]; omega)
  generalize hnf : numF c = n at *
  have HNF := Lib.hid hnf
  clear hnf
  generalize ha : enc (zz n) = a at *
  generalize hb : encS t.data.toList = b at *
  clear ha hb hnb
  have hw := fun o => HN.out.below ((Below.refl w.heap.size w).alloc (Nat.le_refl _) o) hz
  have HW := Lib.hid hw
  clear hw
  go_enter Tryd.func4, Tryd.ntmps4
  go_wp2_with (go_at_call 10; refine (sane_any _ (HW.out _) (by simp)).mono ?_; rintro e w1 ⟨rfl, hb1⟩)
  have hz1 := hb1.size
  rw [World.size_alloc] at hz1
  refine (number_any _ _ hc1 hc2).mono ?_
  rintro e w2 ⟨rfl, hb2⟩
  rw [HNF.out]
  have hB2 : Below (w.heap.size + 1) (w.alloc (.cells #[.string p0, .string q0] 36)) w2 := (show Below (w.heap.size + 1) (w.alloc (.cells #[.string p0, .string q0] 36)) w1 by rw [← World.size_alloc]; exact hb1).trans (hb2.mono hz1)
  have hz2 := hB2.size
  rw [World.size_alloc] at hz2
  have c0 : w2.cell? ⟨w.heap.size, 0, none⟩ = some (.string p0) := (hB2.cell (p := ⟨w.heap.size, 0, none⟩) (by show w.heap.size < _; omega)).trans (cell_alloc_at w _ _ 0 _ rfl)
  have c1 : w2.cell? ⟨w.heap.size, 1, none⟩ = some (.string q0) := (hB2.cell (p := ⟨w.heap.size, 1, none⟩) (by show w.heap.size < _; omega)).trans (cell_alloc_at w _ _ 1 _ rfl)
  go_wp2_with fail
  refine (putInt_any _ _).mono ?_
  rintro e w3 ⟨rfl, hb3⟩
  rw [HI.out]
  go_wp2_with fail
  refine (putString_any _ _ (by unfold maxLen; omega)).mono ?_
  rintro e w4 ⟨rfl, hb4⟩
  rw [HS.out]
  go_wp2_with fail
  refine (int_any _ _ _ (by rw [ByteArray.size_append, ByteArray.size_append]; have := size_lit a; unfold maxLen; omega)).mono ?_
  rintro e w' ⟨rfl, rfl⟩
  rw [H1.out, tup3]
  go_wp2_with fail
  refine (string_any _ _ _ (by rw [ByteArray.size_append, ByteArray.size_append]; have := size_lit b; unfold maxLen; omega)).mono ?_
  rintro e w' ⟨rfl, rfl⟩
  rw [H2.out]
  go_wp2
  go_ret
  refine ⟨?_, ?_⟩
  · go_light
    simp
  · exact (((Below.refl w.heap.size w).alloc (Nat.le_refl _) _).trans (hB2.mono (by omega))).trans ((hb3.mono (by omega)).trans (hb4.mono (by have := hb3.size; omega)))
end Go.Proofs.YtbniboacglejbaaDoor
