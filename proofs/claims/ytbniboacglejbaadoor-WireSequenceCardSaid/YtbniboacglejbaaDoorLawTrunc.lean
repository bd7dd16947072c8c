/- WireTruncated returns true. -/
import Derived.Test.YtbniboacglejbaaDoorSane1
import Derived.Test.YtbniboacglejbaaDoorStrLaws
import Derived.Test.YtbniboacglejbaaDoorSmall
import Derived.WalkLawsBesides
import Derived.Lib.Strings
namespace Go.Proofs.YtbniboacglejbaaDoor
open Go.RowKit Go.Shelf

theorem extract_lit (l : List UInt8) (k : Nat) : ((⟨l.toArray⟩ : ByteArray).extract 0 k).data.toList = l.take k := by
  rw [extract_list]
  simp

theorem enc_begin {n m : Int} (h1 : -4611686018427387903 ≤ n) (h2 : n ≤ 4611686018427387903) (h3 : -4611686018427387903 ≤ m) (h4 : m ≤ 4611686018427387903) :
    (decide ((enc (zz n)).length ≤ (enc (zz m)).length) && ((enc (zz m)).take (enc (zz n)).length == enc (zz n))) = (n == m) := by
  by_cases he : n = m
  · rw [he]; simp
  · rw [beq_eq_false_iff_ne.2 he, Bool.and_eq_false_iff]
    refine .inr (beq_eq_false_iff_ne.2 fun h => he ?_)
    have e := List.take_append_drop (enc (zz n)).length (enc (zz m))
    rw [h] at e
    exact enc_inj h1 h2 h3 h4 e.symm

set_option maxRecDepth 100000 in
set_option maxHeartbeats 2000000 in
theorem trunc_any (c d : Int) (s : ByteArray) (at' : Int) (w : World) (hc1 : -9223372036854775808 ≤ c) (hc2 : c ≤ 9223372036854775807) (hd1 : -9223372036854775808 ≤ d) (hd2 : d ≤ 9223372036854775807) (ha1 : -9223372036854775808 ≤ at') (ha2 : at' ≤ 9223372036854775807) (hn : Nibs w) (hz : 0 < w.heap.size) :
    Calls Tryd.prog 7 #[.int .i64 c, .int .i64 d, .string s, .int .i64 at'] w fun e w' => e = .returned (.bool true) ∧ Below w.heap.size w w' := by
  have HN := Lib.hid hn
  clear hn
  obtain ⟨ms, ems, hms1, hms2⟩ := cut_at s 200 (by omega)
  generalize hft : s.extract 0 ms = t
  have st : t.size ≤ 200 := by rw [← hft, ByteArray.size_extract]; omega
  have hnb := numF_bd c
  have hmb := numF_bd d
  have HI : Hid (putInt (numF c) = (enc (zz (numF c)), 0)) := putInt_ok _ hnb.1 hnb.2
  have HJ : Hid (putInt (numF d) = (enc (zz (numF d)), 0)) := putInt_ok _ hmb.1 hmb.2
  have HS : Hid (putStr t.data.toList = (encS t.data.toList, 0)) := putStr_ok _ (by rw [bsize]; omega)
  have sa := enc_length (zz (numF c))
  have sc := enc_length (zz (numF d))
  have pa := enc_pos (zz (numF c))
  have sb : (encS t.data.toList).length ≤ 210 := by rw [encS, List.length_append, bsize]; have := enc_length (zz t.size); omega
  have pb : 0 < (encS t.data.toList).length := by rw [encS, List.length_append]; have := enc_pos (zz t.data.toList.length); omega
  have hk1 := pickZ_bd at' (enc (zz (numF c))).length (by omega)
  have hk2 := pickZ_bd at' (encS t.data.toList).length (by omega)
  generalize hq1 : pickZ at' (enc (zz (numF c))).length = q1 at hk1
  generalize hq2 : pickZ at' (encS t.data.toList).length = q2 at hk2
  obtain ⟨j1, rfl⟩ := Int.eq_ofNat_of_zero_le hk1.1
  obtain ⟨j2, rfl⟩ := Int.eq_ofNat_of_zero_le hk2.1
  have HQ1 := Lib.hid hq1
  have HQ2 := Lib.hid hq2
  clear hq1 hq2
  have H1 : Hid (intAt ((⟨(enc (zz (numF c))).toArray⟩ : ByteArray).extract 0 j1).data.toList 0 = tup3 0 0 10) := by
    show _ = _
    rw [extract_lit]
    exact intAt_none _ 0 (by omega) (by rw [List.drop_zero]; exact dec_short _ hnb.1 hnb.2 _ (by omega))
  have H2 : Hid (strAt ((⟨(encS t.data.toList).toArray⟩ : ByteArray).extract 0 j2).data.toList 0 = .tuple #[strV [], .int .i64 0, .int .i64 10]) := by
    show _ = _
    rw [extract_lit]
    exact strAt_none _ 0 (by omega) (by rw [List.drop_zero]; exact decS_short _ (by rw [bsize]; omega) _ (by omega))
  have HP : Hid ((decide ((enc (zz (numF c))).length ≤ (enc (zz (numF d))).length) && ((enc (zz (numF d))).take (enc (zz (numF c))).length == enc (zz (numF c)))) = (numF c == numF d)) := enc_begin hnb.1 hnb.2 hmb.1 hmb.2
  generalize hnf : numF c = n at *
  generalize hmf : numF d = m at *
  have HNF := Lib.hid hnf
  have HMF := Lib.hid hmf
  clear hnf hmf
  generalize ha : enc (zz n) = a at *
  generalize hc : enc (zz m) = b at *
  generalize hb : encS t.data.toList = x at *
  clear ha hb hc hnb hmb
  have zl1 := size_lit a
  have zl2 := size_lit x
  go_enter Tryd.func7, Tryd.ntmps7
  go_wp2_with (go_at_call 10; refine (sane_any _ HN.out hz).mono ?_; rintro e w1 ⟨rfl, hb1⟩)
  refine (number_any _ _ hc1 hc2).mono ?_
  rintro e w2 ⟨rfl, hb2⟩
  rw [HNF.out]
  go_wp2_with fail
  refine (putInt_any _ _).mono ?_
  rintro e w3 ⟨rfl, hb3⟩
  rw [HI.out]
  go_wp2_with fail
  refine (number_any _ _ hd1 hd2).mono ?_
  rintro e w4 ⟨rfl, hb4⟩
  rw [HMF.out]
  go_wp2_with fail
  refine (putInt_any _ _).mono ?_
  rintro e w5 ⟨rfl, hb5⟩
  rw [HJ.out]
  go_wp2_with fail
  refine (putString_any _ _ (by unfold maxLen; omega)).mono ?_
  rintro e w6 ⟨rfl, hb6⟩
  rw [HS.out]
  have hna : ((a.length : Int) == 0) = false := beq_eq_false_iff_ne.2 (by omega)
  have hnx : ((x.length : Int) == 0) = false := beq_eq_false_iff_ne.2 (by omega)
  go_wp2_with fail
  refine (pick_any _ _ _ ha1 ha2 (by omega) (by omega)).mono ?_
  rintro e w' ⟨rfl, rfl⟩
  rw [HQ1.out]
  go_wp2_with fail
  refine (int_any _ _ _ (by rw [ByteArray.size_extract]; unfold maxLen; omega)).mono ?_
  rintro e w' ⟨rfl, rfl⟩
  rw [H1.out, tup3]
  go_wp2_with fail
  refine (pick_any _ _ _ ha1 ha2 (by omega) (by omega)).mono ?_
  rintro e w' ⟨rfl, rfl⟩
  rw [HQ2.out]
  go_wp2_with fail
  refine (string_any _ _ _ (by rw [ByteArray.size_extract]; unfold maxLen; omega)).mono ?_
  rintro e w' ⟨rfl, rfl⟩
  rw [H2.out]
  have HB : Hid (Below w.heap.size w w6) := by
    have z1 := hb1.size
    have z2 := hb2.size
    have z3 := hb3.size
    have z4 := hb4.size
    have z5 := hb5.size
    exact hb1.trans ((hb2.mono (by omega)).trans ((hb3.mono (by omega)).trans ((hb4.mono (by omega)).trans ((hb5.mono (by omega)).trans (hb6.mono (by omega))))))
  clear hb1 hb2 hb3 hb4 hb5 hb6
  by_cases hl : a.length ≤ b.length
  all_goals
    go_wp2_with fail
    refine (number_any _ _ hc1 hc2).mono ?_
    rintro e w7 ⟨rfl, hb7⟩
    rw [HNF.out]
    go_wp2_with fail
    refine (number_any _ _ hd1 hd2).mono ?_
    rintro e w8 ⟨rfl, hb8⟩
    rw [HMF.out]
    go_wp2
    go_ret
    refine ⟨ret_bool ?_, HB.out.trans ((hb7.mono HB.out.size).trans (hb8.mono (Nat.le_trans HB.out.size hb7.size)))⟩
  · rw [← HP.out]
    have e : ((⟨b.toArray⟩ : ByteArray).extract 0 a.length).toList = b.take a.length := by rw [Lib.toList_data]; exact extract_lit b _
    rw [e]
    simp [hl]
  · rw [← HP.out]
    simp [hl]
end Go.Proofs.YtbniboacglejbaaDoor
