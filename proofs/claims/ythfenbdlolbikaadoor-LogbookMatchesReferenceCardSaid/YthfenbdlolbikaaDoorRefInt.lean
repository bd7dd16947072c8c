/- The reference's Int and String compute the same. -/
import Derived.Test.YthfenbdlolbikaaDoorMRefB
set_option linter.unusedVariables false
set_option linter.unusedSimpArgs false
namespace Go.Proofs.YthfenbdlolbikaaDoor
open Go.RowKit Go.Shelf

theorem add_group (Z g k : Nat) (hk : k < 9) (hZ : Z < 128 ^ k) (hg : g < 128) :
    IntKind.u64.wrap ((Z : Int) + IntKind.u64.wrap ((g : Int) * 2 ^ (7 * k))) = ((Z + g * 128 ^ k : Nat) : Int) := by
  have h9 := pow_le63 (k := k + 1) (by omega)
  have hlt : g * 128 ^ k + 128 ^ k ≤ 128 ^ (k + 1) := by
    have : (g + 1) * 128 ^ k ≤ 128 * 128 ^ k := Nat.mul_le_mul_right _ (by omega)
    rw [Nat.pow_succ]
    rw [Nat.add_mul] at this
    omega
  have e1 : (g : Int) * 2 ^ (7 * k) = ((g * 128 ^ k : Nat) : Int) := by rw [pow128]; push_cast; rfl
  rw [e1, IntKind.wrap_u64, IntKind.wrap_u64]
  omega

theorem extract_toList (s : ByteArray) (lo hi : Nat) : (s.extract lo hi).toList = (s.data.toList.drop lo).take (hi - lo) := by
  rw [extract_list]
  exact ByteArray.toList_mk _
set_option maxRecDepth 100000 in
set_option maxHeartbeats 4000000 in
theorem refInt_in (s : ByteArray) (a : Nat) (w : World) (hs : s.size ≤ maxLen) (ha : a ≤ s.size) :
    Calls Tryd.prog 60 #[.string s, .int .i64 a] w fun e w' => e = .returned (intV s.data.toList a) ∧ Below w.heap.size w w' := by
  unfold maxLen at hs
  have hd0 : decide ((a : Int) < 0) = false := by simp
  have hd1 : decide (s.size < a) = false := by simp; omega
  go_enter Tryd.func60, Tryd.ntmps60
  go_wp2
  go_loop [7, 8] (fun z i => ∃ (k Z : Nat), k ≤ 9 ∧ a + k ≤ s.size ∧ i = .int .i64 k ∧ z = .int .u64 Z ∧ Z < 128 ^ k ∧ Hid (decGo 9 0 0 (s.data.toList.drop a) = decGo (9 - k) k Z (s.data.toList.drop (a + k)))) (fun _ i => 9 - (intOf i).toNat)
  case atStart => exact ⟨0, 0, by omega, by omega, rfl, rfl, by omega, Lib.hid rfl⟩
  case round =>
    obtain ⟨k, Z, hk, hak, rfl, rfl, hZ, H⟩ := hrel
    by_cases hk9 : k < 9
    · have hk9' : decide ((k : Int) < 9) = true := by simp; omega
      by_cases hlt : a + k < s.size
      · have hlt' : decide ((a : Int) + k < s.size) = true := by simp; omega
        have hdrop : s.data.toList.drop (a + k) = s[a + k] :: s.data.toList.drop (a + k + 1) := List.drop_eq_getElem_cons (by simpa using hlt)
        rw [hdrop, show 9 - k = (8 - k) + 1 from by omega, decGo] at H
        have hbl := (s[a + k]).toNat_lt
        generalize hb : s[a + k].toNat = b at H hbl
        have hg := add_group Z (b % 128) k hk9 hZ (Nat.mod_lt _ (by omega))
        have hZ' : Z + b % 128 * 128 ^ k < 128 ^ (k + 1) := by
          have : (b % 128 + 1) * 128 ^ k ≤ 128 * 128 ^ k := Nat.mul_le_mul_right _ (by omega)
          rw [Nat.add_mul] at this
          rw [Nat.pow_succ]
          omega
        have h63 := pow_le63 (k := k + 1) (by omega)
        generalize Z + b % 128 * 128 ^ k = Z' at H hg hZ'
        rw [show ((b % 128 : Nat) : Int) = (b : Int) % (128 : Int) from by omega] at hg
        by_cases hb128 : 128 ≤ b
        · rw [if_pos hb128] at H
          have HP := Lib.hid hZ'
          clear hZ' h63
          go_wp2
          go_round
          case rel => exact ⟨k + 1, Z', by omega, by omega, by go_num, rfl, HP.out, by rw [show 9 - (k + 1) = 8 - k from by omega]; exact H⟩
          case measure => simp [intOf]; omega
        · rw [if_neg hb128] at H
          have hZ63 : Z' < 9223372036854775808 := by omega
          have hB128 : decide (128 ≤ (b : Int)) = false := by simp; omega
          clear hZ' h63 hZ
          have hlo := unz_lo Z' hZ63
          have b1 : (0 : Int) ≤ (a : Int) := by omega
          have b2 : (a : Int) ≤ (a : Int) + k + 1 := by omega
          have b3 : (a : Int) + k + 1 ≤ s.size := by omega
          rcases Nat.mod_two_eq_zero_or_one Z' with hp | hp
          · have hpar : ((Z' : Int) % 2 == 1) = false := by simp; omega
            have HU : Hid (unz Z' = (Z' : Int) / 2) := by show _ = _; rw [unz, if_pos hp]; omega
            clear hp
            by_cases hlow : unz Z' < -4611686018427387903
            · have HQ : Hid (putInt (unz Z') = ([], 10)) := if_neg (by omega)
              have HV : Hid (intV s.data.toList a = tup3 0 0 10) := intV_none (by
                by_cases hc : b = 0 ∧ 0 < k
                · exact dec_of_none (by rw [H.out, if_pos hc])
                · exact dec_of_low (by rw [H.out, if_neg hc]) hlow)
              clear H
              go_wp2_with (go_at_call 53; refine (refPutInt_any _ _).mono ?_; rintro e w1 ⟨rfl, hb1⟩; rw [← HU.out, HQ.out])
              go_ret3
              exact ⟨by rw [HV.out]; rfl, hb1⟩
            · have HQ : Hid (putInt (unz Z') = (enc (zz (unz Z')), 0)) := if_pos (by omega)
              by_cases hc : b = 0 ∧ 0 < k
              · have hcmp : (enc (zz (unz Z')) == (s.extract a (a + k + 1)).toList) = false := by
                  rw [beq_eq_false_iff_ne]
                  intro he
                  have h1 := dec_enc (unz Z') (by omega) (by omega) ((s.data.toList.drop a).drop (k + 1))
                  rw [he, extract_toList, show a + k + 1 - a = k + 1 from by omega, List.take_append_drop, dec, H.out, if_pos hc] at h1
                  cases h1
                have HV : Hid (intV s.data.toList a = tup3 0 0 10) := intV_none (dec_of_none (by rw [H.out, if_pos hc]))
                clear H hc
                go_wp2_with (go_at_call 53; refine (refPutInt_any _ _).mono ?_; rintro e w1 ⟨rfl, hb1⟩; rw [← HU.out, HQ.out])
                go_ret3
                exact ⟨by rw [HV.out]; rfl, hb1⟩
              · have hd := dec_of_some (l := s.data.toList.drop a) (by rw [H.out, if_neg hc]) hlow
                have hcmp : (enc (zz (unz Z')) == (s.extract a (a + k + 1)).toList) = true := by
                  rw [beq_iff_eq, extract_toList, show a + k + 1 - a = k + 1 from by omega]
                  exact (enc_of_dec hd).symm
                have HV : Hid (intV s.data.toList a = tup3 (unz Z') (a + (k + 1) : Nat) 0) := intV_some hd
                clear H hc hd
                go_wp2_with (go_at_call 53; refine (refPutInt_any _ _).mono ?_; rintro e w1 ⟨rfl, hb1⟩; rw [← HU.out, HQ.out])
                go_ret3
                exact ⟨by rw [HV.out]; exact ret_tup3 (by omega), hb1⟩
          · have hpar : ((Z' : Int) % 2 == 1) = true := by simp; omega
            have HU : Hid (unz Z' = -((Z' : Int) / 2) - 1) := by show _ = _; rw [unz, if_neg (by omega)]; omega
            clear hp
            by_cases hlow : unz Z' < -4611686018427387903
            · have HQ : Hid (putInt (unz Z') = ([], 10)) := if_neg (by omega)
              have HV : Hid (intV s.data.toList a = tup3 0 0 10) := intV_none (by
                by_cases hc : b = 0 ∧ 0 < k
                · exact dec_of_none (by rw [H.out, if_pos hc])
                · exact dec_of_low (by rw [H.out, if_neg hc]) hlow)
              clear H
              go_wp2_with (go_at_call 53; refine (refPutInt_any _ _).mono ?_; rintro e w1 ⟨rfl, hb1⟩; rw [← HU.out, HQ.out])
              go_ret3
              exact ⟨by rw [HV.out]; rfl, hb1⟩
            · have HQ : Hid (putInt (unz Z') = (enc (zz (unz Z')), 0)) := if_pos (by omega)
              by_cases hc : b = 0 ∧ 0 < k
              · have hcmp : (enc (zz (unz Z')) == (s.extract a (a + k + 1)).toList) = false := by
                  rw [beq_eq_false_iff_ne]
                  intro he
                  have h1 := dec_enc (unz Z') (by omega) (by omega) ((s.data.toList.drop a).drop (k + 1))
                  rw [he, extract_toList, show a + k + 1 - a = k + 1 from by omega, List.take_append_drop, dec, H.out, if_pos hc] at h1
                  cases h1
                have HV : Hid (intV s.data.toList a = tup3 0 0 10) := intV_none (dec_of_none (by rw [H.out, if_pos hc]))
                clear H hc
                go_wp2_with (go_at_call 53; refine (refPutInt_any _ _).mono ?_; rintro e w1 ⟨rfl, hb1⟩; rw [← HU.out, HQ.out])
                go_ret3
                exact ⟨by rw [HV.out]; rfl, hb1⟩
              · have hd := dec_of_some (l := s.data.toList.drop a) (by rw [H.out, if_neg hc]) hlow
                have hcmp : (enc (zz (unz Z')) == (s.extract a (a + k + 1)).toList) = true := by
                  rw [beq_iff_eq, extract_toList, show a + k + 1 - a = k + 1 from by omega]
                  exact (enc_of_dec hd).symm
                have HV : Hid (intV s.data.toList a = tup3 (unz Z') (a + (k + 1) : Nat) 0) := intV_some hd
                clear H hc hd
                go_wp2_with (go_at_call 53; refine (refPutInt_any _ _).mono ?_; rintro e w1 ⟨rfl, hb1⟩; rw [← HU.out, HQ.out])
                go_ret3
                exact ⟨by rw [HV.out]; exact ret_tup3 (by omega), hb1⟩
      · have hlt' : decide ((a : Int) + k < s.size) = false := by simp; omega
        rw [show s.data.toList.drop (a + k) = [] from List.drop_eq_nil_of_le (by simp; omega), show 9 - k = (8 - k) + 1 from by omega, decGo] at H
        go_wp2
        go_ret3
        exact ⟨by rw [intV_none (dec_of_none H.out)]; rfl, Below.refl _ _⟩
    · obtain rfl : k = 9 := by omega
      rw [show 9 - 9 = 0 from rfl, decGo] at H
      go_wp2
      go_ret3
      exact ⟨by rw [intV_none (dec_of_none H.out)]; rfl, Below.refl _ _⟩
set_option maxRecDepth 100000 in
theorem refInt_out (s : ByteArray) (a : Int) (w : World) (h : a < 0 ∨ (s.size : Int) < a) :
    Calls Tryd.prog 60 #[.string s, .int .i64 a] w fun e w' => e = .returned (tup3 0 0 2) ∧ w = w' := by
  by_cases h1 : a < 0
  all_goals
    go_enter Tryd.func60, Tryd.ntmps60
    go_wp2
    go_ret3
    exact ⟨rfl, rfl⟩
theorem refInt_any (s : ByteArray) (a : Int) (w : World) (hs : s.size ≤ maxLen) :
    Calls Tryd.prog 60 #[.string s, .int .i64 a] w fun e w' => e = .returned (intAt s.data.toList a) ∧ Below w.heap.size w w' := by
  by_cases h : a < 0 ∨ (s.size : Int) < a
  · rw [show intAt s.data.toList a = tup3 0 0 2 from if_pos (by rw [bsize]; exact h)]
    exact (refInt_out s a w h).mono fun e w' ⟨he, hw⟩ => ⟨he, hw ▸ Below.refl _ _⟩
  · rw [show intAt s.data.toList a = intV s.data.toList a.toNat from if_neg (by rw [bsize]; exact h)]
    obtain ⟨n, rfl⟩ := Int.eq_ofNat_of_zero_le (show 0 ≤ a by omega)
    exact refInt_in s n w hs (by omega)
set_option maxRecDepth 100000 in
theorem refString_any (s : ByteArray) (a : Int) (w : World) (hs : s.size ≤ maxLen) :
    Calls Tryd.prog 61 #[.string s, .int .i64 a] w fun e w' => e = .returned (strAt s.data.toList a) ∧ Below w.heap.size w w' := by
  have hlen := bsize s
  have hm := hs
  unfold maxLen at hs
  by_cases h : a < 0 ∨ (s.size : Int) < a
  · have h1 : strAt s.data.toList a = .tuple #[strV [], .int .i64 0, .int .i64 2] := if_pos (by rw [bsize]; exact h)
    have h2 : intAt s.data.toList a = tup3 0 0 2 := if_pos (by rw [bsize]; exact h)
    rw [h1]
    have H2 := Lib.hid h2
    clear h1 h2 hlen h
    go_enter Tryd.func61, Tryd.ntmps61
    go_wp2_with (go_at_call 60; refine (refInt_any _ _ _ hm).mono ?_; rintro e w' ⟨rfl, hb1⟩; rw [H2.out, tup3])
    go_ret3
    exact ⟨rfl, hb1⟩
  · obtain ⟨b, rfl⟩ := Int.eq_ofNat_of_zero_le (show 0 ≤ a by omega)
    have h1 : strAt s.data.toList b = match decS (s.data.toList.drop b) with
      | some (t, c) => .tuple #[strV t, .int .i64 ((b : Int) + c), .int .i64 0]
      | none => .tuple #[strV [], .int .i64 0, .int .i64 10] := if_neg (by rw [bsize]; exact h)
    have h2 : intAt s.data.toList b = intV s.data.toList b := if_neg (by rw [bsize]; exact h)
    cases hd : dec (s.data.toList.drop b) with
    | none =>
      rw [h1, show decS (s.data.toList.drop b) = none from by rw [decS, hd]]
      rw [intV_none hd] at h2
      have H2 := Lib.hid h2
      clear h1 h2 hlen h hd
      go_enter Tryd.func61, Tryd.ntmps61
      go_wp2_with (go_at_call 60; refine (refInt_any _ _ _ hm).mono ?_; rintro e w' ⟨rfl, hb1⟩; rw [H2.out, tup3])
      go_ret3
      exact ⟨rfl, hb1⟩
    | some x =>
      obtain ⟨n, c⟩ := x
      have hle := dec_le hd
      rw [intV_some hd] at h2
      rw [List.length_drop, hlen] at hle
      by_cases hn : 0 ≤ n ∧ n ≤ 65536 ∧ n ≤ ((s.data.toList.drop b).length : Int) - c
      · obtain ⟨m, rfl⟩ := Int.eq_ofNat_of_zero_le hn.1
        rw [h1, show decS (s.data.toList.drop b) = some (((s.data.toList.drop b).drop c).take m, c + m) from by rw [decS, hd]; exact if_pos hn]
        rw [List.length_drop, hlen] at hn
        have H2 := Lib.hid h2
        clear h1 h2 hlen hd
        have b1 : (0 : Int) ≤ (b : Int) + c := by omega
        have b2 : (b : Int) + c ≤ (b : Int) + c + m := by omega
        have b3 : (b : Int) + c + m ≤ s.size := by omega
        go_enter Tryd.func61, Tryd.ntmps61
        go_wp2_with (go_at_call 60; refine (refInt_any _ _ _ hm).mono ?_; rintro e w' ⟨rfl, hb1⟩; rw [H2.out, tup3])
        go_ret3
        refine ⟨ret_strN ?_ (by omega), hb1⟩
        rw [extract_list, List.drop_drop]
        congr 3
        omega
      · rw [h1, show decS (s.data.toList.drop b) = none from by rw [decS, hd]; exact if_neg hn]
        rw [List.length_drop, hlen] at hn
        have H2 := Lib.hid h2
        clear h1 h2 hlen hd
        by_cases n1 : n < 0
        · go_enter Tryd.func61, Tryd.ntmps61
          go_wp2_with (go_at_call 60; refine (refInt_any _ _ _ hm).mono ?_; rintro e w' ⟨rfl, hb1⟩; rw [H2.out, tup3])
          go_ret3
          exact ⟨rfl, hb1⟩
        · by_cases n2 : 65536 < n
          · go_enter Tryd.func61, Tryd.ntmps61
            go_wp2_with (go_at_call 60; refine (refInt_any _ _ _ hm).mono ?_; rintro e w' ⟨rfl, hb1⟩; rw [H2.out, tup3])
            go_ret3
            exact ⟨rfl, hb1⟩
          · have n3 : (s.size : Int) - ((b : Int) + c) < n := by omega
            go_enter Tryd.func61, Tryd.ntmps61
            go_wp2_with (go_at_call 60; refine (refInt_any _ _ _ hm).mono ?_; rintro e w' ⟨rfl, hb1⟩; rw [H2.out, tup3])
            go_ret3
            exact ⟨rfl, hb1⟩
end Go.Proofs.YthfenbdlolbikaaDoor
