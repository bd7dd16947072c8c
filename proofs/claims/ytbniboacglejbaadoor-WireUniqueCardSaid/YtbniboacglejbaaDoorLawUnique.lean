/- WireUnique returns true. -/
import Derived.Test.YtbniboacglejbaaDoorSane1
import Derived.Test.YtbniboacglejbaaDoorLawTrunc
import Derived.Test.YtbniboacglejbaaDoorLawMatches
import Derived.Deep.Light
namespace Go.Proofs.YtbniboacglejbaaDoor
open Go.RowKit Go.Shelf

theorem conv_one (W : World) (x : UInt8) : (convert 38 9 (.slice (some ⟨W.heap.size, 0, none⟩) 1 1)).run Tryd.prog (W.alloc (.cells #[.int .u8 (x.toNat : Int)] 5)).drew = .ok (strV [x]) (W.alloc (.cells #[.int .u8 (x.toNat : Int)] 5)).drew := by
  refine run_convert_bytes_back _ 38 9 5 ⟨W.heap.size, 0, none⟩ 1 [x] Tryd.underlying38 Tryd.underlying5 Tryd.underlying9 fun j hj => ?_
  obtain rfl : j = 0 := by simpa using hj
  exact cell_one_new _ _ _ 0 _ rfl

theorem int_cases (T : ByteArray) (k : Nat) (hk : k ≤ T.data.toList.length) :
    (Hid (intAt T.data.toList k = tup3 0 0 10) ∧ Hid (putInt 0 = (enc (zz 0), 0))) ∨
    ∃ (n : Int) (c : Nat), Hid (intAt T.data.toList k = tup3 n (k + c : Nat) 0) ∧ Hid (putInt n = (enc (zz n), 0)) ∧ k + c ≤ T.size ∧ ((T.extract k (k + c)).toList == enc (zz n)) = true := by
  cases hd : dec (T.data.toList.drop k) with
  | none => exact .inl ⟨intAt_none _ _ hk hd, putInt_ok 0 (by omega) (by omega)⟩
  | some r =>
    obtain ⟨n, c⟩ := r
    have hl := dec_le hd
    rw [List.length_drop, bsize] at hl
    rw [bsize] at hk
    refine .inr ⟨n, c, intAt_some _ _ (by rw [bsize]; exact hk) hd, putInt_ok n hl.2.2.1 hl.2.2.2, by omega, ?_⟩
    rw [beq_iff_eq, Lib.toList_data, extract_list, show k + c - k = c from by omega, ← enc_of_dec hd]
theorem str_cases (T : ByteArray) (k : Nat) (hk : k ≤ T.data.toList.length) :
    (Hid (strAt T.data.toList k = .tuple #[strV [], .int .i64 0, .int .i64 10]) ∧ Hid (putStr [] = (encS [], 0))) ∨
    ∃ (v : List UInt8) (d : Nat), Hid (strAt T.data.toList k = .tuple #[strV v, .int .i64 ((k : Int) + d), .int .i64 0]) ∧ Hid (putStr v = (encS v, 0)) ∧ k + d ≤ T.size ∧ ((T.extract k (k + d)).toList == encS v) = true ∧ v.length ≤ 65536 := by
  cases hd : decS (T.data.toList.drop k) with
  | none => exact .inl ⟨strAt_none _ _ hk hd, putStr_ok [] (by simp)⟩
  | some r =>
    obtain ⟨v, d⟩ := r
    obtain ⟨h1, h2, h3⟩ := encS_of_decS hd
    rw [List.length_drop, bsize] at h2
    rw [bsize] at hk
    refine .inr ⟨v, d, strAt_some _ _ (by rw [bsize]; exact hk) hd, putStr_ok v h1, by omega, ?_, h1⟩
    rw [beq_iff_eq, Lib.toList_data, extract_list, show k + d - k = d from by omega, ← h3]
set_option maxRecDepth 100000 in
set_option maxHeartbeats 4000000 in
theorem unique_any (s : ByteArray) (at' : Int) (first : UInt8) (w : World) (ha1 : -9223372036854775808 ≤ at') (ha2 : at' ≤ 9223372036854775807) (hn : Nibs w) (hz : 0 < w.heap.size) :
    Calls Tryd.prog 5 #[.string s, .int .i64 at', .int .u8 (first.toNat : Int)] w fun e w' => e = .returned (.bool true) ∧ Below w.heap.size w w' := by
  have HN := Lib.hid hn
  clear hn
  obtain ⟨ms, ems, hms1, hms2⟩ := cut_at s 300 (by omega)
  generalize hft : s.extract 0 ms = t
  have st : t.size ≤ 300 := by rw [← hft, ByteArray.size_extract]; omega
  generalize hT : (⟨[first].toArray⟩ : ByteArray) ++ t = T
  have sT : T.size ≤ 301 := by rw [← hT, ByteArray.size_append, size_lit]; simp; omega
  have sTm : T.size ≤ maxLen := by unfold maxLen; omega
  have hcv := fun W => conv_one W first
  go_enter Tryd.func5, Tryd.ntmps5
  go_wp2_with (go_at_call 10; refine (sane_any _ HN.out hz).mono ?_; rintro e w1 ⟨rfl, hb1⟩)
  go_region
  have HB1 : Hid (Below w.heap.size w (w1.alloc (.cells #[.int .u8 (first.toNat : Int)] 5)).drew) := (hb1.alloc hb1.size _).drew
  have z1 := hb1.size
  go_wp2_with (go_at_call 14; refine (pick_any _ _ _ ha1 ha2 (by omega) (by omega)).mono ?_; rintro e w' ⟨rfl, rfl⟩)
  go_loopw [38] (fun i wr => ∃ j : Nat, j ≤ 2 ∧ i = .int .i64 j ∧ Below (w1.heap.size + 1 + 1) ((w1.alloc (.cells #[.int .u8 (first.toNat : Int)] 5)).alloc (.cells #[.int .i64 0, .int .i64 (pickZ at' ((T.size : Int) + 1))] 3)) wr) (fun i _ => 2 - (intOf i).toNat)
  case atStart => exact ⟨0, by omega, rfl, (Below.refl _ _).drew⟩
  case round =>
    obtain ⟨j, hj, rfl, hB⟩ := hrel
    have hsz := hB.size
    rw [World.size_alloc, World.size_alloc] at hsz
    by_cases hlt : j < 2
    · obtain ⟨x, hx0, hx⟩ := two_cells (W := w1.alloc (.cells #[.int .u8 (first.toNat : Int)] 5)) (by rw [World.size_alloc]; exact hB) j hlt
      rw [World.size_alloc] at hx
      have hpb := pickZ_bd at' ((T.size : Int) + 1) (by omega)
      have hxb : 0 ≤ x ∧ x ≤ T.size := by rcases hx0 with rfl | rfl <;> omega
      clear hx0 hpb
      obtain ⟨k, rfl⟩ := Int.eq_ofNat_of_zero_le hxb.1
      have hkl : k ≤ T.data.toList.length := by rw [bsize]; omega
      rcases int_cases T k hkl with ⟨HI, HP⟩ | ⟨n, c, HI, HP, hc1, hc2⟩
      · rcases str_cases T k hkl with ⟨HS, HQ⟩ | ⟨v, d, HS, HQ, hd1, hd2, hv⟩
        · skip
          go_wp2_with (first | (go_at_call 15; refine (int_any _ _ _ sTm).mono ?_; rintro e w' ⟨rfl, rfl⟩; rw [HI.out, tup3]) | (go_at_call 12; refine (putInt_any _ _).mono ?_; rintro e wa ⟨rfl, hba⟩; rw [HP.out]) | (go_at_call 17; refine (string_any _ _ _ sTm).mono ?_; rintro e w' ⟨rfl, rfl⟩; rw [HS.out]) | (go_at_call 19; refine (putString_any _ _ (by decide)).mono ?_; rintro e wb ⟨rfl, hbb⟩; rw [show putStr _ = _ from HQ.out]))
          exact ⟨⟨j + 1, by omega, by go_num, (hB.trans (hba.mono hsz)).trans (hbb.mono (Nat.le_trans hsz hba.size))⟩, by simp [intOf]; omega⟩
        · skip
          have e4 : (k : Int) ≤ (k : Int) + d := by omega
          have e5 : (k : Int) + d ≤ T.size := by omega
          have e6 : (0 : Int) ≤ (k : Int) := by omega
          go_wp2_with (first | (go_at_call 15; refine (int_any _ _ _ sTm).mono ?_; rintro e w' ⟨rfl, rfl⟩; rw [HI.out, tup3]) | (go_at_call 12; refine (putInt_any _ _).mono ?_; rintro e wa ⟨rfl, hba⟩; rw [HP.out]) | (go_at_call 17; refine (string_any _ _ _ sTm).mono ?_; rintro e w' ⟨rfl, rfl⟩; rw [HS.out]) | (go_at_call 19; refine (putString_any _ _ (by rw [size_lit]; unfold maxLen; omega)).mono ?_; rintro e wb ⟨rfl, hbb⟩; rw [show putStr _ = _ from HQ.out]))
          exact ⟨⟨j + 1, by omega, by go_num, (hB.trans (hba.mono hsz)).trans (hbb.mono (Nat.le_trans hsz hba.size))⟩, by simp [intOf]; omega⟩
      · have e1 : (0 : Int) ≤ (k : Int) := by omega
        have e2 : (k : Int) ≤ (k : Int) + c := by omega
        have e3 : (k : Int) + c ≤ T.size := by omega
        rcases str_cases T k hkl with ⟨HS, HQ⟩ | ⟨v, d, HS, HQ, hd1, hd2, hv⟩
        · skip
          go_wp2_with (first | (go_at_call 15; refine (int_any _ _ _ sTm).mono ?_; rintro e w' ⟨rfl, rfl⟩; rw [HI.out, tup3]) | (go_at_call 12; refine (putInt_any _ _).mono ?_; rintro e wa ⟨rfl, hba⟩; rw [HP.out]) | (go_at_call 17; refine (string_any _ _ _ sTm).mono ?_; rintro e w' ⟨rfl, rfl⟩; rw [HS.out]) | (go_at_call 19; refine (putString_any _ _ (by decide)).mono ?_; rintro e wb ⟨rfl, hbb⟩; rw [show putStr _ = _ from HQ.out]))
          exact ⟨⟨j + 1, by omega, by go_num, (hB.trans (hba.mono hsz)).trans (hbb.mono (Nat.le_trans hsz hba.size))⟩, by simp [intOf]; omega⟩
        · skip
          have e4 : (k : Int) ≤ (k : Int) + d := by omega
          have e5 : (k : Int) + d ≤ T.size := by omega
          have e6 : (0 : Int) ≤ (k : Int) := by omega
          go_wp2_with (first | (go_at_call 15; refine (int_any _ _ _ sTm).mono ?_; rintro e w' ⟨rfl, rfl⟩; rw [HI.out, tup3]) | (go_at_call 12; refine (putInt_any _ _).mono ?_; rintro e wa ⟨rfl, hba⟩; rw [HP.out]) | (go_at_call 17; refine (string_any _ _ _ sTm).mono ?_; rintro e w' ⟨rfl, rfl⟩; rw [HS.out]) | (go_at_call 19; refine (putString_any _ _ (by rw [size_lit]; unfold maxLen; omega)).mono ?_; rintro e wb ⟨rfl, hbb⟩; rw [show putStr _ = _ from HQ.out]))
          exact ⟨⟨j + 1, by omega, by go_num, (hB.trans (hba.mono hsz)).trans (hbb.mono (Nat.le_trans hsz hba.size))⟩, by simp [intOf]; omega⟩
    · obtain rfl : j = 2 := by omega
      go_wp2
      go_ret
      exact ⟨rfl, ((hb1.alloc z1 _).alloc (by simp; omega) _).trans (hB.mono (by omega))⟩
end Go.Proofs.YtbniboacglejbaaDoor
