/- The reference's VerifyExtension. -/
import Derived.Test.YthfenbdlolbikaaGreatDoorDRefE
namespace Go.Proofs.YthfenbdlolbikaaGreatDoor
open Go.RowKit Go.Shelf

set_option maxRecDepth 100000 in
set_option maxHeartbeats 4000000 in
theorem refVerExt_any (O R : ByteArray) (m n : Int) (v : Value) (p : List Bytes) (w : World) (hm : I64 m) (hn : I64 n) (hL : StrsAt w.heap.size w v p) (hp : p.length ≤ 100000) :
    Calls Tryz.prog 56 #[.string O, .int .i64 m, .string R, .int .i64 n, v] w fun e w' => e = .returned (.bool (verExtB O.data.toList m R.data.toList n p)) ∧ Below w.heap.size w w' := by
  have HD := Lib.hid (digests_any v p w hL)
  have HL := Lib.hid hL
  obtain ⟨a, c, rfl, _, _⟩ := hL.shape
  have hm' := hm
  have hn' := hn
  unfold I64 at hm' hn'
  have HVB : Hid (verExtB O.data.toList m R.data.toList n p = (decide (0 ≤ m) && decide (m ≤ n) && digB p && decide (O.size = 32) && decide (R.size = 32) &&
    (if m = 0 then p.isEmpty && (O.data.toList == sha []) else if m = n then p.isEmpty && (O.data.toList == R.data.toList) else bothR O.data.toList p.reverse m.toNat n.toNat true == some (O.data.toList, R.data.toList)))) := by
    show _ = _
    unfold verExtB
    rw [blen, blen]
  have HEl := Lib.hid (@digB_el p)
  have HEm : Hid (p.isEmpty = ((p.length : Int) == 0)) := by cases p <;> first | rfl | (simp)
  clear hL
  have quick : ∀ (x : Bool), x = false → True := fun _ _ => trivial
  by_cases hA : (decide (0 ≤ m) && decide (m ≤ n) && digB p && decide (O.size = 32) && decide (R.size = 32)) = true
  · rw [hA, Bool.true_and] at HVB
    simp only [Bool.and_eq_true, decide_eq_true_eq] at hA
    obtain ⟨⟨⟨⟨h0, h1⟩, hd⟩, hO⟩, hR⟩ := hA
    have HEl2 := Lib.hid (HEl.out hd)
    rw [hd] at HD
    obtain ⟨j, rfl⟩ := Int.eq_ofNat_of_zero_le h0
    obtain ⟨k, rfl⟩ := Int.eq_ofNat_of_zero_le (show 0 ≤ n by omega)
    have d0 : decide ((j : Int) < 0) = false := by simp
    have d1 : decide (k < j) = false := by simp; omega
    clear hd HEl h0
    by_cases hz : j = 0
    · rw [if_pos (by omega), HEm.out] at HVB
      have HSm := Lib.hid (fun W => refSum_any (⟨#[]⟩ : ByteArray) W (by decide))
      rw [show ((⟨#[]⟩ : ByteArray).data.toList) = [] from rfl] at HSm
      have HEq : Hid ((O.toList == (bs (sha [])).toList) = (O.data.toList == sha [])) := by show _ = _; rw [Lib.toList_data, bs_toList]
      generalize bs (sha []) = Z at *
      generalize (O.data.toList == sha []) = zz at *
      generalize p.length = N at *
      by_cases hN : N = 0
      · have hN' : ((N : Int) == 0) = true := by simp; omega
        subst hN
        subst hz
        cases zz
        all_goals
          have he := HEq.out
          go_enter Tryz.func56, Tryz.ntmps56
          go_wp2_with (first | (go_at_call 92; refine HD.out.mono ?_; rintro e w2 ⟨rfl, hb2⟩) | (go_at_call 45; refine (HSm.out _).mono ?_; rintro e w3 ⟨rfl, hb3⟩))
          go_ret
          exact ⟨by rw [HVB.out]; rfl, hb2.trans (hb3.mono hb2.size)⟩
      · have hN' : ((N : Int) == 0) = false := by simp; omega
        rw [hN', Bool.false_and] at HVB
        subst hz
        go_enter Tryz.func56, Tryz.ntmps56
        go_wp2_with (go_at_call 92; refine HD.out.mono ?_; rintro e w2 ⟨rfl, hb2⟩)
        go_ret
        exact ⟨by rw [HVB.out]; rfl, hb2⟩
    · rw [if_neg (by omega)] at HVB
      have dz : ((j : Int) == 0) = false := by simp; omega
      by_cases hjk : j = k
      · rw [if_pos (by omega), HEm.out] at HVB
        subst hjk
        have HEq := Lib.hid (str_eq O R)
        have HEq2 : Hid ((O.data.toList == R.data.toList) = (O.toList == R.toList)) := by show _ = _; rw [Lib.toList_data, Lib.toList_data]
        rw [HEq2.out] at HVB
        generalize hoo : (O.toList == R.toList) = oo at *
        generalize p.length = N at *
        by_cases hN : N = 0
        · subst hN
          cases oo
          all_goals
            go_enter Tryz.func56, Tryz.ntmps56
            go_wp2_with (go_at_call 92; refine HD.out.mono ?_; rintro e w2 ⟨rfl, hb2⟩)
            go_ret
            exact ⟨by rw [HVB.out]; rfl, hb2⟩
        · have hN' : ((N : Int) == 0) = false := by simp; omega
          rw [hN', Bool.false_and] at HVB
          go_enter Tryz.func56, Tryz.ntmps56
          go_wp2_with (go_at_call 92; refine HD.out.mono ?_; rintro e w2 ⟨rfl, hb2⟩)
          go_ret
          exact ⟨by rw [HVB.out]; rfl, hb2⟩
      · rw [if_neg (by omega), Int.toNat_natCast, Int.toNat_natCast] at HVB
        have dmn : ((j : Int) == (k : Int)) = false := by simp; omega
        have dmn2 : (j == k) = false := by simp; omega
        have HV := Lib.hid (fun W (hW : Below w.heap.size w W) => both_any O.data.toList (by rw [blen]; omega) p.reverse j k true _ W (by omega) (by omega) (by omega) (fun x hx => by have := HEl2.out x (List.mem_reverse.1 hx); omega) (by rw [List.length_reverse]; omega) (by rw [List.reverse_reverse]; exact HL.out.later hW (Nat.le_refl _)))
        have HRs : Hid (∀ A B ok, BothV O.data.toList p.reverse j k true A B ok → (ok && (A.toList == O.toList) && (B.toList == R.toList)) = (bothR O.data.toList p.reverse j k true == some (O.data.toList, R.data.toList))) := fun A B ok hv => by
          obtain ⟨g1, g2, _⟩ := hv
          cases hvv : bothR O.data.toList p.reverse j k true with
          | none => rw [g1, hvv]; rfl
          | some r =>
            obtain ⟨ra, rb⟩ := r
            obtain ⟨gA, gB⟩ := g2 _ hvv
            rw [g1, hvv, gA, gB, str_eq, str_eq]
            show (true && decide (ra = O.data.toList) && decide (rb = R.data.toList)) = (some (ra, rb) == some (O.data.toList, R.data.toList))
            rw [Bool.true_and, Bool.eq_iff_iff]
            simp
        generalize p.length = N at *
        go_enter Tryz.func56, Tryz.ntmps56
        go_wp2_with (go_at_call 92; refine HD.out.mono ?_; rintro e w2 ⟨rfl, hb2⟩)
        refine (HV.out w2 hb2).mono ?_
        rintro e w3 ⟨⟨A, B, ok, rfl, hv⟩, hb3⟩
        have HRv := Lib.hid (HRs.out A B ok hv)
        clear hv
        generalize haa : (A.toList == O.toList) = aa at *
        cases ok
        all_goals cases aa
        all_goals go_wp2
        all_goals go_ret
        all_goals exact ⟨by rw [HVB.out, ← HRv.out]; rfl, hb2.trans (hb3.mono hb2.size)⟩
  · rw [Bool.eq_false_iff.2 hA, Bool.false_and] at HVB
    by_cases h0 : 0 ≤ m
    · have d0 : decide (m < 0) = false := by simp; omega
      by_cases h1 : m ≤ n
      · have d1 : decide (n < m) = false := by simp; omega
        cases hd : digB p
        · rw [hd] at HD
          clear hA HEl HEm
          generalize p.length = N at *
          go_enter Tryz.func56, Tryz.ntmps56
          go_wp2_with (go_at_call 92; refine HD.out.mono ?_; rintro e w2 ⟨rfl, hb2⟩)
          go_ret
          exact ⟨by rw [HVB.out]; rfl, hb2⟩
        · rw [hd] at HD
          rw [decide_eq_true h0, decide_eq_true h1, hd] at hA
          by_cases hO : O.size = 32
          · have hR : ¬ R.size = 32 := fun hR => hA (by rw [decide_eq_true hO, decide_eq_true hR]; rfl)
            have hR2 : (((R.size : Nat) : Int) != 32) = true := by simp; omega
            have hO2 : (((O.size : Nat) : Int) != 32) = false := by rw [hO]; rfl
            clear hA HEl HEm
            generalize p.length = N at *
            go_enter Tryz.func56, Tryz.ntmps56
            go_wp2_with (go_at_call 92; refine HD.out.mono ?_; rintro e w2 ⟨rfl, hb2⟩)
            go_ret
            exact ⟨by rw [HVB.out]; rfl, hb2⟩
          · have hO2 : (((O.size : Nat) : Int) != 32) = true := by simp; omega
            clear hA HEl HEm
            generalize p.length = N at *
            go_enter Tryz.func56, Tryz.ntmps56
            go_wp2_with (go_at_call 92; refine HD.out.mono ?_; rintro e w2 ⟨rfl, hb2⟩)
            go_ret
            exact ⟨by rw [HVB.out]; rfl, hb2⟩
      · have d1 : decide (n < m) = true := by simp; omega
        clear hA HEl HEm
        generalize p.length = N at *
        go_enter Tryz.func56, Tryz.ntmps56
        go_wp2_with (go_at_call 92; refine HD.out.mono ?_; rintro e w2 ⟨rfl, hb2⟩)
        go_ret
        exact ⟨by rw [HVB.out]; rfl, hb2⟩
    · have d0 : decide (m < 0) = true := by simp; omega
      clear hA HEl HEm
      generalize p.length = N at *
      go_enter Tryz.func56, Tryz.ntmps56
      go_wp2_with (go_at_call 92; refine HD.out.mono ?_; rintro e w2 ⟨rfl, hb2⟩)
      go_ret
      exact ⟨by rw [HVB.out]; rfl, hb2⟩
end Go.Proofs.YthfenbdlolbikaaGreatDoor
