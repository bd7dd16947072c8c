/- DigestExtensionAccepted returns true. -/
import Derived.Test.YteemhemnkdgehaaDoorDLawBind
namespace Go.Proofs.YteemhemnkdgehaaDoor
open Go.RowKit Go.Shelf

theorem extE_in {l : List Bytes} {k : Nat} (h : k ≤ l.length) : (extE l k).2 = 0 := by
  unfold extE
  rw [if_pos ⟨by omega, by omega⟩]
  split <;> rfl
theorem extE_out {l : List Bytes} {m : Int} (h : ¬ (0 ≤ m ∧ m ≤ (l.length : Int))) : extE l m = ([], 2) := by
  unfold extE
  rw [if_neg h]
theorem extE_short {l : List Bytes} {k : Nat} (h : k ≤ l.length) (r : Nat) (hr : l.length < 2 ^ r) : (extE l k).1.length ≤ 2 * r := by
  unfold extE
  rw [if_pos ⟨by omega, by omega⟩]
  split
  · simp
  · rename_i hk
    have hk1 : 1 ≤ k := by omega
    rw [Int.toNat_natCast]
    have h1 := partL_short l.length l k true r (Nat.le_refl _) hk1 h (by omega)
    have hr1 : 1 ≤ r := by
      cases r with
      | zero => simp at hr; subst hr; simp at h; omega
      | succ r => omega
    show (partL l k true).length ≤ _
    omega
theorem digB_of {l : List Bytes} (h : ∀ x ∈ l, x.length = 32) : digB l = true := by
  unfold digB
  rw [List.all_eq_true]
  intro x hx
  simpa using h x hx
/-- The proof of a beginning is accepted. -/
theorem extE_acc {l : List Bytes} {k : Nat} (h : k ≤ l.length) : verExtB (rootL (l.take k)) k (rootL l) l.length (extE l k).1 = true := by
  have hr1 := rootL_length (l.take k)
  have hr2 := rootL_length l
  unfold extE
  rw [if_pos ⟨by omega, by omega⟩]
  unfold verExtB
  by_cases k0 : (k : Int) = 0
  · have k0' : k = 0 := by omega
    subst k0'
    rw [if_pos k0, if_pos k0]
    simp [digB, hr1, hr2, rootL_nil, sha_length]
  · rw [if_neg k0, if_neg k0, Int.toNat_natCast, Int.toNat_natCast]
    have hk1 : 1 ≤ k := by omega
    have hd : digB (partL l k true) = true := digB_of (partL_dig l.length l k true (Nat.le_refl _) hk1 h)
    by_cases kn : (k : Int) = (l.length : Int)
    · have kn' : k = l.length := by omega
      rw [if_pos kn]
      show (decide _ && decide _ && digB (partL l k true) && decide _ && decide _ && ((partL l k true).isEmpty && (rootL (l.take k) == rootL l))) = true
      rw [hd, partL_all hk1 kn', kn', List.take_length]
      simp [hr2]
    · rw [if_neg kn]
      show (decide _ && decide _ && digB (partL l k true) && decide _ && decide _ && (bothR _ (partL l k true).reverse k l.length true == _)) = true
      rw [hd, bothR_part l.length l k true (rootL (l.take k)) (Nat.le_refl _) hk1 h (fun _ => rfl)]
      simp [hr1, hr2]
      omega
theorem extE_ref {R : Bytes} {m n : Int} (h : ¬ (0 ≤ m ∧ m ≤ n)) : verExtB R m R n [] = false := by
  unfold verExtB
  by_cases h0 : 0 ≤ m
  · rw [decide_eq_true h0, decide_eq_false (fun h1 => h ⟨h0, h1⟩)]; rfl
  · rw [decide_eq_false h0]; rfl
theorem Live.tail {w0 W : World} {L : List (Value × List Bytes)} {x : Value × List Bytes} (h : Live w0 (x :: L) W) : Live w0 L W := ⟨h.1, h.2.1, fun p hp => h.2.2 p (.tail _ hp)⟩
set_option maxRecDepth 100000 in
set_option maxHeartbeats 4000000 in
theorem xacc_any (vl : Value) (l0 : List Bytes) (m : Int) (w : World) (hm : I64 m) (hp : StrsAt w.heap.size w vl l0) (hT : Rounds w) :
    Calls Tryd.prog 6 #[vl, .int .i64 m] w fun e w' => e = .returned (.bool true) ∧ Below w.heap.size w w' := by
  have HL := Lib.hid (Live.start hT)
  have HP := Lib.hid hp
  have HT := Lib.hid hT
  obtain ⟨ap, cp, rfl, _, _⟩ := hp.shape
  have Hm := Lib.hid hm
  have HmP := Lib.hid (fewL_sm l0 25 (by omega))
  have hlen : (fewL l0 25).length ≤ 25 := by rw [fewL_len]; omega
  generalize l0.length = pl at *
  generalize hfp : fewL l0 25 = l at *
  have HFp := Lib.hid hfp
  clear hfp hp hT
  go_enter Tryd.func6, Tryd.ntmps6
  go_wp2_with fail
  refine (sane_any w HT.out).mono ?_
  rintro e w1 ⟨rfl, hb⟩
  have HL := Lib.hid (HL.out.step hb)
  clear hb
  go_wp2_with fail
  refine (few_live HL.out (HL.out.old HP.out) 25 (by omega)).mono ?_
  rintro e w2 ⟨v1, rfl, hL⟩
  rw [HFp.out] at hL
  obtain ⟨a1, c1, rfl, hc1, hc2⟩ := (hL.strs (.head _)).shape
  unfold maxLen at hc2
  have HL := Lib.hid hL
  clear hL
  have HX1 := Lib.hid (fun (k : Nat) h => @extE_in l k h)
  have HX2 := Lib.hid (fun (m : Int) h => @extE_out l m h)
  have HX3 := Lib.hid (fun (k : Nat) h => @extE_short l k h)
  have HX4 := Lib.hid (fun (k : Nat) h => @extE_acc l k h)
  generalize hn : l.length = n at *
  have Hn := Lib.hid hn
  clear hn
  go_wp2_with fail
  refine (root_live HL.out (HL.out.strs (.head _)) HmP.out).mono ?_
  rintro e w3 ⟨rfl, hL⟩
  have HL := Lib.hid hL
  clear hL
  go_wp2_with fail
  go_loopw [7, 8, 9] (fun i x e wr => ∃ k : Nat, k ≤ n + 1 ∧ i = .int .i64 k ∧ Live w [(.slice a1 n c1, l)] wr) (fun i _ _ _ => n + 1 - (intOf i).toNat)
  case atStart => exact ⟨0, Nat.zero_le _, rfl, HL.out⟩
  case round =>
    obtain ⟨k, hk, rfl, hLv⟩ := hrel
    have HLv := Lib.hid hLv
    clear hLv
    by_cases hkn : k ≤ n
    · have d1 : decide ((k : Int) ≤ (n : Int)) = true := by simp; omega
      have kc : (k : Int) ≤ (c1 : Int) := by omega
      have kn' : (k : Int) ≤ (n : Int) := by omega
      have HE1 := Lib.hid (HX1.out k (by omega))
      have HE3 := Lib.hid (HX3.out k (by omega))
      have HE4 := Lib.hid (HX4.out k (by omega))
      go_wp2_with fail
      refine (ext_live HLv.out (HLv.out.strs (.head _)) HmP.out k).mono ?_
      rintro e w4 ⟨v2, rfl, hL⟩
      rw [HE1.out]
      have hxl : (extE l k).1.length ≤ 100 := by have := HE3.out 5 (by show n < 32; omega); omega
      obtain ⟨a2, c2, rfl, _, _⟩ := (hL.strs (.head _)).shape
      have HL := Lib.hid hL
      clear hL
      generalize (extE l k).1 = x at *
      generalize hxx : x.length = xl at *
      have HXl := Lib.hid hxx
      clear hxx
      go_wp2_with fail
      refine (binary_any n _ (by omega)).mono ?_
      rintro e w5 ⟨⟨r, rfl, hr1, hr2⟩, rfl⟩
      have hxr := HE3.out r hr1
      have d2 : ¬ (2 * (r : Int) < (xl : Int)) := by omega
      have w2 : IntKind.i64.wrap (2 * (r : Int)) = 2 * (r : Int) := IntWalk.i64_in _ (by omega)
      clear hr1
      go_wp2_with fail
      refine (root_live HL.out (show StrsAt _ _ _ (l.take k) from (HL.out.strs (v := .slice a1 n c1) (l := l) (by simp)).take k (by rw [Hn.out]; exact hkn)) (HmP.out.take k)).mono ?_
      rintro e w6 ⟨rfl, hL⟩
      have HL := Lib.hid hL
      clear hL
      go_wp2_with fail
      refine (verExt_live HL.out (bs (rootL (l.take k))) (bs (rootL l)) k n (by unfold I64; omega) (by unfold I64; omega) (HL.out.strs (v := .slice a2 xl c2) (l := x) (by simp)) (by rw [HXl.out]; omega)).mono ?_
      rintro e w7 ⟨rfl, hL⟩
      rw [bs_list, bs_list, HE4.out]
      have HL := Lib.hid hL
      clear hL
      go_wp2
      go_roundw
      case rel => exact ⟨k + 1, by omega, by go_num, HL.out.tail⟩
      case measure => simp [intOf]; omega
    · obtain rfl : k = n + 1 := by omega
      have d1 : decide (((n + 1 : Nat) : Int) ≤ (n : Int)) = false := by simp; omega
      by_cases hin : 0 ≤ m ∧ m ≤ (n : Int)
      · obtain ⟨h0, h1⟩ := hin
        obtain ⟨j, rfl⟩ := Int.eq_ofNat_of_zero_le h0
        have HE1 := Lib.hid (HX1.out j (by omega))
        go_wp2_with fail
        refine (ext_live HLv.out (HLv.out.strs (.head _)) HmP.out j).mono ?_
        rintro e w4 ⟨v2, rfl, hL⟩
        rw [HE1.out]
        obtain ⟨a2, c2, rfl, _, _⟩ := (hL.strs (.head _)).shape
        have HL := Lib.hid hL
        clear hL
        go_wp2
        go_ret
        exact ⟨rfl, HL.out.1⟩
      · have HE2 := Lib.hid (HX2.out m hin)
        have HE5 := Lib.hid (@extE_ref (rootL l) m n hin)
        have hbb : (decide (0 ≤ m) && decide (m ≤ (n : Int))) = false := by
          rw [Bool.eq_false_iff]; simpa using hin
        go_wp2_with fail
        refine (ext_live HLv.out (HLv.out.strs (.head _)) HmP.out m).mono ?_
        rintro e w4 ⟨v2, rfl, hL⟩
        rw [HE2.out] at hL ⊢
        obtain ⟨a2, c2, rfl, _, _⟩ := (hL.strs (.head _)).shape
        have HL := Lib.hid hL
        clear hL
        by_cases h0 : 0 ≤ m
        · have h1 : decide (m ≤ (n : Int)) = false := decide_eq_false (fun h => hin ⟨h0, h⟩)
          clear hbb
          go_wp2_with fail
          refine (verExt_live HL.out (bs (rootL l)) (bs (rootL l)) m n Hm.out (by unfold I64; omega) (HL.out.strs (.head _)) (by simp)).mono ?_
          rintro e w7 ⟨rfl, hL⟩
          rw [bs_list, HE5.out]
          have HL := Lib.hid hL
          clear hL
          go_wp2
          go_ret
          exact ⟨rfl, HL.out.1⟩
        · clear hbb
          go_wp2_with fail
          refine (verExt_live HL.out (bs (rootL l)) (bs (rootL l)) m n Hm.out (by unfold I64; omega) (HL.out.strs (.head _)) (by simp)).mono ?_
          rintro e w7 ⟨rfl, hL⟩
          rw [bs_list, HE5.out]
          have HL := Lib.hid hL
          clear hL
          go_wp2
          go_ret
          exact ⟨rfl, HL.out.1⟩
end Go.Proofs.YteemhemnkdgehaaDoor
