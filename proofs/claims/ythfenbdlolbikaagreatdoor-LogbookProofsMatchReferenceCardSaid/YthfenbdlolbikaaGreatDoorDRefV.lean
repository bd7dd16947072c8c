/- The reference's value and Verify. -/
import Derived.Test.YthfenbdlolbikaaGreatDoorDRefT
import Derived.Test.YthfenbdlolbikaaGreatDoorDMore
namespace Go.Proofs.YthfenbdlolbikaaGreatDoor
open Go.RowKit Go.Shelf

/-- What value returns. -/
def ValR (q : List Bytes) (n i : Nat) (s : Bytes) (S : ByteArray) (ok : Bool) : Prop := ok = (valR q n i s).isSome ∧ (∀ r, valR q n i s = some r → S = bs r) ∧ S.size ≤ 32
set_option maxRecDepth 100000 in
set_option maxHeartbeats 2000000 in
theorem value_any : ∀ (q : List Bytes) (n i : Nat) (s : Bytes) (v : Value) (w : World), 1 ≤ n → n ≤ 9223372036854775807 → i ≤ 9223372036854775807 → s.length ≤ 1000 → (∀ x ∈ q, x.length ≤ 1000) → q.length ≤ 1000000 → StrsAt w.heap.size w v q.reverse →
    Calls Tryz.prog 95 #[.int .i64 n, .int .i64 i, .string (bs s), v] w fun e w' => (∃ S ok, e = .returned (.tuple #[.string S, .bool ok]) ∧ ValR q n i s S ok) ∧ Below w.heap.size w w'
  | q, n, i, s, v, w, hn1, hn, hi, hs, hq, hql, hL => by
    obtain ⟨a, c, rfl, hlc, hcm⟩ := hL.shape
    unfold maxLen at hcm
    have hss : (bs s).size ≤ 1000 := by rw [bs_size]; exact hs
    have hrl : q.reverse.length = q.length := by simp
    rw [hrl] at hlc hL ⊢
    have wl : IntKind.i64.wrap ((q.length : Int) - 1) = (q.length : Int) - 1 := IntWalk.i64_in _ (by omega)
    by_cases hone : n = 1
    · have HLf := Lib.hid (refLeaf_any (bs s) w (by omega))
      rw [bs_list] at HLf
      have HV : Hid (∀ ok, ok = decide ((q.length : Int) - 1 < 0) → ValR q n i s (bs (leafB s)) ok) := by
        intro ok hok
        unfold ValR
        subst hone
        cases q with
        | nil => exact ⟨by rw [hok]; rfl, fun r hr => by rw [valR_nil, if_pos (Nat.le_refl _)] at hr; cases hr; rfl, by rw [bs_size, leafB_length]; omega⟩
        | cons x t =>
          rw [valR_one (Nat.le_refl _)]
          exact ⟨by rw [hok]; simp; try omega, fun r hr => (by cases hr), by rw [bs_size, leafB_length]; omega⟩
      subst hone
      clear hL hq
      generalize q.length = M at *
      generalize hdd : decide ((M : Int) - 1 < 0) = d at *
      have hd2 : decide ((M : Int) < 1) = d := by rw [← hdd]; simp; omega
      go_enter Tryz.func95, Tryz.ntmps95
      go_wp2_with (go_at_call 80; refine HLf.out.mono ?_; rintro e w2 ⟨rfl, hb2⟩)
      go_ret2
      exact ⟨⟨_, _, rfl, HV.out d rfl⟩, hb2⟩
    · have hn2 : 2 ≤ n := by omega
      have dn1 : ((n : Int) == 1) = false := by simp; omega
      cases q with
      | nil =>
        have HV : Hid (ValR [] n i s (⟨#[]⟩ : ByteArray) false) := by
          unfold ValR
          rw [valR_nil, if_neg (by omega)]
          exact ⟨rfl, fun r hr => (by cases hr), by decide⟩
        rw [show ([] : List Bytes).length = 0 from rfl] at wl ⊢
        clear hL hq
        go_enter Tryz.func95, Tryz.ntmps95
        go_wp2
        go_ret2
        exact ⟨⟨_, _, rfl, HV.out⟩, Below.refl _ _⟩
      | cons x t =>
        have hlb := leftN_bd hn2
        rw [List.reverse_cons] at hL
        obtain ⟨b, off, ha, hb, hcl⟩ := hL.lastCell
        subst ha
        have hTk := hL.take t.reverse.length (by simp)
        rw [List.take_left] at hTk
        have htl : t.reverse.length = t.length := by simp
        rw [htl] at hcl hTk
        have hxs : x.length ≤ 1000 := hq x (by simp)
        have hlen : (x :: t).length = t.length + 1 := rfl
        rw [hlen] at hlc hL hql wl ⊢
        have HV1 : Hid (i < leftN n → ∀ S ok, ValR t (leftN n) i s S ok → ValR (x :: t) n i s (bs (nodeB S.data.toList x)) ok) := fun h S ok hv => by
          obtain ⟨h1, h2, h3⟩ := hv
          unfold ValR
          rw [valR_cons hn2, if_pos h]
          refine ⟨by rw [h1]; cases valR t (leftN n) i s <;> rfl, fun r hr => ?_, by rw [bs_size, nodeB_length]; omega⟩
          obtain ⟨r', hr', rfl⟩ := Option.map_eq_some_iff.1 hr
          rw [h2 r' hr', bs_list]
        have HV2 : Hid (¬ i < leftN n → ∀ S ok, ValR t (n - leftN n) (i - leftN n) s S ok → ValR (x :: t) n i s (bs (nodeB x S.data.toList)) ok) := fun h S ok hv => by
          obtain ⟨h1, h2, h3⟩ := hv
          unfold ValR
          rw [valR_cons hn2, if_neg h]
          refine ⟨by rw [h1]; cases valR t (n - leftN n) (i - leftN n) s <;> rfl, fun r hr => ?_, by rw [bs_size, nodeB_length]; omega⟩
          obtain ⟨r', hr', rfl⟩ := Option.map_eq_some_iff.1 hr
          rw [h2 r' hr', bs_list]
        have HRec := Lib.hid (fun (n' i' : Nat) (h0 : 1 ≤ n') (h1 : n' ≤ n) (h2 : i' ≤ i) => value_any t n' i' s _ w h0 (by omega) (by omega) hs (fun y hy => hq y (by simp [hy])) (by omega) hTk)
        have HCell := Lib.hid (fun (W : World) (hW : Below w.heap.size w W) => (hW.cell (p := ⟨b, off + t.length, none⟩) hb).trans hcl)
        have HN1 := Lib.hid (fun (S : ByteArray) (W : World) (h : S.size ≤ 32) => refNode_any S (bs x) W (by omega) (by rw [bs_size]; omega))
        have HN2 := Lib.hid (fun (S : ByteArray) (W : World) (h : S.size ≤ 32) => refNode_any (bs x) S W (by rw [bs_size]; omega) (by omega))
        rw [bs_list] at HN1 HN2
        have HLt := Lib.hid (fun W => refLeft_any n W hn2 hn)
        clear hL hq hTk hlen htl hcl
        generalize leftN n = K at *
        generalize t.length = N at *
        obtain ⟨M, hM⟩ : ∃ M, M = N + 1 := ⟨_, rfl⟩
        rw [← hM] at hlc wl ⊢
        have hM0 : ((M : Int) - 1 < 0) = False := by simp; omega
        have hM0' : decide ((M : Int) < 1) = false := by simp; omega
        have hM0'' : decide ((M : Int) - 1 < 0) = false := by simp; omega
        have y1 : 0 ≤ (M : Int) - 1 := by omega
        have l1 : (M : Int) - 1 < (M : Int) := by omega
        have t1 : ((M : Int) - 1).toNat = N := by omega
        have k1 : (M : Int) - 1 ≤ (c : Int) := by omega
        have z1 : 1 ≤ (M : Int) := by omega
        clear hM
        by_cases hik : i < K
        · have d2 : decide ((i : Int) < (K : Int)) = true := by simp; omega
          have HR := Lib.hid (HRec.out K i (by omega) (by omega) (Nat.le_refl _))
          have HV := Lib.hid (HV1.out hik)
          clear HRec HV1 HV2 hM0
          generalize bs x = X at *
          go_enter Tryz.func95, Tryz.ntmps95
          go_wp2_with (go_at_call 61; refine (HLt.out _).mono ?_; rintro e w' ⟨rfl, rfl⟩)
          refine HR.out.mono ?_
          rintro e w2 ⟨⟨S, ok, rfl, hv⟩, hb2⟩
          have q2 := HCell.out w2 hb2
          have HS := Lib.hid (HV.out S ok hv)
          have HS32 := Lib.hid hv.2.2
          clear hv
          go_wp2_with fail
          refine (HN1.out S w2 HS32.out).mono ?_
          rintro e w3 ⟨rfl, hb3⟩
          go_wp2
          go_ret2
          exact ⟨⟨_, _, rfl, HS.out⟩, hb2.trans (hb3.mono hb2.size)⟩
        · have d2 : decide ((i : Int) < (K : Int)) = false := by simp; omega
          have w2' : IntKind.i64.wrap ((n : Int) - (K : Int)) = ((n - K : Nat) : Int) := by rw [IntWalk.i64_in _ (by omega)]; omega
          have w3' : IntKind.i64.wrap ((i : Int) - (K : Int)) = ((i - K : Nat) : Int) := by rw [IntWalk.i64_in _ (by omega)]; omega
          have HR := Lib.hid (HRec.out (n - K) (i - K) (by omega) (by omega) (by omega))
          have HV := Lib.hid (HV2.out hik)
          clear HRec HV1 HV2 hM0
          generalize bs x = X at *
          generalize n - K = n' at *
          generalize i - K = i' at *
          go_enter Tryz.func95, Tryz.ntmps95
          go_wp2_with (go_at_call 61; refine (HLt.out _).mono ?_; rintro e w' ⟨rfl, rfl⟩)
          refine HR.out.mono ?_
          rintro e w2 ⟨⟨S, ok, rfl, hv⟩, hb2⟩
          have q2 := HCell.out w2 hb2
          have HS := Lib.hid (HV.out S ok hv)
          have HS32 := Lib.hid hv.2.2
          clear hv
          go_wp2_with fail
          refine (HN2.out S w2 HS32.out).mono ?_
          rintro e w3 ⟨rfl, hb3⟩
          go_wp2
          go_ret2
          exact ⟨⟨_, _, rfl, HS.out⟩, hb2.trans (hb3.mono hb2.size)⟩
theorem digB_el {l : List Bytes} (h : digB l = true) : ∀ x ∈ l, x.length = 32 := fun x hx => by
  have := List.all_eq_true.1 h x hx
  simpa using this
set_option maxRecDepth 100000 in
set_option maxHeartbeats 2000000 in
theorem refVerify_any (R S : ByteArray) (n i : Int) (v : Value) (p : List Bytes) (w : World) (hn : I64 n) (hi : I64 i) (hS : S.size ≤ 1000) (hL : StrsAt w.heap.size w v p) (hp : p.length ≤ 100000) :
    Calls Tryz.prog 59 #[.string R, .int .i64 n, .int .i64 i, .string S, v] w fun e w' => e = .returned (.bool (verB R.data.toList n i S.data.toList p)) ∧ Below w.heap.size w w' := by
  have HD := Lib.hid (digests_any v p w hL)
  have HL := Lib.hid hL
  obtain ⟨a, c, rfl, _, _⟩ := hL.shape
  have hn' := hn
  have hi' := hi
  unfold I64 at hn' hi'
  have HVB : Hid (verB R.data.toList n i S.data.toList p = (decide (0 ≤ i) && decide (i < n) && digB p && (valR p.reverse n.toNat i.toNat S.data.toList == some R.data.toList))) := rfl
  have HEl := Lib.hid (@digB_el p)
  clear hL
  by_cases h0 : 0 ≤ i
  · have d0 : decide (i < 0) = false := by simp; omega
    by_cases h1 : i < n
    · have d1 : decide (n ≤ i) = false := by simp; omega
      rw [decide_eq_true h0, decide_eq_true h1, Bool.true_and, Bool.true_and] at HVB
      cases hd : digB p
      · rw [hd] at HVB HD
        rw [Bool.false_and] at HVB
        clear hd HEl
        generalize p.length = N at *
        go_enter Tryz.func59, Tryz.ntmps59
        go_wp2_with (go_at_call 92; refine HD.out.mono ?_; rintro e w2 ⟨rfl, hb2⟩)
        go_ret
        exact ⟨by rw [HVB.out]; rfl, hb2⟩
      · rw [hd] at HVB HD
        rw [Bool.true_and] at HVB
        obtain ⟨j, rfl⟩ := Int.eq_ofNat_of_zero_le h0
        obtain ⟨m, rfl⟩ := Int.eq_ofNat_of_zero_le (show 0 ≤ n by omega)
        rw [Int.toNat_natCast, Int.toNat_natCast] at HVB
        have HV := Lib.hid (fun W (hW : Below w.heap.size w W) => value_any p.reverse m j S.data.toList _ W (by omega) (by omega) (by omega) (by rw [Array.length_toList]; exact hS) (fun x hx => by have := HEl.out hd x (List.mem_reverse.1 hx); omega) (by rw [List.length_reverse]; omega) (by rw [List.reverse_reverse]; exact HL.out.later hW (Nat.le_refl _)))
        have HR : Hid (∀ T ok, ValR p.reverse m j S.data.toList T ok → (ok && (T.toList == R.toList)) = (valR p.reverse m j S.data.toList == some R.data.toList)) := fun T ok hv => by
          obtain ⟨h1, h2, _⟩ := hv
          cases hvv : valR p.reverse m j S.data.toList with
          | none => rw [h1, hvv]; rfl
          | some r =>
            rw [h1, hvv, h2 r hvv, str_eq]
            show (true && decide (r = R.data.toList)) = (some r == some R.data.toList)
            rw [Bool.true_and, Bool.eq_iff_iff]
            simp
        clear hd HEl
        generalize p.length = N at *
        go_enter Tryz.func59, Tryz.ntmps59
        go_wp2_with (go_at_call 92; refine HD.out.mono ?_; rintro e w2 ⟨rfl, hb2⟩)
        refine (HV.out w2 hb2).mono ?_
        rintro e w3 ⟨⟨T, ok, rfl, hv⟩, hb3⟩
        have HRv := Lib.hid (HR.out T ok hv)
        clear hv
        cases ok
        all_goals go_wp2
        all_goals go_ret
        all_goals exact ⟨by rw [HVB.out, ← HRv.out]; rfl, hb2.trans (hb3.mono hb2.size)⟩
    · have d1 : decide (n ≤ i) = true := by simp; omega
      rw [decide_eq_true h0, decide_eq_false h1, Bool.true_and, Bool.false_and, Bool.false_and] at HVB
      clear HEl
      generalize p.length = N at *
      go_enter Tryz.func59, Tryz.ntmps59
      go_wp2_with (go_at_call 92; refine HD.out.mono ?_; rintro e w2 ⟨rfl, hb2⟩)
      go_ret
      exact ⟨by rw [HVB.out]; rfl, hb2⟩
  · have d0 : decide (i < 0) = true := by simp; omega
    rw [decide_eq_false h0, Bool.false_and, Bool.false_and, Bool.false_and] at HVB
    clear HEl
    generalize p.length = N at *
    go_enter Tryz.func59, Tryz.ntmps59
    go_wp2_with (go_at_call 92; refine HD.out.mono ?_; rintro e w2 ⟨rfl, hb2⟩)
    go_ret
    exact ⟨by rw [HVB.out]; rfl, hb2⟩
end Go.Proofs.YthfenbdlolbikaaGreatDoor
