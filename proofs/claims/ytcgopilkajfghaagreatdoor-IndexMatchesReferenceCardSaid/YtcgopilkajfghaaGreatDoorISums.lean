/- The sums of an index: add and upTo. -/
import Derived.Test.YtcgopilkajfghaaGreatDoorICmp
set_option linter.unusedVariables false
set_option linter.unusedSimpArgs false
namespace Go.Proofs.YtcgopilkajfghaaGreatDoor
open Go.RowKit Go.Shelf

def lowAll (n : Nat) : Bool := (List.range n).all fun k => bits .and .i64 k (-(k : Int)) == (lowN k : Int)
theorem bits_low {k : Nat} (hk : k < 2102) : bits .and .i64 k (-(k : Int)) = (lowN k : Int) := by
  have h : lowAll 2102 = true := by decide +kernel
  exact eq_of_beq (List.all_eq_true.1 h k (List.mem_range.2 hk))
set_option maxRecDepth 100000 in
set_option maxHeartbeats 1000000 in
theorem sumAdd_any (X m : Nat) (ov : Value) (T : Nat → Int) (y : Nat) (n : Int) (w : World) (hy : y ≤ 2100) (hn : -1 ≤ n ∧ n ≤ 1) (hT : ∀ k, k < 2101 → -10000 ≤ T k ∧ T k ≤ 10000) (hX : BoxN X 81 (idxC m ov T) w) :
    Calls Tryz.prog 46 #[.pointer (some ⟨X, 2, none⟩), .int .i64 y, .int .i64 n] w fun e w' => e = .returned (.tuple #[]) ∧ BoxN X 81 (idxC m ov (addT T n 2101 2101 (y + 1))) w' ∧ w.grownBy w' (some X) := by
  have HX := Lib.hid hX
  have HT := Lib.hid hT
  obtain ⟨R, hR⟩ : ∃ R, R = addT T n 2101 2101 (y + 1) := ⟨_, rfl⟩
  rw [← hR]
  have HR := Lib.hid hR
  have wy : IntKind.i64.wrap ((y : Int) + 1) = ((y + 1 : Nat) : Int) := by rw [IntKind.wrap_i64]; omega
  clear hX hT hR
  go_enter Tryz.func46, Tryz.ntmps46
  go_wp2
  go_loopw [6] (fun v wr => ∃ (k f : Nat) (T' : Nat → Int), v = .int .i64 k ∧ 0 < k ∧ k ≤ 4202 ∧ 2101 ≤ k + f ∧ Hid (addT T' n 2101 f k = R) ∧ Hid (∀ j, k ≤ j → j < 2101 → -10000 ≤ T' j ∧ T' j ≤ 10000) ∧ Hid (BoxN X 81 (idxC m ov T') wr) ∧ Hid (w.grownBy wr (some X))) (fun v _ => 5000 - (intOf v).toNat)
  case atStart => exact ⟨y + 1, 2101, T, rfl, by omega, by omega, by omega, Lib.hid HR.out.symm, Lib.hid fun j _ hj => HT.out j hj, HX, Lib.hid (World.grownBy.refl _ _)⟩
  case round =>
    obtain ⟨k, f, T', rfl, h0, hk, hf, HA, HT', HX', HG⟩ := hrel
    by_cases hks : k < 2101
    · have ki : (k : Int) < 2101 := by omega
      have k0 : 0 ≤ (k : Int) := by omega
      obtain ⟨lo, hlo⟩ : ∃ lo, lo = lowN k := ⟨_, rfl⟩
      have hl := lowN_pos h0
      rw [← hlo] at hl
      have HBa : Hid (bits .and .i64 (k : Int) (-(k : Int)) = (lo : Int)) := Lib.hid (by rw [hlo]; exact bits_low (by omega))
      have hbd := HT'.out k (Nat.le_refl _) hks
      obtain ⟨t, ht⟩ : ∃ t, t = T' k := ⟨_, rfl⟩
      rw [← ht] at hbd
      have e1 := BoxN.cell HX'.out (2 + k) _ (idxC_get hks)
      rw [← ht] at e1
      have w1 : IntKind.i64.wrap (t + n) = t + n := by rw [IntKind.wrap_i64]; omega
      have w2 : IntKind.i64.wrap ((k : Int) + (lo : Int)) = ((k + lo : Nat) : Int) := by rw [IntKind.wrap_i64]; omega
      have w3 : IntKind.i64.wrap (-(k : Int)) = -(k : Int) := by rw [IntKind.wrap_i64]; omega
      have w4 : wrap64 ((k : Int) + (lo : Int)) = ((k + lo : Nat) : Int) := (IntWalk.wrap64_in _ ⟨by omega, by omega⟩).trans (by omega)
      have HQ : Hid (∀ W, wr.grownBy W none → W.cell? ⟨X, 2 + k, none⟩ = some (.int .i64 t) ∧ W.frozen? ⟨X, 2 + k, none⟩ = false) := fun W hW => ⟨hW.cell e1 (by simp), by
        exact BoxN.frozen (BoxN.grown HX'.out hW (by simp)) _⟩
      have HTk := Lib.hid ht
      have HLo := Lib.hid hlo
      clear ht hlo
      have hba := HBa.out
      go_wp2
      clear e1
      refine wp_region_calm ⟨[], fun k v _ => True, fun _ => [], 99, none, 11⟩ (by kernel_rfl) (by kernel_rfl) (by kernel_rfl) (fun g h => by cases h) (fun k hk v W W' c h hg hc => h) ?_
      iterate 11 (refine calm_quiet (v := ?_) (by rfl) (by rfl) (fun W hW hD => ?_) ?_; rotate_left; (· (obtain ⟨z0, z1⟩ := HQ.out W hW; clear hD hW; go_simp; try with_reducible rfl)); simp only [Act.put, List.setIfInBounds_toArray, List.set_cons_zero, List.set_cons_succ, Nat.reduceAdd, Nat.zero_add])
      refine calm_tail (by rfl) fun W hW hF => ?_
      obtain ⟨z0, z1⟩ := HQ.out W hW
      have HXW := Lib.hid (BoxN.grown HX'.out hW (by simp))
      clear hF
      have HGW := Lib.hid (HG.out.trans (grown_of_below (grown_below hW) (some X)))
      clear hW
      go_wp2
      clear hba w1 w2 w3 w4
      go_roundw
      case rel =>
        refine ⟨k + lo, f - 1, fun j => if j = k then T' j + n else T' j, by go_num, by omega, by omega, by omega, Lib.hid ?_, Lib.hid fun j hj hj2 => ?_, Lib.hid ?_, Lib.hid ?_⟩
        · have hA : addT T' n 2101 f k = R := HA.out
          obtain ⟨f', rfl⟩ : ∃ f', f = f' + 1 := ⟨f - 1, by omega⟩
          rw [addT, if_pos hks] at hA
          rw [HLo.out]
          exact hA
        · show _ ≤ (if j = k then T' j + n else T' j) ∧ (if j = k then T' j + n else T' j) ≤ _
          rw [if_neg (by omega)]
          exact HT'.out j (by omega) hj2
        · have h := HXW.out.set (2 + k) (.int .i64 (t + n))
          rw [HTk.out, idxC_set hks] at h
          rw [HTk.out]
          exact h
        · exact HGW.out.trans (grown_cell1 W X (2 + k) _)
      case measure => simp [intOf]; omega
    · have ki : ¬ (k : Int) < 2101 := by omega
      go_wp2
      go_end0
      have hA : addT T' n 2101 f k = R := HA.out
      have hR : T' = R := by
        cases f with
        | zero => exact hA
        | succ f => rw [addT, if_neg hks] at hA; exact hA
      subst hR
      exact ⟨rfl, HX'.out, HG.out⟩
theorem upT_bd {T : Nat → Int} (hT : ∀ k, k < 2101 → -10000 ≤ T k ∧ T k ≤ 10000) : ∀ (f k : Nat), k < 2101 → k ≤ f → -10000 * (k : Int) ≤ upT T f k ∧ upT T f k ≤ 10000 * (k : Int)
  | 0, k, hk, hf => by obtain rfl : k = 0 := by omega
                       simp [upT]
  | f + 1, k, hk, hf => by
    rw [upT]
    by_cases h0 : k = 0
    · subst h0; simp
    · rw [if_neg h0]
      have hl := lowN_pos (k := k) (by omega)
      have h1 := hT k hk
      have h2 := upT_bd hT f (k - lowN k) (by omega) (by omega)
      have h3 : ((k - lowN k : Nat) : Int) = (k : Int) - lowN k := by omega
      have h4 : (lowN k : Int) ≥ 1 := by omega
      rw [h3] at h2
      omega
set_option maxRecDepth 100000 in
set_option maxHeartbeats 1000000 in
theorem sumUp_any (X m : Nat) (ov : Value) (T : Nat → Int) (y : Nat) (w : World) (hy : y < 2100) (hT : ∀ k, k < 2101 → -10000 ≤ T k ∧ T k ≤ 10000) (hX : BoxN X 81 (idxC m ov T) w) :
    Calls Tryz.prog 52 #[.pointer (some ⟨X, 2, none⟩), .int .i64 y] w fun e w' => e = .returned (.int .i64 (upT T 2101 (y + 1))) ∧ w' = w := by
  have HX := Lib.hid hX
  have HT := Lib.hid hT
  obtain ⟨R, hR⟩ : ∃ R, R = upT T 2101 (y + 1) := ⟨_, rfl⟩
  rw [← hR]
  have HR := Lib.hid hR
  have hRb := upT_bd hT 2101 (y + 1) (by omega) (by omega)
  rw [← hR] at hRb
  have wy : IntKind.i64.wrap ((y : Int) + 1) = ((y + 1 : Nat) : Int) := by rw [IntKind.wrap_i64]; omega
  clear hX hT hR
  go_enter Tryz.func52, Tryz.ntmps52
  go_wp2
  go_loopw [5, 6] (fun a v wr => wr = w ∧ ∃ (k f : Nat) (s : Int), a = .int .i64 s ∧ v = .int .i64 k ∧ k < 2101 ∧ k ≤ f ∧ Hid (s + upT T f k = R)) (fun _ v _ => (intOf v).toNat)
  case atStart => exact ⟨rfl, y + 1, 2101, 0, rfl, rfl, by omega, by omega, Lib.hid (by rw [HR.out]; omega)⟩
  case round =>
    obtain ⟨rfl, k, f, s, rfl, rfl, hk, hf, HA⟩ := hrel
    by_cases h0 : 0 < k
    · have ki : (k : Int) > 0 := by omega
      have ki0 : 0 < (k : Int) := by omega
      have k0 : 0 ≤ (k : Int) := by omega
      have k1 : (k : Int) < 2101 := by omega
      obtain ⟨lo, hlo⟩ : ∃ lo, lo = lowN k := ⟨_, rfl⟩
      have hl := lowN_pos h0
      rw [← hlo] at hl
      have HBa : Hid (bits .and .i64 (k : Int) (-(k : Int)) = (lo : Int)) := Lib.hid (by rw [hlo]; exact bits_low (by omega))
      obtain ⟨f, rfl⟩ : ∃ f', f = f' + 1 := ⟨f - 1, by omega⟩
      have hA : s + upT T (f + 1) k = R := HA.out
      have hu := upT_bd HT.out (f + 1) k hk hf
      rw [upT, if_neg (by omega), ← hlo] at hA hu
      have hu2 := upT_bd HT.out f (k - lo) (by omega) (by omega)
      have hkl : ((k - lo : Nat) : Int) = (k : Int) - lo := by omega
      obtain ⟨t, ht⟩ : ∃ t, t = T k := ⟨_, rfl⟩
      have e1 := BoxN.cell HX.out (2 + k) _ (idxC_get hk)
      rw [← ht] at e1 hA hu
      have w1 : IntKind.i64.wrap (s + t) = s + t := by rw [IntKind.wrap_i64]; omega
      have w2 : IntKind.i64.wrap ((k : Int) - (lo : Int)) = ((k - lo : Nat) : Int) := by rw [IntKind.wrap_i64]; omega
      have w3 : IntKind.i64.wrap (-(k : Int)) = -(k : Int) := by rw [IntKind.wrap_i64]; omega
      have w4 : wrap64 ((k : Int) - (lo : Int)) = ((k - lo : Nat) : Int) := (IntWalk.wrap64_in _ ⟨by omega, by omega⟩).trans (by omega)
      have HA2 : Hid (s + t + upT T f (k - lo) = R) := by show _ = _; omega
      clear hu hu2 hA ht hlo HA hRb hkl
      have hba := HBa.out
      go_wp2
      clear hba w1 w2 w3 w4
      go_roundw
      case rel => exact ⟨by first | rfl | trivial, k - lo, f, s + t, rfl, by go_num, by omega, by omega, HA2⟩
      case measure => simp [intOf]; omega
    · obtain rfl : k = 0 := by omega
      have hA : s + upT T f 0 = R := HA.out
      have h0 : upT T f 0 = 0 := by cases f <;> simp [upT]
      rw [h0] at hA
      obtain rfl : s = R := by omega
      clear hA h0 HA hRb
      go_wp2
      go_ret
      exact ⟨rfl, rfl⟩
end Go.Proofs.YtcgopilkajfghaaGreatDoor
