/- left of the statements, Left of the reference, binary. -/
import Derived.Test.YteemhemnkdgehaaDoorDVerE
import Derived.Test.YteemhemnkdgehaaDoorDPlain
import Derived.Test.YteemhemnkdgehaaDoorSmall
namespace Go.Proofs.YteemhemnkdgehaaDoor
open Go.RowKit Go.Shelf

theorem leftN_exit {n e : Nat} (h : 2 ^ e < n) (h2 : (n : Int) - ((2 ^ e : Nat) : Int) ≤ ((2 ^ e : Nat) : Int)) : leftN n = 2 ^ e := leftN_of h (by rw [Nat.pow_succ]; omega)
theorem lawLeft_any (n : Nat) (w : World) (h2 : 2 ≤ n) (hn : n ≤ 9223372036854775807) :
    Calls Tryd.prog 31 #[.int .i64 n] w fun e w' => e = .returned (.int .i64 (leftN n : Nat)) ∧ w = w' := by
  have HX : Hid (∀ e, 2 ^ e < n → (n : Int) - ((2 ^ e : Nat) : Int) ≤ ((2 ^ e : Nat) : Int) → leftN n = 2 ^ e) := fun e h h' => leftN_exit h h'
  go_enter Tryd.func31, Tryd.ntmps31
  go_wp2
  go_loop [3] (fun s => ∃ k : Nat, 1 ≤ k ∧ k < n ∧ s = .int .i64 k ∧ Hid (∃ e, k = 2 ^ e)) (fun s => n - (intOf s).toNat)
  case atStart => exact ⟨1, by omega, by omega, rfl, 0, rfl⟩
  case round =>
    obtain ⟨k, hk1, hkn, rfl, HE⟩ := hrel
    have w1 : IntKind.i64.wrap ((n : Int) - (k : Int)) = (n : Int) - (k : Int) := IntWalk.i64_in _ (by omega)
    by_cases hlt : (k : Int) < (n : Int) - (k : Int)
    · have w2 : IntKind.i64.wrap (2 * (k : Int)) = 2 * (k : Int) := IntWalk.i64_in _ (by omega)
      go_wp2
      go_round
      case rel =>
        refine ⟨2 * k, by omega, by omega, by go_num, ?_⟩
        obtain ⟨e, he⟩ := HE
        exact ⟨e + 1, by rw [he, Nat.pow_succ]; omega⟩
      case measure => simp [intOf]; omega
    · have HR : Hid (leftN n = k) := by
        obtain ⟨e, he⟩ := HE
        subst he
        exact HX.out e hkn (by omega)
      go_wp2
      go_ret
      exact ⟨by rw [HR.out]; rfl, rfl⟩
theorem refLeft_any (n : Nat) (w : World) (h2 : 2 ≤ n) (hn : n ≤ 9223372036854775807) :
    Calls Tryd.prog 42 #[.int .i64 n] w fun e w' => e = .returned (.int .i64 (leftN n : Nat)) ∧ w = w' := by
  have HX : Hid (∀ e, 2 ^ e < n → (n : Int) - ((2 ^ e : Nat) : Int) ≤ ((2 ^ e : Nat) : Int) → leftN n = 2 ^ e) := fun e h h' => leftN_exit h h'
  go_enter Tryd.func42, Tryd.ntmps42
  go_wp2
  go_loop [3] (fun s => ∃ k : Nat, 1 ≤ k ∧ k < n ∧ s = .int .i64 k ∧ Hid (∃ e, k = 2 ^ e)) (fun s => n - (intOf s).toNat)
  case atStart => exact ⟨1, by omega, by omega, rfl, 0, rfl⟩
  case round =>
    obtain ⟨k, hk1, hkn, rfl, HE⟩ := hrel
    have w1 : IntKind.i64.wrap ((n : Int) - (k : Int)) = (n : Int) - (k : Int) := IntWalk.i64_in _ (by omega)
    by_cases hlt : (k : Int) < (n : Int) - (k : Int)
    · have w2 : IntKind.i64.wrap (2 * (k : Int)) = 2 * (k : Int) := IntWalk.i64_in _ (by omega)
      go_wp2
      go_round
      case rel =>
        refine ⟨2 * k, by omega, by omega, by go_num, ?_⟩
        obtain ⟨e, he⟩ := HE
        exact ⟨e + 1, by rw [he, Nat.pow_succ]; omega⟩
      case measure => simp [intOf]; omega
    · have HR : Hid (leftN n = k) := by
        obtain ⟨e, he⟩ := HE
        subst he
        exact HX.out e hkn (by omega)
      go_wp2
      go_ret
      exact ⟨by rw [HR.out]; rfl, rfl⟩
theorem binary_any (n : Nat) (w : World) (hn : n ≤ 1000000) :
    Calls Tryd.prog 25 #[.int .i64 n] w fun e w' => (∃ r : Nat, e = .returned (.int .i64 r) ∧ n < 2 ^ r ∧ r ≤ 1000000) ∧ w = w' := by
  go_enter Tryd.func25, Tryd.ntmps25
  go_wp2
  go_loop [0, 3] (fun m s => ∃ (q k : Nat), q + k ≤ n ∧ m = .int .i64 q ∧ s = .int .i64 k ∧ Hid (n / 2 ^ k = q)) (fun m _ => (intOf m).toNat)
  case atStart => exact ⟨n, 0, by omega, rfl, rfl, by show _ = _; simp⟩
  case round =>
    obtain ⟨q, k, hqk, rfl, rfl, HE⟩ := hrel
    by_cases hq : 0 < q
    · have hq' : (0 : Int) < (q : Int) := by omega
      have w1 : ((q : Int)).tdiv 2 = ((q / 2 : Nat) : Int) := by rw [Int.tdiv_eq_ediv_of_nonneg (by omega)]; omega
      have w3 : IntKind.i64.wrap (((q / 2 : Nat) : Int)) = ((q / 2 : Nat) : Int) := IntWalk.i64_in _ (by omega)
      go_wp2
      go_round
      case rel => exact ⟨q / 2, k + 1, by omega, by go_num, by go_num, by show _ = _; rw [Nat.pow_succ, ← Nat.div_div_eq_div_mul, HE.out]⟩
      case measure => simp [intOf]; omega
    · obtain rfl : q = 0 := by omega
      have HR : Hid (n < 2 ^ k) := by
        have h1 := HE.out
        have h0 : 0 < 2 ^ k := Nat.pow_pos (by decide)
        show n < 2 ^ k
        rcases Nat.div_eq_zero_iff.1 h1 with h | h
        · omega
        · exact h
      go_wp2
      go_ret
      exact ⟨⟨k, rfl, HR.out, by omega⟩, rfl⟩
end Go.Proofs.YteemhemnkdgehaaDoor
