/- Plain: the bits of a number, in order. -/
import Derived.Lib.TrailingZeros
namespace Go.Proofs.YtmihkbiihfhpoaaDoor
open Go

/-- The numbers of the bits that are 1. -/
def bitsN (S : Nat) : List Nat := (List.range 32).filter S.testBit
def listB (S : Nat) : List Int := (bitsN S).map fun (i : Nat) => (i : Int)
/-- A number without its lowest bit. -/
def lowOff (x : Nat) : Nat := x &&& (x - 1)
theorem low_facts (n x : Nat) (h0 : x ≠ 0) (h : x < 2 ^ n) : Lib.ctz n x < n ∧ x.testBit (Lib.ctz n x) = true ∧ (∀ i, i < Lib.ctz n x → x.testBit i = false) ∧ ∀ i, (lowOff x).testBit i = (x.testBit i && decide (i ≠ Lib.ctz n x)) := by
  obtain ⟨m, hm, hk⟩ := Lib.ctzFrom_spec n x (by omega) h
  have e : Lib.ctz n x = Lib.ctzFrom n x := by simp [Lib.ctz, h0]
  rw [e]
  generalize Lib.ctzFrom n x = k at *
  have hp : 0 < 2 ^ k := Nat.pow_pos (by omega)
  have hx : ∀ j, x.testBit j = if j < k then false else (2 * m + 1).testBit (j - k) := fun j => by
    have := Nat.testBit_two_pow_mul_add (2 * m + 1) (i := k) (b := 0) hp j
    rw [Nat.add_zero, ← hm] at this
    rw [this]
    simp
  have hx1 : ∀ j, (x - 1).testBit j = if j < k then true else (2 * m).testBit (j - k) := fun j => by
    have e1 : x - 1 = 2 ^ k * (2 * m) + (2 ^ k - 1) := by rw [hm, Nat.mul_add]; omega
    rw [e1, Nat.testBit_two_pow_mul_add (2 * m) (i := k) (b := 2 ^ k - 1) (by omega) j]
    split
    · rw [Nat.testBit_two_pow_sub_one]; simp; assumption
    · rfl
  refine ⟨hk, by rw [hx]; simp, fun i hi => by rw [hx, if_pos hi], fun i => ?_⟩
  rw [lowOff, Nat.testBit_and, hx, hx1]
  by_cases h1 : i < k
  · simp [h1]
  · rw [if_neg h1, if_neg h1]
    by_cases h2 : i = k
    · subst h2; simp
    · obtain ⟨t, rfl⟩ : ∃ t, i = k + (t + 1) := ⟨i - k - 1, by omega⟩
      rw [show k + (t + 1) - k = t + 1 from by omega, Nat.testBit_succ, Nat.testBit_succ, show (2 * m + 1) / 2 = m from by omega, show 2 * m / 2 = m from by omega]
      simp
theorem filter_fst (p q : Nat → Bool) (k : Nat) : ∀ l : List Nat, l.Pairwise (· < ·) → k ∈ l → p k = true → (∀ i, i < k → p i = false) → (∀ i, q i = (p i && decide (i ≠ k))) → l.filter p = k :: l.filter q
  | [], _, h, _, _, _ => by simp at h
  | a :: t, hl, hk, h1, h2, h3 => by
    rw [List.pairwise_cons] at hl
    by_cases e : a = k
    · subst e
      have hq : q a = false := by rw [h3]; simp
      rw [List.filter_cons_of_pos h1, List.filter_cons_of_neg (by simp [hq])]
      congr 1
      apply List.filter_congr
      intro x hx
      have := hl.1 x hx
      rw [h3]
      simp
      intro _
      omega
    · have hkt : k ∈ t := by
        rcases List.mem_cons.1 hk with h | h
        · exact absurd h.symm e
        · exact h
      have hak := hl.1 k hkt
      have ha := h2 a hak
      have hqa : q a = false := by rw [h3, ha]; rfl
      rw [List.filter_cons_of_neg (by simp [ha]), List.filter_cons_of_neg (by simp [hqa])]
      exact filter_fst p q k t hl.2 hkt h1 h2 h3
theorem bitsN_low (x : Nat) (h0 : x ≠ 0) (h : x < 4294967296) : bitsN x = Lib.ctz 64 x :: bitsN (lowOff x) := by
  obtain ⟨h1, h2, h3, h4⟩ := low_facts 64 x h0 (by omega)
  have hk : Lib.ctz 64 x < 32 := by
    apply Classical.byContradiction
    intro hge
    have : x < 2 ^ Lib.ctz 64 x := Nat.lt_of_lt_of_le h (Nat.le_trans (by decide : (4294967296 : Nat) ≤ 2 ^ 32) (Nat.pow_le_pow_right (by omega) (by omega)))
    rw [Nat.testBit_lt_two_pow this] at h2
    cases h2
  exact filter_fst _ _ _ _ List.pairwise_lt_range (List.mem_range.2 hk) h2 h3 h4
theorem bitsN_zero : bitsN 0 = [] := by simp [bitsN]
theorem lowOff_lt (x : Nat) (h0 : x ≠ 0) : lowOff x < x := by
  have : lowOff x ≤ x - 1 := Nat.and_le_right
  omega
theorem bitsN_length (S : Nat) : (bitsN S).length ≤ 32 := by
  have := List.length_filter_le S.testBit (List.range 32)
  rw [List.length_range] at this
  exact this
theorem mem_bitsN (S : Nat) (h : S < 4294967296) (i : Nat) : i ∈ bitsN S ↔ S.testBit i = true := by
  unfold bitsN
  rw [List.mem_filter, List.mem_range]
  refine ⟨fun h => h.2, fun hb => ⟨?_, hb⟩⟩
  apply Classical.byContradiction
  intro hge
  have : S < 2 ^ i := Nat.lt_of_lt_of_le h (Nat.le_trans (by decide : (4294967296 : Nat) ≤ 2 ^ 32) (Nat.pow_le_pow_right (by omega) (by omega)))
  rw [Nat.testBit_lt_two_pow this] at hb
  cases hb
theorem mem_listB (S : Nat) (h : S < 4294967296) (z : Int) : z ∈ listB S ↔ 0 ≤ z ∧ S.testBit z.toNat = true := by
  unfold listB
  rw [List.mem_map]
  constructor
  · rintro ⟨i, hi, rfl⟩
    exact ⟨by omega, by rw [Int.toNat_natCast]; exact (mem_bitsN S h i).1 hi⟩
  · rintro ⟨h0, hb⟩
    exact ⟨z.toNat, (mem_bitsN S h _).2 hb, by omega⟩
end Go.Proofs.YtmihkbiihfhpoaaDoor
