/- Plain: a theory that integers determine is valid. -/
import Derived.Test.YtmihkbiihfhpoaaDoorJMadeW
namespace Go.Proofs.YtmihkbiihfhpoaaDoor
open Go

theorem bitsN_sorted (S : Nat) : (bitsN S).Pairwise (· < ·) := List.Pairwise.filter _ List.pairwise_lt_range
theorem listB_sorted (S : Nat) : (listB S).Pairwise (· < ·) := by
  unfold listB
  rw [List.pairwise_map]
  exact (bitsN_sorted S).imp fun h => by omega
theorem filter_or_length (p q : Nat → Bool) (k : Nat) (h : ∀ i, q i = true → p i = true ∨ i = k) : ∀ l : List Nat, l.Pairwise (· < ·) → (l.filter q).length ≤ (l.filter p).length + if k ∈ l then 1 else 0
  | [], _ => by simp
  | a :: t, hl => by
    rw [List.pairwise_cons] at hl
    have ih := filter_or_length p q k h t hl.2
    have hk : a = k → k ∉ t := fun e hk => by have := hl.1 k hk; omega
    by_cases ha : a = k
    · subst ha
      rw [if_neg (hk rfl)] at ih
      rw [if_pos (by simp)]
      have h1 : ((a :: t).filter q).length ≤ (t.filter q).length + 1 := by rw [List.filter_cons]; split <;> simp
      have h2 : (t.filter p).length ≤ ((a :: t).filter p).length := by rw [List.filter_cons]; split <;> simp
      omega
    · have hm : (k ∈ a :: t) ↔ k ∈ t := by simp [Ne.symm ha]
      by_cases hq : q a = true
      · have hp : p a = true := (h a hq).resolve_right ha
        rw [List.filter_cons_of_pos hq, List.filter_cons_of_pos hp]
        simp only [List.length_cons, hm]
        omega
      · have h2 : (t.filter p).length ≤ ((a :: t).filter p).length := by rw [List.filter_cons]; split <;> simp
        rw [List.filter_cons_of_neg hq]
        simp only [hm]
        omega
theorem bitsN_add (S : Nat) (g : Int) : (bitsN (addB S g)).length ≤ (bitsN S).length + 1 := by
  have := filter_or_length S.testBit (addB S g).testBit g.toNat (fun i hi => by
    unfold addB at hi
    rw [Nat.testBit_or, Bool.or_eq_true, Nat.testBit_two_pow] at hi
    rcases hi with hi | hi
    · exact .inl hi
    · right
      have : g.toNat = i := by simpa using hi
      exact this.symm) (List.range 32) List.pairwise_lt_range
  unfold bitsN
  split at this <;> omega
theorem madeBits_count (m : Int) (f : Nat → Int) : ∀ k, (bitsN (madeBits m f k)).length ≤ k
  | 0 => by simp [madeBits, bitsN_zero]
  | k + 1 => by
    have h := madeBits_count m f k
    unfold madeBits madeBit
    split
    · have := bitsN_add (madeBits m f k) (pickZ (f k) (m + 3))
      omega
    · omega
theorem madeBits_in (m : Int) (hm : 1 ≤ m) (f : Nat → Int) : ∀ k i, (madeBits m f k).testBit i = true → (i : Int) < m
  | 0, i, h => by simp [madeBits] at h
  | k + 1, i, h => by
    unfold madeBits madeBit at h
    split at h
    · rename_i hp
      unfold addB at h
      rw [Nat.testBit_or, Bool.or_eq_true, Nat.testBit_two_pow] at h
      rcases h with h | h
      · exact madeBits_in m hm f k i h
      · have e : (pickZ (f k) (m + 3)).toNat = i := by simpa using h
        have := pickZ_bd (f k) (m + 3) (by omega)
        omega
    · exact madeBits_in m hm f k i h
theorem sorted_ok {s d : Int} {l : List Int} (hs : l.Pairwise (· < ·)) (hb : ∀ z ∈ l, 0 ≤ z ∧ z < s + d) : badNs s d l = false := by
  unfold badNs
  rw [List.any_eq_false]
  intro i hi
  rw [List.mem_range] at hi
  have hz := hb _ (getD_mem l 0 i hi)
  unfold badN
  have h1 : decide (l.getD i 0 ≤ lastOf l i) = false := by
    simp only [decide_eq_false_iff_not]
    unfold lastOf
    split
    · omega
    · rename_i h0
      have hlt := List.pairwise_iff_getElem.1 hs (i - 1) i (by omega) hi (by omega)
      rw [List.getD_eq_getElem?_getD, List.getElem?_eq_getElem hi, List.getD_eq_getElem?_getD, List.getElem?_eq_getElem (by omega)]
      simp only [Option.getD_some]
      omega
  have h2 : inB (l.getD i 0) 0 (s + d - 1) = true := by
    simp only [inB, Bool.and_eq_true, decide_eq_true_eq]
    omega
  rw [h1, h2]
  simp
theorem madeRule_ok {s d : Int} (hs : 1 ≤ s ∧ s ≤ 6) (hd : 1 ≤ d ∧ d ≤ 8) (f : Nat → Int) : badRule s d (madeRule s d f) = false := by
  have hg := pickZ_bd (f 3) d hd.1
  have hl := madeBits_lt (s + d) (by omega) f 3
  have h1 : decide (6 < (madeRule s d f).needs.length) = false := by
    have := madeBits_count (s + d) f 3
    simp only [madeRule, listB, List.length_map, decide_eq_false_iff_not]
    omega
  have h2 : badNs s d (madeRule s d f).needs = false := sorted_ok (listB_sorted _) fun z hz => by
    have := (mem_listB _ hl z).1 hz
    have h3 := madeBits_in (s + d) (by omega) f 3 _ this.2
    omega
  have hgv : (madeRule s d f).gives = s + pickZ (f 3) d := rfl
  have h3 : decide ((madeRule s d f).gives < s) = false := by rw [hgv]; simp only [decide_eq_false_iff_not]; omega
  have h4 : inB (madeRule s d f).gives 0 (s + d - 1) = true := by
    rw [hgv]
    simp only [inB, Bool.and_eq_true, decide_eq_true_eq]
    omega
  unfold badRule
  rw [h1, h2, h3, h4]
  rfl
theorem rules_valid {s d : Int} {rs : List JRule} (hs : 1 ≤ s ∧ s ≤ 6) (hd : 1 ≤ d ∧ d ≤ 8) (hl : rs.length ≤ 40) (hr : ∀ r ∈ rs, badRule s d r = false) : validB { seen := s, drawn := d, rules := rs } = true := by
  unfold validB
  have h1 : inB s 0 12 = true := by simp only [inB, Bool.and_eq_true, decide_eq_true_eq]; omega
  have h2 : inB d 0 20 = true := by simp only [inB, Bool.and_eq_true, decide_eq_true_eq]; omega
  have h3 : decide (40 < rs.length) = false := by simp; omega
  have h4 : rs.any (badRule s d) = false := by
    rw [List.any_eq_false]
    intro r h
    simp [hr r h]
  dsimp only
  rw [h1, h2, h3, h4]
  rfl
theorem madeRules_length (s d : Int) (f : Nat → Nat → Int) (n : Nat) : (madeRules s d f n).length = n := by simp [madeRules]
theorem madeRules_mem {s d : Int} {f : Nat → Nat → Int} {n : Nat} {r : JRule} (h : r ∈ madeRules s d f n) : ∃ i, i < n ∧ r = madeRule s d (f i) := by
  obtain ⟨i, hi, rfl⟩ := List.mem_map.1 h
  exact ⟨i, List.mem_range.1 hi, rfl⟩
theorem madeT_valid (s d : Int) (n : Nat) (f : Nat → Nat → Int) : validB (madeT s d n f) = true := by
  unfold madeT
  refine rules_valid (madeSeen_bd s) (madeDrawn_bd d) (by rw [madeRules_length]; omega) fun r hr => ?_
  obtain ⟨i, _, rfl⟩ := madeRules_mem hr
  exact madeRule_ok (madeSeen_bd s) (madeDrawn_bd d) _
end Go.Proofs.YtmihkbiihfhpoaaDoor
