/- Plain: a tree of partial sums. -/
namespace Go.Proofs.YtcgopilkajfghaaGreatDoor

/-- A number is a power of two times an odd one. -/
theorem odd_part : ∀ (n k : Nat), 0 < k → k < 2 ^ n → ∃ t m, k = 2 ^ t * (2 * m + 1)
  | 0, k, h0, h => by simp at h; omega
  | n + 1, k, h0, h => by
    by_cases ho : k % 2 = 1
    · exact ⟨0, k / 2, by simp; omega⟩
    · obtain ⟨t, m, e⟩ := odd_part n (k / 2) (by omega) (by rw [Nat.pow_succ] at h; omega)
      refine ⟨t + 1, m, ?_⟩
      rw [Nat.pow_succ, Nat.mul_comm (2 ^ t) 2, Nat.mul_assoc, ← e]
      omega
/-- The lowest bit of a number. -/
def lowN (k : Nat) : Nat := k - (k &&& (k - 1))
theorem and_pred {t m : Nat} : 2 ^ t * (2 * m + 1) &&& (2 ^ t * (2 * m + 1) - 1) = 2 ^ t * (2 * m) := by
  have hp : 0 < 2 ^ t := Nat.pow_pos (by decide)
  apply Nat.eq_of_testBit_eq
  intro j
  have e1 : 2 ^ t * (2 * m + 1) - 1 = 2 ^ t * (2 * m) + (2 ^ t - 1) := by rw [Nat.mul_add]; omega
  have e0 := Nat.testBit_two_pow_mul_add (2 * m + 1) (i := t) (b := 0) hp j
  have e2 := Nat.testBit_two_pow_mul_add (2 * m) (i := t) (b := 0) hp j
  have e3 := Nat.testBit_two_pow_mul_add (2 * m) (i := t) (b := 2 ^ t - 1) (by omega) j
  rw [Nat.add_zero] at e0 e2
  rw [Nat.testBit_and, e1, e0, e2, e3]
  by_cases h : j < t
  · simp [h]
  · rw [if_neg h, if_neg h, if_neg h]
    by_cases h2 : j = t
    · subst h2; simp
    · obtain ⟨i, rfl⟩ : ∃ i, j = t + (i + 1) := ⟨j - t - 1, by omega⟩
      rw [show t + (i + 1) - t = i + 1 from by omega, Nat.testBit_succ, Nat.testBit_succ, show (2 * m + 1) / 2 = m from by omega, show 2 * m / 2 = m from by omega]
      simp
theorem lowN_eq {t m : Nat} : lowN (2 ^ t * (2 * m + 1)) = 2 ^ t := by
  unfold lowN
  rw [and_pred, ← Nat.mul_sub, show 2 * m + 1 - 2 * m = 1 from by omega, Nat.mul_one]
theorem low_form {k : Nat} (h : 0 < k) : ∃ t m, k = 2 ^ t * (2 * m + 1) ∧ lowN k = 2 ^ t := by
  obtain ⟨t, m, e⟩ := odd_part k k h Nat.lt_two_pow_self
  exact ⟨t, m, e, by rw [e]; exact lowN_eq⟩
theorem lowN_pos {k : Nat} (h : 0 < k) : 0 < lowN k ∧ lowN k ≤ k := by
  obtain ⟨t, m, e, hl⟩ := low_form h
  have hp : 0 < 2 ^ t := Nat.pow_pos (by decide)
  refine ⟨by omega, ?_⟩
  unfold lowN
  omega
/-- A multiple that lies beyond another one lies beyond it by the step. -/
theorem next_mult {s a b : Nat} (h : s * a < s * b) : s * a + s ≤ s * b := by
  have : a < b := Nat.lt_of_mul_lt_mul_left h
  calc s * a + s = s * (a + 1) := by rw [Nat.mul_add, Nat.mul_one]
    _ ≤ s * b := Nat.mul_le_mul_left s this
theorem pow_split {s t : Nat} (h : s ≤ t) : 2 ^ t = 2 ^ s * 2 ^ (t - s) := by rw [← Nat.pow_add]; congr 1; omega
/-- A place has number i in its part of the sum. -/
def covers (k i : Nat) : Prop := k - lowN k < i ∧ i ≤ k
/-- From a place that is not k on: k covers i just if it covers the next one. -/
theorem covers_next {k i : Nat} (hk : 0 < k) (hi : 0 < i) (hne : i ≠ k) : covers k i ↔ covers k (i + lowN i) := by
  obtain ⟨t, m, ek, lk⟩ := low_form hk
  obtain ⟨s, a, ei, li⟩ := low_form hi
  have hpt : 0 < 2 ^ t := Nat.pow_pos (by decide)
  have hps : 0 < 2 ^ s := Nat.pow_pos (by decide)
  have ek' : k = 2 ^ t * (2 * m) + 2 ^ t := by rw [ek, Nat.mul_add, Nat.mul_one]
  have ei' : i = 2 ^ s * (2 * a) + 2 ^ s := by rw [ei, Nat.mul_add, Nat.mul_one]
  have en : i + 2 ^ s = 2 ^ (s + 1) * (a + 1) := by rw [ei', Nat.pow_succ, Nat.mul_assoc, Nat.mul_add 2 a 1, Nat.mul_add]; omega
  have e0 : k - 2 ^ t = 2 ^ t * (2 * m) := by omega
  unfold covers
  rw [lk, li, e0]
  constructor
  · rintro ⟨h1, h2⟩
    have hlt : i < k := by omega
    refine ⟨by omega, ?_⟩
    -- s < t
    have hst : s < t := by
      apply Classical.byContradiction
      intro hge
      have h3 : 2 ^ s = 2 ^ t * 2 ^ (s - t) := pow_split (by omega)
      have h4 : i = 2 ^ t * (2 ^ (s - t) * (2 * a + 1)) := by rw [ei, h3, Nat.mul_assoc]
      have h5 := next_mult (s := 2 ^ t) (a := 2 * m) (b := 2 ^ (s - t) * (2 * a + 1)) (by rw [← h4]; exact h1)
      rw [← h4] at h5
      omega
    have h3 : 2 ^ t = 2 ^ (s + 1) * 2 ^ (t - (s + 1)) := pow_split (by omega)
    have h4 : k = 2 ^ (s + 1) * (2 ^ (t - (s + 1)) * (2 * m + 1)) := by rw [ek, h3, Nat.mul_assoc]
    have h5 : 2 ^ (s + 1) * a < 2 ^ (s + 1) * (2 ^ (t - (s + 1)) * (2 * m + 1)) := by
      rw [← h4]
      have : 2 ^ (s + 1) * a = 2 ^ s * (2 * a) := by rw [Nat.pow_succ, Nat.mul_assoc]
      omega
    have h6 := next_mult h5
    rw [← h4] at h6
    rw [en, Nat.mul_add, Nat.mul_one]
    exact h6
  · rintro ⟨h1, h2⟩
    refine ⟨?_, by omega⟩
    apply Classical.byContradiction
    intro hge
    have hle : i ≤ 2 ^ t * (2 * m) := by omega
    by_cases hst : s ≤ t
    · -- the next one is a multiple of the step, and so is the border
      have h3 : 2 ^ (t + 1) = 2 ^ (s + 1) * 2 ^ (t - s) := by rw [← Nat.pow_add]; congr 1; omega
      have h4 : 2 ^ t * (2 * m) = 2 ^ (s + 1) * (2 ^ (t - s) * m) := by rw [← Nat.mul_assoc (2 ^ (s + 1)), ← h3, Nat.pow_succ, Nat.mul_assoc]
      have h5 : 2 ^ (s + 1) * a < 2 ^ (s + 1) * (2 ^ (t - s) * m) := by
        rw [← h4]
        have : 2 ^ (s + 1) * a = 2 ^ s * (2 * a) := by rw [Nat.pow_succ, Nat.mul_assoc]
        omega
      have h6 := next_mult h5
      rw [← h4] at h6
      rw [en, Nat.mul_add, Nat.mul_one] at h1
      omega
    · have h3 : 2 ^ (s + 1) = 2 ^ (t + 1) * 2 ^ (s - t) := by rw [← Nat.pow_add]; congr 1; omega
      have h4 : i + 2 ^ s = 2 ^ (t + 1) * (2 ^ (s - t) * (a + 1)) := by rw [en, h3, Nat.mul_assoc]
      have h5 : 2 ^ t * (2 * m) = 2 ^ (t + 1) * m := by rw [Nat.pow_succ, Nat.mul_assoc]
      have h6 := next_mult (s := 2 ^ (t + 1)) (a := m) (b := 2 ^ (s - t) * (a + 1)) (by rw [← h4, ← h5]; exact h1)
      rw [← h4, ← h5] at h6
      have : 2 ^ (t + 1) = 2 * 2 ^ t := by rw [Nat.pow_succ]; omega
      omega
theorem covers_self {k : Nat} (h : 0 < k) : covers k k := ⟨by have := lowN_pos h; omega, Nat.le_refl _⟩
/-- The sum of the numbers 1 to i. -/
def preS (D : Nat → Int) : Nat → Int
  | 0 => 0
  | i + 1 => preS D i + D (i + 1)
/-- What a place of the tree holds. -/
def nodeS (D : Nat → Int) (k : Nat) : Int := preS D k - preS D (k - lowN k)
/-- One number grown. -/
def bumpD (D : Nat → Int) (i : Nat) (n : Int) : Nat → Int := fun j => if j = i then D j + n else D j
theorem preS_bump (D : Nat → Int) (i : Nat) (n : Int) (hi : 0 < i) : ∀ k, preS (bumpD D i n) k = preS D k + if i ≤ k then n else 0
  | 0 => by rw [if_neg (by omega)]; simp [preS]
  | k + 1 => by
    simp only [preS, preS_bump D i n hi k, bumpD]
    split <;> split <;> split <;> omega
theorem nodeS_bump (D : Nat → Int) (i : Nat) (n : Int) (hi : 0 < i) (k : Nat) : (covers k i → nodeS (bumpD D i n) k = nodeS D k + n) ∧ (¬ covers k i → nodeS (bumpD D i n) k = nodeS D k) := by
  unfold nodeS
  rw [preS_bump D i n hi, preS_bump D i n hi]
  unfold covers
  constructor
  · rintro ⟨h1, h2⟩
    rw [if_pos h2, if_neg (by omega)]
    omega
  · intro h
    by_cases h2 : i ≤ k
    · rw [if_pos h2, if_pos (by omega)]; omega
    · rw [if_neg h2, if_neg (by omega)]; omega
/-- The tree with the places from i on grown, as the loop goes. -/
def addT (T : Nat → Int) (n : Int) (size : Nat) : Nat → Nat → Nat → Int
  | 0, _ => T
  | f + 1, i => if i < size then addT (fun k => if k = i then T k + n else T k) n size f (i + lowN i) else T
theorem addT_spec (n : Int) (size : Nat) : ∀ (f : Nat) (T : Nat → Int) (i : Nat), 0 < i → size ≤ i + f → ∀ k, 0 < k → k < size → (covers k i → addT T n size f i k = T k + n) ∧ (¬ covers k i → addT T n size f i k = T k)
  | 0, T, i, hi, hf, k, hk, hks => ⟨fun h => by have := h.2; omega, fun _ => rfl⟩
  | f + 1, T, i, hi, hf, k, hk, hks => by
    rw [addT]
    by_cases his : i < size
    · rw [if_pos his]
      have hl := lowN_pos hi
      have ih := addT_spec n size f (fun k => if k = i then T k + n else T k) (i + lowN i) (by omega) (by omega) k hk hks
      by_cases e : k = i
      · subst e
        have hnc : ¬ covers k (k + lowN k) := fun h => by have := h.2; omega
        rw [ih.2 hnc, if_pos rfl]
        exact ⟨fun _ => rfl, fun h => absurd (covers_self hk) h⟩
      · have hc := covers_next hk hi (fun h => e h.symm)
        refine ⟨fun h => ?_, fun h => ?_⟩
        · rw [ih.1 (hc.1 h), if_neg e]
        · rw [ih.2 (fun h' => h (hc.2 h')), if_neg e]
    · rw [if_neg his]
      exact ⟨fun h => by have := h.2; omega, fun _ => rfl⟩
/-- The loop that sums up. -/
def upT (T : Nat → Int) : Nat → Nat → Int
  | 0, _ => 0
  | f + 1, k => if k = 0 then 0 else T k + upT T f (k - lowN k)
theorem upT_spec (T D : Nat → Int) : ∀ (f k : Nat), k ≤ f → (∀ j, 0 < j → j ≤ k → T j = nodeS D j) → upT T f k = preS D k
  | 0, k, hk, h => by obtain rfl : k = 0 := by omega
                      rfl
  | f + 1, k, hk, h => by
    rw [upT]
    by_cases h0 : k = 0
    · subst h0; rfl
    · rw [if_neg h0, h k (by omega) (Nat.le_refl _)]
      have hl := lowN_pos (k := k) (by omega)
      rw [upT_spec T D f (k - lowN k) (by omega) fun j h1 h2 => h j h1 (by omega)]
      unfold nodeS
      omega
end Go.Proofs.YtcgopilkajfghaaGreatDoor
