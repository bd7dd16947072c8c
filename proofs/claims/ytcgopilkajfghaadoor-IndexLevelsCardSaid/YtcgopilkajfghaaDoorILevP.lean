/- Plain: what IndexLevels looks at. -/
import Derived.Test.YtcgopilkajfghaaDoorIOrdP
set_option linter.unusedVariables false
set_option linter.unusedSimpArgs false
namespace Go.Proofs.YtcgopilkajfghaaDoor
open Go.RowKit Go.Shelf

/-- Where level k is to begin; the years times counts of the levels before it; whether none of them is as busy as the busiest. -/
def atZ (P : List ILev) : Nat → Int
  | 0 => 0
  | k + 1 => ((P.getD k default).fin : Nat)
def smZ (P : List ILev) : Nat → Int
  | 0 => 0
  | k + 1 => smZ P k + (P.getD k default).cnt * (((P.getD k default).fin : Nat) - ((P.getD k default).beg : Nat))
def fiB (P : List ILev) (b : ILev) : Nat → Bool
  | 0 => true
  | k + 1 => fiB P b k && !decide ((P.getD k default).cnt = b.cnt)
theorem fiB_iff (P : List ILev) (b : ILev) : ∀ k, fiB P b k = true ↔ ∀ j, j < k → (P.getD j default).cnt ≠ b.cnt
  | 0 => ⟨fun _ j h => by omega, fun _ => rfl⟩
  | k + 1 => by
    show (fiB P b k && _) = true ↔ _
    rw [Bool.and_eq_true, fiB_iff P b k]
    constructor
    · rintro ⟨h1, h2⟩ j hj
      by_cases e : j = k
      · subst e; simpa using h2
      · exact h1 j (by omega)
    · intro h
      exact ⟨fun j hj => h j (by omega), by simpa using h k (by omega)⟩
theorem smZ_sum (P : List ILev) : ∀ k, k ≤ P.length → smZ P k = ((P.take k).map fun q => q.cnt * ((q.fin : Int) - q.beg)).sum
  | 0, _ => rfl
  | k + 1, h => by
    have ih := smZ_sum P k (by omega)
    rw [List.take_add_one, List.getElem?_eq_getElem (by omega)]
    show smZ P k + _ = _
    rw [ih, List.map_append, List.sum_append, List.getD_eq_getElem?_getD, List.getElem?_eq_getElem (by omega)]
    simp
/-- The busiest level: one of the levels, none is busier, and those before it are less busy. -/
theorem bus_at {P : List ILev} (hp : ∀ q ∈ P, 0 < q.fin) : ∀ k, 0 < k → k ≤ P.length → ∃ j, j < k ∧ P.getD j default = busE (P.take k) ∧ (∀ i, i < k → (P.getD i default).cnt ≤ (busE (P.take k)).cnt) ∧ ∀ i, i < j → (P.getD i default).cnt < (busE (P.take k)).cnt
  | 0, h, _ => by omega
  | k + 1, _, h => by
    have hm : P.getD k default ∈ P := by
      rw [List.getD_eq_getElem?_getD, List.getElem?_eq_getElem (by omega)]
      exact List.getElem_mem _
    have hn := busE_next (L := P) (k := k) (by omega)
    by_cases h0 : k = 0
    · subst h0
      have e : busE (P.take (0 + 1)) = P.getD 0 default := by
        rw [hn]
        unfold busS busE
        simp
      exact ⟨0, by omega, e.symm, fun i hi => by rw [e, show i = 0 by omega]; exact Int.le_refl _, fun i hi => by omega⟩
    · obtain ⟨j, h1, h2, h3, h4⟩ := bus_at hp k (by omega) (by omega)
      have hjp : 0 < (busE (P.take k)).fin := by
        rw [← h2]
        refine hp _ ?_
        rw [List.getD_eq_getElem?_getD, List.getElem?_eq_getElem (by omega)]
        exact List.getElem_mem _
      by_cases hc : (busE (P.take k)).cnt < (P.getD k default).cnt
      · have e : busE (P.take (k + 1)) = P.getD k default := by rw [hn]; unfold busS; rw [if_pos (.inl hc)]
        rw [e]
        exact ⟨k, by omega, rfl, fun i hi => by
          by_cases ei : i = k
          · subst ei; exact Int.le_refl _
          · have := h3 i (by omega); omega, fun i hi => by have := h3 i hi; omega⟩
      · have e : busE (P.take (k + 1)) = busE (P.take k) := by rw [hn]; unfold busS; rw [if_neg (by omega)]
        rw [e]
        exact ⟨j, by omega, h2, fun i hi => by
          by_cases ei : i = k
          · subst ei; omega
          · exact h3 i (by omega), h4⟩
def durZ (l : List ICard) : Nat → Int
  | 0 => 0
  | k + 1 => durZ l k + ((l.getD k default).fin - (l.getD k default).beg)
theorem durZ_sum (l : List ICard) : ∀ k, k ≤ l.length → durZ l k = ((l.take k).map fun c => c.fin - c.beg).sum
  | 0, _ => rfl
  | k + 1, h => by
    have ih := durZ_sum l k (by omega)
    rw [List.take_add_one, List.getElem?_eq_getElem (by omega)]
    show durZ l k + _ = _
    rw [ih, List.map_append, List.sum_append, List.getD_eq_getElem?_getD, List.getElem?_eq_getElem (by omega)]
    simp
theorem durZ_bd {l : List ICard} (h : ∀ c ∈ l, 0 ≤ c.fin - c.beg ∧ c.fin - c.beg ≤ 2100) : ∀ k, k ≤ l.length → 0 ≤ durZ l k ∧ durZ l k ≤ 2100 * k
  | 0, _ => ⟨Int.le_refl _, Int.le_refl _⟩
  | k + 1, hk => by
    have ih := durZ_bd h k (by omega)
    have := h (l.getD k default) (by rw [List.getD_eq_getElem?_getD, List.getElem?_eq_getElem (by omega)]; exact List.getElem_mem _)
    show 0 ≤ durZ l k + _ ∧ durZ l k + _ ≤ _
    omega
structure LevF (l : List ICard) (P : List ILev) (b : ILev) : Prop where
  beg : ∀ k, k < P.length → (((P.getD k default).beg : Nat) : Int) = atZ P k
  pos : ∀ k, k < P.length → (P.getD k default).beg < (P.getD k default).fin ∧ (P.getD k default).fin ≤ 2100
  ne : ∀ k, k + 1 < P.length → (P.getD (k + 1) default).cnt ≠ (P.getD k default).cnt
  le : ∀ k, k < P.length → (P.getD k default).cnt ≤ b.cnt
  cnt : ∀ k, k < P.length → ∀ y : Int, ((P.getD k default).beg : Int) ≤ y → y < ((P.getD k default).fin : Int) → countE l y = (P.getD k default).cnt
  first : ∀ k, k < P.length → fiB P b k = true → (P.getD k default).cnt = b.cnt → P.getD k default = b
  some_ : fiB P b P.length = false
  end_ : atZ P P.length = 2100
  small : ∀ k, k < P.length → 0 ≤ (P.getD k default).cnt ∧ (P.getD k default).cnt ≤ 40
  sum : smZ P P.length = durZ l l.length
  part : ∀ k, k ≤ P.length → 0 ≤ smZ P k ∧ smZ P k ≤ 40 * atZ P k
  len : P.length ≤ 2100
theorem lev_factsM {l : List ICard} (h : IOk l) (hl : l.length ≤ 40) (M : Nat) (hM : M = 2100) : LevF l (levsR (fun y : Nat => (cntY l (y : Int) : Int)) M) (busE (levsR (fun y : Nat => (cntY l (y : Int) : Int)) M)) := by
  have hok := levs_ok (fun y : Nat => (cntY l (y : Int) : Int)) M
  have hlen := levs_len (fun y : Nat => (cntY l (y : Int) : Int)) M
  obtain ⟨c1, c2, c3⟩ := hok.chain
  have hsum := hok.sum
  generalize levsR (fun y : Nat => (cntY l (y : Int) : Int)) M = P at *
  have hne : 0 < P.length := by
    rcases Nat.eq_zero_or_pos P.length with h0 | h0
    · have := c2 (List.eq_nil_of_length_eq_zero h0); omega
    · exact h0
  have hg : ∀ k (hk : k < P.length), P.getD k default = P[k] := fun k hk => by rw [List.getD_eq_getElem?_getD, List.getElem?_eq_getElem hk]; rfl
  have hfin : ∀ q ∈ P, 0 < q.fin := fun q hq => by
    obtain ⟨k, hk, rfl⟩ := List.mem_iff_getElem.1 hq
    have := (c1 k hk).1
    omega
  obtain ⟨j, j1, j2, j3, j4⟩ := bus_at hfin P.length hne (Nat.le_refl _)
  rw [List.take_of_length_le (Nat.le_refl _)] at j2 j3 j4
  have hbeg : ∀ k, k < P.length → (((P.getD k default).beg : Nat) : Int) = atZ P k := fun k hk => by
    rw [hg k hk]
    obtain ⟨d1, d2, d3, d4, d5⟩ := c1 k hk
    cases k with
    | zero => rw [d4 rfl]; rfl
    | succ i =>
      rw [(d5 (by omega)).1]
      show _ = (((P.getD i default).fin : Nat) : Int)
      rw [hg i (by omega)]
      rfl
  have hsmall : ∀ k, k < P.length → 0 ≤ (P.getD k default).cnt ∧ (P.getD k default).cnt ≤ 40 := fun k hk => by
    rw [hg k hk]
    obtain ⟨d1, d2, d3, d4, d5⟩ := c1 k hk
    rw [← d3 P[k].beg (Nat.le_refl _) d1]
    have : cntY l ((P[k].beg : Nat) : Int) ≤ l.length := List.countP_le_length
    omega
  refine ⟨hbeg, fun k hk => by rw [hg k hk]; exact ⟨(c1 k hk).1, by have := (c1 k hk).2.1; omega⟩, fun k hk => by rw [hg (k + 1) hk, hg k (by omega)]; exact ((c1 (k + 1) hk).2.2.2.2 (by omega)).2, fun k hk => j3 k hk, fun k hk y hy1 hy2 => ?_, fun k hk hf he => ?_, ?_, ?_, hsmall, ?_, ?_, by omega⟩
  · rw [hg k hk] at hy1 hy2 ⊢
    obtain ⟨d1, d2, d3, d4, d5⟩ := c1 k hk
    obtain ⟨m, rfl⟩ : ∃ m : Nat, y = (m : Int) := ⟨y.toNat, by omega⟩
    rw [countE_at l m (by omega)]
    exact d3 m (by omega) (by omega)
  · have hf' := (fiB_iff P _ k).1 hf
    rcases Nat.lt_trichotomy j k with g | g | g
    · exact absurd (by rw [j2]) (hf' j g)
    · rw [← g]; exact j2
    · have := j4 k g; omega
  · rw [Bool.eq_false_iff]
    intro hf
    exact (fiB_iff P _ _).1 hf j j1 (by rw [j2])
  · obtain ⟨m, hm⟩ : ∃ m, P.length = m + 1 := ⟨P.length - 1, by omega⟩
    rw [hm]
    show (((P.getD m default).fin : Nat) : Int) = 2100
    have hlast : P.getLast? = some P[m] := by rw [List.getLast?_eq_getElem?, show P.length - 1 = m by omega, List.getElem?_eq_getElem (by omega)]
    rw [hg m (by omega), c3 _ hlast, hM]
    rfl
  · rw [smZ_sum P _ (Nat.le_refl _), durZ_sum l _ (Nat.le_refl _), List.take_of_length_le (Nat.le_refl _), List.take_of_length_le (Nat.le_refl _), hsum, hM]
    exact cards_sum fun c hc => by have := validC_ok (h.valid c hc); omega
  · intro k
    induction k with
    | zero => exact fun _ => ⟨Int.le_refl _, Int.le_refl _⟩
    | succ k ih =>
      intro hk
      have i1 := ih (by omega)
      have b1 := hbeg k (by omega)
      have s1 := hsmall k (by omega)
      have p1 : (P.getD k default).beg < (P.getD k default).fin := by rw [hg k (by omega)]; exact (c1 k (by omega)).1
      show 0 ≤ smZ P k + _ ∧ smZ P k + _ ≤ 40 * (((P.getD k default).fin : Nat) : Int)
      have m1 : 0 ≤ (P.getD k default).cnt * (((P.getD k default).fin : Nat) - ((P.getD k default).beg : Nat) : Int) := Int.mul_nonneg s1.1 (by omega)
      have m2 : (P.getD k default).cnt * (((P.getD k default).fin : Nat) - ((P.getD k default).beg : Nat) : Int) ≤ 40 * (((P.getD k default).fin : Nat) - ((P.getD k default).beg : Nat) : Int) := Int.mul_le_mul_of_nonneg_right s1.2 (by omega)
      omega
theorem lev_facts {l : List ICard} (h : IOk l) (hl : l.length ≤ 40) : LevF l (levsR (fun y : Nat => (cntY l (y : Int) : Int)) 2100) (busE (levsR (fun y : Nat => (cntY l (y : Int) : Int)) 2100)) := lev_factsM h hl 2100 rfl
end Go.Proofs.YtcgopilkajfghaaDoor
