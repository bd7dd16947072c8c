/- Plain: the cards of an index, put again in a turned order. -/
import Derived.Test.YtcgopilkajfghaaDoorIOrdP
set_option linter.unusedVariables false
set_option linter.unusedSimpArgs false
namespace Go.Proofs.YtcgopilkajfghaaDoor
open Go.RowKit Go.Shelf

theorem sorted_extC : ∀ (l m : List ICard), l.Pairwise befC → m.Pairwise befC → (∀ x, x ∈ l ↔ x ∈ m) → l = m
  | [], [], _, _, _ => rfl
  | [], b :: s, _, _, h => absurd ((h b).2 (by simp)) (by simp)
  | a :: t, [], _, _, h => absurd ((h a).1 (by simp)) (by simp)
  | a :: t, b :: s, hl, hm, h => by
    rw [List.pairwise_cons] at hl hm
    have hab : a = b := by
      apply Classical.byContradiction
      intro hne
      have h1 : a ∈ s := by
        rcases List.mem_cons.1 ((h a).1 (by simp)) with e | e
        · exact absurd e hne
        · exact e
      have h2 : b ∈ t := by
        rcases List.mem_cons.1 ((h b).2 (by simp)) with e | e
        · exact absurd e.symm hne
        · exact e
      exact befC_asym (hl.1 b h2) (hm.1 a h1)
    subst hab
    rw [sorted_extC t s hl.2 hm.2 fun x => ⟨fun hx => ?_, fun hx => ?_⟩]
    · rcases List.mem_cons.1 ((h x).1 (by simp [hx])) with e | e
      · subst e; exact absurd (hl.1 _ hx) (befC_irr _)
      · exact e
    · rcases List.mem_cons.1 ((h x).2 (by simp [hx])) with e | e
      · subst e; exact absurd (hm.1 _ hx) (befC_irr _)
      · exact e
/-- A further card comes and goes around another one. -/
theorem put_put_drop {M : List ICard} (h : IOk M) {c e : ICard} (hc : findC M c.id = none) (he : findC M e.id = none) (hne : c.id ≠ e.id) (vc : validC c = true) (ve : validC e = true) (hl : M.length < 498) :
    putL M e = (insC M e, 0) ∧ putL (insC M e) c = (insC (insC M e) c, 0) ∧ dropL (insC (insC M e) c) e.id = (insC M c, 0) := by
  have h1 := insC_ok h ve he (by omega)
  have hc1 : findC (insC M e) c.id = none := by rw [find_ins he, if_neg hne]; exact hc
  have h2 := insC_ok h1 vc hc1 (by rw [insC_length]; omega)
  have h3 := insC_ok h vc hc (by omega)
  refine ⟨putL_in he ve (by omega), putL_in hc1 vc (by rw [insC_length]; omega), ?_⟩
  have hf : findC (insC (insC M e) c) e.id = some e := by rw [find_ins hc1, if_neg (Ne.symm hne), find_ins he, if_pos rfl]
  have hme : e ∈ insC (insC M e) c := (findC_some hf).1
  unfold dropL
  rw [hf]
  simp only
  have hce : c ≠ e := fun h => hne (by rw [h])
  have hnm : e ∉ M := fun hm => findC_none.1 he e hm rfl
  rw [sorted_extC (delC (insC (insC M e) c) e) (insC M c) (delC_ok h2 hme).sorted h3.sorted fun x => ?_]
  rw [delC_mem h2 hme, insC_mem, insC_mem, insC_mem]
  constructor
  · rintro ⟨h4 | h4 | h4, h5⟩
    · exact .inl h4
    · exact absurd h4 h5
    · exact .inr h4
  · rintro (h4 | h4)
    · exact ⟨.inl h4, by rw [h4]; exact hce⟩
    · exact ⟨.inr (.inr h4), fun h5 => hnm (by rw [← h5]; exact h4)⟩
/-- The card of round i, and the cards put before it. -/
def rotC (l : List ICard) (p i : Nat) : ICard := l.getD ((i + p) % l.length) default
def rotL (l : List ICard) (p : Nat) : Nat → List ICard
  | 0 => []
  | i + 1 => insC (rotL l p i) (rotC l p i)
theorem rotC_mem {l : List ICard} (p i : Nat) (h : 0 < l.length) : rotC l p i ∈ l := by
  unfold rotC
  have := Nat.mod_lt (i + p) h
  rw [List.getD_eq_getElem?_getD, List.getElem?_eq_getElem this]
  exact List.getElem_mem this
theorem rotC_inj {l : List ICard} (h : IOk l) {p i j : Nat} (hi : i < l.length) (hj : j < l.length) (he : (rotC l p i).id = (rotC l p j).id) : i = j := by
  have h0 : 0 < l.length := by omega
  have m1 := Nat.mod_lt (i + p) h0
  have m2 := Nat.mod_lt (j + p) h0
  unfold rotC at he
  rw [List.getD_eq_getElem?_getD, List.getElem?_eq_getElem m1, List.getD_eq_getElem?_getD, List.getElem?_eq_getElem m2] at he
  simp only [Option.getD_some] at he
  have hq : (i + p) % l.length = (j + p) % l.length := by
    rcases Nat.lt_trichotomy ((i + p) % l.length) ((j + p) % l.length) with hlt | heq | hgt
    · exact absurd he (List.pairwise_iff_getElem.1 h.ids _ _ m1 m2 hlt)
    · exact heq
    · exact absurd he.symm (List.pairwise_iff_getElem.1 h.ids _ _ m2 m1 hgt)
  have h1 := Nat.div_add_mod (i + p) l.length
  have h2 := Nat.div_add_mod (j + p) l.length
  rw [hq] at h1
  clear he m1 m2 hq h h0
  generalize (j + p) % l.length = r at *
  generalize (i + p) / l.length = a at *
  generalize (j + p) / l.length = b at *
  generalize l.length = n at *
  rcases Nat.lt_trichotomy a b with hab | hab | hab
  · have := Nat.mul_le_mul_left n (show a + 1 ≤ b by omega)
    rw [Nat.mul_add] at this
    omega
  · subst hab; omega
  · have := Nat.mul_le_mul_left n (show b + 1 ≤ a by omega)
    rw [Nat.mul_add] at this
    omega
theorem rotL_facts {l : List ICard} (h : IOk l) (hn : l.length ≤ 40) (p : Nat) : ∀ k, k ≤ l.length → IOk (rotL l p k) ∧ (rotL l p k).length = k ∧ (∀ x, x ∈ rotL l p k ↔ ∃ j, j < k ∧ x = rotC l p j)
  | 0, _ => ⟨iok_nil, rfl, fun x => ⟨fun h => (by cases h), fun h => by obtain ⟨j, hj, _⟩ := h; omega⟩⟩
  | k + 1, hk => by
    obtain ⟨h1, h2, h3⟩ := rotL_facts h hn p k (by omega)
    have hc := rotC_mem p k (show 0 < l.length by omega)
    have hno : findC (rotL l p k) (rotC l p k).id = none := findC_none.2 fun x hx e => by
      obtain ⟨j, hj, rfl⟩ := (h3 x).1 hx
      have := rotC_inj h (show j < l.length by omega) (show k < l.length by omega) e
      omega
    refine ⟨insC_ok h1 (h.valid _ hc) hno (by omega), by show (insC _ _).length = _; rw [insC_length, h2], fun x => ?_⟩
    show x ∈ insC _ _ ↔ _
    rw [insC_mem, h3]
    constructor
    · rintro (rfl | ⟨j, hj, rfl⟩)
      · exact ⟨k, by omega, rfl⟩
      · exact ⟨j, by omega, rfl⟩
    · rintro ⟨j, hj, rfl⟩
      by_cases e : j = k
      · subst e; exact .inl rfl
      · exact .inr ⟨j, by omega, rfl⟩
theorem rotL_no {l : List ICard} (h : IOk l) (hn : l.length ≤ 40) (p k : Nat) (hk : k < l.length) : findC (rotL l p k) (rotC l p k).id = none := findC_none.2 fun x hx e => by
  obtain ⟨j, hj, rfl⟩ := ((rotL_facts h hn p k (by omega)).2.2 x).1 hx
  have := rotC_inj h (show j < l.length by omega) hk e
  omega
theorem rotL_all {l : List ICard} (h : IOk l) (hn : l.length ≤ 40) (p : Nat) : rotL l p l.length = l := by
  obtain ⟨h1, h2, h3⟩ := rotL_facts h hn p l.length (Nat.le_refl _)
  refine sorted_extC _ _ h1.sorted h.sorted fun x => ?_
  rw [h3]
  constructor
  · rintro ⟨j, hj, rfl⟩
    exact rotC_mem p j (by omega)
  · intro hx
    obtain ⟨k, hk, rfl⟩ := List.mem_iff_getElem.1 hx
    have h0 : 0 < l.length := by omega
    refine ⟨(k + (l.length - p % l.length)) % l.length, Nat.mod_lt _ h0, ?_⟩
    unfold rotC
    have e : ((k + (l.length - p % l.length)) % l.length + p) % l.length = k := by
      rw [Nat.mod_add_mod, ← Nat.add_mod_mod (k + (l.length - p % l.length)) p]
      have hp := Nat.mod_lt p h0
      rw [show k + (l.length - p % l.length) + p % l.length = k + l.length by omega, Nat.add_mod_right, Nat.mod_eq_of_lt hk]
    rw [e, List.getD_eq_getElem?_getD, List.getElem?_eq_getElem hk]
    rfl
theorem rot_small {l : List ICard} (hid : ∀ c ∈ l, 0 ≤ c.id ∧ c.id < 20) (h : IOk l) (hn : l.length ≤ 40) (p k : Nat) (hk : k ≤ l.length) {z : Int} (hz : 20 ≤ z) : findC (rotL l p k) z = none := findC_none.2 fun x hx e => by
  obtain ⟨j, hj, rfl⟩ := ((rotL_facts h hn p k hk).2.2 x).1 hx
  have := (hid _ (rotC_mem p j (by omega))).2
  omega
/-- What a round does: one card more, with or without a further card that comes and goes. -/
theorem rot_round {l : List ICard} (hid : ∀ c ∈ l, 0 ≤ c.id ∧ c.id < 20) (h : IOk l) (hn : l.length ≤ 40) (p k : Nat) (hk : k < l.length) :
    putL (rotL l p k) (rotC l p k) = (rotL l p (k + 1), 0) ∧ ∀ e : ICard, validC e = true → 20 ≤ e.id →
      putL (rotL l p k) e = (insC (rotL l p k) e, 0) ∧ putL (insC (rotL l p k) e) (rotC l p k) = (insC (insC (rotL l p k) e) (rotC l p k), 0) ∧ dropL (insC (insC (rotL l p k) e) (rotC l p k)) e.id = (rotL l p (k + 1), 0) := by
  obtain ⟨h1, h2, h3⟩ := rotL_facts h hn p k (by omega)
  have hc := rotC_mem p k (show 0 < l.length by omega)
  have hno := rotL_no h hn p k hk
  refine ⟨putL_in hno (h.valid _ hc) (by omega), fun e ve he => ?_⟩
  exact put_put_drop h1 hno (rot_small hid h hn p k (by omega) he) (fun e' => by have := (hid _ hc).2; omega) (h.valid _ hc) ve (by omega)
end Go.Proofs.YtcgopilkajfghaaDoor
