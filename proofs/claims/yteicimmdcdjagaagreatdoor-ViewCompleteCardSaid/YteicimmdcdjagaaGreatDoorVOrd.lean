import Derived.Test.YteicimmdcdjagaaGreatDoorVPlain
set_option linter.unusedVariables false
set_option linter.unusedSimpArgs false

/- Plain: the order of notes; valid notes; where a note goes. -/
set_option linter.unusedVariables false
set_option linter.unusedSimpArgs false
namespace Go.Proofs.YteicimmdcdjagaaGreatDoor

instance : Inhabited VNote := ⟨⟨0, 0, 0, []⟩⟩
/-- The order of texts. -/
def ltT (x y : List UInt8) : Bool := Op.bytesLess x y
theorem ltT_irr : ∀ x : List UInt8, ltT x x = false
  | [] => rfl
  | a :: x => by
    show (decide (a < a) || (a == a && ltT x x)) = false
    rw [ltT_irr x, decide_eq_false (UInt8.lt_irrefl a)]
    simp
theorem ltT_asym : ∀ x y : List UInt8, ltT x y = true → ltT y x = false
  | [], [], h => by cases h
  | _ :: _, [], h => by cases h
  | [], b :: y, h => rfl
  | a :: x, b :: y, h => by
    have h1 : (decide (a < b) || (a == b && ltT x y)) = true := h
    clear h
    show (decide (b < a) || (b == a && ltT y x)) = false
    rw [Bool.or_eq_true, Bool.and_eq_true, decide_eq_true_eq, beq_iff_eq] at h1
    rcases h1 with h2 | ⟨e, h3⟩
    · rw [decide_eq_false (UInt8.lt_asymm h2), Bool.false_or, beq_eq_false_iff_ne.2 (fun e => UInt8.lt_irrefl a (by rw [e] at h2; exact h2)), Bool.false_and]
    · rw [e, decide_eq_false (UInt8.lt_irrefl b), Bool.false_or, ltT_asym x y h3, Bool.and_false]
theorem ltT_trans : ∀ x y z : List UInt8, ltT x y = true → ltT y z = true → ltT x z = true
  | [], [], _, h, _ => by cases h
  | _ :: _, [], _, h, _ => by cases h
  | _, _ :: _, [], _, h => by cases h
  | [], b :: y, c :: z, _, _ => rfl
  | a :: x, b :: y, c :: z, h, g => by
    have h1 : (decide (a < b) || (a == b && ltT x y)) = true := h
    have g1 : (decide (b < c) || (b == c && ltT y z)) = true := g
    clear h g
    show (decide (a < c) || (a == c && ltT x z)) = true
    rw [Bool.or_eq_true, Bool.and_eq_true, decide_eq_true_eq, beq_iff_eq] at h1 g1 ⊢
    rcases h1 with h2 | ⟨e, h3⟩
    · rcases g1 with g2 | ⟨e2, g3⟩
      · exact .inl (UInt8.lt_trans h2 g2)
      · exact .inl (by rw [← e2]; exact h2)
    · rcases g1 with g2 | ⟨e2, g3⟩
      · exact .inl (by rw [e]; exact g2)
      · exact .inr ⟨e.trans e2, ltT_trans x y z h3 g3⟩
theorem ltT_tri : ∀ x y : List UInt8, ltT x y = false → ltT y x = false → x = y
  | [], [], _, _ => rfl
  | [], b :: y, h, _ => by cases h
  | a :: x, [], _, h => by cases h
  | a :: x, b :: y, h, g => by
    have h1 : (decide (a < b) || (a == b && ltT x y)) = false := h
    have g1 : (decide (b < a) || (b == a && ltT y x)) = false := g
    clear h g
    rw [Bool.or_eq_false_iff, decide_eq_false_iff_not] at h1 g1
    have e : a = b := UInt8.le_antisymm (UInt8.not_lt.1 g1.1) (UInt8.not_lt.1 h1.1)
    subst e
    rw [beq_self_eq_true, Bool.true_and] at h1 g1
    rw [ltT_tri x y h1.2 g1.2]
def sgnI (a b : Int) : Int := if a < b then -1 else if b < a then 1 else 0
def sgnT (x y : List UInt8) : Int := if ltT x y then -1 else if ltT y x then 1 else 0
theorem sgnI_cases (a b : Int) : (a < b ∧ sgnI a b = -1) ∨ (a = b ∧ sgnI a b = 0) ∨ (b < a ∧ sgnI a b = 1) := by
  unfold sgnI
  rcases Int.lt_trichotomy a b with h | h | h
  · exact .inl ⟨h, if_pos h⟩
  · refine .inr (.inl ⟨h, ?_⟩)
    rw [if_neg (by omega), if_neg (by omega)]
  · refine .inr (.inr ⟨h, ?_⟩)
    rw [if_neg (by omega), if_pos h]
theorem sgnT_cases (x y : List UInt8) : (ltT x y = true ∧ sgnT x y = -1) ∨ (x = y ∧ sgnT x y = 0) ∨ (ltT y x = true ∧ sgnT x y = 1) := by
  unfold sgnT
  cases h : ltT x y
  · cases g : ltT y x
    · exact .inr (.inl ⟨ltT_tri x y h g, by simp⟩)
    · exact .inr (.inr ⟨rfl, by simp⟩)
  · exact .inl ⟨rfl, by simp⟩
/-- The first of some numbers that is not zero. -/
def orZ : List Int → Int
  | [] => 0
  | x :: t => if x ≠ 0 then x else orZ t
/-- The order of notes, as a number. -/
def cmpN (a b : VNote) : Int := orZ [sgnI a.unit b.unit, sgnI a.day b.day, sgnI a.kind b.kind, sgnT a.text b.text]
def ltN (a b : VNote) : Bool := decide (cmpN a b < 0)
/-- The order, as the reference has it. -/
def lessN (a b : VNote) : Bool := if a.unit ≠ b.unit then decide (a.unit < b.unit) else if a.day ≠ b.day then decide (a.day < b.day) else if a.kind ≠ b.kind then decide (a.kind < b.kind) else ltT a.text b.text
theorem cmpN_cases (a b : VNote) : (lessN a b = true ∧ cmpN a b = -1 ∧ lessN b a = false ∧ a ≠ b) ∨ (a = b ∧ cmpN a b = 0 ∧ lessN a b = false) ∨ (lessN a b = false ∧ cmpN a b = 1 ∧ lessN b a = true ∧ a ≠ b) := by
  unfold cmpN lessN
  rcases sgnI_cases a.unit b.unit with ⟨h, e⟩ | ⟨h, e⟩ | ⟨h, e⟩
  · have hn : a ≠ b := fun he => by rw [he] at h; omega
    refine .inl ⟨?_, ?_, ?_, hn⟩
    · rw [if_pos (by omega)]; exact decide_eq_true h
    · rw [e]; rfl
    · rw [if_pos (by omega)]; exact decide_eq_false (by omega)
  · rcases sgnI_cases a.day b.day with ⟨g, e2⟩ | ⟨g, e2⟩ | ⟨g, e2⟩
    · have hn : a ≠ b := fun he => by rw [he] at g; omega
      refine .inl ⟨?_, ?_, ?_, hn⟩
      · rw [if_neg (by omega), if_pos (by omega)]; exact decide_eq_true g
      · rw [e, e2]; rfl
      · rw [if_neg (by omega), if_pos (by omega)]; exact decide_eq_false (by omega)
    · rcases sgnI_cases a.kind b.kind with ⟨k, e3⟩ | ⟨k, e3⟩ | ⟨k, e3⟩
      · have hn : a ≠ b := fun he => by rw [he] at k; omega
        refine .inl ⟨?_, ?_, ?_, hn⟩
        · rw [if_neg (by omega), if_neg (by omega), if_pos (by omega)]; exact decide_eq_true k
        · rw [e, e2, e3]; rfl
        · rw [if_neg (by omega), if_neg (by omega), if_pos (by omega)]; exact decide_eq_false (by omega)
      · rw [if_neg (by omega), if_neg (by omega), if_neg (by omega), if_neg (by omega), if_neg (by omega), if_neg (by omega)]
        rcases sgnT_cases a.text b.text with ⟨t, e4⟩ | ⟨t, e4⟩ | ⟨t, e4⟩
        · have hn : a ≠ b := fun he => by rw [he, ltT_irr] at t; cases t
          exact .inl ⟨t, by rw [e, e2, e3, e4]; rfl, ltT_asym _ _ t, hn⟩
        · refine .inr (.inl ⟨?_, by rw [e, e2, e3, e4]; rfl, by rw [t]; exact ltT_irr _⟩)
          obtain ⟨a1, a2, a3, a4⟩ := a
          obtain ⟨b1, b2, b3, b4⟩ := b
          simp only at h g k t
          rw [h, g, k, t]
        · have hn : a ≠ b := fun he => by rw [he, ltT_irr] at t; cases t
          exact .inr (.inr ⟨ltT_asym _ _ t, by rw [e, e2, e3, e4]; rfl, t, hn⟩)
      · have hn : a ≠ b := fun he => by rw [he] at k; omega
        refine .inr (.inr ⟨?_, ?_, ?_, hn⟩)
        · rw [if_neg (by omega), if_neg (by omega), if_pos (by omega)]; exact decide_eq_false (by omega)
        · rw [e, e2, e3]; rfl
        · rw [if_neg (by omega), if_neg (by omega), if_pos (by omega)]; exact decide_eq_true k
    · have hn : a ≠ b := fun he => by rw [he] at g; omega
      refine .inr (.inr ⟨?_, ?_, ?_, hn⟩)
      · rw [if_neg (by omega), if_pos (by omega)]; exact decide_eq_false (by omega)
      · rw [e, e2]; rfl
      · rw [if_neg (by omega), if_pos (by omega)]; exact decide_eq_true g
  · have hn : a ≠ b := fun he => by rw [he] at h; omega
    refine .inr (.inr ⟨?_, ?_, ?_, hn⟩)
    · rw [if_pos (by omega)]; exact decide_eq_false (by omega)
    · rw [e]; rfl
    · rw [if_pos (by omega)]; exact decide_eq_true h
theorem lessN_eq (a b : VNote) : lessN a b = ltN a b := by
  unfold ltN
  rcases cmpN_cases a b with ⟨h, e, _⟩ | ⟨_, e, h⟩ | ⟨h, e, _⟩ <;> (rw [h, e]; rfl)
theorem ltN_irr (a : VNote) : ltN a a = false := by
  rcases cmpN_cases a a with ⟨_, _, _, h⟩ | ⟨_, _, h⟩ | ⟨_, _, _, h⟩
  · exact absurd rfl h
  · rw [← lessN_eq]; exact h
  · exact absurd rfl h
theorem ltN_asym {a b : VNote} (h : ltN a b = true) : ltN b a = false := by
  rw [← lessN_eq] at h ⊢
  rcases cmpN_cases a b with ⟨_, _, g, _⟩ | ⟨_, _, g⟩ | ⟨g, _⟩
  · exact g
  · rw [g] at h; cases h
  · rw [g] at h; cases h
theorem ltN_tri {a b : VNote} (h : ltN a b = false) (g : ltN b a = false) : a = b := by
  rw [← lessN_eq] at h g
  rcases cmpN_cases a b with ⟨k, _⟩ | ⟨k, _⟩ | ⟨_, _, k, _⟩
  · rw [k] at h; cases h
  · exact k
  · rw [k] at g; cases g
theorem cmpN_zero {a b : VNote} : cmpN a b = 0 ↔ a = b := by
  rcases cmpN_cases a b with ⟨_, e, _, h⟩ | ⟨h, e, _⟩ | ⟨_, e, _, h⟩
  · exact ⟨fun g => (by rw [g] at e; cases e), fun g => absurd g h⟩
  · exact ⟨fun _ => h, fun _ => e⟩
  · exact ⟨fun g => (by rw [g] at e; cases e), fun g => absurd g h⟩
theorem lessN_iff {a b : VNote} : lessN a b = true ↔ a.unit < b.unit ∨ (a.unit = b.unit ∧ (a.day < b.day ∨ (a.day = b.day ∧ (a.kind < b.kind ∨ (a.kind = b.kind ∧ ltT a.text b.text = true))))) := by
  unfold lessN
  by_cases h1 : a.unit = b.unit
  · rw [if_neg (by omega)]
    by_cases h2 : a.day = b.day
    · rw [if_neg (by omega)]
      by_cases h3 : a.kind = b.kind
      · rw [if_neg (by omega)]
        simp [h1, h2, h3]
      · rw [if_pos h3, decide_eq_true_eq]
        simp [h1, h2, h3]
    · rw [if_pos h2, decide_eq_true_eq]
      simp [h1, h2]
  · rw [if_pos h1, decide_eq_true_eq]
    simp [h1]
theorem ltN_trans {a b c : VNote} (h : ltN a b = true) (g : ltN b c = true) : ltN a c = true := by
  rw [← lessN_eq, lessN_iff] at h g ⊢
  rcases h with h | ⟨h, h2⟩
  · rcases g with g | ⟨g, _⟩
    · exact .inl (by omega)
    · exact .inl (by omega)
  · rcases g with g | ⟨g, g2⟩
    · exact .inl (by omega)
    · refine .inr ⟨by omega, ?_⟩
      rcases h2 with h2 | ⟨h2, h3⟩
      · rcases g2 with g2 | ⟨g2, _⟩
        · exact .inl (by omega)
        · exact .inl (by omega)
      · rcases g2 with g2 | ⟨g2, g3⟩
        · exact .inl (by omega)
        · refine .inr ⟨by omega, ?_⟩
          rcases h3 with h3 | ⟨h3, h4⟩
          · rcases g3 with g3 | ⟨g3, _⟩
            · exact .inl (by omega)
            · exact .inl (by omega)
          · rcases g3 with g3 | ⟨g3, g4⟩
            · exact .inl (by omega)
            · exact .inr ⟨by omega, ltT_trans _ _ _ h4 g4⟩
/-- The notes up to a place are valid, and ascend. -/
def goodTo (l : List VNote) : Nat → Bool
  | 0 => true
  | k + 1 => goodTo l k && noteB (l.getD k default) && (k == 0 || ltN (l.getD (k - 1) default) (l.getD k default))
/-- Notes are valid, ascend, and are not too many. -/
def notesB (l : List VNote) : Bool := goodTo l l.length && decide (l.length ≤ 60)
def dosB (d : VDos) : Bool := decide (d.key.length = 32) && notesB d.notes
theorem goodTo_le {l : List VNote} : ∀ {k j : Nat}, j ≤ k → goodTo l k = true → goodTo l j = true
  | 0, j, h, _ => by obtain rfl : j = 0 := by omega
                     rfl
  | k + 1, j, h, g => by
    by_cases e : j = k + 1
    · rw [e]; exact g
    · unfold goodTo at g
      simp only [Bool.and_eq_true] at g
      exact goodTo_le (by omega) g.1.1
theorem goodTo_no {l : List VNote} {k : Nat} (h : k ≤ l.length) (g : goodTo l k = false) : notesB l = false := by
  unfold notesB
  cases e : goodTo l l.length
  · rfl
  · rw [goodTo_le h e] at g; cases g
theorem goodTo_note {l : List VNote} {k : Nat} (g : goodTo l k = true) (i : Nat) (h : i < k) : noteB (l.getD i default) = true := by
  have := goodTo_le (show i + 1 ≤ k from h) g
  unfold goodTo at this
  simp only [Bool.and_eq_true] at this
  exact this.1.2
theorem goodTo_lt {l : List VNote} {k : Nat} (g : goodTo l k = true) : ∀ (j i : Nat), i < j → j < k → ltN (l.getD i default) (l.getD j default) = true
  | 0, i, h, _ => by omega
  | j + 1, i, h, hk => by
    have := goodTo_le (show j + 2 ≤ k from hk) g
    unfold goodTo at this
    simp only [Bool.and_eq_true, Bool.or_eq_true, beq_iff_eq] at this
    have h1 : ltN (l.getD j default) (l.getD (j + 1) default) = true := by
      rcases this.2 with e | e
      · omega
      · exact e
    by_cases e : i = j
    · rw [e]; exact h1
    · exact ltN_trans (goodTo_lt g j i (by omega) (by omega)) h1
theorem notesB_ok {l : List VNote} (h : notesB l = true) : (∀ n ∈ l, noteB n = true) ∧ l.Pairwise (fun a b => ltN a b = true) ∧ l.length ≤ 60 := by
  unfold notesB at h
  rw [Bool.and_eq_true, decide_eq_true_eq] at h
  refine ⟨fun n hn => ?_, ?_, h.2⟩
  · obtain ⟨i, hi, rfl⟩ := List.getElem_of_mem hn
    have := goodTo_note h.1 i hi
    rwa [List.getD_eq_getElem?_getD, List.getElem?_eq_getElem hi] at this
  · rw [List.pairwise_iff_getElem]
    intro i j hi hj hij
    have := goodTo_lt h.1 j i hij hj
    rwa [List.getD_eq_getElem?_getD, List.getD_eq_getElem?_getD, List.getElem?_eq_getElem hi, List.getElem?_eq_getElem hj] at this
theorem notesB_of {l : List VNote} (h1 : ∀ n ∈ l, noteB n = true) (h2 : l.Pairwise (fun a b => ltN a b = true)) (h3 : l.length ≤ 60) : notesB l = true := by
  have hg : ∀ k, k ≤ l.length → goodTo l k = true := by
    intro k
    induction k with
    | zero => intro _; rfl
    | succ k ih =>
      intro hk
      unfold goodTo
      rw [ih (by omega)]
      have e : l.getD k default = l[k] := by rw [List.getD_eq_getElem?_getD, List.getElem?_eq_getElem (by omega)]; rfl
      rw [e, h1 _ (List.getElem_mem _), Bool.true_and, Bool.true_and, Bool.or_eq_true, beq_iff_eq]
      by_cases e0 : k = 0
      · exact .inl e0
      · refine .inr ?_
        have e1 : l.getD (k - 1) default = l[k - 1] := by rw [List.getD_eq_getElem?_getD, List.getElem?_eq_getElem (by omega)]; rfl
        rw [e1]
        exact (List.pairwise_iff_getElem.1 h2) (k - 1) k (by omega) (by omega) (by omega)
  unfold notesB
  rw [hg _ (Nat.le_refl _), Bool.true_and]
  exact decide_eq_true h3
/-- How many notes at the front come before a note. -/
def placeN (n : VNote) : List VNote → Nat
  | [] => 0
  | x :: t => if ltN x n then placeN n t + 1 else 0
theorem placeN_le (n : VNote) : ∀ l : List VNote, placeN n l ≤ l.length
  | [] => Nat.le_refl _
  | x :: t => by
    unfold placeN
    have := placeN_le n t
    split
    · simp only [List.length_cons]; omega
    · exact Nat.zero_le _
/-- Notes with a further one at its place. -/
def insN (n : VNote) (l : List VNote) : List VNote := l.take (placeN n l) ++ n :: l.drop (placeN n l)
theorem placeN_before {n : VNote} : ∀ {l : List VNote} {i : Nat}, i < placeN n l → ltN (l.getD i default) n = true
  | [], i, h => by simp [placeN] at h
  | x :: t, i, h => by
    unfold placeN at h
    split at h
    · rename_i hx
      cases i with
      | zero => exact hx
      | succ i => exact placeN_before (l := t) (by omega)
    · omega
theorem placeN_at {n : VNote} : ∀ {l : List VNote}, placeN n l < l.length → ltN (l.getD (placeN n l) default) n = false
  | [], h => by simp [placeN] at h
  | x :: t, h => by
    unfold placeN at h ⊢
    split
    · rename_i hx
      rw [if_pos hx] at h
      exact placeN_at (l := t) (by simpa using h)
    · rename_i hx
      simpa using hx
/-- What Add returns. -/
def addN (d : VDos) (n : VNote) : VDos × Int := if dosB d && dosB ⟨d.key, insN n d.notes⟩ then (⟨d.key, insN n d.notes⟩, 0) else (⟨[], []⟩, 400)
end Go.Proofs.YteicimmdcdjagaaGreatDoor
