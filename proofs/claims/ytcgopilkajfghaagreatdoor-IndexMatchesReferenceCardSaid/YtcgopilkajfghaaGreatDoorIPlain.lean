/- Plain: cards of an index, their order, and how many cards have a year. -/
import Derived.Test.YtcgopilkajfghaaGreatDoorIFen
namespace Go.Proofs.YtcgopilkajfghaaGreatDoor

structure ICard where
  id : Int
  unit : Int
  kind : Int
  beg : Int
  fin : Int
deriving DecidableEq, Inhabited
/-- How many sums up to a place a card counts in. -/
def stepS (c : ICard) (k : Nat) : Int := (if c.beg + 1 ≤ (k : Int) then 1 else 0) - (if c.fin + 1 ≤ (k : Int) then 1 else 0)
def totS (l : List ICard) (k : Nat) : Int := (l.map fun c => stepS c k).sum
theorem totS_append (a b : List ICard) (k : Nat) : totS (a ++ b) k = totS a k + totS b k := by simp [totS, List.sum_append]
theorem totS_insert (a b : List ICard) (c : ICard) (k : Nat) : totS (a ++ c :: b) k = totS (a ++ b) k + stepS c k := by
  rw [totS_append, totS_append]
  simp only [totS, List.map_cons, List.sum_cons]
  omega
theorem totS_bd (l : List ICard) (k : Nat) : -(l.length : Int) ≤ totS l k ∧ totS l k ≤ l.length := by
  induction l with
  | nil => simp [totS]
  | cons c t ih =>
    have e : totS (c :: t) k = stepS c k + totS t k := by simp [totS]
    have h : -1 ≤ stepS c k ∧ stepS c k ≤ 1 := by unfold stepS; split <;> split <;> omega
    rw [e, List.length_cons]
    omega
/-- The tree holds the partial sums of these cards. -/
def TreeOk (T : Nat → Int) (l : List ICard) : Prop := T 0 = 0 ∧ ∀ k, 0 < k → k < 2101 → T k = totS l k - totS l (k - lowN k)
theorem tree_empty : TreeOk (fun _ => 0) [] := ⟨rfl, fun k _ _ => by simp [totS]⟩
theorem tree_bd {T : Nat → Int} {l : List ICard} (h : TreeOk T l) {k : Nat} (hk : k < 2101) : -(2 * (l.length : Int)) ≤ T k ∧ T k ≤ 2 * l.length := by
  by_cases h0 : k = 0
  · subst h0; rw [h.1]; omega
  · have h1 := h.2 k (by omega) hk
    have h2 := totS_bd l k
    have h3 := totS_bd l (k - lowN k)
    omega
instance (k i : Nat) : Decidable (covers k i) := inferInstanceAs (Decidable (_ ∧ _))
theorem stepS_node (c : ICard) (hb : 0 ≤ c.beg) (hf : 0 ≤ c.fin) (k : Nat) : stepS c k - stepS c (k - lowN k) = (if covers k (c.beg.toNat + 1) then 1 else 0) - (if covers k (c.fin.toNat + 1) then 1 else 0) := by
  have hle : k - lowN k ≤ k := Nat.sub_le _ _
  unfold stepS
  by_cases e1 : covers k (c.beg.toNat + 1) <;> by_cases e2 : covers k (c.fin.toNat + 1) <;> simp only [e1, e2, if_true, if_false] <;> unfold covers at e1 e2 <;> (generalize k - lowN k = j at *) <;> (split <;> split <;> split <;> split <;> omega)
theorem addT_zero (n : Int) (size : Nat) : ∀ (f : Nat) (T : Nat → Int) (i : Nat), 0 < i → addT T n size f i 0 = T 0
  | 0, T, i, _ => rfl
  | f + 1, T, i, hi => by
    rw [addT]
    split
    · have hl := lowN_pos hi
      rw [addT_zero n size f _ (i + lowN i) (by omega), if_neg (by omega)]
    · rfl
/-- A card is put: the tree grows at its first year, and shrinks at its end. -/
theorem tree_put {T : Nat → Int} {a b : List ICard} {c : ICard} (hb : 0 ≤ c.beg) (hc : 0 ≤ c.fin) (h : TreeOk T (a ++ b)) (f g : Nat) (hf : 2101 ≤ c.beg.toNat + 1 + f) (hg : 2101 ≤ c.fin.toNat + 1 + g) : TreeOk (addT (addT T 1 2101 f (c.beg.toNat + 1)) (-1) 2101 g (c.fin.toNat + 1)) (a ++ c :: b) := by
  refine ⟨by rw [addT_zero _ _ _ _ _ (by omega), addT_zero _ _ _ _ _ (by omega)]; exact h.1, ?_⟩
  intro k hk hk2
  have h1 := addT_spec 1 2101 f T (c.beg.toNat + 1) (by omega) hf k hk hk2
  have h2 := addT_spec (-1) 2101 g (addT T 1 2101 f (c.beg.toNat + 1)) (c.fin.toNat + 1) (by omega) hg k hk hk2
  have h3 := h.2 k hk hk2
  have h4 := stepS_node c hb hc k
  rw [totS_insert, totS_insert]
  by_cases e1 : covers k (c.beg.toNat + 1) <;> by_cases e2 : covers k (c.fin.toNat + 1)
  · rw [h2.1 e2, h1.1 e1]; rw [if_pos e1, if_pos e2] at h4; omega
  · rw [h2.2 e2, h1.1 e1]; rw [if_pos e1, if_neg e2] at h4; omega
  · rw [h2.1 e2, h1.2 e1]; rw [if_neg e1, if_pos e2] at h4; omega
  · rw [h2.2 e2, h1.2 e1]; rw [if_neg e1, if_neg e2] at h4; omega
/-- A card is dropped. -/
theorem tree_drop {T : Nat → Int} {a b : List ICard} {c : ICard} (hb : 0 ≤ c.beg) (hc : 0 ≤ c.fin) (h : TreeOk T (a ++ c :: b)) (f g : Nat) (hf : 2101 ≤ c.beg.toNat + 1 + f) (hg : 2101 ≤ c.fin.toNat + 1 + g) : TreeOk (addT (addT T (-1) 2101 f (c.beg.toNat + 1)) 1 2101 g (c.fin.toNat + 1)) (a ++ b) := by
  refine ⟨by rw [addT_zero _ _ _ _ _ (by omega), addT_zero _ _ _ _ _ (by omega)]; exact h.1, ?_⟩
  intro k hk hk2
  have h1 := addT_spec (-1) 2101 f T (c.beg.toNat + 1) (by omega) hf k hk hk2
  have h2 := addT_spec 1 2101 g (addT T (-1) 2101 f (c.beg.toNat + 1)) (c.fin.toNat + 1) (by omega) hg k hk hk2
  have h3 := h.2 k hk hk2
  have h4 := stepS_node c hb hc k
  rw [totS_insert, totS_insert] at h3
  by_cases e1 : covers k (c.beg.toNat + 1) <;> by_cases e2 : covers k (c.fin.toNat + 1)
  · rw [h2.1 e2, h1.1 e1]; rw [if_pos e1, if_pos e2] at h4; omega
  · rw [h2.2 e2, h1.1 e1]; rw [if_pos e1, if_neg e2] at h4; omega
  · rw [h2.1 e2, h1.2 e1]; rw [if_neg e1, if_pos e2] at h4; omega
  · rw [h2.2 e2, h1.2 e1]; rw [if_neg e1, if_neg e2] at h4; omega
/-- A tree that was grown is bounded. -/
theorem addT_bd {B : Int} (n : Int) (size : Nat) (hn : -1 ≤ n ∧ n ≤ 1) : ∀ (f : Nat) (T : Nat → Int) (i : Nat), 0 < i → (∀ k, -B ≤ T k ∧ T k ≤ B) → ∀ k, -(B + 1) ≤ addT T n size f i k ∧ addT T n size f i k ≤ B + 1
  | f, T, i, hi, h, k => by
    have key : ∀ (f : Nat) (T : Nat → Int) (i : Nat), 0 < i → (∀ k, i ≤ k → -B ≤ T k ∧ T k ≤ B) → (∀ k, k < i → -(B + 1) ≤ T k ∧ T k ≤ B + 1) → ∀ k, -(B + 1) ≤ addT T n size f i k ∧ addT T n size f i k ≤ B + 1 := by
      intro f
      induction f with
      | zero => intro T i hi h1 h2 k; show _ ≤ T k ∧ T k ≤ _; by_cases hk : k < i; exact h2 k hk; have := h1 k (by omega); omega
      | succ f ih =>
        intro T i hi h1 h2 k
        rw [addT]
        split
        · have hl := lowN_pos hi
          refine ih _ _ (by omega) (fun j hj => ?_) (fun j hj => ?_) k
          · rw [if_neg (by omega)]; exact h1 j (by omega)
          · split
            · rename_i e; subst e; have := h1 j (Nat.le_refl _); omega
            · by_cases hji : j < i
              · exact h2 j hji
              · have := h1 j (by omega); omega
        · by_cases hk : k < i
          · exact h2 k hk
          · have := h1 k (by omega); omega
    exact key f T i hi (fun k _ => h k) (fun k _ => by have := h k; omega) k
theorem upT_pre (T P : Nat → Int) (h0 : P 0 = 0) : ∀ (f k : Nat), k ≤ f → (∀ j, 0 < j → j ≤ k → T j = P j - P (j - lowN j)) → upT T f k = P k
  | 0, k, hk, h => by obtain rfl : k = 0 := by omega
                      exact h0.symm
  | f + 1, k, hk, h => by
    rw [upT]
    by_cases hz : k = 0
    · subst hz; rw [if_pos rfl, h0]
    · rw [if_neg hz, h k (by omega) (Nat.le_refl _)]
      have hl := lowN_pos (k := k) (by omega)
      rw [upT_pre T P h0 f (k - lowN k) (by omega) fun j h1 h2 => h j h1 (by omega)]
      omega
/-- A card has a year. -/
def hasY (y : Int) (c : ICard) : Bool := decide (c.beg ≤ y) && decide (y < c.fin)
def cntY (l : List ICard) (y : Int) : Nat := l.countP (hasY y)
theorem totS_zero {l : List ICard} (hl : ∀ c ∈ l, 0 ≤ c.beg ∧ c.beg < c.fin) : totS l 0 = 0 := by
  induction l with
  | nil => rfl
  | cons c t ih =>
    have h1 := ih fun d hd => hl d (by simp [hd])
    have h2 := hl c (by simp)
    have e : totS (c :: t) 0 = stepS c 0 + totS t 0 := by simp [totS]
    have h3 : stepS c 0 = 0 := by unfold stepS; rw [if_neg (by omega), if_neg (by omega)]; rfl
    rw [e, h1, h3]
    rfl
theorem totS_cnt {l : List ICard} (hl : ∀ c ∈ l, 0 ≤ c.beg ∧ c.beg < c.fin) (y : Nat) : totS l (y + 1) = (cntY l y : Int) := by
  induction l with
  | nil => rfl
  | cons c t ih =>
    have h1 := ih fun d hd => hl d (by simp [hd])
    have h2 := hl c (by simp)
    simp only [totS, List.map_cons, List.sum_cons, cntY, List.countP_cons] at *
    rw [h1]
    unfold stepS hasY
    by_cases e1 : c.beg ≤ (y : Int) <;> by_cases e2 : c.fin ≤ (y : Int)
    · have e3 : ¬ (y : Int) < c.fin := by omega
      rw [if_pos (by omega), if_pos (by omega)]; simp [e1, e3]
    · have e3 : (y : Int) < c.fin := by omega
      rw [if_pos (by omega), if_neg (by omega)]; simp [e1, e3]; omega
    · have e3 : ¬ (y : Int) < c.fin := by omega
      omega
    · have e3 : (y : Int) < c.fin := by omega
      rw [if_neg (by omega), if_neg (by omega)]; simp [e1, e3]
/-- What Count returns. -/
theorem count_tree {T : Nat → Int} {l : List ICard} (h : TreeOk T l) (hl : ∀ c ∈ l, 0 ≤ c.beg ∧ c.beg < c.fin) (y f : Nat) (hy : y < 2100) (hf : y + 1 ≤ f) : upT T f (y + 1) = (cntY l y : Int) := by
  rw [upT_pre T (totS l) (totS_zero hl) f (y + 1) hf fun j h1 h2 => h.2 j h1 (by omega)]
  exact totS_cnt hl y
/-- A card stands before another one. -/
def befC (a b : ICard) : Prop := a.beg < b.beg ∨ (a.beg = b.beg ∧ (a.fin < b.fin ∨ (a.fin = b.fin ∧ a.id < b.id)))
instance (a b : ICard) : Decidable (befC a b) := inferInstanceAs (Decidable (_ ∨ _))
theorem befC_irr (a : ICard) : ¬ befC a a := by unfold befC; omega
theorem befC_asym {a b : ICard} (h : befC a b) : ¬ befC b a := by unfold befC at *; omega
theorem befC_trans {a b c : ICard} (h : befC a b) (k : befC b c) : befC a c := by unfold befC at *; omega
theorem befC_total {a b : ICard} (h : a.id ≠ b.id) : befC a b ∨ befC b a := by unfold befC; omega
/-- The place of a card. -/
def placeC (l : List ICard) (c : ICard) : Nat := l.countP fun x => decide (befC x c)
theorem placeC_le (l : List ICard) (c : ICard) : placeC l c ≤ l.length := List.countP_le_length
/-- In an ascending list the cards ahead of the place stand before the card, and no others. -/
theorem place_split {c : ICard} : ∀ {l : List ICard}, l.Pairwise befC → ∀ i (h : i < l.length), befC l[i] c ↔ i < placeC l c
  | [], _, i, h => by simp at h
  | x :: t, hl, i, h => by
    rw [List.pairwise_cons] at hl
    unfold placeC
    rw [List.countP_cons]
    by_cases hx : befC x c
    · rw [if_pos (by simpa using hx)]
      cases i with
      | zero => simp [hx]
      | succ i =>
        have := place_split (c := c) hl.2 i (by simpa using h)
        rw [List.getElem_cons_succ, this]
        unfold placeC
        omega
    · rw [if_neg (by simpa using hx)]
      have hz : t.countP (fun x => decide (befC x c)) = 0 := by
        rw [List.countP_eq_zero]
        intro y hy hb
        exact hx (befC_trans (hl.1 y hy) (by simpa using hb))
      rw [hz]
      cases i with
      | zero => simp [hx]
      | succ i =>
        have := place_split (c := c) hl.2 i (by simpa using h)
        rw [List.getElem_cons_succ, this]
        unfold placeC
        rw [hz]
        omega
/-- A number within bounds. -/
def inC (n lo hi : Int) : Bool := decide (lo ≤ n) && decide (n ≤ hi)
def spellB (a b : Int) : Bool := decide (0 ≤ a) && (decide (a < b) && decide (b ≤ 2100))
def validC (c : ICard) : Bool := inC c.id 0 9999 && (inC c.unit 0 99 && (inC c.kind 0 9 && spellB c.beg c.fin))
theorem validC_ok {c : ICard} (h : validC c = true) : (0 ≤ c.id ∧ c.id ≤ 9999) ∧ (0 ≤ c.unit ∧ c.unit ≤ 99) ∧ (0 ≤ c.kind ∧ c.kind ≤ 9) ∧ 0 ≤ c.beg ∧ c.beg < c.fin ∧ c.fin ≤ 2100 := by
  simp only [validC, inC, spellB, Bool.and_eq_true, decide_eq_true_eq] at h
  omega
/-- What is true of the cards of an index. -/
structure IOk (l : List ICard) : Prop where
  sorted : l.Pairwise befC
  valid : ∀ c ∈ l, validC c = true
  ids : l.Pairwise fun a b => a.id ≠ b.id
  few : l.length ≤ 500
theorem iok_nil : IOk [] := ⟨List.Pairwise.nil, (fun c h => by cases h), List.Pairwise.nil, by simp⟩
theorem IOk.pos {l : List ICard} (h : IOk l) : ∀ c ∈ l, 0 ≤ c.beg ∧ c.beg < c.fin := fun c hc => by
  have := validC_ok (h.valid c hc)
  omega
/-- The card with an ID. -/
def findC (l : List ICard) (id : Int) : Option ICard := l.find? fun c => c.id == id
theorem findC_some {l : List ICard} {id : Int} {c : ICard} (h : findC l id = some c) : c ∈ l ∧ c.id = id := by
  unfold findC at h
  exact ⟨List.mem_of_find?_eq_some h, by have := List.find?_some h; simpa using this⟩
theorem findC_none {l : List ICard} {id : Int} : findC l id = none ↔ ∀ c ∈ l, c.id ≠ id := by
  unfold findC
  simp
theorem findC_mem {l : List ICard} (h : IOk l) {c : ICard} (hc : c ∈ l) : findC l c.id = some c := by
  cases hf : findC l c.id with
  | none => exact absurd rfl (findC_none.1 hf c hc)
  | some d =>
    obtain ⟨h1, h2⟩ := findC_some hf
    by_cases e : d = c
    · rw [e]
    · exfalso
      obtain ⟨i, hi, rfl⟩ := List.mem_iff_getElem.1 h1
      obtain ⟨j, hj, rfl⟩ := List.mem_iff_getElem.1 hc
      have hp := List.pairwise_iff_getElem.1 h.ids
      rcases Nat.lt_trichotomy i j with g | g | g
      · exact hp i j hi hj g h2
      · subst g; exact e rfl
      · exact hp j i hj hi g h2.symm
/-- A card more, at its place. -/
def insC (l : List ICard) (c : ICard) : List ICard := l.take (placeC l c) ++ c :: l.drop (placeC l c)
theorem insC_mem {l : List ICard} {c x : ICard} : x ∈ insC l c ↔ x = c ∨ x ∈ l := by
  unfold insC
  rw [List.mem_append, List.mem_cons]
  have : x ∈ l ↔ x ∈ l.take (placeC l c) ∨ x ∈ l.drop (placeC l c) := by rw [← List.mem_append, List.take_append_drop]
  rw [this]
  constructor
  · rintro (h | h | h)
    · exact .inr (.inl h)
    · exact .inl h
    · exact .inr (.inr h)
  · rintro (h | h | h)
    · exact .inr (.inl h)
    · exact .inl h
    · exact .inr (.inr h)
theorem insC_length (l : List ICard) (c : ICard) : (insC l c).length = l.length + 1 := by
  have := placeC_le l c
  unfold insC
  rw [List.length_append, List.length_cons, List.length_take, List.length_drop]
  omega
theorem insC_ok {l : List ICard} {c : ICard} (h : IOk l) (hv : validC c = true) (hn : findC l c.id = none) (hl : l.length < 500) : IOk (insC l c) := by
  have hid := findC_none.1 hn
  have hp := placeC_le l c
  have hsp := fun i hi => place_split (c := c) h.sorted i hi
  have h1 : ∀ x ∈ l.take (placeC l c), befC x c := fun x hx => by
    obtain ⟨i, hi, rfl⟩ := List.mem_iff_getElem.1 hx
    rw [List.length_take] at hi
    rw [List.getElem_take]
    exact (hsp i (by omega)).2 (by omega)
  have h2 : ∀ x ∈ l.drop (placeC l c), befC c x := fun x hx => by
    obtain ⟨i, hi, rfl⟩ := List.mem_iff_getElem.1 hx
    rw [List.length_drop] at hi
    have hm : l[placeC l c + i]'(by omega) ∈ l := List.getElem_mem _
    rw [List.getElem_drop]
    rcases befC_total (hid _ hm) with g | g
    · exact absurd ((hsp _ _).1 g) (by omega)
    · exact g
  refine ⟨?_, fun x hx => ?_, ?_, by rw [insC_length]; omega⟩
  · unfold insC
    rw [List.pairwise_append, List.pairwise_cons]
    refine ⟨h.sorted.sublist (List.take_sublist _ _), ⟨h2, h.sorted.sublist (List.drop_sublist _ _)⟩, fun a ha b hb => ?_⟩
    rcases List.mem_cons.1 hb with rfl | hb
    · exact h1 a ha
    · exact befC_trans (h1 a ha) (h2 b hb)
  · rcases insC_mem.1 hx with rfl | hx
    · exact hv
    · exact h.valid x hx
  · unfold insC
    have hs := h.ids
    rw [← List.take_append_drop (placeC l c) l, List.pairwise_append] at hs
    rw [List.pairwise_append, List.pairwise_cons]
    refine ⟨hs.1, ⟨fun x hx => (hid x (List.mem_of_mem_drop hx)).symm, hs.2.1⟩, fun a ha b hb => ?_⟩
    rcases List.mem_cons.1 hb with rfl | hb
    · exact hid a (List.mem_of_mem_take ha)
    · exact hs.2.2 a ha b hb
/-- A card of the index stands at its place. -/
theorem place_at {l : List ICard} (h : IOk l) {c : ICard} (hc : c ∈ l) : ∃ hp : placeC l c < l.length, l[placeC l c] = c := by
  obtain ⟨i, hi, rfl⟩ := List.mem_iff_getElem.1 hc
  have hp := fun j (hj : j < l.length) => place_split (c := l[i]) h.sorted j hj
  have h1 : ¬ i < placeC l l[i] := fun g => befC_irr _ ((hp i hi).2 g)
  have h2 : ∀ j, j < i → j < placeC l l[i] := fun j hj => (hp j (by omega)).1 (List.pairwise_iff_getElem.1 h.sorted j i (by omega) hi hj)
  have h3 : placeC l l[i] = i := by
    rcases Nat.lt_or_ge (placeC l l[i]) i with g | g
    · exact absurd (h2 _ g) (by omega)
    · omega
  refine ⟨by omega, ?_⟩
  congr 1
/-- A card less. -/
def delC (l : List ICard) (c : ICard) : List ICard := l.take (placeC l c) ++ l.drop (placeC l c + 1)
theorem delC_split {l : List ICard} (h : IOk l) {c : ICard} (hc : c ∈ l) : l = l.take (placeC l c) ++ c :: l.drop (placeC l c + 1) := by
  obtain ⟨hp, he⟩ := place_at h hc
  conv => lhs; rw [← List.take_append_drop (placeC l c) l]
  rw [List.drop_eq_getElem_cons hp, he]
theorem delC_mem {l : List ICard} (h : IOk l) {c : ICard} (hc : c ∈ l) {x : ICard} : x ∈ delC l c ↔ x ∈ l ∧ x ≠ c := by
  have hs := delC_split h hc
  have hd := h.ids
  rw [hs, List.pairwise_append, List.pairwise_cons] at hd
  unfold delC
  constructor
  · intro hx
    refine ⟨?_, fun e => ?_⟩
    · rw [hs, List.mem_append, List.mem_cons]
      rcases List.mem_append.1 hx with h | h
      · exact .inl h
      · exact .inr (.inr h)
    · subst e
      rcases List.mem_append.1 hx with h | h
      · exact hd.2.2 x h x (List.mem_cons_self ..) rfl
      · exact hd.2.1.1 x h rfl
  · rintro ⟨hx, hne⟩
    rw [hs, List.mem_append, List.mem_cons] at hx
    rw [List.mem_append]
    rcases hx with h | h | h
    · exact .inl h
    · exact absurd h hne
    · exact .inr h
theorem delC_length {l : List ICard} (h : IOk l) {c : ICard} (hc : c ∈ l) : (delC l c).length + 1 = l.length := by
  obtain ⟨hp, _⟩ := place_at h hc
  unfold delC
  rw [List.length_append, List.length_take, List.length_drop]
  omega
theorem delC_ok {l : List ICard} (h : IOk l) {c : ICard} (hc : c ∈ l) : IOk (delC l c) := by
  have hsub : (delC l c).Sublist l := by
    conv => rhs; rw [delC_split h hc]
    exact List.Sublist.append (List.Sublist.refl _) (List.sublist_cons_self _ _)
  exact ⟨h.sorted.sublist hsub, fun x hx => h.valid x (hsub.subset hx), h.ids.sublist hsub, by have := delC_length h hc; have := h.few; omega⟩
/-- What Put leaves. -/
def putL (l : List ICard) (c : ICard) : List ICard × Int := if (findC l c.id).isSome || (!validC c || decide (500 ≤ l.length)) then (l, 420) else (insC l c, 0)
theorem putL_in {l : List ICard} {c : ICard} (h1 : findC l c.id = none) (h2 : validC c = true) (h3 : l.length < 500) : putL l c = (insC l c, 0) := by
  unfold putL
  rw [h1, h2, decide_eq_false (by omega)]
  rfl
theorem putL_out {l : List ICard} {c : ICard} (h : (findC l c.id).isSome = true ∨ validC c = false ∨ 500 ≤ l.length) : putL l c = (l, 420) := by
  unfold putL
  rw [if_pos]
  simp only [Bool.or_eq_true, Bool.not_eq_true', decide_eq_true_eq]
  exact h
theorem putL_ok {l : List ICard} (h : IOk l) (c : ICard) : IOk (putL l c).1 := by
  unfold putL
  split
  · exact h
  · rename_i hn
    simp only [Bool.or_eq_true, Bool.not_eq_true', decide_eq_true_eq, not_or] at hn
    exact insC_ok h (by simpa using hn.2.1) (by simpa using hn.1) (by omega)
/-- What Drop leaves. -/
def dropL (l : List ICard) (id : Int) : List ICard × Int := match findC l id with
  | none => (l, 420)
  | some c => (delC l c, 0)
theorem dropL_ok {l : List ICard} (h : IOk l) (id : Int) : IOk (dropL l id).1 := by
  unfold dropL
  cases hf : findC l id with
  | none => exact h
  | some c => exact delC_ok h (findC_some hf).1
theorem find_ins {l : List ICard} {c : ICard} (hn : findC l c.id = none) (id : Int) : findC (insC l c) id = if id = c.id then some c else findC l id := by
  have hid := findC_none.1 hn
  unfold insC findC
  rw [List.find?_append, List.find?_cons]
  by_cases e : id = c.id
  · subst e
    rw [if_pos rfl]
    have h1 : (l.take (placeC l c)).find? (fun x => x.id == c.id) = none := by
      rw [List.find?_eq_none]
      intro x hx
      simpa using hid x (List.mem_of_mem_take hx)
    rw [h1]
    simp
  · rw [if_neg e]
    have h2 : (c.id == id) = false := by simpa using fun h => e h.symm
    rw [h2]
    conv => rhs; rw [← List.take_append_drop (placeC l c) l, List.find?_append]
theorem find_del {l : List ICard} (h : IOk l) {c : ICard} (hc : c ∈ l) (id : Int) : findC (delC l c) id = if id = c.id then none else findC l id := by
  by_cases e : id = c.id
  · subst e
    rw [if_pos rfl, findC_none]
    intro x hx e
    obtain ⟨h1, h2⟩ := (delC_mem h hc).1 hx
    have := findC_mem h h1
    rw [e, findC_mem h hc] at this
    exact h2 (Option.some.inj this).symm
  · rw [if_neg e]
    have hs := delC_split h hc
    unfold findC delC
    conv => rhs; rw [hs, List.find?_append, List.find?_cons]
    have h2 : (c.id == id) = false := by simpa using fun h => e h.symm
    rw [h2, List.find?_append]
end Go.Proofs.YtcgopilkajfghaaGreatDoor
