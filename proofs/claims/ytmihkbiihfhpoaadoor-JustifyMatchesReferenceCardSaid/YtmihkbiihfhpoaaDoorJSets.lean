/- Plain: least sets with a property; derivations, and how they are cut down. -/
import Derived.Test.YtmihkbiihfhpoaaDoorJPlain
namespace Go.Proofs.YtmihkbiihfhpoaaDoor
open Go

theorem SubS.le {a b : Nat} (h : SubS a b) : a ≤ b := by
  have e : a = a &&& b := by
    apply Nat.eq_of_testBit_eq
    intro i
    rw [Nat.testBit_and]
    cases ha : a.testBit i
    · rfl
    · rw [h i ha]; rfl
  rw [e]
  exact Nat.and_le_right
theorem within_iff (a b : Nat) : a &&& b = a ↔ SubS a b := by
  constructor
  · intro h i hi
    rw [← h, Nat.testBit_and, Bool.and_eq_true] at hi
    exact hi.2
  · intro h
    apply Nat.eq_of_testBit_eq
    intro i
    rw [Nat.testBit_and]
    cases ha : a.testBit i
    · rfl
    · rw [h i ha]; rfl
theorem sdiff_sub (a b : Nat) : SubS (sdiff a b) a := fun i h => by rw [testBit_sdiff, Bool.and_eq_true] at h; exact h.1
theorem sdiff_bit (a i j : Nat) : (sdiff a (2 ^ i)).testBit j = (a.testBit j && decide (i ≠ j)) := by
  rw [testBit_sdiff, Nat.testBit_two_pow]
  by_cases h : i = j <;> simp [h]
theorem sdiff_lt {a i : Nat} (h : a.testBit i = true) : sdiff a (2 ^ i) < a := by
  have h1 := sdiff_le a (2 ^ i)
  rcases Nat.lt_or_eq_of_le h1 with h2 | h2
  · exact h2
  · exfalso
    have := sdiff_bit a i i
    rw [h2, h] at this
    simp at this
/-- A set has a property, and none of its parts does. -/
def minB (p : Nat → Bool) (s : Nat) : Bool := p s && (bitsN s).all fun i => !p (sdiff s (2 ^ i))
def leastN (n : Nat) (p : Nat → Bool) : List Nat := (List.range (2 ^ n)).filter (minB p)
def MonoP (p : Nat → Bool) : Prop := ∀ a b, SubS a b → p a = true → p b = true
theorem mem_leastN {n : Nat} {p : Nat → Bool} {m : Nat} : m ∈ leastN n p ↔ m < 2 ^ n ∧ minB p m = true := by
  unfold leastN
  rw [List.mem_filter, List.mem_range]
theorem minB_p {p : Nat → Bool} {s : Nat} (h : minB p s = true) : p s = true := by unfold minB at h; rw [Bool.and_eq_true] at h; exact h.1
theorem minB_parts {p : Nat → Bool} {s : Nat} (hs : s < 4294967296) (h : minB p s = true) {i : Nat} (hi : s.testBit i = true) : p (sdiff s (2 ^ i)) = false := by
  unfold minB at h
  rw [Bool.and_eq_true, List.all_eq_true] at h
  simpa using h.2 i ((mem_bitsN s hs i).2 hi)
theorem least_exists {p : Nat → Bool} : ∀ (s : Nat), s < 4294967296 → p s = true → ∃ m, minB p m = true ∧ SubS m s
  | s, hs, hp => by
    cases hm : minB p s
    · unfold minB at hm
      rw [hp, Bool.true_and, List.all_eq_false] at hm
      obtain ⟨i, hi, h1⟩ := hm
      have hb := (mem_bitsN s hs i).1 hi
      have hlt := sdiff_lt hb
      obtain ⟨m, h2, h3⟩ := least_exists (sdiff s (2 ^ i)) (by omega) (by simpa using h1)
      exact ⟨m, h2, h3.trans (sdiff_sub _ _)⟩
    · exact ⟨s, hm, SubS.refl s⟩
termination_by s => s
theorem least_iff {p : Nat → Bool} (hp : MonoP p) {n : Nat} (hn : 2 ^ n ≤ 4294967296) {s : Nat} (hs : s < 2 ^ n) : p s = true ↔ ∃ m ∈ leastN n p, SubS m s := by
  constructor
  · intro h
    obtain ⟨m, h1, h2⟩ := least_exists s (by omega) h
    exact ⟨m, mem_leastN.2 ⟨by have := h2.le; omega, h1⟩, h2⟩
  · rintro ⟨m, h1, h2⟩
    exact hp m s h2 (minB_p (mem_leastN.1 h1).2)
theorem least_anti {p : Nat → Bool} (hp : MonoP p) {n : Nat} (hn : 2 ^ n ≤ 4294967296) {a b : Nat} (ha : a ∈ leastN n p) (hb : b ∈ leastN n p) (h : SubS a b) : a = b := by
  apply h.antisymm
  intro i hi
  cases hai : a.testBit i
  · exfalso
    have h1 := minB_parts (by have := (mem_leastN.1 hb).1; omega) (mem_leastN.1 hb).2 hi
    have h2 : SubS a (sdiff b (2 ^ i)) := fun j hj => by
      rw [sdiff_bit, h j hj]
      have : i ≠ j := fun e => by subst e; rw [hai] at hj; cases hj
      simp [this]
    rw [hp _ _ h2 (minB_p (mem_leastN.1 ha).2)] at h1
    cases h1
  · rfl
/-- A thing holds with a set; it does not hold without one. -/
def suppP (rs : List JRule) (k : Int) (S : Nat) : Bool := bitB (hd rs S) k
def cutP (rs : List JRule) (n : Nat) (k : Int) (S : Nat) : Bool := !bitB (hd rs (sdiff (2 ^ n - 1) S)) k
theorem supp_mono (rs : List JRule) (k : Int) : MonoP (suppP rs k) := fun _ _ h hp => (hd_mono h).bit k hp
theorem sdiff_anti {a b c : Nat} (h : SubS a b) : SubS (sdiff c b) (sdiff c a) := fun i hi => by
  rw [testBit_sdiff, Bool.and_eq_true, Bool.not_eq_true'] at hi ⊢
  refine ⟨hi.1, ?_⟩
  cases ha : a.testBit i
  · rfl
  · rw [h i ha] at hi; exact hi.2
theorem cut_mono (rs : List JRule) (n : Nat) (k : Int) : MonoP (cutP rs n k) := fun a b h hp => by
  unfold cutP at *
  rw [Bool.not_eq_true'] at *
  cases hb : bitB (hd rs (sdiff (2 ^ n - 1) b)) k
  · rfl
  · rw [(hd_mono (sdiff_anti h)).bit k hb] at hp; cases hp
theorem all_bit (n i : Nat) : (2 ^ n - 1).testBit i = decide (i < n) := Nat.testBit_two_pow_sub_one n i
theorem sub_all {n s : Nat} (h : s < 2 ^ n) : SubS s (2 ^ n - 1) := fun i hi => by
  rw [all_bit]
  apply decide_eq_true
  apply Classical.byContradiction
  intro hge
  have : s < 2 ^ i := Nat.lt_of_lt_of_le h (Nat.pow_le_pow_right (by omega) (by omega))
  rw [Nat.testBit_lt_two_pow this] at hi
  cases hi
theorem sdiff_twice {n s : Nat} (h : s < 2 ^ n) : sdiff (2 ^ n - 1) (sdiff (2 ^ n - 1) s) = s := by
  apply Nat.eq_of_testBit_eq
  intro i
  rw [testBit_sdiff, testBit_sdiff]
  have := sub_all h i
  cases hs : s.testBit i
  · cases (2 ^ n - 1).testBit i <;> rfl
  · rw [this hs]; rfl
/-- Two sets with nothing in common. -/
theorem and_zero_iff (a b : Nat) : a &&& b = 0 ↔ ∀ i, a.testBit i = true → b.testBit i = false := by
  constructor
  · intro h i hi
    have : (a &&& b).testBit i = false := by rw [h]; exact Nat.zero_testBit i
    rw [Nat.testBit_and, hi] at this
    exact this
  · intro h
    apply Nat.eq_of_testBit_eq
    intro i
    rw [Nat.testBit_and, Nat.zero_testBit]
    cases ha : a.testBit i
    · rfl
    · rw [h i ha]; rfl
theorem disj_sub {n u s : Nat} (hu : u < 2 ^ n) : u &&& s = 0 ↔ SubS u (sdiff (2 ^ n - 1) s) := by
  rw [and_zero_iff]
  constructor
  · intro h i hi
    rw [testBit_sdiff, sub_all hu i hi, h i hi]
    rfl
  · intro h i hi
    have := h i hi
    rw [testBit_sdiff, Bool.and_eq_true, Bool.not_eq_true'] at this
    exact this.2
theorem sdiff_all_lt (n s : Nat) : sdiff (2 ^ n - 1) s < 2 ^ n := by
  have h1 := sdiff_le (2 ^ n - 1) s
  have h2 : 0 < 2 ^ n := Nat.pow_pos (by omega)
  omega
/-- A set meets all supports just if it has a cut. -/
theorem meets_supports (rs : List JRule) (k : Int) {n : Nat} (hn : 2 ^ n ≤ 4294967296) {s : Nat} (hs : s < 2 ^ n) :
    (∀ u ∈ leastN n (suppP rs k), s &&& u ≠ 0) ↔ ∃ c ∈ leastN n (cutP rs n k), SubS c s := by
  rw [← least_iff (cut_mono rs n k) hn hs]
  have h1 := least_iff (supp_mono rs k) hn (sdiff_all_lt n s)
  have e : cutP rs n k s = !suppP rs k (sdiff (2 ^ n - 1) s) := rfl
  rw [e, Bool.not_eq_true']
  constructor
  · intro h
    cases hc : suppP rs k (sdiff (2 ^ n - 1) s)
    · rfl
    · obtain ⟨m, hm, hsub⟩ := h1.1 hc
      exact absurd (by rw [Nat.and_comm]; exact (disj_sub (mem_leastN.1 hm).1).2 hsub) (h m hm)
  · intro h u hu h0
    rw [Nat.and_comm] at h0
    rw [h1.2 ⟨u, hu, (disj_sub (mem_leastN.1 hu).1).1 h0⟩] at h
    cases h
theorem meets_cuts (rs : List JRule) (k : Int) {n : Nat} (hn : 2 ^ n ≤ 4294967296) {s : Nat} (hs : s < 2 ^ n) :
    (∀ c ∈ leastN n (cutP rs n k), s &&& c ≠ 0) ↔ ∃ u ∈ leastN n (suppP rs k), SubS u s := by
  rw [← least_iff (supp_mono rs k) hn hs]
  have h1 := least_iff (cut_mono rs n k) hn (sdiff_all_lt n s)
  have e : cutP rs n k (sdiff (2 ^ n - 1) s) = !suppP rs k s := by
    show (!bitB (hd rs (sdiff (2 ^ n - 1) (sdiff (2 ^ n - 1) s))) k) = _
    rw [sdiff_twice hs]
    rfl
  rw [e, Bool.not_eq_true'] at h1
  constructor
  · intro h
    cases hc : suppP rs k s
    · obtain ⟨m, hm, hsub⟩ := h1.1 hc
      exact absurd (by rw [Nat.and_comm]; exact (disj_sub (mem_leastN.1 hm).1).2 hsub) (h m hm)
    · rfl
  · intro h u hu h0
    rw [Nat.and_comm] at h0
    rw [h1.2 ⟨u, hu, (disj_sub (mem_leastN.1 hu).1).1 h0⟩] at h
    cases h
theorem supp_cut (rs : List JRule) (k : Int) {n : Nat} {u c : Nat} (hu : u ∈ leastN n (suppP rs k)) (hc : c ∈ leastN n (cutP rs n k)) : u &&& c ≠ 0 := by
  intro h
  have h1 := (disj_sub (mem_leastN.1 hu).1).1 h
  have h2 := supp_mono rs k _ _ h1 (minB_p (mem_leastN.1 hu).2)
  have h3 := minB_p (mem_leastN.1 hc).2
  unfold cutP at h3
  rw [Bool.not_eq_true'] at h3
  rw [show bitB (hd rs (sdiff (2 ^ n - 1) c)) k = true from h2] at h3
  cases h3

/-- The set behind a run of rules. -/
def stepsL (rs : List JRule) : Nat → List Int → Option Nat
  | S, [] => some S
  | S, i :: t => if inB i 0 ((rs.length : Int) - 1) && meetsB (rs.getD i.toNat default).needs S then stepsL rs (addB S (rs.getD i.toNat default).gives) t else none
def givesAt (rs : List JRule) (i : Int) : Int := (rs.getD i.toNat default).gives
theorem runL_steps (rs : List JRule) : ∀ (l : List Int) (S : Nat) (last : Int), runL rs S last l = (stepsL rs S l).map fun _ => match l.getLast? with | none => last | some i => givesAt rs i
  | [], S, last => rfl
  | i :: t, S, last => by
    rw [runL_cons, stepsL]
    cases hc : (inB i 0 ((rs.length : Int) - 1) && meetsB (rs.getD i.toNat default).needs S)
    · rfl
    · rw [if_pos rfl, if_pos rfl, runL_steps rs t]
      congr 1
      funext _
      cases t with
      | nil => rfl
      | cons a b =>
        rw [List.getLast?_cons_cons]
        cases hq : (a :: b).getLast? with
        | none => exact absurd (List.getLast?_eq_none_iff.1 hq) (by simp)
        | some v => rfl
theorem steps_append (rs : List JRule) : ∀ (a b : List Int) (S : Nat), stepsL rs S (a ++ b) = (stepsL rs S a).bind fun T => stepsL rs T b
  | [], b, S => rfl
  | i :: t, b, S => by
    rw [List.cons_append, stepsL, stepsL]
    cases hc : (inB i 0 ((rs.length : Int) - 1) && meetsB (rs.getD i.toNat default).needs S)
    · rfl
    · rw [if_pos rfl, if_pos rfl, steps_append rs t]
theorem addB_mono {S T : Nat} (h : SubS S T) (g : Int) : SubS (addB S g) (addB T g) := add_sub (h.trans (sub_add T g)) (bit_addB T g)
theorem steps_mono (rs : List JRule) : ∀ (l : List Int) (S T S' : Nat), SubS S T → stepsL rs S l = some S' → ∃ T', stepsL rs T l = some T' ∧ SubS S' T'
  | [], S, T, S', h, hs => by
    have : S = S' := Option.some.inj hs
    subst this
    exact ⟨T, rfl, h⟩
  | i :: t, S, T, S', h, hs => by
    rw [stepsL] at hs
    cases hc : (inB i 0 ((rs.length : Int) - 1) && meetsB (rs.getD i.toNat default).needs S)
    · rw [hc] at hs; cases hs
    · rw [hc, if_pos rfl] at hs
      rw [Bool.and_eq_true] at hc
      rw [stepsL, hc.1, h.meets _ hc.2, Bool.and_self, if_pos rfl]
      exact steps_mono rs t _ _ S' (addB_mono h _) hs
theorem steps_sub (rs : List JRule) : ∀ (l : List Int) (S S' : Nat), stepsL rs S l = some S' → SubS S S'
  | [], S, S', hs => by
    have : S = S' := Option.some.inj hs
    subst this
    exact SubS.refl S
  | i :: t, S, S', hs => by
    rw [stepsL] at hs
    cases hc : (inB i 0 ((rs.length : Int) - 1) && meetsB (rs.getD i.toNat default).needs S)
    · rw [hc] at hs; cases hs
    · rw [hc, if_pos rfl] at hs
      exact (sub_add S _).trans (steps_sub rs t _ S' hs)
/-- Leaving out an element of the first part gives less. -/
theorem steps_less (rs : List JRule) {a b : List Int} {i : Int} {S T : Nat} (h : stepsL rs S (a ++ i :: b) = some T) : ∀ U, stepsL rs S (a ++ b) = some U → SubS U T := by
  intro U hU
  rw [steps_append] at h hU
  cases ha : stepsL rs S a with
  | none => rw [ha] at h; cases h
  | some A =>
    rw [ha] at h hU
    have h' : stepsL rs A (i :: b) = some T := h
    have hU' : stepsL rs A b = some U := hU
    rw [stepsL] at h'
    cases hc : (inB i 0 ((rs.length : Int) - 1) && meetsB (rs.getD i.toNat default).needs A)
    · rw [hc] at h'; cases h'
    · rw [hc, if_pos rfl] at h'
      obtain ⟨T', h1, h2⟩ := steps_mono rs b A _ U (sub_add A _) hU'
      rw [h'] at h1
      obtain rfl : T = T' := Option.some.inj h1
      exact h2
/-- A run of rules that ends with a thing. -/
def endsIn (rs : List JRule) (S : Nat) (k : Int) (l : List Int) : Prop := (∃ T, stepsL rs S l = some T) ∧ ∃ i, l.getLast? = some i ∧ givesAt rs i = k
theorem runL_ends (rs : List JRule) (S : Nat) (k : Int) (l : List Int) (hl : l ≠ []) : runL rs S k l = some k ↔ endsIn rs S k l := by
  rw [runL_steps]
  unfold endsIn
  cases hg : l.getLast? with
  | none => exact absurd (List.getLast?_eq_none_iff.1 hg) hl
  | some i =>
    cases stepsL rs S l with
    | none => simp
    | some T => simp
theorem derives_iff {s : Int} {rs : List JRule} {S : Nat} {k : Int} {l : List Int} (hl : l ≠ []) : derivesB s rs S k l = true ↔ l.length ≤ 40 ∧ endsIn rs S k l := by
  have h0 : l.length ≠ 0 := fun h => hl (List.eq_nil_of_length_eq_zero h)
  unfold derivesB
  by_cases h : 40 < l.length
  · rw [if_pos h]
    simp
    omega
  · rw [if_neg h, if_neg (by simp [h0]), beq_iff_eq, runL_ends rs S k l hl]
    exact ⟨fun h' => ⟨by omega, h'⟩, fun h' => h'.2⟩
theorem derives_nil {s : Int} {rs : List JRule} {S : Nat} {k : Int} : derivesB s rs S k [] = (decide (k < s) && bitB S k) := by
  unfold derivesB
  rw [if_neg (by simp)]
  by_cases h : k < s
  · have h' : decide (s ≤ k) = false := by simp; omega
    cases hb : bitB S k <;> simp [h, h', runL]
  · have h' : s ≤ k := by omega
    simp [h']
    intro hlt
    omega
theorem endsIn_mono {rs : List JRule} {S T : Nat} {k : Int} {l : List Int} (h : SubS S T) (he : endsIn rs S k l) : endsIn rs T k l := by
  obtain ⟨⟨S', h1⟩, h2⟩ := he
  obtain ⟨T', h3, _⟩ := steps_mono rs l S T S' h h1
  exact ⟨⟨T', h3⟩, h2⟩
theorem derives_mono {s : Int} {rs : List JRule} {S T : Nat} {k : Int} {l : List Int} (h : SubS S T) (hd : derivesB s rs S k l = true) : derivesB s rs T k l = true := by
  by_cases hl : l = []
  · subst hl
    rw [derives_nil, Bool.and_eq_true] at *
    exact ⟨hd.1, h.bit k hd.2⟩
  · rw [derives_iff hl] at *
    exact ⟨hd.1, endsIn_mono h hd.2⟩
/-- What is derived holds. -/
theorem steps_held {rs : List JRule} {X : Nat} (hX : ClosedS rs X) : ∀ (l : List Int) (S S' : Nat), SubS S X → stepsL rs S l = some S' → SubS S' X
  | [], S, S', h, hs => by
    have : S = S' := Option.some.inj hs
    subst this
    exact h
  | i :: t, S, S', h, hs => by
    rw [stepsL] at hs
    cases hc : (inB i 0 ((rs.length : Int) - 1) && meetsB (rs.getD i.toNat default).needs S)
    · rw [hc] at hs; cases hs
    · rw [hc, if_pos rfl] at hs
      rw [Bool.and_eq_true] at hc
      have hi := hc.1
      simp only [inB, Bool.and_eq_true, decide_eq_true_eq] at hi
      have hm := getD_mem rs default i.toNat (by omega)
      exact steps_held hX t _ S' (add_sub h (hX _ hm (h.meets _ hc.2))) hs
/-- The last of a run is in the set behind it. -/
theorem steps_last {rs : List JRule} : ∀ (l : List Int) (S S' : Nat) (i : Int), stepsL rs S l = some S' → i ∈ l → bitB S' (givesAt rs i) = true
  | [], _, _, _, _, hi => by simp at hi
  | j :: t, S, S', i, hs, hi => by
    rw [stepsL] at hs
    cases hc : (inB j 0 ((rs.length : Int) - 1) && meetsB (rs.getD j.toNat default).needs S)
    · rw [hc] at hs; cases hs
    · rw [hc, if_pos rfl] at hs
      rcases List.mem_cons.1 hi with rfl | hi
      · exact (steps_sub rs t _ S' hs).bit _ (bit_addB S _)
      · exact steps_last t _ S' i hs hi
theorem derives_sound {s : Int} {rs : List JRule} {S : Nat} {k : Int} {l : List Int} (h : derivesB s rs S k l = true) : bitB (hd rs S) k = true := by
  by_cases hl : l = []
  · subst hl
    rw [derives_nil, Bool.and_eq_true] at h
    exact (hd_sub rs S).bit k h.2
  · rw [derives_iff hl] at h
    obtain ⟨_, ⟨T, h1⟩, i, h2, rfl⟩ := h
    exact (steps_held (hd_closed rs S) l S T (hd_sub rs S) h1).bit _ (steps_last l S T i h1 (List.mem_of_getLast? h2))

/-- The rules that held finds: what it adds to its list. -/
def heldL (rs : List JRule) : Nat → Nat → List Int
  | 0, _ => []
  | k + 1, S => match rs.findIdx? (firesB · S) with
    | none => []
    | some i => (i : Int) :: heldL rs k (addB S (rs.getD i default).gives)
theorem heldGo_list (rs : List JRule) : ∀ (k S : Nat) (b : List Int), (heldGo rs k S b).2 = b ++ heldL rs k S
  | 0, S, b => by simp [heldGo, heldL]
  | k + 1, S, b => by
    cases hf : rs.findIdx? (firesB · S) with
    | none => rw [heldGo_none rs (k + 1) S b hf]; simp [heldL, hf]
    | some i => rw [heldGo_some rs k S i b hf, heldGo_list rs k]; simp [heldL, hf]
theorem heldL_steps (rs : List JRule) : ∀ (k S : Nat) (b : List Int), stepsL rs S (heldL rs k S) = some (heldGo rs k S b).1
  | 0, S, b => by simp [heldGo, heldL, stepsL]
  | k + 1, S, b => by
    cases hf : rs.findIdx? (firesB · S) with
    | none => rw [heldGo_none rs (k + 1) S b hf]; simp [heldL, hf, stepsL]
    | some i =>
      rw [heldGo_some rs k S i b hf]
      obtain ⟨hi, _, _, hn⟩ := fires_at hf
      have hin : inB (i : Int) 0 ((rs.length : Int) - 1) = true := by simp [inB]; omega
      simp only [heldL, hf, stepsL, Int.toNat_natCast, hin, hn, Bool.and_self, if_true]
      exact heldL_steps rs k _ _
theorem heldL_length (rs : List JRule) : ∀ (k S : Nat), (heldL rs k S).length ≤ k
  | 0, S => by simp [heldL]
  | k + 1, S => by
    cases hf : rs.findIdx? (firesB · S) with
    | none => simp [heldL, hf]
    | some i => simp only [heldL, hf, List.length_cons]; have := heldL_length rs k (addB S (rs.getD i default).gives); omega
theorem heldF_list (rs : List JRule) (S : Nat) : (heldF rs S).2 = heldL rs rs.length S := by unfold heldF; rw [heldGo_list]; simp
theorem heldF_steps (rs : List JRule) (S : Nat) : stepsL rs S (heldF rs S).2 = some (hd rs S) := by rw [heldF_list]; exact heldL_steps rs _ S []
theorem heldF_len (rs : List JRule) (S : Nat) : (heldF rs S).2.length ≤ rs.length := by rw [heldF_list]; exact heldL_length rs _ S
theorem steps_in {rs : List JRule} : ∀ (l : List Int) (S S' : Nat), stepsL rs S l = some S' → ∀ i ∈ l, 0 ≤ i ∧ i < rs.length
  | [], _, _, _, i, hi => by simp at hi
  | j :: t, S, S', hs, i, hi => by
    rw [stepsL] at hs
    cases hc : (inB j 0 ((rs.length : Int) - 1) && meetsB (rs.getD j.toNat default).needs S)
    · rw [hc] at hs; cases hs
    · rw [hc, if_pos rfl] at hs
      rw [Bool.and_eq_true] at hc
      have hj := hc.1
      simp only [inB, Bool.and_eq_true, decide_eq_true_eq] at hj
      rcases List.mem_cons.1 hi with rfl | hi
      · omega
      · exact steps_in t _ S' hs i hi
/-- A bit that a run adds is given by one of its rules. -/
theorem steps_new {rs : List JRule} {k : Int} (hk : 0 ≤ k) : ∀ (l : List Int) (S S' : Nat), (∀ i ∈ l, 0 ≤ givesAt rs i) → stepsL rs S l = some S' → bitB S k = false → bitB S' k = true → ∃ i ∈ l, givesAt rs i = k
  | [], S, S', _, hs, h0, h1 => by
    have : S = S' := Option.some.inj hs
    subst this
    rw [h0] at h1; cases h1
  | j :: t, S, S', hg, hs, h0, h1 => by
    rw [stepsL] at hs
    cases hc : (inB j 0 ((rs.length : Int) - 1) && meetsB (rs.getD j.toNat default).needs S)
    · rw [hc] at hs; cases hs
    · rw [hc, if_pos rfl] at hs
      cases hb : bitB (addB S (rs.getD j.toNat default).gives) k
      · obtain ⟨i, hi, h2⟩ := steps_new hk t _ S' (fun i hi => hg i (by simp [hi])) hs hb h1
        exact ⟨i, by simp [hi], h2⟩
      · rw [bit_add, h0, Bool.false_or] at hb
        have := hg j (by simp)
        refine ⟨j, by simp, ?_⟩
        have e : (rs.getD j.toNat default).gives.toNat = k.toNat := by simpa using hb
        unfold givesAt at *
        omega
/-- Why's list is cut down from its end. -/
def trimL (ok : List Int → Bool) : Nat → List Int → List Int
  | 0, l => l
  | k + 1, l => if ok (l.eraseIdx k) then trimL ok k (l.eraseIdx k) else trimL ok k l
theorem eraseIdx_split {l : List Int} {j : Nat} (h : j < l.length) : l = l.take j ++ l[j] :: l.drop (j + 1) ∧ l.eraseIdx j = l.take j ++ l.drop (j + 1) := by
  refine ⟨?_, List.eraseIdx_eq_take_drop_succ l j⟩
  rw [List.getElem_cons_drop h, List.take_append_drop]
/-- What can't be left out can't be left out of what is less. -/
theorem trim_stays {rs : List JRule} {S : Nat} {k : Int} {l : List Int} {i j : Nat} (hij : i < j) (hj : j + 1 < l.length) (hl : endsIn rs S k l) (hn : ¬ endsIn rs S k (l.eraseIdx j)) : ¬ endsIn rs S k ((l.eraseIdx i).eraseIdx (j - 1)) := by
  intro he
  apply hn
  -- l = a ++ x :: m ++ y :: p
  obtain ⟨a, x, m, y, p, rfl, hi', hj'⟩ : ∃ a x m y p, l = a ++ x :: (m ++ y :: p) ∧ a.length = i ∧ a.length + 1 + m.length = j := by
    refine ⟨l.take i, l[i], (l.drop (i + 1)).take (j - i - 1), l[j], l.drop (j + 1), ?_, ?_, ?_⟩
    · have h1 := (eraseIdx_split (l := l) (j := i) (by omega)).1
      have h2 : l.drop (i + 1) = (l.drop (i + 1)).take (j - i - 1) ++ l[j] :: l.drop (j + 1) := by
        have h3 := List.take_append_drop (j - i - 1) (l.drop (i + 1))
        rw [List.drop_drop, show i + 1 + (j - i - 1) = j from by omega, ← List.getElem_cons_drop (show j < l.length from by omega)] at h3
        exact h3.symm
      rw [← h2]
      exact h1
    · rw [List.length_take]; omega
    · rw [List.length_take, List.length_take, List.length_drop]; omega
  have e1 : (a ++ x :: (m ++ y :: p)).eraseIdx i = a ++ (m ++ y :: p) := by
    rw [List.eraseIdx_append_of_length_le (by omega), show i - a.length = 0 from by omega]
    rfl
  have e2 : (a ++ (m ++ y :: p)).eraseIdx (j - 1) = a ++ (m ++ p) := by
    rw [List.eraseIdx_append_of_length_le (by omega), List.eraseIdx_append_of_length_le (by omega), show j - 1 - a.length - m.length = 0 from by omega]
    rfl
  have e3 : (a ++ x :: (m ++ y :: p)).eraseIdx j = a ++ x :: (m ++ p) := by
    rw [List.eraseIdx_append_of_length_le (by omega), show j - a.length = m.length + 1 from by omega, List.eraseIdx_cons_succ, List.eraseIdx_append_of_length_le (by omega), Nat.sub_self]
    rfl
  rw [e1, e2] at he
  rw [e3]
  obtain ⟨⟨T, hT⟩, z, hz, hgz⟩ := he
  obtain ⟨⟨L, hL⟩, _⟩ := hl
  have hp : p ≠ [] := fun e => by subst e; simp at hj; omega
  -- the first part is sound
  rw [show a ++ x :: (m ++ y :: p) = (a ++ x :: m) ++ y :: p from by simp, steps_append] at hL
  cases hA : stepsL rs S (a ++ x :: m) with
  | none => rw [hA] at hL; cases hL
  | some A =>
    rw [show a ++ (m ++ p) = (a ++ m) ++ p from by simp, steps_append] at hT
    cases hB : stepsL rs S (a ++ m) with
    | none => rw [hB] at hT; cases hT
    | some B =>
      rw [hB] at hT
      have hsub := steps_less rs hA B hB
      obtain ⟨T', h1, _⟩ := steps_mono rs p B A T hsub hT
      refine ⟨⟨T', ?_⟩, z, ?_, hgz⟩
      · rw [show a ++ x :: (m ++ p) = (a ++ x :: m) ++ p from by simp, steps_append, hA]
        exact h1
      · have hlast : ∀ q : List Int, (q ++ p).getLast? = p.getLast? := fun q => by
          rw [List.getLast?_append]
          cases hp' : p.getLast? with
          | none => exact absurd (List.getLast?_eq_none_iff.1 hp') hp
          | some v => rfl
        rw [show a ++ (m ++ p) = (a ++ m) ++ p from by simp, hlast] at hz
        rw [show a ++ x :: (m ++ p) = (a ++ x :: m) ++ p from by simp, hlast]
        exact hz
theorem trim_facts {rs : List JRule} {S : Nat} {k : Int} {ok : List Int → Bool} (hok : ∀ l, l ≠ [] → l.length ≤ 40 → (ok l = true ↔ endsIn rs S k l)) :
    ∀ (n : Nat) (l : List Int), n + 1 ≤ l.length → l.length ≤ 40 → endsIn rs S k l → (∀ j, n ≤ j → j + 1 < l.length → ¬ endsIn rs S k (l.eraseIdx j)) →
      endsIn rs S k (trimL ok n l) ∧ (∀ j, j + 1 < (trimL ok n l).length → ¬ endsIn rs S k ((trimL ok n l).eraseIdx j)) ∧ (trimL ok n l).length ≤ 40 ∧ (trimL ok n l).getLast? = l.getLast? ∧ (trimL ok n l).dropLast.Sublist l.dropLast ∧ trimL ok n l ≠ []
  | 0, l, h1, h2, h3, h4 => ⟨h3, fun j hj => h4 j (Nat.zero_le _) hj, h2, rfl, List.Sublist.refl _, fun e => by simp [trimL] at e; subst e; simp at h1⟩
  | n + 1, l, h1, h2, h3, h4 => by
    have hlen : (l.eraseIdx n).length = l.length - 1 := List.length_eraseIdx_of_lt (by omega)
    have hne : l.eraseIdx n ≠ [] := fun e => by rw [e] at hlen; simp at hlen; omega
    rw [trimL]
    cases ho : ok (l.eraseIdx n)
    · have hno : ¬ endsIn rs S k (l.eraseIdx n) := fun h => by rw [(hok _ hne (by omega)).2 h] at ho; cases ho
      rw [if_neg (by simp)]
      refine trim_facts hok n l (by omega) h2 h3 fun j hj hj2 => ?_
      by_cases e : j = n
      · subst e; exact hno
      · exact h4 j (by omega) hj2
    · have hyes := (hok _ hne (by omega)).1 ho
      rw [if_pos rfl]
      have hlast : (l.eraseIdx n).getLast? = l.getLast? := by
        have hs := eraseIdx_split (l := l) (j := n) (by omega)
        have hd : l.drop (n + 1) ≠ [] := fun e => by have := congrArg List.length e; rw [List.length_drop] at this; simp at this; omega
        rw [hs.2]
        have hx : l.getLast? = (l.take n ++ l[n] :: l.drop (n + 1)).getLast? := congrArg _ hs.1
        rw [hx, List.getLast?_append, List.getLast?_append, List.getLast?_cons]
        cases hq : (l.drop (n + 1)).getLast? with
        | none => exact absurd (List.getLast?_eq_none_iff.1 hq) hd
        | some v => rfl
      obtain ⟨a1, a2, a3, a4, a5, a6⟩ := trim_facts hok n (l.eraseIdx n) (by omega) (by omega) hyes fun j hj hj2 => by
        have := trim_stays (i := n) (j := j + 1) (by omega) (by omega) h3 (h4 (j + 1) (by omega) (by omega))
        simpa using this
      refine ⟨a1, a2, a3, a4.trans hlast, a5.trans ?_, a6⟩
      have : (l.eraseIdx n).dropLast = l.dropLast.eraseIdx n := by
        rw [List.dropLast_eq_take, List.dropLast_eq_take, hlen, List.eraseIdx_eq_take_drop_succ, List.eraseIdx_eq_take_drop_succ, List.take_append, List.length_take, List.take_take, List.take_take, List.take_drop, List.drop_take]
        rw [show min n l.length = n from by omega]
        rw [show min (l.length - 1 - 1) n = n from by omega, show min n (l.length - 1) = n from by omega, List.drop_take]
        congr 2
        omega
      rw [this]
      exact List.eraseIdx_sublist _ _
end Go.Proofs.YtmihkbiihfhpoaaDoor
