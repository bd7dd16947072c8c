/- Plain: what holds is the least closed set; least sets with a property. -/
import Derived.Test.YtmihkbiihfhpoaaDoorJRet
namespace Go.Proofs.YtmihkbiihfhpoaaDoor
open Go

/-- Inclusion of sets, as bits. -/
def SubS (a b : Nat) : Prop := ∀ i, a.testBit i = true → b.testBit i = true
theorem SubS.refl (a : Nat) : SubS a a := fun _ h => h
theorem SubS.trans {a b c : Nat} (h : SubS a b) (k : SubS b c) : SubS a c := fun i hi => k i (h i hi)
theorem SubS.antisymm {a b : Nat} (h : SubS a b) (k : SubS b a) : a = b := by
  apply Nat.eq_of_testBit_eq
  intro i
  rw [Bool.eq_iff_iff]
  exact ⟨h i, k i⟩
theorem SubS.bit {a b : Nat} (h : SubS a b) (z : Int) (hz : bitB a z = true) : bitB b z = true := h _ hz
theorem SubS.meets {a b : Nat} (h : SubS a b) (l : List Int) (hm : meetsB l a = true) : meetsB l b = true := by
  unfold meetsB at *
  rw [List.all_eq_true] at *
  exact fun z hz => h.bit z (hm z hz)
theorem sub_add (S : Nat) (g : Int) : SubS S (addB S g) := fun i hi => by
  unfold addB
  rw [Nat.testBit_or, hi]
  rfl
theorem add_sub {S X : Nat} {g : Int} (h : SubS S X) (hg : bitB X g = true) : SubS (addB S g) X := fun i hi => by
  unfold addB at hi
  rw [Nat.testBit_or, Bool.or_eq_true, Nat.testBit_two_pow] at hi
  rcases hi with hi | hi
  · exact h i hi
  · have : g.toNat = i := by simpa using hi
    subst this
    exact hg
theorem bit_addB (S : Nat) (g : Int) : bitB (addB S g) g = true := by rw [bit_add]; simp
/-- Closed under the rules. -/
def ClosedS (rs : List JRule) (X : Nat) : Prop := ∀ r ∈ rs, meetsB r.needs X = true → bitB X r.gives = true
theorem heldGo_sub (rs : List JRule) : ∀ (k S : Nat) (b : List Int), SubS S (heldGo rs k S b).1
  | 0, S, b => SubS.refl S
  | k + 1, S, b => by
    cases hf : rs.findIdx? (firesB · S) with
    | none => rw [heldGo_none rs (k + 1) S b hf]; exact SubS.refl S
    | some i => rw [heldGo_some rs k S i b hf]; exact (sub_add S _).trans (heldGo_sub rs k _ _)
theorem fires_at {rs : List JRule} {S i : Nat} (hf : rs.findIdx? (firesB · S) = some i) : i < rs.length ∧ rs.getD i default ∈ rs ∧ bitB S (rs.getD i default).gives = false ∧ meetsB (rs.getD i default).needs S = true := by
  rw [List.findIdx?_eq_some_iff_getElem] at hf
  obtain ⟨hi, h1, _⟩ := hf
  have hm := getD_mem rs default i hi
  have e : rs.getD i default = rs[i] := by rw [List.getD_eq_getElem?_getD, List.getElem?_eq_getElem hi]; rfl
  rw [← e] at h1
  unfold firesB at h1
  rw [Bool.and_eq_true, Bool.not_eq_true'] at h1
  exact ⟨hi, hm, h1.1, h1.2⟩
theorem heldGo_least (rs : List JRule) (X : Nat) (hX : ClosedS rs X) : ∀ (k S : Nat) (b : List Int), SubS S X → SubS (heldGo rs k S b).1 X
  | 0, S, b, h => h
  | k + 1, S, b, h => by
    cases hf : rs.findIdx? (firesB · S) with
    | none => rw [heldGo_none rs (k + 1) S b hf]; exact h
    | some i =>
      rw [heldGo_some rs k S i b hf]
      obtain ⟨_, hm, _, hn⟩ := fires_at hf
      exact heldGo_least rs X hX k _ _ (add_sub h (hX _ hm (h.meets _ hn)))
theorem closed_of_none {rs : List JRule} {S : Nat} (hf : rs.findIdx? (firesB · S) = none) : ClosedS rs S := by
  rw [List.findIdx?_eq_none_iff] at hf
  intro r hr hm
  have := hf r hr
  unfold firesB at this
  rw [hm, Bool.and_true, Bool.not_eq_false'] at this
  exact this
theorem closed_of_missing {rs : List JRule} {S : Nat} (h : missing rs S = 0) : ClosedS rs S := by
  unfold missing at h
  rw [List.countP_eq_zero] at h
  intro r hr _
  have := h r hr
  simpa using this
theorem heldGo_closed (rs : List JRule) : ∀ (k S : Nat) (b : List Int), missing rs S ≤ k → ClosedS rs (heldGo rs k S b).1
  | 0, S, b, h => closed_of_missing (S := S) (by omega)
  | k + 1, S, b, h => by
    cases hf : rs.findIdx? (firesB · S) with
    | none => rw [heldGo_none rs (k + 1) S b hf]; exact closed_of_none hf
    | some i =>
      rw [heldGo_some rs k S i b hf]
      obtain ⟨_, hm, hb, _⟩ := fires_at hf
      have := missing_add rs S _ hm hb
      exact heldGo_closed rs k _ _ (by omega)
/-- What holds. -/
def hd (rs : List JRule) (S : Nat) : Nat := (heldF rs S).1
theorem hd_sub (rs : List JRule) (S : Nat) : SubS S (hd rs S) := heldGo_sub rs _ S _
theorem hd_closed (rs : List JRule) (S : Nat) : ClosedS rs (hd rs S) := heldGo_closed rs _ S _ (missing_le rs S)
theorem hd_least {rs : List JRule} {S X : Nat} (hX : ClosedS rs X) (h : SubS S X) : SubS (hd rs S) X := heldGo_least rs X hX _ S _ h
theorem hd_unique {rs : List JRule} {S H : Nat} (h1 : SubS S H) (h2 : ClosedS rs H) (h3 : ∀ X, ClosedS rs X → SubS S X → SubS H X) : H = hd rs S :=
  (h3 _ (hd_closed rs S) (hd_sub rs S)).antisymm (hd_least h2 h1)
theorem hd_mono {rs : List JRule} {S S' : Nat} (h : SubS S S') : SubS (hd rs S) (hd rs S') := hd_least (hd_closed rs S') (h.trans (hd_sub rs S'))
theorem hd_more {rs rs' : List JRule} (h : ∀ r ∈ rs, r ∈ rs') (S : Nat) : SubS (hd rs S) (hd rs' S) := hd_least (fun r hr => hd_closed rs' S r (h r hr)) (hd_sub rs' S)
theorem hd_same {rs rs' : List JRule} (h : ∀ r, r ∈ rs ↔ r ∈ rs') (S : Nat) : hd rs S = hd rs' S := (hd_more (fun r hr => (h r).1 hr) S).antisymm (hd_more (fun r hr => (h r).2 hr) S)
/-- What is given by no rule holds only if it is in the set. -/
theorem hd_seen {rs : List JRule} (S : Nat) (i : Nat) (h : ∀ r ∈ rs, r.gives.toNat ≠ i) : (hd rs S).testBit i = S.testBit i := by
  rw [Bool.eq_iff_iff]
  refine ⟨fun hh => ?_, fun hh => hd_sub rs S i hh⟩
  cases hs : S.testBit i
  · exfalso
    -- everything but i
    have key : ClosedS rs (sdiff (hd rs S) (2 ^ i)) := by
      intro r hr hm
      have hsub : SubS (sdiff (hd rs S) (2 ^ i)) (hd rs S) := fun j hj => by rw [testBit_sdiff, Bool.and_eq_true] at hj; exact hj.1
      have h1 := hd_closed rs S r hr (hsub.meets _ hm)
      unfold bitB at *
      rw [testBit_sdiff, h1, Nat.testBit_two_pow]
      have := h r hr
      simp [Ne.symm this]
    have h2 : SubS S (sdiff (hd rs S) (2 ^ i)) := fun j hj => by
      rw [testBit_sdiff, hd_sub rs S j hj, Nat.testBit_two_pow]
      have : i ≠ j := fun e => by subst e; rw [hs] at hj; cases hj
      simp [this]
    have h3 := hd_least key h2 i hh
    rw [testBit_sdiff, Nat.testBit_two_pow] at h3
    simp at h3
  · rfl

/-- The reference's sweep, and its rounds. -/
def sweepR (S : Nat) (r : JRule) : Nat := if meetsB r.needs S && !bitB S r.gives then addB S r.gives else S
def sweep (rs : List JRule) (S : Nat) : Nat := rs.foldl sweepR S
def rounds (rs : List JRule) : Nat → Nat → Nat
  | 0, S => S
  | n + 1, S => rounds rs n (sweep rs S)
theorem sweepR_sub (S : Nat) (r : JRule) : SubS S (sweepR S r) := by
  unfold sweepR
  split
  · exact sub_add S _
  · exact SubS.refl S
theorem sweepL_sub : ∀ (rs : List JRule) (S : Nat), SubS S (rs.foldl sweepR S)
  | [], S => SubS.refl S
  | r :: rs, S => (sweepR_sub S r).trans (sweepL_sub rs _)
theorem sweepR_least {r : JRule} {S X : Nat} (hX : meetsB r.needs X = true → bitB X r.gives = true) (h : SubS S X) : SubS (sweepR S r) X := by
  unfold sweepR
  split
  · rename_i hc
    rw [Bool.and_eq_true] at hc
    exact add_sub h (hX (h.meets _ hc.1))
  · exact h
theorem sweepL_least {X : Nat} : ∀ (rs : List JRule) (S : Nat), (∀ r ∈ rs, meetsB r.needs X = true → bitB X r.gives = true) → SubS S X → SubS (rs.foldl sweepR S) X
  | [], S, _, h => h
  | r :: rs, S, hX, h => sweepL_least rs _ (fun r' hr' => hX r' (by simp [hr'])) (sweepR_least (hX r (by simp)) h)
theorem rounds_sub (rs : List JRule) : ∀ (n S : Nat), SubS S (rounds rs n S)
  | 0, S => SubS.refl S
  | n + 1, S => (sweepL_sub rs S).trans (rounds_sub rs n _)
theorem rounds_least {rs : List JRule} {X : Nat} (hX : ClosedS rs X) : ∀ (n S : Nat), SubS S X → SubS (rounds rs n S) X
  | 0, _, h => h
  | n + 1, _, h => rounds_least hX n _ (sweepL_least rs _ hX h)
/-- A sweep that changes nothing: closed. -/
theorem sweepL_closed : ∀ (rs : List JRule) (S : Nat), rs.foldl sweepR S = S → ∀ r ∈ rs, meetsB r.needs S = true → bitB S r.gives = true
  | [], _, _, r, hr, _ => by simp at hr
  | r :: rs, S, h, r', hr', hm => by
    have h1 : sweepR S r = S := SubS.antisymm (by have := sweepL_sub rs (sweepR S r); rw [show rs.foldl sweepR (sweepR S r) = S from h] at this; exact this) (sweepR_sub S r)
    rcases List.mem_cons.1 hr' with rfl | hr'
    · cases hb : bitB S r'.gives
      · unfold sweepR at h1
        rw [hm, hb] at h1
        have := bit_addB S r'.gives
        rw [show addB S r'.gives = S from h1, hb] at this
        cases this
      · rfl
    · exact sweepL_closed rs S (by have h2 : rs.foldl sweepR (sweepR S r) = S := h; rwa [h1] at h2) r' hr' hm
def lacks (lo d S : Nat) : Nat := (List.range d).countP fun i => !S.testBit (lo + i)
theorem lacks_lt {lo d S S' : Nat} (h : SubS S S') (i : Nat) (hi : i < d) (h1 : S.testBit (lo + i) = false) (h2 : S'.testBit (lo + i) = true) : lacks lo d S' < lacks lo d S := by
  unfold lacks
  apply countP_lt
  · intro x _ hx
    simp only [Bool.not_eq_true'] at *
    cases hb : S.testBit (lo + x)
    · rfl
    · rw [h _ hb] at hx; cases hx
  · exact ⟨i, List.mem_range.2 hi, by simp [h1], by simp [h2]⟩
/-- A sweep that changes something fills one of the conclusions. -/
theorem sweepL_lacks {lo d : Nat} : ∀ (rs : List JRule) (S : Nat), (∀ r ∈ rs, lo ≤ r.gives.toNat ∧ r.gives.toNat < lo + d) → rs.foldl sweepR S ≠ S → lacks lo d (rs.foldl sweepR S) < lacks lo d S
  | [], _, _, h => absurd rfl h
  | r :: rs, S, hg, h => by
    by_cases h1 : sweepR S r = S
    · have h2 : (r :: rs).foldl sweepR S = rs.foldl sweepR S := by show rs.foldl sweepR (sweepR S r) = _; rw [h1]
      rw [h2] at h ⊢
      exact sweepL_lacks rs S (fun r' hr' => hg r' (by simp [hr'])) h
    · have hc : (meetsB r.needs S && !bitB S r.gives) = true := by
        cases hc : (meetsB r.needs S && !bitB S r.gives)
        · exact absurd (by unfold sweepR; rw [hc]; rfl) h1
        · rfl
      have he : sweepR S r = addB S r.gives := by unfold sweepR; rw [hc]; rfl
      rw [Bool.and_eq_true, Bool.not_eq_true'] at hc
      have hr := hg r (by simp)
      have hsub : SubS S ((r :: rs).foldl sweepR S) := sweepL_sub (r :: rs) S
      refine lacks_lt hsub (r.gives.toNat - lo) (by omega) ?_ ?_
      · rw [show lo + (r.gives.toNat - lo) = r.gives.toNat from by omega]; exact hc.2
      · rw [show lo + (r.gives.toNat - lo) = r.gives.toNat from by omega]
        refine sweepL_sub rs (sweepR S r) _ ?_
        rw [he]
        exact bit_addB S r.gives
theorem sweep_stays {rs : List JRule} {S : Nat} (h : sweep rs S = S) : ∀ n, rounds rs n S = S
  | 0 => rfl
  | n + 1 => by show rounds rs n (sweep rs S) = S; rw [h]; exact sweep_stays h n
theorem rounds_fix {rs : List JRule} {lo d : Nat} (hg : ∀ r ∈ rs, lo ≤ r.gives.toNat ∧ r.gives.toNat < lo + d) : ∀ (n S : Nat), lacks lo d S < n → sweep rs (rounds rs n S) = rounds rs n S
  | 0, S, h => by omega
  | n + 1, S, h => by
    by_cases h1 : sweep rs S = S
    · rw [sweep_stays h1]; exact h1
    · have := sweepL_lacks (lo := lo) (d := d) rs S hg h1
      exact rounds_fix hg n (sweep rs S) (by have : lacks lo d (sweep rs S) < lacks lo d S := this; omega)
theorem lacks_le (lo d S : Nat) : lacks lo d S ≤ d := by
  unfold lacks
  have := List.countP_le_length (p := fun i => !S.testBit (lo + i)) (l := List.range d)
  rwa [List.length_range] at this
/-- The reference's answer. -/
theorem rounds_hd {rs : List JRule} {lo d : Nat} (hg : ∀ r ∈ rs, lo ≤ r.gives.toNat ∧ r.gives.toNat < lo + d) (S : Nat) : rounds rs (d + 1) S = hd rs S :=
  hd_unique (rounds_sub rs _ S) (sweepL_closed rs _ (rounds_fix hg (d + 1) S (by have := lacks_le lo d S; omega))) fun _ hX h => rounds_least hX _ _ h
end Go.Proofs.YtmihkbiihfhpoaaDoor
