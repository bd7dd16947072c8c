/- Trees of digests, without the program. -/
import Derived.Test.YteemhemnkdgehaaDoorDSha
namespace Go.Proofs.YteemhemnkdgehaaDoor

theorem leafB_length (l : Bytes) : (leafB l).length = 32 := sha_length _
theorem nodeB_length (a b : Bytes) : (nodeB a b).length = 32 := sha_length _
theorem chainB_length (a b : Bytes) : (chainB a b).length = 32 := sha_length _
/-- The greatest power of two below a number. -/
def leftN (n : Nat) : Nat := 2 ^ Nat.log2 (n - 1)
theorem leftN_bd {n : Nat} (h : 2 ≤ n) : 0 < leftN n ∧ leftN n < n ∧ n ≤ 2 * leftN n := by
  have h1 := Nat.log2_self_le (n := n - 1) (by omega)
  have h2 := Nat.lt_log2_self (n := n - 1)
  unfold leftN
  rw [Nat.pow_succ] at h2
  have h3 : 0 < 2 ^ Nat.log2 (n - 1) := Nat.pow_pos (by decide)
  omega
theorem leftN_of {n e : Nat} (h1 : 2 ^ e < n) (h2 : n ≤ 2 ^ (e + 1)) : leftN n = 2 ^ e := by
  have h0 : 0 < 2 ^ e := Nat.pow_pos (by decide)
  unfold leftN
  congr 1
  exact (Nat.log2_eq_iff (by omega)).2 ⟨by omega, by omega⟩
def rootF : Nat → List Bytes → Bytes
  | 0, _ => sha []
  | k + 1, l => if l.length = 0 then sha [] else if l.length = 1 then leafB (l.getD 0 []) else nodeB (rootF k (l.take (leftN l.length))) (rootF k (l.drop (leftN l.length)))
/-- The root of a list. -/
def rootL (l : List Bytes) : Bytes := rootF l.length l
theorem rootF_eq : ∀ (k : Nat) (l : List Bytes), l.length ≤ k → ∀ j, l.length ≤ j → rootF k l = rootF j l
  | 0, l, h, 0, _ => rfl
  | 0, l, h, j + 1, _ => by unfold rootF; rw [if_pos (by omega)]
  | k + 1, l, h, 0, hj => by unfold rootF; rw [if_pos (by omega)]
  | k + 1, l, h, j + 1, hj => by
    unfold rootF
    by_cases h0 : l.length = 0
    · rw [if_pos h0, if_pos h0]
    · rw [if_neg h0, if_neg h0]
      by_cases h1 : l.length = 1
      · rw [if_pos h1, if_pos h1]
      · rw [if_neg h1, if_neg h1]
        have hb := leftN_bd (n := l.length) (by omega)
        rw [rootF_eq k (l.take (leftN l.length)) (by rw [List.length_take]; omega) j (by rw [List.length_take]; omega), rootF_eq k (l.drop (leftN l.length)) (by rw [List.length_drop]; omega) j (by rw [List.length_drop]; omega)]
theorem rootL_nil : rootL [] = sha [] := rfl
theorem rootL_one (x : Bytes) : rootL [x] = leafB x := by
  show rootF 1 [x] = _
  unfold rootF
  rw [if_neg (by simp), if_pos (by simp)]
  rfl
theorem rootL_split {l : List Bytes} (h : 2 ≤ l.length) : rootL l = nodeB (rootL (l.take (leftN l.length))) (rootL (l.drop (leftN l.length))) := by
  have hb := leftN_bd h
  have h1 : rootL l = rootF (l.length - 1 + 1) l := rootF_eq _ _ (Nat.le_refl _) _ (by omega)
  rw [h1]
  unfold rootF
  rw [if_neg (by omega), if_neg (by omega)]
  unfold rootL
  rw [rootF_eq (l.length - 1) (l.take (leftN l.length)) (by rw [List.length_take]; omega) _ (Nat.le_refl _), rootF_eq (l.length - 1) (l.drop (leftN l.length)) (by rw [List.length_drop]; omega) _ (Nat.le_refl _)]
theorem rootL_length (l : List Bytes) : (rootL l).length = 32 := by
  unfold rootL
  cases l.length with
  | zero => exact sha_length _
  | succ k =>
    unfold rootF
    split
    · exact sha_length _
    · split
      · exact leafB_length _
      · exact nodeB_length _ _
/-- Complete parts, the greatest first. -/
def Parts2 (segs : List (List Bytes)) : Prop := segs.Pairwise (fun a b => b.length < a.length) ∧ ∀ s ∈ segs, ∃ e, s.length = 2 ^ e
theorem pow2_lt {a b : Nat} (h : 2 ^ a < 2 ^ b) : 2 ^ (a + 1) ≤ 2 ^ b := Nat.pow_le_pow_right (by decide) ((Nat.pow_lt_pow_iff_right (by decide)).1 h)
theorem Parts2.total : ∀ {segs : List (List Bytes)}, Parts2 segs → ∀ e, (∀ s ∈ segs, s.length < 2 ^ e) → segs.flatten.length < 2 ^ e
  | [], _, e, _ => Nat.pow_pos (by decide)
  | a :: t, h, e, hl => by
    obtain ⟨d, hd⟩ := h.2 a (by simp)
    have hp := List.pairwise_cons.1 h.1
    have hrec := Parts2.total (segs := t) ⟨hp.2, fun s hs => h.2 s (by simp [hs])⟩ d (fun s hs => by rw [← hd]; exact hp.1 s hs)
    have h1 := hl a (by simp)
    rw [hd] at h1
    have h2 := pow2_lt h1
    rw [Nat.pow_succ] at h2
    rw [List.flatten_cons, List.length_append]
    omega
theorem rootL_parts {a : List Bytes} {t : List (List Bytes)} (h : Parts2 (a :: t)) (ht : t ≠ []) : rootL (a ++ t.flatten) = nodeB (rootL a) (rootL t.flatten) := by
  obtain ⟨d, hd⟩ := h.2 a (by simp)
  have hp := List.pairwise_cons.1 h.1
  have hlt := Parts2.total (segs := t) ⟨hp.2, fun s hs => h.2 s (by simp [hs])⟩ d (fun s hs => by rw [← hd]; exact hp.1 s hs)
  have h0 : 0 < 2 ^ d := Nat.pow_pos (by decide)
  have hpos : 0 < t.flatten.length := by
    cases t with
    | nil => exact absurd rfl ht
    | cons b t =>
      obtain ⟨e, he⟩ := h.2 b (by simp)
      have : 0 < 2 ^ e := Nat.pow_pos (by decide)
      rw [List.flatten_cons, List.length_append]
      omega
  have hl : leftN (a ++ t.flatten).length = a.length := by
    rw [hd]
    apply leftN_of
    · rw [List.length_append]; omega
    · rw [List.length_append, Nat.pow_succ]; omega
  rw [rootL_split (by rw [List.length_append]; omega), hl, List.take_left, List.drop_left]
/-- Two equal complete parts are one. -/
theorem rootL_pair {a b : List Bytes} {e : Nat} (ha : a.length = 2 ^ e) (hb : b.length = 2 ^ e) : rootL (a ++ b) = nodeB (rootL a) (rootL b) := by
  have h0 : 0 < 2 ^ e := Nat.pow_pos (by decide)
  have hl : leftN (a ++ b).length = a.length := by
    rw [ha]
    apply leftN_of
    · rw [List.length_append]; omega
    · rw [List.length_append, Nat.pow_succ]; omega
  rw [rootL_split (by rw [List.length_append]; omega), hl, List.take_left, List.drop_left]
/-- The parts, the last one of which is about to be joined. -/
def Parts3 (init : List (List Bytes)) (last : List Bytes) : Prop := Parts2 init ∧ (∃ e, last.length = 2 ^ e) ∧ ∀ s ∈ init, last.length ≤ s.length
theorem Parts3.push {segs : List (List Bytes)} (h : Parts2 segs) (x : Bytes) : Parts3 segs [x] :=
  ⟨h, ⟨0, rfl⟩, fun s hs => by obtain ⟨e, he⟩ := h.2 s hs; have : 0 < 2 ^ e := Nat.pow_pos (by decide); simp; omega⟩
theorem Parts3.join {init : List (List Bytes)} {b last : List Bytes} (h : Parts3 (init ++ [b]) last) (he : b.length = last.length) :
    Parts3 init (b ++ last) ∧ rootL (b ++ last) = nodeB (rootL b) (rootL last) := by
  obtain ⟨h1, ⟨e, h2⟩, h3⟩ := h
  have hp := List.pairwise_append.1 h1.1
  refine ⟨⟨⟨hp.1, fun s hs => h1.2 s (by simp [hs])⟩, ⟨e + 1, by rw [List.length_append, Nat.pow_succ]; omega⟩, fun s hs => ?_⟩, rootL_pair (he.trans h2) h2⟩
  have h4 := hp.2.2 s hs b (by simp)
  obtain ⟨d, hd⟩ := h1.2 s (by simp [hs])
  rw [hd, he, h2] at h4
  have := pow2_lt h4
  rw [List.length_append, he, h2, hd]
  rw [Nat.pow_succ] at this
  omega
theorem Parts3.done {init : List (List Bytes)} {b last : List Bytes} (h : Parts3 (init ++ [b]) last) (he : b.length ≠ last.length) : Parts2 (init ++ [b] ++ [last]) := by
  obtain ⟨h1, h2, h3⟩ := h
  refine ⟨List.pairwise_append.2 ⟨h1.1, by simp, fun s hs t ht => ?_⟩, fun s hs => ?_⟩
  · rw [List.mem_singleton.1 ht]
    rcases List.mem_append.1 hs with hs | hs
    · have := (List.pairwise_append.1 h1.1).2.2 s hs b (by simp)
      have := h3 b (by simp)
      omega
    · rw [List.mem_singleton.1 hs]
      have := h3 b (by simp)
      omega
  · rcases List.mem_append.1 hs with hs | hs
    · exact h1.2 s hs
    · rw [List.mem_singleton.1 hs]; exact h2
theorem Parts3.alone {last : List Bytes} (h : Parts3 [] last) : Parts2 [last] := ⟨by simp, fun s hs => by rw [List.mem_singleton.1 hs]; exact h.2.1⟩
end Go.Proofs.YteemhemnkdgehaaDoor
