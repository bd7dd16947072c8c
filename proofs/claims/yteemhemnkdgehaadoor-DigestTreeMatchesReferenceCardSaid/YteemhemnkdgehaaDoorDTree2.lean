/- Proofs and extensions, without the program. -/
import Derived.Test.YteemhemnkdgehaaDoorDTree
namespace Go.Proofs.YteemhemnkdgehaaDoor

def proofF : Nat → List Bytes → Nat → List Bytes
  | 0, _, _ => []
  | k + 1, l, i => if l.length ≤ 1 then [] else if i < leftN l.length then proofF k (l.take (leftN l.length)) i ++ [rootL (l.drop (leftN l.length))] else proofF k (l.drop (leftN l.length)) (i - leftN l.length) ++ [rootL (l.take (leftN l.length))]
/-- The proof of an entry. -/
def proofL (l : List Bytes) (i : Nat) : List Bytes := proofF l.length l i
theorem proofF_eq : ∀ (k : Nat) (l : List Bytes) (i : Nat), l.length ≤ k → ∀ j, l.length ≤ j → proofF k l i = proofF j l i
  | 0, l, i, h, 0, _ => rfl
  | 0, l, i, h, j + 1, _ => by unfold proofF; rw [if_pos (by omega)]
  | k + 1, l, i, h, 0, hj => by unfold proofF; rw [if_pos (by omega)]
  | k + 1, l, i, h, j + 1, hj => by
    unfold proofF
    by_cases h1 : l.length ≤ 1
    · rw [if_pos h1, if_pos h1]
    · rw [if_neg h1, if_neg h1]
      have hb := leftN_bd (n := l.length) (by omega)
      rw [proofF_eq k (l.take (leftN l.length)) i (by rw [List.length_take]; omega) j (by rw [List.length_take]; omega), proofF_eq k (l.drop (leftN l.length)) (i - leftN l.length) (by rw [List.length_drop]; omega) j (by rw [List.length_drop]; omega)]
theorem proofL_one {l : List Bytes} (h : l.length ≤ 1) (i : Nat) : proofL l i = [] := by
  unfold proofL
  cases hn : l.length with
  | zero => rfl
  | succ k => unfold proofF; rw [if_pos h]
theorem proofL_lo {l : List Bytes} {i : Nat} (h : 2 ≤ l.length) (hi : i < leftN l.length) : proofL l i = proofL (l.take (leftN l.length)) i ++ [rootL (l.drop (leftN l.length))] := by
  have hb := leftN_bd h
  have h1 : proofL l i = proofF (l.length - 1 + 1) l i := proofF_eq _ _ _ (Nat.le_refl _) _ (by omega)
  rw [h1]
  unfold proofF
  rw [if_neg (by omega), if_pos hi]
  unfold proofL
  rw [proofF_eq (l.length - 1) (l.take (leftN l.length)) i (by rw [List.length_take]; omega) _ (Nat.le_refl _)]
theorem proofL_hi {l : List Bytes} {i : Nat} (h : 2 ≤ l.length) (hi : ¬ i < leftN l.length) : proofL l i = proofL (l.drop (leftN l.length)) (i - leftN l.length) ++ [rootL (l.take (leftN l.length))] := by
  have hb := leftN_bd h
  have h1 : proofL l i = proofF (l.length - 1 + 1) l i := proofF_eq _ _ _ (Nat.le_refl _) _ (by omega)
  rw [h1]
  unfold proofF
  rw [if_neg (by omega), if_neg hi]
  unfold proofL
  rw [proofF_eq (l.length - 1) (l.drop (leftN l.length)) _ (by rw [List.length_drop]; omega) _ (Nat.le_refl _)]

/-- The value of a proof, its last element first. -/
def valR : List Bytes → Nat → Nat → Bytes → Option Bytes
  | [], n, _, s => if n ≤ 1 then some (leafB s) else none
  | x :: t, n, i, s => if n ≤ 1 then none else if i < leftN n then (valR t (leftN n) i s).map (nodeB · x) else (valR t (n - leftN n) (i - leftN n) s).map (nodeB x ·)
def digB (l : List Bytes) : Bool := l.all fun x => decide (x.length = 32)
/-- What Verify says. -/
def verB (root : Bytes) (n i : Int) (s : Bytes) (proof : List Bytes) : Bool := decide (0 ≤ i) && decide (i < n) && digB proof && (valR proof.reverse n.toNat i.toNat s == some root)

def partF : Nat → List Bytes → Nat → Bool → List Bytes
  | 0, _, _, _ => []
  | k + 1, l, m, whole => if m = l.length then (if whole then [] else [rootL l]) else if m ≤ leftN l.length then partF k (l.take (leftN l.length)) m whole ++ [rootL (l.drop (leftN l.length))] else partF k (l.drop (leftN l.length)) (m - leftN l.length) false ++ [rootL (l.take (leftN l.length))]
/-- The proof that a list begins with m entries, m at least 1. -/
def partL (l : List Bytes) (m : Nat) (whole : Bool) : List Bytes := partF l.length l m whole
theorem partF_eq : ∀ (k : Nat) (l : List Bytes) (m : Nat) (whole : Bool), 1 ≤ m → m ≤ l.length → l.length ≤ k → ∀ j, l.length ≤ j → partF k l m whole = partF j l m whole
  | 0, l, m, whole, h0, hm, h, j, _ => by omega
  | k + 1, l, m, whole, h0, hm, h, 0, hj => by omega
  | k + 1, l, m, whole, h0, hm, h, j + 1, hj => by
    unfold partF
    by_cases h1 : m = l.length
    · rw [if_pos h1, if_pos h1]
    · rw [if_neg h1, if_neg h1]
      have hb := leftN_bd (n := l.length) (by omega)
      by_cases h2 : m ≤ leftN l.length
      · rw [if_pos h2, if_pos h2, partF_eq k (l.take (leftN l.length)) m whole h0 (by rw [List.length_take]; omega) (by rw [List.length_take]; omega) j (by rw [List.length_take]; omega)]
      · rw [if_neg h2, if_neg h2, partF_eq k (l.drop (leftN l.length)) (m - leftN l.length) false (by omega) (by rw [List.length_drop]; omega) (by rw [List.length_drop]; omega) j (by rw [List.length_drop]; omega)]
theorem partL_all {l : List Bytes} {m : Nat} {whole : Bool} (h0 : 1 ≤ m) (h : m = l.length) : partL l m whole = if whole then [] else [rootL l] := by
  unfold partL
  obtain ⟨k, hk⟩ : ∃ k, l.length = k + 1 := ⟨l.length - 1, by omega⟩
  rw [hk]
  unfold partF
  rw [if_pos h]
theorem partL_lo {l : List Bytes} {m : Nat} {whole : Bool} (h0 : 1 ≤ m) (h : m < l.length) (h2 : m ≤ leftN l.length) : partL l m whole = partL (l.take (leftN l.length)) m whole ++ [rootL (l.drop (leftN l.length))] := by
  have hb := leftN_bd (n := l.length) (by omega)
  have h1 : partL l m whole = partF (l.length - 1 + 1) l m whole := partF_eq _ _ _ _ h0 (by omega) (Nat.le_refl _) _ (by omega)
  rw [h1]
  unfold partF
  rw [if_neg (by omega), if_pos h2]
  unfold partL
  rw [partF_eq (l.length - 1) (l.take (leftN l.length)) m whole h0 (by rw [List.length_take]; omega) (by rw [List.length_take]; omega) _ (Nat.le_refl _)]
theorem partL_hi {l : List Bytes} {m : Nat} {whole : Bool} (h0 : 1 ≤ m) (h : m < l.length) (h2 : ¬ m ≤ leftN l.length) : partL l m whole = partL (l.drop (leftN l.length)) (m - leftN l.length) false ++ [rootL (l.take (leftN l.length))] := by
  have hb := leftN_bd (n := l.length) (by omega)
  have h1 : partL l m whole = partF (l.length - 1 + 1) l m whole := partF_eq _ _ _ _ h0 (by omega) (Nat.le_refl _) _ (by omega)
  rw [h1]
  unfold partF
  rw [if_neg (by omega), if_neg h2]
  unfold partL
  rw [partF_eq (l.length - 1) (l.drop (leftN l.length)) _ false (by omega) (by rw [List.length_drop]; omega) (by rw [List.length_drop]; omega) _ (Nat.le_refl _)]
/-- The two values of the proof of an extension, its last element first. -/
def bothR (old : Bytes) : List Bytes → Nat → Nat → Bool → Option (Bytes × Bytes)
  | [], m, n, whole => if m = n ∧ whole = true then some (old, old) else none
  | x :: t, m, n, whole => if m = n then (if whole = false ∧ t = [] then some (x, x) else none) else
    if m ≤ leftN n then (bothR old t m (leftN n) whole).map (fun p => (p.1, nodeB p.2 x)) else (bothR old t (m - leftN n) (n - leftN n) false).map (fun p => (nodeB x p.1, nodeB x p.2))
/-- What VerifyExtension says. -/
def verExtB (old : Bytes) (m : Int) (root : Bytes) (n : Int) (proof : List Bytes) : Bool :=
  decide (0 ≤ m) && decide (m ≤ n) && digB proof && decide (old.length = 32) && decide (root.length = 32) &&
    (if m = 0 then proof.isEmpty && (old == sha []) else if m = n then proof.isEmpty && (old == root) else bothR old proof.reverse m.toNat n.toNat true == some (old, root))
end Go.Proofs.YteemhemnkdgehaaDoor
