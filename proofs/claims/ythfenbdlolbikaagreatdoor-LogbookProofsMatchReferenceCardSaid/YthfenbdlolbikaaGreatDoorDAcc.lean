/- What proofs of digest are accepted: plain. -/
import Derived.Test.YthfenbdlolbikaaGreatDoorDMore
set_option linter.unusedVariables false
set_option linter.unusedSimpArgs false
namespace Go.Proofs.YthfenbdlolbikaaGreatDoor
open Go.RowKit Go.Shelf

theorem extE_in {l : List Bytes} {k : Nat} (h : k ≤ l.length) : (extE l k).2 = 0 := by
  unfold extE
  rw [if_pos ⟨by omega, by omega⟩]
  split <;> rfl
theorem extE_out {l : List Bytes} {m : Int} (h : ¬ (0 ≤ m ∧ m ≤ (l.length : Int))) : extE l m = ([], 2) := by
  unfold extE
  rw [if_neg h]
theorem extE_short {l : List Bytes} {k : Nat} (h : k ≤ l.length) (r : Nat) (hr : l.length < 2 ^ r) : (extE l k).1.length ≤ 2 * r := by
  unfold extE
  rw [if_pos ⟨by omega, by omega⟩]
  split
  · simp
  · rename_i hk
    have hk1 : 1 ≤ k := by omega
    rw [Int.toNat_natCast]
    have h1 := partL_short l.length l k true r (Nat.le_refl _) hk1 h (by omega)
    have hr1 : 1 ≤ r := by
      cases r with
      | zero => simp at hr; subst hr; simp at h; omega
      | succ r => omega
    show (partL l k true).length ≤ _
    omega
theorem digB_of {l : List Bytes} (h : ∀ x ∈ l, x.length = 32) : digB l = true := by
  unfold digB
  rw [List.all_eq_true]
  intro x hx
  simpa using h x hx
/-- The proof of a beginning is accepted. -/
theorem extE_acc {l : List Bytes} {k : Nat} (h : k ≤ l.length) : verExtB (rootL (l.take k)) k (rootL l) l.length (extE l k).1 = true := by
  have hr1 := rootL_length (l.take k)
  have hr2 := rootL_length l
  unfold extE
  rw [if_pos ⟨by omega, by omega⟩]
  unfold verExtB
  by_cases k0 : (k : Int) = 0
  · have k0' : k = 0 := by omega
    subst k0'
    rw [if_pos k0, if_pos k0]
    simp [digB, hr1, hr2, rootL_nil, sha_length]
  · rw [if_neg k0, if_neg k0, Int.toNat_natCast, Int.toNat_natCast]
    have hk1 : 1 ≤ k := by omega
    have hd : digB (partL l k true) = true := digB_of (partL_dig l.length l k true (Nat.le_refl _) hk1 h)
    by_cases kn : (k : Int) = (l.length : Int)
    · have kn' : k = l.length := by omega
      rw [if_pos kn]
      show (decide _ && decide _ && digB (partL l k true) && decide _ && decide _ && ((partL l k true).isEmpty && (rootL (l.take k) == rootL l))) = true
      rw [hd, partL_all hk1 kn', kn', List.take_length]
      simp [hr2]
    · rw [if_neg kn]
      show (decide _ && decide _ && digB (partL l k true) && decide _ && decide _ && (bothR _ (partL l k true).reverse k l.length true == _)) = true
      rw [hd, bothR_part l.length l k true (rootL (l.take k)) (Nat.le_refl _) hk1 h (fun _ => rfl)]
      simp [hr1, hr2]
      omega
theorem proofE_in {l : List Bytes} {k : Nat} (h : k < l.length) : proofE l k = (proofL l k, 0) := by
  unfold proofE
  rw [if_pos ⟨by omega, by omega⟩, Int.toNat_natCast]
theorem proofE_out {l : List Bytes} {i : Int} (h : ¬ (0 ≤ i ∧ i < (l.length : Int))) : proofE l i = ([], 2) := by
  unfold proofE
  rw [if_neg h]
theorem proofL_bin {l : List Bytes} (k r : Nat) (hr : l.length < 2 ^ r) : (proofL l k).length ≤ r := proofL_short l.length l k r (Nat.le_refl _) (by omega)
theorem verB_val {root : Bytes} {n i : Nat} {s : Bytes} {p : List Bytes} (hi : i < n) (hd : digB p = true) : verB root n i s p = (valR p.reverse n i s == some root) := by
  unfold verB
  rw [decide_eq_true (show (0 : Int) ≤ (i : Int) by omega), decide_eq_true (show (i : Int) < (n : Int) by omega), hd, Int.toNat_natCast, Int.toNat_natCast]
  rfl
theorem proofL_digB (l : List Bytes) (k : Nat) : digB (proofL l k) = true := digB_of (proofL_dig l.length l k (Nat.le_refl _))
theorem proofL_acc {l : List Bytes} {k : Nat} (h : k < l.length) : verB (rootL l) l.length k (l.getD k []) (proofL l k) = true := by
  rw [verB_val h (proofL_digB l k), valR_proof l.length l k (Nat.le_refl _) h]
  exact beq_self_eq_true _
theorem proofL_sm (l : List Bytes) (k : Nat) (h : l.length ≤ 1000) : Sm (proofL l k) := ⟨by have := proofL_bin (l := l) k 10 (by show _ < 1024; omega); omega, fun x hx => by have := proofL_dig l.length l k (Nat.le_refl _) x hx; omega⟩
end Go.Proofs.YthfenbdlolbikaaGreatDoor
