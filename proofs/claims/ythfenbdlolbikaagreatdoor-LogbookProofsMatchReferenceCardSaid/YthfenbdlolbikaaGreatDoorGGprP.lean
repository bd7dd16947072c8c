/- The books that are compared: plain; a row of three books. -/
import Derived.Test.YthfenbdlolbikaaGreatDoorGBent
import Derived.Test.YthfenbdlolbikaaGreatDoorGCut
import Derived.Test.YthfenbdlolbikaaGreatDoorGRefLog
set_option linter.unusedVariables false
set_option linter.unusedSimpArgs false
namespace Go.Proofs.YthfenbdlolbikaaGreatDoor
open Go.RowKit Go.Shelf

/-- The books that are compared are small. -/
def SmallB (b : LBook) : Prop := b.recs.length ≤ 60 ∧ ∀ x ∈ b.recs, x.text.length ≤ 1000
theorem small_made (o : Int) (N : Nat) (f : Nat → Nat → Int) : SmallB (madeBook o N f) := by
  refine ⟨by have := madeB_len o N f; omega, fun x hx => ?_⟩
  have h := book_recs (made_ok o N f) x hx
  unfold recB at h
  simp only [Bool.and_eq_true, decide_eq_true_eq] at h
  omega
theorem small_bent {b : LBook} (h : SmallB b) (how n at_ : Int) : SmallB (bentB b how n at_) := by
  have hr : (bentRecs b n).length ≤ 60 ∧ ∀ x ∈ bentRecs b n, x.text.length ≤ 1000 := by
    unfold bentRecs
    split
    · exact ⟨by simp, fun x hx => by rw [List.mem_singleton.1 hx]; simp⟩
    · exact h
  have hd : ((bentRecs b n).getD (bentAt b at_) default).text.length ≤ 1000 := by
    rw [List.getD_eq_getElem?_getD]
    cases he : (bentRecs b n)[bentAt b at_]? with
    | none => show ([] : List UInt8).length ≤ 1000; simp
    | some x => exact hr.2 x (List.mem_of_getElem? he)
  have hp := pickZ_bd n 100 (by omega)
  unfold bentB
  split
  · exact hr
  · split
    · refine ⟨by rw [List.length_set]; exact hr.1, fun x hx => ?_⟩
      rcases List.mem_or_eq_of_mem_set hx with hx | rfl
      · exact hr.2 x hx
      · generalize (pickZ how 6).toNat - 1 = f
        match f with
        | 0 => exact hd
        | 1 => exact hd
        | 2 => exact hd
        | _ + 3 => exact hd
    · refine ⟨by rw [List.length_set]; exact hr.1, fun x hx => ?_⟩
      rcases List.mem_or_eq_of_mem_set hx with hx | rfl
      · exact hr.2 x hx
      · show (List.replicate (150 + pickZ n 100).toNat (0 : UInt8)).length ≤ 1000
        rw [List.length_replicate]
        omega
theorem small_cut (b : LBook) : SmallB (cutB b) := by
  refine ⟨by show ((b.recs.take 3).map cutR).length ≤ 60; rw [List.length_map, List.length_take]; omega, fun x hx => ?_⟩
  obtain ⟨y, _, rfl⟩ := List.mem_map.1 (show x ∈ (b.recs.take 3).map cutR from hx)
  show (y.text.take 201).length ≤ 1000
  rw [List.length_take]
  omega
/-- A row of three books. -/
def ThreeB (g : Nat) (o0 : Int) (v0 : Value) (o1 : Int) (v1 : Value) (o2 : Int) (v2 : Value) (W : World) : Prop := W.heap[g]? = some (.cells #[.int .i64 o0, v0, .int .i64 o1, v1, .int .i64 o2, v2] 25 (0, 0))
theorem keep_threeB {W : World} {g : Nat} {o0 o1 o2 : Int} {v0 v1 v2 : Value} (h : ThreeB g o0 v0 o1 v1 o2 v2 W) : ∀ W', Below W.heap.size W W' → ThreeB g o0 v0 o1 v1 o2 v2 W' := fun _ hb => (hb.block g (Array.getElem?_eq_some_iff.1 h).1).trans h
theorem ThreeB.cell {W : World} {g : Nat} {o0 o1 o2 : Int} {v0 v1 v2 : Value} (h : ThreeB g o0 v0 o1 v1 o2 v2 W) (k : Nat) (hk : k < 3) : W.cell? ⟨g, k * 2, none⟩ = some (.int .i64 (one3 o0 o1 o2 k)) ∧ W.cell? ⟨g, k * 2 + 1, none⟩ = some (one3 v0 v1 v2 k) := by
  refine ⟨?_, ?_⟩ <;> (rw [Lib.cell_of_heap (show W.heap[g]? = _ from h)]; match k, hk with | 0, _ => rfl | 1, _ => rfl | 2, _ => rfl)
/-- What the steps of the first region leave. -/
def GmF (B : Nat) (O : Int) (v0 : Value) (b1 b2 : LBook) : Nat → Value → World → Prop := fun k v W =>
  if k = 5 then ∃ rv, v = bookV b1.office rv ∧ OwnG B W rv b1.recs
  else if k = 7 then ∃ rv, v = bookV b2.office rv ∧ OwnG B W rv b2.recs
  else ∃ g r1 r2, v = .slice (some ⟨g, 0, none⟩) 3 3 ∧ B ≤ g ∧ ThreeB g O v0 b1.office r1 b2.office r2 W ∧ OwnG B W r1 b1.recs ∧ OwnG B W r2 b2.recs
theorem gmF_kept {B k : Nat} {O : Int} {v0 : Value} {b1 b2 : LBook} {v : Value} {W W' : World} {cc : Option Nat} (h : GmF B O v0 b1 b2 k v W) (hg : W.grownBy W' cc) (hc : ∀ g, cc = some g → False) : GmF B O v0 b1 b2 k v W' := by
  have hcn : cc = none := by
    cases cc with
    | none => rfl
    | some g => exact absurd rfl (fun e => hc g e)
  subst hcn
  have hb := grown_below hg
  unfold GmF at h ⊢
  split at h
  · rename_i hk; rw [if_pos hk]
    obtain ⟨rv, h1, h2⟩ := h
    exact ⟨rv, h1, h2.below hb (Nat.le_refl _)⟩
  · rename_i hk; rw [if_neg hk]; split at h
    · rename_i hk; rw [if_pos hk]
      obtain ⟨rv, h1, h2⟩ := h
      exact ⟨rv, h1, h2.below hb (Nat.le_refl _)⟩
    · rename_i hk; rw [if_neg hk]
      obtain ⟨g, r1, r2, h1, h2, h3, h4, h5⟩ := h
      exact ⟨g, r1, r2, h1, h2, keep_threeB h3 _ hb, h4.below hb (Nat.le_refl _), h5.below hb (Nat.le_refl _)⟩
theorem recs3 {W : World} {x y z : Value} {lx ly lz : List LRec} (hx : RecsN x lx W) (hy : RecsN y ly W) (hz : RecsN z lz W) (k : Nat) : RecsN (one3 x y z k) (one3 lx ly lz k) W := by
  unfold one3
  split
  · exact hx
  · split
    · exact hy
    · exact hz
/-- The beginning of a string. -/
def bs_cut (s : ByteArray) (m : Nat) : Bytes := (s.extract 0 m).data.toList
/-- l[:k] -/
theorem run_headR (ra : Option Addr) (m rc k : Nat) (h : k ≤ rc) (W : World) : (Instr.sliceAt 23 (.slice ra m rc) none (some (.int .i64 (k : Int))) none).run Tryz.prog W = .ok (.slice ra k rc) W := by
  have h1 : (k : Int) ≤ (rc : Int) := by omega
  have h2 : (0 : Int) ≤ (k : Int) := by omega
  cases ra with
  | none => simp [go_sem, h1, h2]
  | some a =>
    obtain ⟨b, o, p⟩ := a
    cases p <;> simp [go_sem, h1, h2, Addr.add]
theorem proveE_sm (b : LBook) (i : Int) : (proveE b i).1.length ≤ 100 ∧ ∀ x ∈ (proveE b i).1, x.length ≤ 1000 := by
  unfold proveE
  split
  · rename_i h
    rw [Bool.and_eq_true] at h
    have hl : b.recs.length ≤ 60 := by have h := h.1; unfold bookB at h; simp only [Bool.and_eq_true, decide_eq_true_eq] at h; exact h.2
    have hc : (codesL b).length = b.recs.length := codesL_len b
    show (proofE (codesL b) i).1.length ≤ 100 ∧ ∀ x ∈ (proofE (codesL b) i).1, x.length ≤ 1000
    by_cases hi : 0 ≤ i ∧ i < ((codesL b).length : Int)
    · obtain ⟨k, rfl⟩ := Int.eq_ofNat_of_zero_le hi.1
      rw [proofE_in (by omega)]
      have h1 := proofL_bin (l := codesL b) k 6 (by show _ < 64; omega)
      exact ⟨by show (proofL (codesL b) k).length ≤ 100; omega, (proofL_sm (codesL b) k (by omega)).2⟩
    · rw [proofE_out hi]
      simp
  · simp
theorem grownE_sm (b : LBook) (i : Int) : (grownE b i).1.length ≤ 100 ∧ ∀ x ∈ (grownE b i).1, x.length ≤ 1000 := by
  unfold grownE
  split
  · rename_i h
    rw [Bool.and_eq_true] at h
    have hl : b.recs.length ≤ 60 := by have h := h.1; unfold bookB at h; simp only [Bool.and_eq_true, decide_eq_true_eq] at h; exact h.2
    have hc : (codesL b).length = b.recs.length := codesL_len b
    show (extE (codesL b) i).1.length ≤ 100 ∧ ∀ x ∈ (extE (codesL b) i).1, x.length ≤ 1000
    by_cases hi : 0 ≤ i ∧ i ≤ ((codesL b).length : Int)
    · obtain ⟨k, rfl⟩ := Int.eq_ofNat_of_zero_le hi.1
      refine ⟨?_, fun x hx => ?_⟩
      · have := extE_short (l := codesL b) (k := k) (by omega) 6 (by show _ < 64; omega)
        omega
      · unfold extE at hx
        rw [if_pos hi] at hx
        split at hx
        · simp at hx
        · have := partL_dig (codesL b).length (codesL b) k true (Nat.le_refl _) (by omega) (by omega) x hx
          omega
    · rw [extE_out hi]
      simp
  · simp
theorem headE_le (b : LBook) : (headE b).1.length ≤ 32 := by
  unfold headE
  split
  · exact rootL_le _
  · simp
theorem signE_le (k : Bytes) (b : LBook) : (signE k b).1.length ≤ 32 := by
  unfold signE
  split
  · show (tagB _ _ _ _).length ≤ 32
    unfold tagB
    rw [nodeB_length]
    exact Nat.le_refl _
  · simp
end Go.Proofs.YthfenbdlolbikaaGreatDoor
