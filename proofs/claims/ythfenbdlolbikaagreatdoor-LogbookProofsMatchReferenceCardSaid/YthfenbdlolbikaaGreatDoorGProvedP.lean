/- LogbookProved: plain; rows of two records and of three lists. -/
import Derived.Test.YthfenbdlolbikaaGreatDoorDAcc
import Derived.Test.YthfenbdlolbikaaGreatDoorDHashed
import Derived.Test.YthfenbdlolbikaaGreatDoorGRefEnc
import Derived.Test.YthfenbdlolbikaaGreatDoorGRefWay
import Derived.Test.YthfenbdlolbikaaGreatDoorGOut
import Derived.Test.YthfenbdlolbikaaGreatDoorGContent
set_option linter.unusedVariables false
set_option linter.unusedSimpArgs false
namespace Go.Proofs.YthfenbdlolbikaaGreatDoor
open Go.RowKit Go.Shelf

theorem book_recs {b : LBook} (h : bookB b = true) : ∀ x ∈ b.recs, recB x = true := by
  unfold bookB at h
  rw [Bool.and_eq_true, Bool.and_eq_true] at h
  exact secsB_recs h.1.1
theorem codesL_get (b : LBook) (k : Nat) (h : k < b.recs.length) : (codesL b).getD k [] = encR (b.recs.getD k default) := by
  unfold codesL
  rw [List.getD_eq_getElem?_getD, List.getD_eq_getElem?_getD, List.getElem?_map, List.getElem?_eq_getElem h]
  rfl
theorem codesL_len (b : LBook) : (codesL b).length = b.recs.length := by simp [codesL]
theorem codesL_sm {b : LBook} (h : bookB b = true) : Sm (codesL b) := by
  have hr := book_recs h
  have hl : b.recs.length ≤ 60 := by unfold bookB at h; simp only [Bool.and_eq_true, decide_eq_true_eq] at h; exact h.2
  refine ⟨by rw [codesL_len]; omega, fun x hx => ?_⟩
  unfold codesL at hx
  obtain ⟨y, hy, rfl⟩ := List.mem_map.1 hx
  have := encR_length (hr y hy)
  omega
theorem prove_none (O i : Int) : (proveE ⟨O, []⟩ i).2 = 380 := by
  unfold proveE
  rw [show (proofE (codesL ⟨O, []⟩) i).2 = 2 from by rw [proofE_out (by simp [codesL])]]
  simp
theorem prove_in {b : LBook} (h : bookB b = true) {k : Nat} (hk : k < b.recs.length) : proveE b k = (proofL (codesL b) k, 0) := by
  unfold proveE
  rw [h, proofE_in (by rw [codesL_len]; exact hk)]
  rfl
theorem check_in {b : LBook} (h : bookB b = true) {k : Nat} (hk : k < b.recs.length) : checkB (rootL (codesL b)) (b.recs.length : Nat) k (b.recs.getD k default) (proofL (codesL b) k) = true := by
  unfold checkB
  have hr : recB (b.recs.getD k default) = true := book_recs h _ (by rw [List.getD_eq_getElem?_getD, List.getElem?_eq_getElem hk]; exact List.getElem_mem _)
  rw [hr, ← codesL_get b k hk, ← codesL_len b]
  exact proofL_acc (by rw [codesL_len]; exact hk)
/-- Another record that is accepted: a collision. -/
theorem proved_use {b : LBook} (h : bookB b = true) {k : Nat} (hk : k < b.recs.length) (r : LRec) (q : List Bytes) (hc : checkB (rootL (codesL b)) (b.recs.length : Nat) k r q = true) (hne : (r == b.recs.getD k default) = false) :
    encE r = (encR r, 0) ∧ (encR r).length ≤ 250 ∧ outB (hashedL (codesL b) ++ (wayF q.reverse b.recs.length k (encR r)).1) = true := by
  unfold checkB at hc
  rw [Bool.and_eq_true] at hc
  have hr : recB (b.recs.getD k default) = true := book_recs h _ (by rw [List.getD_eq_getElem?_getD, List.getElem?_eq_getElem hk]; exact List.getElem_mem _)
  refine ⟨by unfold encE; rw [hc.1]; rfl, encR_length hc.1, ?_⟩
  have hkc : k < (codesL b).length := by rw [codesL_len]; exact hk
  have hv := hc.2
  rw [← codesL_len b] at hv
  have hm := proved_plain hkc hv (fun e => by
    rw [codesL_get b k hk] at e
    have := encR_inj (recB_fits hc.1) (recB_fits hr) e
    rw [this] at hne
    simp at hne)
  rw [codesL_len] at hm
  refine meetB_out hm (fun x hx => List.mem_append_left _ hx) (fun x hx => List.mem_append_right _ ?_)
  unfold wayF
  exact List.mem_reverse.2 hx
theorem wayF_el (q : List Bytes) (n i : Nat) (s : Bytes) (hs : s.length ≤ 1000) (hq : ∀ x ∈ q, x.length ≤ 1000) : ∀ x ∈ (wayF q n i s).1, x.length ≤ 1000000 := fun x hx => by
  unfold wayF at hx
  exact wayR_el q n i s hs hq x (List.mem_reverse.1 hx)
/-- A row of two records. -/
def TwoR (g : Nat) (x y : LRec) (W : World) : Prop := W.heap[g]? = some (.cells #[.int .i64 x.sec, .int .i64 x.kind, .int .i64 x.a, .int .i64 x.b, .string (bs x.text), .int .i64 y.sec, .int .i64 y.kind, .int .i64 y.a, .int .i64 y.b, .string (bs y.text)] 48 (0, 0))
theorem keep_twoR {W : World} {g : Nat} {x y : LRec} (h : TwoR g x y W) : ∀ W', Below W.heap.size W W' → TwoR g x y W' := fun _ hb => (hb.block g (Array.getElem?_eq_some_iff.1 h).1).trans h
theorem TwoR.cell {W : World} {g : Nat} {x y : LRec} (h : TwoR g x y W) (k : Nat) (hk : k < 2) : W.cell? ⟨g, k * 5, none⟩ = some (.int .i64 (one2 x y k).sec) ∧ W.cell? ⟨g, k * 5 + 1, none⟩ = some (.int .i64 (one2 x y k).kind) ∧ W.cell? ⟨g, k * 5 + 2, none⟩ = some (.int .i64 (one2 x y k).a) ∧ W.cell? ⟨g, k * 5 + 3, none⟩ = some (.int .i64 (one2 x y k).b) ∧ W.cell? ⟨g, k * 5 + 4, none⟩ = some (.string (bs (one2 x y k).text)) := by
  refine ⟨?_, ?_, ?_, ?_, ?_⟩ <;> (rw [Lib.cell_of_heap (show W.heap[g]? = _ from h)]; match k, hk with | 0, _ => rfl | 1, _ => rfl)
/-- A row of three lists. -/
def ThreeV (g : Nat) (x y z : Value) (W : World) : Prop := W.heap[g]? = some (.cells #[x, y, z] 26 (0, 0))
theorem keep_three {W : World} {g : Nat} {x y z : Value} (h : ThreeV g x y z W) : ∀ W', Below W.heap.size W W' → ThreeV g x y z W' := fun _ hb => (hb.block g (Array.getElem?_eq_some_iff.1 h).1).trans h
def one3 {α : Type} (a b c : α) (k : Nat) : α := if k = 0 then a else if k = 1 then b else c
theorem ThreeV.cell {W : World} {g : Nat} {x y z : Value} (h : ThreeV g x y z W) (k : Nat) (hk : k < 3) : W.cell? ⟨g, k, none⟩ = some (one3 x y z k) := by
  rw [Lib.cell_of_heap (show W.heap[g]? = _ from h)]
  match k, hk with
  | 0, _ => rfl
  | 1, _ => rfl
  | 2, _ => rfl
theorem strs3 {W : World} {x y z : Value} {lx ly lz : List Bytes} (hx : StrsN x lx W) (hy : StrsN y ly W) (hz : StrsN z lz W) (k : Nat) : StrsN (one3 x y z k) (one3 lx ly lz k) W := by
  unfold one3
  split
  · exact hx
  · split
    · exact hy
    · exact hz
theorem three_new (W : World) (x y z : Value) : ThreeV W.heap.size x y z (W.alloc (.cells #[x, y, z] 26)) := heap_alloc_new W _
theorem OwnS.store {base : Nat} {W : World} {g n cap : Nat} {l : List Bytes} (h : OwnS base W (.slice (some ⟨g, 0, none⟩) n cap) l) (hn : n = l.length) (j : Nat) (x : Bytes) : OwnS base (W.setCell ⟨g, j, none⟩ (.string (bs x))) (.slice (some ⟨g, 0, none⟩) n cap) (l.set j x) := by
  subst hn
  have := (World.ownsRow.stored (show W.ownsRow base 9 1 _ _ _ from h) j (.string (bs x))).1
  unfold OwnS
  rw [List.length_set, List.map_set]
  exact this
end Go.Proofs.YthfenbdlolbikaaGreatDoor
