/- The reference's Content; rows of two. -/
import Derived.Test.YthfenbdlolbikaaGreatDoorGCom
import Derived.Test.YthfenbdlolbikaaGreatDoorDColl
set_option linter.unusedVariables false
set_option linter.unusedSimpArgs false
namespace Go.Proofs.YthfenbdlolbikaaGreatDoor
open Go.RowKit Go.Shelf

set_option maxHeartbeats 1000000 in
theorem content_any (o n : Int) (root : Bytes) (w : World) (h1 : EncZ o) (h2 : EncZ n) (hr : root.length ≤ 1000000) :
    Calls Tryz.prog 48 #[.int .i64 o, .int .i64 n, .string (bs root)] w fun e w' => e = .returned (.string (bs (contentB o n root))) ∧ Below w.heap.size w w' := by
  have HP1 : Hid (∀ W, Calls Tryz.prog 44 #[.int .i64 o] W fun e w' => e = .returned (.tuple #[.string (bs (enc (zz o))), .int .i64 0]) ∧ Below W.heap.size W w') := fun W => refPutInt_yes o W h1.1 h1.2
  have HP2 : Hid (∀ W, Calls Tryz.prog 44 #[.int .i64 n] W fun e w' => e = .returned (.tuple #[.string (bs (enc (zz n))), .int .i64 0]) ∧ Below W.heap.size W w') := fun W => refPutInt_yes n W h2.1 h2.2
  have hl1 := enc_length (zz o)
  have hl2 := enc_length (zz n)
  have HC : Hid (bs (enc (zz o)) ++ bs (enc (zz n)) ++ bs root = bs (contentB o n root)) := by
    show _ = _
    rw [cat_bs, cat_bs]
    unfold contentB
    rw [List.append_assoc]
  have s1 : (bs (enc (zz o))).size ≤ 10 := by rw [bs_size]; exact hl1
  have s2 : (bs (enc (zz n))).size ≤ 10 := by rw [bs_size]; exact hl2
  have s3 : (bs root).size ≤ 1000000 := by rw [bs_size]; exact hr
  generalize bs (enc (zz o)) = A at *
  generalize bs (enc (zz n)) = B at *
  generalize bs root = R at *
  have n1 : ¬ (9223372036854775807 < A.size + B.size) := by omega
  have n2 : ¬ (9223372036854775807 < A.size + B.size + R.size) := by omega
  clear hl1 hl2 s1 s2 s3
  go_enter Tryz.func48, Tryz.ntmps48
  go_wp2_with fail
  refine (HP1.out _).mono ?_
  rintro e w1 ⟨rfl, hb1⟩
  have HB1 := Lib.hid hb1
  clear hb1
  go_wp2_with fail
  refine (HP2.out _).mono ?_
  rintro e w2 ⟨rfl, hb2⟩
  have HB2 := Lib.hid (HB1.out.trans (hb2.mono HB1.out.size))
  clear hb2
  go_wp2
  go_ret
  exact ⟨by rw [← HC.out]; rfl, HB2.out⟩
def TwoN (g : Nat) (Z0 Z1 : ByteArray) (W : World) : Prop := W.heap[g]? = some (.cells #[.string Z0, .string Z1] 9 (0, 0))
theorem keep_two {W : World} {g : Nat} {Z0 Z1 : ByteArray} (h : TwoN g Z0 Z1 W) : ∀ W', Below W.heap.size W W' → TwoN g Z0 Z1 W' := fun _ hb => (hb.block g (Array.getElem?_eq_some_iff.1 h).1).trans h
/-- One of two. -/
def one2 {α : Type} (a b : α) (k : Nat) : α := if k = 0 then a else b
theorem TwoN.cell {W : World} {g : Nat} {Z0 Z1 : ByteArray} (h : TwoN g Z0 Z1 W) (k : Nat) (hk : k < 2) : W.cell? ⟨g, k, none⟩ = some (.string (one2 Z0 Z1 k)) := by
  rw [Lib.cell_of_heap (show W.heap[g]? = _ from h)]
  match k, hk with
  | 0, _ => rfl
  | 1, _ => rfl
theorem one2_map {α β : Type} (f : α → β) (a b : α) (k : Nat) : one2 (f a) (f b) k = f (one2 a b k) := by unfold one2; split <;> rfl
def TwoI (g : Nat) (a b : Int) (W : World) : Prop := W.heap[g]? = some (.cells #[.int .i64 a, .int .i64 b] 3 (0, 0))
theorem keep_twoI {W : World} {g : Nat} {a b : Int} (h : TwoI g a b W) : ∀ W', Below W.heap.size W W' → TwoI g a b W' := fun _ hb => (hb.block g (Array.getElem?_eq_some_iff.1 h).1).trans h
theorem TwoI.cell {W : World} {g : Nat} {a b : Int} (h : TwoI g a b W) (k : Nat) (hk : k < 2) : W.cell? ⟨g, k, none⟩ = some (.int .i64 (one2 a b k)) := by
  rw [Lib.cell_of_heap (show W.heap[g]? = _ from h)]
  match k, hk with
  | 0, _ => rfl
  | 1, _ => rfl
theorem two_new (W : World) (Z0 Z1 : ByteArray) : TwoN W.heap.size Z0 Z1 (W.alloc (.cells #[.string Z0, .string Z1] 9)) := heap_alloc_new W _
theorem twoI_new (W : World) (a b : Int) : TwoI W.heap.size a b (W.alloc (.cells #[.int .i64 a, .int .i64 b] 3)) := heap_alloc_new W _
theorem ownS_lit2 (W : World) (base : Nat) (y z : Bytes) (hb : base ≤ W.heap.size) : OwnS base (W.alloc (.cells #[.string (bs y), .string (bs z)] 9)) (.slice (some ⟨W.heap.size, 0, none⟩) 2 2) [y, z] :=
  World.ownsRow_lit W #[.string (bs y), .string (bs z)] 2 hb (by unfold maxLen; omega) rfl
/-- Fewer facts are kept. -/
theorem LiveP.sub {w0 W : World} {Ps Qs : List (World → Prop)} (h : LiveP w0 Ps W) (hs : ∀ Q ∈ Qs, Q ∈ Ps) : LiveP w0 Qs W := ⟨h.1, h.2.1, fun Q hQ => h.2.2 Q (hs Q hQ)⟩
end Go.Proofs.YthfenbdlolbikaaGreatDoor
