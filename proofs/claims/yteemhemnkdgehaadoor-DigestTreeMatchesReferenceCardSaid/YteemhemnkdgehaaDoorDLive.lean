/- A world that goes on with lists of its own; the contracts of digest in its words. -/
import Derived.Test.YteemhemnkdgehaaDoorDLists
import Derived.Test.YteemhemnkdgehaaDoorDSidesF
import Derived.Test.YteemhemnkdgehaaDoorDHex
namespace Go.Proofs.YteemhemnkdgehaaDoor
open Go.RowKit Go.Shelf

/-- The world has gone on from w0; it has these lists. -/
def Live (w0 : World) (L : List (Value × List Bytes)) (W : World) : Prop := Below w0.heap.size w0 W ∧ Rounds W ∧ ∀ p ∈ L, OwnS 0 W p.1 p.2
theorem Live.start {w : World} (hT : Rounds w) : Live w [] w := ⟨Below.refl _ _, hT, fun _ h => by cases h⟩
theorem Live.step {w0 W W' : World} {L : List (Value × List Bytes)} (h : Live w0 L W) (hb : Below W.heap.size W W') : Live w0 L W' :=
  ⟨h.1.trans (hb.mono h.1.size), h.2.1.below hb (Nat.le_refl _), fun p hp => (h.2.2 p hp).below hb (Nat.le_refl _)⟩
theorem Live.add {w0 W : World} {L : List (Value × List Bytes)} {v : Value} {l : List Bytes} {b : Nat} (h : Live w0 L W) (ho : OwnS b W v l) : Live w0 ((v, l) :: L) W :=
  ⟨h.1, h.2.1, fun p hp => by
    rcases List.mem_cons.1 hp with rfl | hp
    · exact ho.mono (Nat.zero_le _)
    · exact h.2.2 p hp⟩
theorem Live.own {w0 W : World} {L : List (Value × List Bytes)} {v : Value} {l : List Bytes} (h : Live w0 L W) (hm : (v, l) ∈ L) : OwnS 0 W v l := h.2.2 _ hm
theorem Live.strs {w0 W : World} {L : List (Value × List Bytes)} {v : Value} {l : List Bytes} (h : Live w0 L W) (hm : (v, l) ∈ L) : StrsAt W.heap.size W v l := (h.own hm).strs
theorem Live.old {w0 W : World} {L : List (Value × List Bytes)} {v : Value} {l : List Bytes} (h : Live w0 L W) (hs : StrsAt w0.heap.size w0 v l) : StrsAt W.heap.size W v l := hs.later h.1 (Nat.le_refl _)
theorem Live.drewN {w0 W : World} {L : List (Value × List Bytes)} (h : Live w0 L W) (n : Nat) : Live w0 L (W.drewN n) := h.step (below_drewN0 (Below.refl _ _) n)
theorem Live.drew {w0 W : World} {L : List (Value × List Bytes)} (h : Live w0 L W) : Live w0 L W.drew := h.step (Below.refl _ _).drew
theorem Live.alloc {w0 W : World} {L : List (Value × List Bytes)} (h : Live w0 L W) (o : Obj) : Live w0 L (W.alloc o) := h.step ((Below.refl _ _).alloc (Nat.le_refl _) o)
/-- A list of moderate size. -/
def Sm (l : List Bytes) : Prop := l.length ≤ 100000 ∧ ∀ x ∈ l, x.length ≤ 1000
theorem fewL_sm (l : List Bytes) (n : Nat) (h : n ≤ 100000) : Sm (fewL l n) := ⟨by rw [fewL_len]; omega, fun x hx => by have := fewL_el l n x hx; omega⟩
theorem Sm.take {l : List Bytes} (h : Sm l) (k : Nat) : Sm (l.take k) := ⟨by rw [List.length_take]; have := h.1; omega, fun x hx => h.2 x (List.mem_of_mem_take hx)⟩
theorem Sm.drop {l : List Bytes} (h : Sm l) (k : Nat) : Sm (l.drop k) := ⟨by rw [List.length_drop]; have := h.1; omega, fun x hx => h.2 x (List.mem_of_mem_drop hx)⟩
section
variable {w0 W : World} {L : List (Value × List Bytes)}
theorem few_live {v : Value} {l : List Bytes} (h : Live w0 L W) (hs : StrsAt W.heap.size W v l) (n : Nat) (hn : n ≤ 100000) :
    Calls Tryd.prog 13 #[v, .int .i64 n] W fun e w' => ∃ rv, e = .returned rv ∧ Live w0 ((rv, fewL l n) :: L) w' :=
  (few_any v l n W hs hn).mono fun _ _ ⟨rv, h1, h2, h3⟩ => ⟨rv, h1, (h.step h3).add h2⟩
theorem root_live {v : Value} {l : List Bytes} (h : Live w0 L W) (hs : StrsAt W.heap.size W v l) (hl : Sm l) :
    Calls Tryd.prog 19 #[v] W fun e w' => e = .returned (.string (bs (rootL l))) ∧ Live w0 L w' :=
  (root_any v l W hs (by have := hl.1; omega) (fun x hx => by have := hl.2 x hx; omega) h.2.1).mono fun _ _ ⟨h1, h2⟩ => ⟨h1, h.step h2⟩
theorem proof_live {v : Value} {l : List Bytes} (h : Live w0 L W) (hs : StrsAt W.heap.size W v l) (hl : Sm l) (i : Int) :
    Calls Tryd.prog 14 #[v, .int .i64 i] W fun e w' => ∃ vp, e = .returned (.tuple #[vp, .int .i64 (proofE l i).2]) ∧ Live w0 ((vp, (proofE l i).1) :: L) w' :=
  (proof_any v l i W hs (by have := hl.1; omega) (fun x hx => by have := hl.2 x hx; omega) h.2.1).mono fun _ _ ⟨vp, h1, h2, h3⟩ => ⟨vp, h1, (h.step h3).add h2⟩
theorem ext_live {v : Value} {l : List Bytes} (h : Live w0 L W) (hs : StrsAt W.heap.size W v l) (hl : Sm l) (i : Int) :
    Calls Tryd.prog 16 #[v, .int .i64 i] W fun e w' => ∃ vp, e = .returned (.tuple #[vp, .int .i64 (extE l i).2]) ∧ Live w0 ((vp, (extE l i).1) :: L) w' :=
  (ext_any v l i W hs (by have := hl.1; omega) (fun x hx => by have := hl.2 x hx; omega) h.2.1).mono fun _ _ ⟨vp, h1, h2, h3⟩ => ⟨vp, h1, (h.step h3).add h2⟩
/-- A number of 64 bits. -/
def I64 (n : Int) : Prop := -9223372036854775808 ≤ n ∧ n ≤ 9223372036854775807
theorem verify_live {v : Value} {p : List Bytes} (h : Live w0 L W) (R S : ByteArray) (n i : Int) (hn : I64 n) (hi : I64 i) (hS : S.size ≤ 100000) (hs : StrsAt W.heap.size W v p) (hp : p.length ≤ 100000) :
    Calls Tryd.prog 21 #[.string R, .int .i64 n, .int .i64 i, .string S, v] W fun e w' => e = .returned (.bool (verB R.data.toList n i S.data.toList p)) ∧ Live w0 L w' :=
  (verify_any R.data.toList n i S.data.toList v p W hn hi (by rw [Array.length_toList]; show S.size ≤ _; omega) hs (by omega) h.2.1).mono fun _ _ ⟨h1, h2⟩ => ⟨h1, h.step h2⟩
theorem verExt_live {v : Value} {p : List Bytes} (h : Live w0 L W) (O R : ByteArray) (m n : Int) (hm : I64 m) (hn : I64 n) (hs : StrsAt W.heap.size W v p) (hp : p.length ≤ 100000) :
    Calls Tryd.prog 23 #[.string O, .int .i64 m, .string R, .int .i64 n, v] W fun e w' => e = .returned (.bool (verExtB O.data.toList m R.data.toList n p)) ∧ Live w0 L w' :=
  (verExt_any O.data.toList m R.data.toList n v p W hm hn hs (by omega) h.2.1).mono fun _ _ ⟨h1, h2⟩ => ⟨h1, h.step h2⟩
theorem sum_live (h : Live w0 L W) (S : ByteArray) (hS : S.size ≤ 1000000) :
    Calls Tryd.prog 30 #[.string S] W fun e w' => e = .returned (.string (bs (sha S.data.toList))) ∧ Live w0 L w' :=
  (sum_any S W (by omega) h.2.1).mono fun _ _ ⟨h1, h2⟩ => ⟨h1, h.step h2⟩
theorem leaf_live (h : Live w0 L W) (S : ByteArray) (hS : S.size ≤ 1000000) :
    Calls Tryd.prog 29 #[.string S] W fun e w' => e = .returned (.string (bs (leafB S.data.toList))) ∧ Live w0 L w' :=
  (leaf_any S W (by omega) h.2.1).mono fun _ _ ⟨h1, h2⟩ => ⟨h1, h.step h2⟩
theorem node_live (h : Live w0 L W) (S T : ByteArray) (hS : S.size ≤ 1000000) (hT : T.size ≤ 1000000) :
    Calls Tryd.prog 32 #[.string S, .string T] W fun e w' => e = .returned (.string (bs (nodeB S.data.toList T.data.toList))) ∧ Live w0 L w' :=
  (node_any S T W (by omega) (by omega) h.2.1).mono fun _ _ ⟨h1, h2⟩ => ⟨h1, h.step h2⟩
theorem chain_live (h : Live w0 L W) (S T : ByteArray) (hS : S.size ≤ 1000000) (hT : T.size ≤ 1000000) :
    Calls Tryd.prog 36 #[.string S, .string T] W fun e w' => e = .returned (.string (bs (chainB S.data.toList T.data.toList))) ∧ Live w0 L w' :=
  (chain_any S T W (by omega) (by omega) h.2.1).mono fun _ _ ⟨h1, h2⟩ => ⟨h1, h.step h2⟩
theorem hex_live (h : Live w0 L W) (l : Bytes) (hl : l.length ≤ 1000) :
    Calls Tryd.prog 39 #[.string (bs l)] W fun e w' => e = .returned (.string (bs (hexB l))) ∧ Live w0 L w' :=
  (hex_any l W hl).mono fun _ _ ⟨h1, h2⟩ => ⟨h1, h.step h2⟩
theorem same_live {va vb : Value} {la lb : List Bytes} (h : Live w0 L W) (ha : StrsAt W.heap.size W va la) (hb : StrsAt W.heap.size W vb lb) :
    Calls Tryd.prog 18 #[va, vb] W fun e w' => e = .returned (.bool (la == lb)) ∧ Live w0 L w' :=
  (same_any va vb la lb W ha hb).mono fun _ _ ⟨h1, h2⟩ => ⟨h1, h.step h2⟩
theorem collide_live {va vb : Value} {la lb : List Bytes} (h : Live w0 L W) (ha : StrsAt W.heap.size W va la) (hb : StrsAt W.heap.size W vb lb) (hla : ∀ x ∈ la, x.length ≤ 1000000) (hlb : ∀ x ∈ lb, x.length ≤ 1000000) :
    Calls Tryd.prog 27 #[va, vb] W fun e w' => e = .returned (.bool (collB la lb)) ∧ Live w0 L w' :=
  (collide_any va vb la lb W ha hb hla hlb h.2.1).mono fun _ _ ⟨h1, h2⟩ => ⟨h1, h.step h2⟩
theorem way_live {v : Value} {p : List Bytes} (h : Live w0 L W) (n i : Nat) (S : ByteArray) (hn : n ≤ 9223372036854775807) (hi : i ≤ 9223372036854775807) (hS : S.size ≤ 1000) (hs : StrsAt W.heap.size W v p) (hp : Sm p) :
    Calls Tryd.prog 26 #[.int .i64 n, .int .i64 i, .string S, v] W fun e w' => ∃ rv, e = .returned (.tuple #[rv, .string (bs (wayR p.reverse n i S.data.toList).2)]) ∧ Live w0 ((rv, (wayR p.reverse n i S.data.toList).1) :: L) w' :=
  (way_any p.reverse n i S.data.toList v W hn hi (by rw [Array.length_toList]; exact hS) (fun x hx => hp.2 x (List.mem_reverse.1 hx)) (by rw [List.length_reverse]; have := hp.1; omega) (by rw [List.reverse_reverse]; exact hs) h.2.1).mono fun _ _ ⟨rv, h1, h2, h3⟩ => ⟨rv, h1, (h.step h3).add h2⟩
theorem sides_live {v : Value} {p : List Bytes} (h : Live w0 L W) (O : ByteArray) (m n : Nat) (whole : Bool) (hm1 : 1 ≤ m) (hm : m ≤ 9223372036854775807) (hn : n ≤ 9223372036854775807) (hO : O.size ≤ 1000) (hs : StrsAt W.heap.size W v p) (hp : Sm p) :
    Calls Tryd.prog 28 #[.string O, .int .i64 m, .int .i64 n, v, .bool whole] W fun e w' => ∃ rv, e = .returned (.tuple #[rv, .string (bs (sidesR O.data.toList p.reverse m n whole).2)]) ∧ Live w0 ((rv, (sidesR O.data.toList p.reverse m n whole).1) :: L) w' :=
  (sides_any O.data.toList (by rw [Array.length_toList]; exact hO) p.reverse m n whole v W hm1 hm hn (fun x hx => hp.2 x (List.mem_reverse.1 hx)) (by rw [List.length_reverse]; have := hp.1; omega) (by rw [List.reverse_reverse]; exact hs) h.2.1).mono fun _ _ ⟨rv, h1, h2, h3⟩ => ⟨rv, h1, (h.step h3).add h2⟩
end
end Go.Proofs.YteemhemnkdgehaaDoor
