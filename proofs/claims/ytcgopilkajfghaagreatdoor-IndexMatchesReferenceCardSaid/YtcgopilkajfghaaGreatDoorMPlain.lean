import Derived.WalkKit
import Derived.RangeFuncNested
import Derived.RangeFuncBound
import Derived.RangeFuncCalls
import Derived.RangeFuncLeaves
import Derived.Shelf.Abstract
import Derived.OwnWalkIn
import Derived.Deep.QuietTactic
import Derived.Lib.Hide
set_option linter.unusedVariables false
set_option linter.unusedSimpArgs false

section
/- Unsigned words as UInt32: the operations of the model on them. No condition. -/
namespace Go.Proofs.YtcgopilkajfghaaGreatDoor
open Go.RowKit

/-- A word of 32 bits as the model's integer. -/
def w32 (x : UInt32) : Int := (x.toNat : Int)
theorem u32_nonneg (x : UInt32) : 0 ≤ w32 x := by unfold w32; omega
theorem u32_lt (x : UInt32) : w32 x < 4294967296 := by unfold w32; have := x.toNat_lt; omega
theorem u32_inj {x y : UInt32} : w32 x = w32 y ↔ x = y := by
  unfold w32
  constructor
  · intro h; exact UInt32.toNat_inj.1 (by omega)
  · rintro rfl; rfl
theorem u32_ofInt (x : UInt32) : BitVec.ofInt 32 (w32 x) = x.toBitVec := by
  unfold w32
  rw [BitVec.ofInt_natCast]
  exact BitVec.eq_of_toNat_eq (by rw [BitVec.toNat_ofNat, UInt32.toNat_toBitVec]; exact Nat.mod_eq_of_lt x.toNat_lt)
theorem u32_back (b : BitVec 32) : IntKind.u32.wrap (b.toNat : Int) = w32 ⟨b⟩ := by
  rw [IntKind.wrap_u32']
  unfold w32
  show _ = ((b.toNat : Nat) : Int)
  have := b.isLt
  omega
theorem u32_ofInt_lit (n : Nat) : BitVec.ofInt 32 (OfNat.ofNat n : Int) = (OfNat.ofNat n : UInt32).toBitVec := by
  show BitVec.ofInt 32 ((n : Nat) : Int) = _
  rw [BitVec.ofInt_natCast]
  rfl
theorem u32_xor (x y : UInt32) : bits .xor .u32 (w32 x) (w32 y) = w32 (x ^^^ y) := by
  show IntKind.u32.wrap ((BitVec.ofInt 32 (w32 x) ^^^ BitVec.ofInt 32 (w32 y)).toNat : Int) = _
  rw [u32_ofInt, u32_ofInt, u32_back]; rfl
theorem u32_and (x y : UInt32) : bits .and .u32 (w32 x) (w32 y) = w32 (x &&& y) := by
  show IntKind.u32.wrap ((BitVec.ofInt 32 (w32 x) &&& BitVec.ofInt 32 (w32 y)).toNat : Int) = _
  rw [u32_ofInt, u32_ofInt, u32_back]; rfl
theorem u32_or (x y : UInt32) : bits .or .u32 (w32 x) (w32 y) = w32 (x ||| y) := by
  show IntKind.u32.wrap ((BitVec.ofInt 32 (w32 x) ||| BitVec.ofInt 32 (w32 y)).toNat : Int) = _
  rw [u32_ofInt, u32_ofInt, u32_back]; rfl
theorem u32_and_lit (x : UInt32) (n : Nat) : bits .and .u32 (w32 x) (no_index (OfNat.ofNat n)) = w32 (x &&& OfNat.ofNat n) := by
  show IntKind.u32.wrap ((BitVec.ofInt 32 (w32 x) &&& BitVec.ofInt 32 (OfNat.ofNat n)).toNat : Int) = _
  rw [u32_ofInt, u32_ofInt_lit, u32_back]; rfl
theorem u32_xor_lit (x : UInt32) (n : Nat) : bits .xor .u32 (w32 x) (no_index (OfNat.ofNat n)) = w32 (x ^^^ OfNat.ofNat n) := by
  show IntKind.u32.wrap ((BitVec.ofInt 32 (w32 x) ^^^ BitVec.ofInt 32 (OfNat.ofNat n)).toNat : Int) = _
  rw [u32_ofInt, u32_ofInt_lit, u32_back]; rfl
theorem u32_not (x : UInt32) : bits .xor .u32 IntKind.u32.max (w32 x) = w32 (~~~x) := by
  show IntKind.u32.wrap ((BitVec.ofInt 32 4294967295 ^^^ BitVec.ofInt 32 (w32 x)).toNat : Int) = _
  rw [u32_ofInt, u32_back]
  rw [show BitVec.ofInt 32 4294967295 = BitVec.allOnes 32 from by decide, BitVec.allOnes_xor]
  rfl
theorem u32_add (x y : UInt32) : (w32 x + w32 y) % (4294967296 : Int) = w32 (x + y) := by
  unfold w32
  rw [UInt32.toNat_add]
  omega
theorem u32_shr (x : UInt32) (k : Nat) (hk : k < 32) : w32 x / ((2 ^ k : Nat) : Int) = w32 (x >>> UInt32.ofNat k) := by
  unfold w32
  rw [UInt32.toNat_shiftRight, UInt32.toNat_ofNat_of_lt' (by show k < 4294967296; omega), Nat.mod_eq_of_lt hk, Nat.shiftRight_eq_div_pow]
  exact (Int.natCast_ediv _ _).symm
theorem u32_shr4 (x : UInt32) : w32 x / (16 : Int) = w32 (x >>> 4) := u32_shr x 4 (by omega)
theorem u32_of_u8 (b : UInt8) : (b.toNat : Int) % (4294967296 : Int) = w32 b.toUInt32 := by
  unfold w32
  rw [UInt8.toNat_toUInt32]
  have := b.toNat_lt
  omega
theorem u32_wrap64 (x : UInt32) : wrap64 (w32 x) = w32 x := IntWalk.wrap64_in _ ⟨by have := u32_nonneg x; omega, by have := u32_lt x; omega⟩
theorem u32_and15_lt (x : UInt32) : (w32 (x &&& 15) < 16) = True := by
  apply eq_true
  unfold w32
  rw [UInt32.toNat_and]
  have : x.toNat &&& 15 ≤ 15 := Nat.and_le_right
  show ((x.toNat &&& 15 : Nat) : Int) < 16
  omega
theorem u32_nonneg' (x : UInt32) : (0 ≤ w32 x) = True := eq_true (u32_nonneg x)
theorem u32_signed : IntKind.u32.signed = false := rfl
end Go.Proofs.YtcgopilkajfghaaGreatDoor
end

section
/- A range over a function whose iterator keeps a variable of its own in a box (a captured variable that it writes): the law for a loop body that never leaves. At the wide fence. -/
namespace Go.Proofs.YtcgopilkajfghaaGreatDoor
open Go.RowKit Go.Shelf

/-- The contract of an iterator with a box Bz of its own: all of xs comes, in order, if each round keeps the box; what the rounds build up, J, bears the iterator's stores into the box. -/
def SeqBox {α : Type} (P : Program) (g : Nat) (lb : Array Value) (encs : α → Array Value) (Bz : Nat) (xs : List α) (w0 : World) : Prop :=
  ∀ (n l : Nat) (J : List α → World → Prop) (W : World), Below w0.heap.size w0 W →
    (∀ pre W v, J pre W → J pre (W.setCell ⟨Bz, 0, none⟩ v)) →
    (∀ pre x rest W1, xs = pre ++ x :: rest → J pre W1 → YieldAt Fence.wide n P l (encs x) W1 fun e W' => e = .returned (.bool true) ∧ J (pre ++ [x]) W' ∧ W'.heap[Bz]? = W1.heap[Bz]?) →
    J [] W → CallsIn Fence.wide (n + 1) P g (#[.func (.yield l) #[] #[]] ++ lb) W fun e W' => (∃ v, e = .returned v) ∧ J xs W'

/-- The loop's record, and the block for deferred calls. -/
def Recorded (W : World) (B : Nat) (L : Loop) : Prop := W.heap[B + 1]? = some (.loop L) ∧ W.heap[B]? = some (.deferred (some []))

theorem Recorded.set {W : World} {B Bz : Nat} {L : Loop} {v : Value} (h : Recorded W B L) (hz : Bz < B) : Recorded (W.setCell ⟨Bz, 0, none⟩ v) B L :=
  ⟨(Below.heap_setCell _ _ _ _ (by show B + 1 ≠ Bz; omega)).trans h.1, (Below.heap_setCell _ _ _ _ (by show B ≠ Bz; omega)).trans h.2⟩

/-- What a round must come to. -/
def RoundEnd {α : Type} (B Bz : Nat) (I : List α → World → Prop) (xs : List α) (W : World) (e : Exit) (_ : Act) (W' : World) : Prop :=
  e = .normal ∧ KeepsFrom B W W' ∧ W'.heap[Bz]? = W.heap[Bz]? ∧ I xs W'
/-- What is owed behind the assignment to the loop's variables: the body's walk, in whatever world. -/
def RoundOk {α : Type} (P : Program) (n B Bz : Nat) (I : List α → World → Prop) (pre : List α) (x : α) (body : Code) (l : Nat) (W : World) (a₁ : Act) (W₁ : World) : Prop :=
  W₁ = W ∧ ∀ W₂, I pre W₂ → body.wpIn (Fence.wide.inRound l) n P (RoundEnd B Bz I (pre ++ [x]) W₂) a₁ W₂

theorem wpIn_range_box {α : Type} {P : Program} {n : Nat} {g : Operand} {ps : Array Tmp} {assign body : Code} {Q : Exit → Act → World → Prop} {a : Act} {w : World}
    {gf : Nat} {lb : Array Value} (hg : a.eval g = .func (.func gf) #[] lb) (eg : Enters P gf) {encs : α → Array Value} {Bz : Nat} {xs : List α} (hseq : SeqBox P gf lb encs Bz xs w) (hz : Bz < w.heap.size)
    (hps : ∀ x, (encs x).size = ps.size) (I : List α → World → Prop) (hI : OwnFrom w.heap.size I) (hIs : ∀ pre W v, I pre W → I pre (W.setCell ⟨Bz, 0, none⟩ v)) (h0 : I [] w)
    (hround : ∀ (l : Nat) (pre : List α) (x : α) (rest : List α) (W : World), xs = pre ++ x :: rest →
      assign.wpIn (Fence.wide.inRound l) n P (Exit.then (RoundOk P n w.heap.size Bz I pre x body l W) (fun _ _ _ => False))
        { tmps := (ps.zip (encs x)).foldl (fun t (p, v) => t.setIfInBounds p v) a.tmps, defers := [] } W)
    (hdone : ∀ (D : Nat) (W : World), w.heap.size ≤ D → I xs W → W.heap[D]? = some (.deferred (some [])) → Q .normal { a with defers := { target := .collected D, args := #[] } :: a.defers } W) :
    (Code.rangeFunc g ps assign body).wpIn Fence.wide (n + 2) P Q a w := by
  refine wpIn_rangeFunc fun fn hfn => ?_
  obtain ⟨L, hL⟩ : ∃ L : Loop, L = { state := .ready, pending := none, fn, tmps := a.tmps, params := ps, assign, body, defers := w.heap.size } := ⟨_, rfl⟩
  have hr0 : Recorded ((w.alloc (.deferred (some []))).alloc (.loop L)) w.heap.size L := by
    refine ⟨?_, (Below.heap_alloc _ _ _ (by simp)).trans (World.alloc_heap_new w _)⟩
    have := World.alloc_heap_new (w.alloc (.deferred (some []))) (.loop L)
    rwa [World.size_alloc] at this
  refine ⟨w.heap.size + 1, [{ target := .collected w.heap.size, args := #[] }], (w.alloc (.deferred (some []))).alloc (.loop L), { target := .fn (.func gf) lb, args := #[.func (.yield (w.heap.size + 1)) #[] #[]] },
    (w.alloc (.deferred (some []))).alloc (.loop L), gf, #[.func (.yield (w.heap.size + 1)) #[] #[]] ++ lb, (w.alloc (.deferred (some []))).alloc (.loop L), ?_, ?_, fun _ _ => trivial, ?_, fun _ => by omega, ?_⟩
  · rw [hL]; exact run_enterLoop_outer _ _ _ _ _
  · simp only [resolve, hg]
    simp [go_sem]
  · have := eg
    unfold Enters at this
    simp [invoke, go_sem, this]
  · refine (hseq n (w.heap.size + 1) (fun pre W => I pre W ∧ Recorded W w.heap.size L) _ (((Below.refl _ w).alloc (Nat.le_refl _) _).alloc (by simp) _)
      (fun pre W v h => ⟨hIs _ _ _ h.1, h.2.set hz⟩) ?_ ⟨hI.alloc _ (hI.alloc _ h0), hr0⟩).mono ?_
    · rintro pre x rest W hx ⟨hi, hl, hd⟩
      have hy := run_yield (P := P) (args := encs x) hl (by rw [hL]; exact hps x)
      refine ⟨_, _, _, _, hy, roundIn_of_wpIn (by rw [hL]; exact hfn) ?_⟩
      rw [hL]
      refine wpIn_mono (hround _ pre x rest W hx) fun e a1 W1 h1 => ?_
      cases e with
      | normal =>
        obtain ⟨rfl, h1⟩ := h1
        refine ⟨_, run_beginRound hl (by rw [hL]), ?_⟩
        refine wpIn_mono (h1 _ (hI.putObj _ hi (by omega) hl rfl)) ?_
        rintro e a3 W3 ⟨rfl, hk, hb, hi3⟩
        have hlt : w.heap.size + 1 < W1.heap.size := (Array.getElem?_eq_some_iff.1 hl).1
        have hl3 := hk.same _ _ (by omega) (World.putObj_heap_same hlt) rfl
        have hd3 := hk.same _ _ (Nat.le_refl _) ((World.putObj_heap_other (by omega)).trans hd) rfl
        have hlt3 : w.heap.size + 1 < W3.heap.size := (Array.getElem?_eq_some_iff.1 hl3).1
        refine ⟨_, _, run_endRound none hl3, rfl, ⟨hI.putObj _ hi3 (by omega) hl3 rfl, ?_, (World.putObj_heap_other (by omega)).trans hd3⟩, ?_⟩
        · refine (World.putObj_heap_same hlt3).trans ?_
          rw [hL]; rfl
        · rw [World.putObj_heap_other (by omega), hb, World.putObj_heap_other (by omega)]
      | exit id => exact h1.elim
      | goto t => exact h1.elim
      | ret => exact h1.elim
      | panic c => exact h1.elim
      | outgrown => exact h1.elim
    · rintro e W2 ⟨⟨v, rfl⟩, hi, hl, hd⟩
      have he := run_endLoop (P := P) hl (by rw [hL]; simp)
      rw [show L.pending = none by rw [hL]] at he
      exact ⟨none, _, he, hdone _ _ (Nat.le_refl _) (hI.putObj _ hi (by omega) hl rfl) ((World.putObj_heap_other (by omega)).trans hd)⟩
end Go.Proofs.YtcgopilkajfghaaGreatDoor
end

section
/- The encoding of integers, without the program -/
namespace Go.Proofs.YtcgopilkajfghaaGreatDoor

/-- The groups of seven bits of a number, the least significant one first; whether a group is the last one. -/
def grp : Nat → Nat → List (Nat × Bool)
  | 0, _ => []
  | k + 1, z => if z < 128 then [(z, true)] else (z % 128, false) :: grp k (z / 128)
def byteOf (x : Nat × Bool) : UInt8 := UInt8.ofNat (if x.2 then x.1 else x.1 + 128)
/-- The encoding of a natural number. -/
def enc (z : Nat) : List UInt8 := (grp 10 z).map byteOf
/-- Zigzag. -/
def zz (n : Int) : Nat := if n < 0 then (-n * 2 - 1).toNat else (n * 2).toNat

theorem grp_lt : ∀ (k z : Nat) (x : Nat × Bool), x ∈ grp k z → x.1 < 128
  | 0, _, x, h => by simp [grp] at h
  | k + 1, z, x, h => by
    unfold grp at h
    split at h
    · simp at h; subst h; assumption
    · rcases List.mem_cons.1 h with rfl | h
      · exact Nat.mod_lt _ (by omega)
      · exact grp_lt k _ x h
theorem grp_length : ∀ (k z : Nat), (grp k z).length ≤ k
  | 0, _ => by simp [grp]
  | k + 1, z => by
    unfold grp
    split
    · simp
    · simp; exact grp_length k _
theorem grp_last (k y : Nat) (h : y < 128) : grp (k + 1) y = [(y, true)] := by simp [grp, h]
theorem grp_more (k y : Nat) (h : ¬ y < 128) : grp (k + 1) y = (y % 128, false) :: grp k (y / 128) := by simp [grp, h]
theorem enc_length (z : Nat) : (enc z).length ≤ 10 := by unfold enc; rw [List.length_map]; exact grp_length 10 z

/-- Decoding: the groups from number i on, z having been read; the number and how many bytes there are. -/
def decGo : Nat → Nat → Nat → List UInt8 → Option (Nat × Nat)
  | 0, _, _, _ => none
  | _ + 1, _, _, [] => none
  | k + 1, i, z, b :: t =>
    if 128 ≤ b.toNat then decGo k (i + 1) (z + b.toNat % 128 * 128 ^ i) t
    else if b.toNat = 0 ∧ 0 < i then none else some (z + b.toNat % 128 * 128 ^ i, i + 1)
/-- Zigzag undone. -/
def unz (z : Nat) : Int := if z % 2 = 0 then (z / 2 : Nat) else -(z / 2 : Nat) - 1
/-- The integer that a string begins with, and the length of its encoding. -/
def dec (l : List UInt8) : Option (Int × Nat) :=
  match decGo 9 0 0 l with
  | some (z, c) => if unz z < -4611686018427387903 then none else some (unz z, c)
  | none => none
end Go.Proofs.YtcgopilkajfghaaGreatDoor
end

section
/- Small lemmas on strings, results and quiet calls. -/
namespace Go.Proofs.YtcgopilkajfghaaGreatDoor
open Go.RowKit

theorem size_lit (l : List UInt8) : (⟨l.toArray⟩ : ByteArray).size = l.length := by simp [ByteArray.size]
theorem blist (s : ByteArray) : s.data.toList.length = s.size := by rw [Array.length_toList]; rfl
theorem toList_append (s t : ByteArray) : (s ++ t).data.toList = s.data.toList ++ t.data.toList := by
  rw [ByteArray.data_append, Array.toList_append]
/-- The length to which a string is cut. -/
theorem cut_at (s : ByteArray) (N : Int) (hN : 0 ≤ N) : ∃ m : Nat, (if N < (s.size : Int) then N else (s.size : Int)) = (m : Int) ∧ m ≤ s.size ∧ (m : Int) ≤ N := by
  refine ⟨min N.toNat s.size, ?_, by omega, by omega⟩
  split <;> omega
theorem quiet_same {P : Program} {f : FuncId} {args : Array Value} {w : World} {n : Nat} {v : Value}
    (h : Calls P f args (w.drewN n) fun e w' => e = .returned v ∧ w.drewN n = w') : Calls P f args (w.drewN n) fun e w'' => e = .returned v ∧ ∃ m, w'' = w.drewN m :=
  h.mono fun _ _ ⟨he, hm⟩ => ⟨he, n, hm.symm⟩
theorem ret_bool {x y : Bool} (h : x = y) : Ending.returned (.bool x) = .returned (.bool y) := by rw [h]
theorem list_getD (s : ByteArray) (k : Nat) (h : k < s.size) : s.data.toList.getD k 0 = s[k] := by
  rw [List.getD_eq_getElem?_getD, List.getElem?_eq_getElem (by rw [blist]; exact h)]
  rfl
end Go.Proofs.YtcgopilkajfghaaGreatDoor
end

section
/- Plain: pick. -/
namespace Go.Proofs.YtcgopilkajfghaaGreatDoor

/-- pick. -/
def pickZ (c n : Int) : Int := (if c < 0 then -(c + 1) else c).tmod n
theorem pickZ_bd (c n : Int) (hn : 1 ≤ n) : 0 ≤ pickZ c n ∧ pickZ c n < n := by
  unfold pickZ
  have h : 0 ≤ (if c < 0 then -(c + 1) else c) := by split <;> omega
  rw [Int.tmod_eq_emod_of_nonneg h]
  exact ⟨Int.emod_nonneg _ (by omega), Int.emod_lt_of_pos _ (by omega)⟩
theorem pickZ_id {z n : Int} (h0 : 0 ≤ z) (h1 : z < n) : pickZ z n = z := by
  unfold pickZ
  rw [if_neg (by omega), Int.tmod_eq_emod_of_nonneg h0]
  exact Int.emod_eq_of_lt h0 h1
end Go.Proofs.YtcgopilkajfghaaGreatDoor
end

section
/- The digest as a function on bytes, without the program. -/
namespace Go.Proofs.YtcgopilkajfghaaGreatDoor

abbrev Bytes := List UInt8
def kTab : List UInt32 := [
  0x428a2f98, 0x71374491, 0xb5c0fbcf, 0xe9b5dba5, 0x3956c25b, 0x59f111f1, 0x923f82a4, 0xab1c5ed5,
  0xd807aa98, 0x12835b01, 0x243185be, 0x550c7dc3, 0x72be5d74, 0x80deb1fe, 0x9bdc06a7, 0xc19bf174,
  0xe49b69c1, 0xefbe4786, 0x0fc19dc6, 0x240ca1cc, 0x2de92c6f, 0x4a7484aa, 0x5cb0a9dc, 0x76f988da,
  0x983e5152, 0xa831c66d, 0xb00327c8, 0xbf597fc7, 0xc6e00bf3, 0xd5a79147, 0x06ca6351, 0x14292967,
  0x27b70a85, 0x2e1b2138, 0x4d2c6dfc, 0x53380d13, 0x650a7354, 0x766a0abb, 0x81c2c92e, 0x92722c85,
  0xa2bfe8a1, 0xa81a664b, 0xc24b8b70, 0xc76c51a3, 0xd192e819, 0xd6990624, 0xf40e3585, 0x106aa070,
  0x19a4c116, 0x1e376c08, 0x2748774c, 0x34b0bcb5, 0x391c0cb3, 0x4ed8aa4a, 0x5b9cca4f, 0x682e6ff3,
  0x748f82ee, 0x78a5636f, 0x84c87814, 0x8cc70208, 0x90befffa, 0xa4506ceb, 0xbef9a3f7, 0xc67178f2]
/-- A word turned right. -/
def rotr (x : UInt32) (n : Nat) : UInt32 := (x >>> UInt32.ofNat n) ||| (x <<< UInt32.ofNat (32 - n))
def mix (x : UInt32) (l : List Nat) : UInt32 := l.foldl (fun o n => o ^^^ rotr x n) 0
/-- Eight words. -/
structure H8 where
  a : UInt32
  b : UInt32
  c : UInt32
  d : UInt32
  e : UInt32
  f : UInt32
  g : UInt32
  h : UInt32
deriving DecidableEq, Inhabited
def H8.list (s : H8) : List UInt32 := [s.a, s.b, s.c, s.d, s.e, s.f, s.g, s.h]
def word (b : Bytes) (i : Nat) : UInt32 := (b.getD (4 * i) 0).toUInt32 <<< 24 ||| (b.getD (4 * i + 1) 0).toUInt32 <<< 16 ||| (b.getD (4 * i + 2) 0).toUInt32 <<< 8 ||| (b.getD (4 * i + 3) 0).toUInt32
def sig0 (x : UInt32) : UInt32 := mix x [7, 18] ^^^ x >>> 3
def sig1 (x : UInt32) : UInt32 := mix x [17, 19] ^^^ x >>> 10
def schedNext (w : List UInt32) (i : Nat) : UInt32 := w.getD (i - 16) 0 + sig0 (w.getD (i - 15) 0) + w.getD (i - 7) 0 + sig1 (w.getD (i - 2) 0)
def schedTo (b : Bytes) : Nat → List UInt32
  | 0 => []
  | i + 1 => let w := schedTo b i; w ++ [if i < 16 then word b i else schedNext w i]
def tU (s : H8) (k w : UInt32) : UInt32 := s.h + mix s.e [6, 11, 25] + ((s.e &&& s.f) ^^^ (~~~s.e &&& s.g)) + k + w
def uU (s : H8) : UInt32 := mix s.a [2, 13, 22] + ((s.a &&& s.b) ^^^ (s.a &&& s.c) ^^^ (s.b &&& s.c))
def rnd (s : H8) (kw : UInt32 × UInt32) : H8 := let t := tU s kw.1 kw.2; ⟨t + uU s, s.a, s.b, s.c, s.d + t, s.e, s.f, s.g⟩
def plusH (s t : H8) : H8 := ⟨s.a + t.a, s.b + t.b, s.c + t.c, s.d + t.d, s.e + t.e, s.f + t.f, s.g + t.g, s.h + t.h⟩
/-- The words of a computation, after so many rounds. -/
def rnds (s : H8) (w : List UInt32) : Nat → H8
  | 0 => s
  | i + 1 => rnd (rnds s w i) (kTab.getD i 0, w.getD i 0)
def blockH (s : H8) (b : Bytes) : H8 := plusH s (rnds s (schedTo b 64) 64)
def shaH0 : H8 := ⟨0x6a09e667, 0xbb67ae85, 0x3c6ef372, 0xa54ff53a, 0x510e527f, 0x9b05688c, 0x1f83d9ab, 0x5be0cd19⟩
def padZ (n : Nat) : Nat := (119 - n % 64) % 64
def lenByte (n i : Nat) : UInt8 := UInt8.ofNat (8 * n / 2 ^ (8 * i))
def pad (l : Bytes) : Bytes := l ++ [128] ++ List.replicate (padZ l.length) 0 ++ (List.range 8).map fun i => lenByte l.length (7 - i)
def blocksH : Nat → H8 → Bytes → H8
  | 0, s, _ => s
  | n + 1, s, b => blocksH n (blockH s (b.take 64)) (b.drop 64)
def bytes4 (x : UInt32) : Bytes := [(x >>> 24).toUInt8, (x >>> 16).toUInt8, (x >>> 8).toUInt8, x.toUInt8]
def outH (s : H8) : Bytes := bytes4 s.a ++ bytes4 s.b ++ bytes4 s.c ++ bytes4 s.d ++ bytes4 s.e ++ bytes4 s.f ++ bytes4 s.g ++ bytes4 s.h
/-- The digest of a string. -/
def sha (l : Bytes) : Bytes := outH (blocksH ((pad l).length / 64) shaH0 (pad l))

theorem outH_length (s : H8) : (outH s).length = 32 := rfl
theorem sha_length (l : Bytes) : (sha l).length = 32 := rfl
theorem schedTo_length (b : Bytes) : ∀ i, (schedTo b i).length = i
  | 0 => rfl
  | i + 1 => by simp only [schedTo, List.length_append, schedTo_length b i]; rfl
theorem schedTo_get (b : Bytes) (i j : Nat) (h : j < i) : (schedTo b i).getD j 0 = (schedTo b (j + 1)).getD j 0 := by
  induction i with
  | zero => omega
  | succ i ih =>
    by_cases e : j = i
    · subst e; rfl
    · rw [← ih (by omega)]
      simp only [schedTo]
      rw [List.getD_eq_getElem?_getD, List.getElem?_append_left (by rw [schedTo_length]; omega), ← List.getD_eq_getElem?_getD]
theorem pad_length (l : Bytes) : (pad l).length = 64 * ((l.length + 72) / 64) := by
  simp only [pad, padZ, List.length_append, List.length_replicate, List.length_map, List.length_range, List.length_cons, List.length_nil]
  omega
theorem padZ_lt (n : Nat) : padZ n < 64 := Nat.mod_lt _ (by decide)
/-- Where the zeros end. -/
theorem padZ_end (n z : Nat) (hz : z ≤ padZ n) : (n + 1 + z) % 64 = 56 ↔ z = padZ n := by
  unfold padZ at *
  omega
theorem blocksH_succ : ∀ (n : Nat) (s : H8) (b : Bytes), blocksH (n + 1) s b = blockH (blocksH n s b) ((b.drop (64 * n)).take 64)
  | 0, s, b => by rw [Nat.mul_zero, List.drop_zero]; rfl
  | n + 1, s, b => by
    have h := blocksH_succ n (blockH s (b.take 64)) (b.drop 64)
    rw [List.drop_drop, show 64 + 64 * n = 64 * (n + 1) from by omega] at h
    exact h
/-- The digests of trees and chains. -/
def leafB (l : Bytes) : Bytes := sha (0 :: l)
def nodeB (a b : Bytes) : Bytes := sha (1 :: (a ++ b))
def chainB (a b : Bytes) : Bytes := sha (2 :: (a ++ b))
theorem sha_empty : sha [] = [0xe3,0xb0,0xc4,0x42,0x98,0xfc,0x1c,0x14,0x9a,0xfb,0xf4,0xc8,0x99,0x6f,0xb9,0x24,0x27,0xae,0x41,0xe4,0x64,0x9b,0x93,0x4c,0xa4,0x95,0x99,0x1b,0x78,0x52,0xb8,0x55] := by decide +kernel
attribute [irreducible] sha
end Go.Proofs.YtcgopilkajfghaaGreatDoor
end

section
/- Trees of digests, without the program. -/
namespace Go.Proofs.YtcgopilkajfghaaGreatDoor

theorem leafB_length (l : Bytes) : (leafB l).length = 32 := sha_length _
theorem nodeB_length (a b : Bytes) : (nodeB a b).length = 32 := sha_length _
theorem chainB_length (a b : Bytes) : (chainB a b).length = 32 := sha_length _
/-- The greatest power of two below a number. -/
def leftN (n : Nat) : Nat := 2 ^ Nat.log2 (n - 1)
theorem leftN_bd {n : Nat} (h : 2 ≤ n) : 0 < leftN n ∧ leftN n < n ∧ n ≤ 2 * leftN n := by
  have h1 := Nat.log2_self_le (n := n - 1) (by omega)
  have h2 := Nat.lt_log2_self (n := n - 1)
  unfold leftN
  rw [Nat.pow_succ] at h2
  have h3 : 0 < 2 ^ Nat.log2 (n - 1) := Nat.pow_pos (by decide)
  omega
theorem leftN_of {n e : Nat} (h1 : 2 ^ e < n) (h2 : n ≤ 2 ^ (e + 1)) : leftN n = 2 ^ e := by
  have h0 : 0 < 2 ^ e := Nat.pow_pos (by decide)
  unfold leftN
  congr 1
  exact (Nat.log2_eq_iff (by omega)).2 ⟨by omega, by omega⟩
def rootF : Nat → List Bytes → Bytes
  | 0, _ => sha []
  | k + 1, l => if l.length = 0 then sha [] else if l.length = 1 then leafB (l.getD 0 []) else nodeB (rootF k (l.take (leftN l.length))) (rootF k (l.drop (leftN l.length)))
/-- The root of a list. -/
def rootL (l : List Bytes) : Bytes := rootF l.length l
theorem rootF_eq : ∀ (k : Nat) (l : List Bytes), l.length ≤ k → ∀ j, l.length ≤ j → rootF k l = rootF j l
  | 0, l, h, 0, _ => rfl
  | 0, l, h, j + 1, _ => by unfold rootF; rw [if_pos (by omega)]
  | k + 1, l, h, 0, hj => by unfold rootF; rw [if_pos (by omega)]
  | k + 1, l, h, j + 1, hj => by
    unfold rootF
    by_cases h0 : l.length = 0
    · rw [if_pos h0, if_pos h0]
    · rw [if_neg h0, if_neg h0]
      by_cases h1 : l.length = 1
      · rw [if_pos h1, if_pos h1]
      · rw [if_neg h1, if_neg h1]
        have hb := leftN_bd (n := l.length) (by omega)
        rw [rootF_eq k (l.take (leftN l.length)) (by rw [List.length_take]; omega) j (by rw [List.length_take]; omega), rootF_eq k (l.drop (leftN l.length)) (by rw [List.length_drop]; omega) j (by rw [List.length_drop]; omega)]
theorem rootL_nil : rootL [] = sha [] := rfl
theorem rootL_one (x : Bytes) : rootL [x] = leafB x := by
  show rootF 1 [x] = _
  unfold rootF
  rw [if_neg (by simp), if_pos (by simp)]
  rfl
theorem rootL_split {l : List Bytes} (h : 2 ≤ l.length) : rootL l = nodeB (rootL (l.take (leftN l.length))) (rootL (l.drop (leftN l.length))) := by
  have hb := leftN_bd h
  have h1 : rootL l = rootF (l.length - 1 + 1) l := rootF_eq _ _ (Nat.le_refl _) _ (by omega)
  rw [h1]
  unfold rootF
  rw [if_neg (by omega), if_neg (by omega)]
  unfold rootL
  rw [rootF_eq (l.length - 1) (l.take (leftN l.length)) (by rw [List.length_take]; omega) _ (Nat.le_refl _), rootF_eq (l.length - 1) (l.drop (leftN l.length)) (by rw [List.length_drop]; omega) _ (Nat.le_refl _)]
theorem rootL_length (l : List Bytes) : (rootL l).length = 32 := by
  unfold rootL
  cases l.length with
  | zero => exact sha_length _
  | succ k =>
    unfold rootF
    split
    · exact sha_length _
    · split
      · exact leafB_length _
      · exact nodeB_length _ _
/-- Complete parts, the greatest first. -/
def Parts2 (segs : List (List Bytes)) : Prop := segs.Pairwise (fun a b => b.length < a.length) ∧ ∀ s ∈ segs, ∃ e, s.length = 2 ^ e
theorem pow2_lt {a b : Nat} (h : 2 ^ a < 2 ^ b) : 2 ^ (a + 1) ≤ 2 ^ b := Nat.pow_le_pow_right (by decide) ((Nat.pow_lt_pow_iff_right (by decide)).1 h)
theorem Parts2.total : ∀ {segs : List (List Bytes)}, Parts2 segs → ∀ e, (∀ s ∈ segs, s.length < 2 ^ e) → segs.flatten.length < 2 ^ e
  | [], _, e, _ => Nat.pow_pos (by decide)
  | a :: t, h, e, hl => by
    obtain ⟨d, hd⟩ := h.2 a (by simp)
    have hp := List.pairwise_cons.1 h.1
    have hrec := Parts2.total (segs := t) ⟨hp.2, fun s hs => h.2 s (by simp [hs])⟩ d (fun s hs => by rw [← hd]; exact hp.1 s hs)
    have h1 := hl a (by simp)
    rw [hd] at h1
    have h2 := pow2_lt h1
    rw [Nat.pow_succ] at h2
    rw [List.flatten_cons, List.length_append]
    omega
theorem rootL_parts {a : List Bytes} {t : List (List Bytes)} (h : Parts2 (a :: t)) (ht : t ≠ []) : rootL (a ++ t.flatten) = nodeB (rootL a) (rootL t.flatten) := by
  obtain ⟨d, hd⟩ := h.2 a (by simp)
  have hp := List.pairwise_cons.1 h.1
  have hlt := Parts2.total (segs := t) ⟨hp.2, fun s hs => h.2 s (by simp [hs])⟩ d (fun s hs => by rw [← hd]; exact hp.1 s hs)
  have h0 : 0 < 2 ^ d := Nat.pow_pos (by decide)
  have hpos : 0 < t.flatten.length := by
    cases t with
    | nil => exact absurd rfl ht
    | cons b t =>
      obtain ⟨e, he⟩ := h.2 b (by simp)
      have : 0 < 2 ^ e := Nat.pow_pos (by decide)
      rw [List.flatten_cons, List.length_append]
      omega
  have hl : leftN (a ++ t.flatten).length = a.length := by
    rw [hd]
    apply leftN_of
    · rw [List.length_append]; omega
    · rw [List.length_append, Nat.pow_succ]; omega
  rw [rootL_split (by rw [List.length_append]; omega), hl, List.take_left, List.drop_left]
/-- Two equal complete parts are one. -/
theorem rootL_pair {a b : List Bytes} {e : Nat} (ha : a.length = 2 ^ e) (hb : b.length = 2 ^ e) : rootL (a ++ b) = nodeB (rootL a) (rootL b) := by
  have h0 : 0 < 2 ^ e := Nat.pow_pos (by decide)
  have hl : leftN (a ++ b).length = a.length := by
    rw [ha]
    apply leftN_of
    · rw [List.length_append]; omega
    · rw [List.length_append, Nat.pow_succ]; omega
  rw [rootL_split (by rw [List.length_append]; omega), hl, List.take_left, List.drop_left]
/-- The parts, the last one of which is about to be joined. -/
def Parts3 (init : List (List Bytes)) (last : List Bytes) : Prop := Parts2 init ∧ (∃ e, last.length = 2 ^ e) ∧ ∀ s ∈ init, last.length ≤ s.length
theorem Parts3.push {segs : List (List Bytes)} (h : Parts2 segs) (x : Bytes) : Parts3 segs [x] :=
  ⟨h, ⟨0, rfl⟩, fun s hs => by obtain ⟨e, he⟩ := h.2 s hs; have : 0 < 2 ^ e := Nat.pow_pos (by decide); simp; omega⟩
theorem Parts3.join {init : List (List Bytes)} {b last : List Bytes} (h : Parts3 (init ++ [b]) last) (he : b.length = last.length) :
    Parts3 init (b ++ last) ∧ rootL (b ++ last) = nodeB (rootL b) (rootL last) := by
  obtain ⟨h1, ⟨e, h2⟩, h3⟩ := h
  have hp := List.pairwise_append.1 h1.1
  refine ⟨⟨⟨hp.1, fun s hs => h1.2 s (by simp [hs])⟩, ⟨e + 1, by rw [List.length_append, Nat.pow_succ]; omega⟩, fun s hs => ?_⟩, rootL_pair (he.trans h2) h2⟩
  have h4 := hp.2.2 s hs b (by simp)
  obtain ⟨d, hd⟩ := h1.2 s (by simp [hs])
  rw [hd, he, h2] at h4
  have := pow2_lt h4
  rw [List.length_append, he, h2, hd]
  rw [Nat.pow_succ] at this
  omega
theorem Parts3.done {init : List (List Bytes)} {b last : List Bytes} (h : Parts3 (init ++ [b]) last) (he : b.length ≠ last.length) : Parts2 (init ++ [b] ++ [last]) := by
  obtain ⟨h1, h2, h3⟩ := h
  refine ⟨List.pairwise_append.2 ⟨h1.1, by simp, fun s hs t ht => ?_⟩, fun s hs => ?_⟩
  · rw [List.mem_singleton.1 ht]
    rcases List.mem_append.1 hs with hs | hs
    · have := (List.pairwise_append.1 h1.1).2.2 s hs b (by simp)
      have := h3 b (by simp)
      omega
    · rw [List.mem_singleton.1 hs]
      have := h3 b (by simp)
      omega
  · rcases List.mem_append.1 hs with hs | hs
    · exact h1.2 s hs
    · rw [List.mem_singleton.1 hs]; exact h2
theorem Parts3.alone {last : List Bytes} (h : Parts3 [] last) : Parts2 [last] := ⟨by simp, fun s hs => by rw [List.mem_singleton.1 hs]; exact h.2.1⟩
end Go.Proofs.YtcgopilkajfghaaGreatDoor
end

section
/- Proofs and extensions, without the program. -/
namespace Go.Proofs.YtcgopilkajfghaaGreatDoor

def proofF : Nat → List Bytes → Nat → List Bytes
  | 0, _, _ => []
  | k + 1, l, i => if l.length ≤ 1 then [] else if i < leftN l.length then proofF k (l.take (leftN l.length)) i ++ [rootL (l.drop (leftN l.length))] else proofF k (l.drop (leftN l.length)) (i - leftN l.length) ++ [rootL (l.take (leftN l.length))]
/-- The proof of an entry. -/
def proofL (l : List Bytes) (i : Nat) : List Bytes := proofF l.length l i
theorem proofF_eq : ∀ (k : Nat) (l : List Bytes) (i : Nat), l.length ≤ k → ∀ j, l.length ≤ j → proofF k l i = proofF j l i
  | 0, l, i, h, 0, _ => rfl
  | 0, l, i, h, j + 1, _ => by unfold proofF; rw [if_pos (by omega)]
  | k + 1, l, i, h, 0, hj => by unfold proofF; rw [if_pos (by omega)]
  | k + 1, l, i, h, j + 1, hj => by
    unfold proofF
    by_cases h1 : l.length ≤ 1
    · rw [if_pos h1, if_pos h1]
    · rw [if_neg h1, if_neg h1]
      have hb := leftN_bd (n := l.length) (by omega)
      rw [proofF_eq k (l.take (leftN l.length)) i (by rw [List.length_take]; omega) j (by rw [List.length_take]; omega), proofF_eq k (l.drop (leftN l.length)) (i - leftN l.length) (by rw [List.length_drop]; omega) j (by rw [List.length_drop]; omega)]
theorem proofL_one {l : List Bytes} (h : l.length ≤ 1) (i : Nat) : proofL l i = [] := by
  unfold proofL
  cases hn : l.length with
  | zero => rfl
  | succ k => unfold proofF; rw [if_pos h]
theorem proofL_lo {l : List Bytes} {i : Nat} (h : 2 ≤ l.length) (hi : i < leftN l.length) : proofL l i = proofL (l.take (leftN l.length)) i ++ [rootL (l.drop (leftN l.length))] := by
  have hb := leftN_bd h
  have h1 : proofL l i = proofF (l.length - 1 + 1) l i := proofF_eq _ _ _ (Nat.le_refl _) _ (by omega)
  rw [h1]
  unfold proofF
  rw [if_neg (by omega), if_pos hi]
  unfold proofL
  rw [proofF_eq (l.length - 1) (l.take (leftN l.length)) i (by rw [List.length_take]; omega) _ (Nat.le_refl _)]
theorem proofL_hi {l : List Bytes} {i : Nat} (h : 2 ≤ l.length) (hi : ¬ i < leftN l.length) : proofL l i = proofL (l.drop (leftN l.length)) (i - leftN l.length) ++ [rootL (l.take (leftN l.length))] := by
  have hb := leftN_bd h
  have h1 : proofL l i = proofF (l.length - 1 + 1) l i := proofF_eq _ _ _ (Nat.le_refl _) _ (by omega)
  rw [h1]
  unfold proofF
  rw [if_neg (by omega), if_neg hi]
  unfold proofL
  rw [proofF_eq (l.length - 1) (l.drop (leftN l.length)) _ (by rw [List.length_drop]; omega) _ (Nat.le_refl _)]

/-- The value of a proof, its last element first. -/
def valR : List Bytes → Nat → Nat → Bytes → Option Bytes
  | [], n, _, s => if n ≤ 1 then some (leafB s) else none
  | x :: t, n, i, s => if n ≤ 1 then none else if i < leftN n then (valR t (leftN n) i s).map (nodeB · x) else (valR t (n - leftN n) (i - leftN n) s).map (nodeB x ·)
def digB (l : List Bytes) : Bool := l.all fun x => decide (x.length = 32)
/-- What Verify says. -/
def verB (root : Bytes) (n i : Int) (s : Bytes) (proof : List Bytes) : Bool := decide (0 ≤ i) && decide (i < n) && digB proof && (valR proof.reverse n.toNat i.toNat s == some root)

def partF : Nat → List Bytes → Nat → Bool → List Bytes
  | 0, _, _, _ => []
  | k + 1, l, m, whole => if m = l.length then (if whole then [] else [rootL l]) else if m ≤ leftN l.length then partF k (l.take (leftN l.length)) m whole ++ [rootL (l.drop (leftN l.length))] else partF k (l.drop (leftN l.length)) (m - leftN l.length) false ++ [rootL (l.take (leftN l.length))]
/-- The proof that a list begins with m entries, m at least 1. -/
def partL (l : List Bytes) (m : Nat) (whole : Bool) : List Bytes := partF l.length l m whole
theorem partF_eq : ∀ (k : Nat) (l : List Bytes) (m : Nat) (whole : Bool), 1 ≤ m → m ≤ l.length → l.length ≤ k → ∀ j, l.length ≤ j → partF k l m whole = partF j l m whole
  | 0, l, m, whole, h0, hm, h, j, _ => by omega
  | k + 1, l, m, whole, h0, hm, h, 0, hj => by omega
  | k + 1, l, m, whole, h0, hm, h, j + 1, hj => by
    unfold partF
    by_cases h1 : m = l.length
    · rw [if_pos h1, if_pos h1]
    · rw [if_neg h1, if_neg h1]
      have hb := leftN_bd (n := l.length) (by omega)
      by_cases h2 : m ≤ leftN l.length
      · rw [if_pos h2, if_pos h2, partF_eq k (l.take (leftN l.length)) m whole h0 (by rw [List.length_take]; omega) (by rw [List.length_take]; omega) j (by rw [List.length_take]; omega)]
      · rw [if_neg h2, if_neg h2, partF_eq k (l.drop (leftN l.length)) (m - leftN l.length) false (by omega) (by rw [List.length_drop]; omega) (by rw [List.length_drop]; omega) j (by rw [List.length_drop]; omega)]
theorem partL_all {l : List Bytes} {m : Nat} {whole : Bool} (h0 : 1 ≤ m) (h : m = l.length) : partL l m whole = if whole then [] else [rootL l] := by
  unfold partL
  obtain ⟨k, hk⟩ : ∃ k, l.length = k + 1 := ⟨l.length - 1, by omega⟩
  rw [hk]
  unfold partF
  rw [if_pos h]
theorem partL_lo {l : List Bytes} {m : Nat} {whole : Bool} (h0 : 1 ≤ m) (h : m < l.length) (h2 : m ≤ leftN l.length) : partL l m whole = partL (l.take (leftN l.length)) m whole ++ [rootL (l.drop (leftN l.length))] := by
  have hb := leftN_bd (n := l.length) (by omega)
  have h1 : partL l m whole = partF (l.length - 1 + 1) l m whole := partF_eq _ _ _ _ h0 (by omega) (Nat.le_refl _) _ (by omega)
  rw [h1]
  unfold partF
  rw [if_neg (by omega), if_pos h2]
  unfold partL
  rw [partF_eq (l.length - 1) (l.take (leftN l.length)) m whole h0 (by rw [List.length_take]; omega) (by rw [List.length_take]; omega) _ (Nat.le_refl _)]
theorem partL_hi {l : List Bytes} {m : Nat} {whole : Bool} (h0 : 1 ≤ m) (h : m < l.length) (h2 : ¬ m ≤ leftN l.length) : partL l m whole = partL (l.drop (leftN l.length)) (m - leftN l.length) false ++ [rootL (l.take (leftN l.length))] := by
  have hb := leftN_bd (n := l.length) (by omega)
  have h1 : partL l m whole = partF (l.length - 1 + 1) l m whole := partF_eq _ _ _ _ h0 (by omega) (Nat.le_refl _) _ (by omega)
  rw [h1]
  unfold partF
  rw [if_neg (by omega), if_neg h2]
  unfold partL
  rw [partF_eq (l.length - 1) (l.drop (leftN l.length)) _ false (by omega) (by rw [List.length_drop]; omega) (by rw [List.length_drop]; omega) _ (Nat.le_refl _)]
/-- The two values of the proof of an extension, its last element first. -/
def bothR (old : Bytes) : List Bytes → Nat → Nat → Bool → Option (Bytes × Bytes)
  | [], m, n, whole => if m = n ∧ whole = true then some (old, old) else none
  | x :: t, m, n, whole => if m = n then (if whole = false ∧ t = [] then some (x, x) else none) else
    if m ≤ leftN n then (bothR old t m (leftN n) whole).map (fun p => (p.1, nodeB p.2 x)) else (bothR old t (m - leftN n) (n - leftN n) false).map (fun p => (nodeB x p.1, nodeB x p.2))
/-- What VerifyExtension says. -/
def verExtB (old : Bytes) (m : Int) (root : Bytes) (n : Int) (proof : List Bytes) : Bool :=
  decide (0 ≤ m) && decide (m ≤ n) && digB proof && decide (old.length = 32) && decide (root.length = 32) &&
    (if m = 0 then proof.isEmpty && (old == sha []) else if m = n then proof.isEmpty && (old == root) else bothR old proof.reverse m.toNat n.toNat true == some (old, root))
end Go.Proofs.YtcgopilkajfghaaGreatDoor
end

section
/- The laws of proofs, without the program. -/
namespace Go.Proofs.YtcgopilkajfghaaGreatDoor

theorem valR_cons {x : Bytes} {t : List Bytes} {n i : Nat} {s : Bytes} (hn : 2 ≤ n) : valR (x :: t) n i s = if i < leftN n then (valR t (leftN n) i s).map (nodeB · x) else (valR t (n - leftN n) (i - leftN n) s).map (nodeB x ·) := by
  show (if n ≤ 1 then none else _) = _
  rw [if_neg (by omega)]
/-- A proof's value is the root. -/
theorem valR_proof : ∀ (n : Nat) (l : List Bytes) (i : Nat), l.length ≤ n → i < l.length → valR (proofL l i).reverse l.length i (l.getD i []) = some (rootL l)
  | 0, l, i, h, hi => by omega
  | n + 1, l, i, h, hi => by
    by_cases h1 : l.length ≤ 1
    · match l, hi, h1 with
      | [x], hi, _ =>
        obtain rfl : i = 0 := by simpa using hi
        rw [proofL_one (by simp), rootL_one]
        rfl
      | [], hi, _ => exact absurd hi (by simp)
      | a :: b :: t, _, h1 => exact absurd h1 (by simp)
    · have h2 : 2 ≤ l.length := by omega
      have hb := leftN_bd h2
      by_cases hk : i < leftN l.length
      · have hlt : (l.take (leftN l.length)).length = leftN l.length := by rw [List.length_take]; omega
        have ih := valR_proof n (l.take (leftN l.length)) i (by omega) (by omega)
        rw [hlt] at ih
        rw [proofL_lo h2 hk, List.reverse_append, List.reverse_singleton, List.singleton_append, valR_cons h2, if_pos hk, show l.getD i [] = (l.take (leftN l.length)).getD i [] from by simp [List.getD_eq_getElem?_getD, hk], ih, rootL_split h2]
        rfl
      · have hlt : (l.drop (leftN l.length)).length = l.length - leftN l.length := by rw [List.length_drop]
        have ih := valR_proof n (l.drop (leftN l.length)) (i - leftN l.length) (by omega) (by omega)
        rw [hlt] at ih
        rw [proofL_hi h2 hk, List.reverse_append, List.reverse_singleton, List.singleton_append, valR_cons h2, if_neg hk, show l.getD i [] = (l.drop (leftN l.length)).getD (i - leftN l.length) [] from by simp only [List.getD_eq_getElem?_getD, List.getElem?_drop]; rw [show leftN l.length + (i - leftN l.length) = i from by omega], ih, rootL_split h2]
        rfl
/-- All elements of a proof are digests. -/
theorem proofL_dig : ∀ (n : Nat) (l : List Bytes) (i : Nat), l.length ≤ n → ∀ x ∈ proofL l i, x.length = 32
  | 0, l, i, h, x, hx => by rw [proofL_one (by omega)] at hx; simp at hx
  | n + 1, l, i, h, x, hx => by
    by_cases h1 : l.length ≤ 1
    · rw [proofL_one h1] at hx; simp at hx
    · have h2 : 2 ≤ l.length := by omega
      have hb := leftN_bd h2
      by_cases hk : i < leftN l.length
      · rw [proofL_lo h2 hk] at hx
        rcases List.mem_append.1 hx with hx | hx
        · exact proofL_dig n _ _ (by rw [List.length_take]; omega) x hx
        · rw [List.mem_singleton.1 hx]; exact rootL_length _
      · rw [proofL_hi h2 hk] at hx
        rcases List.mem_append.1 hx with hx | hx
        · exact proofL_dig n _ _ (by rw [List.length_drop]; omega) x hx
        · rw [List.mem_singleton.1 hx]; exact rootL_length _
theorem valR_nil {n i : Nat} {s : Bytes} : valR [] n i s = if n ≤ 1 then some (leafB s) else none := rfl
theorem valR_one {x : Bytes} {t : List Bytes} {n i : Nat} {s : Bytes} (hn : n ≤ 1) : valR (x :: t) n i s = none := by
  show (if n ≤ 1 then none else _) = _
  rw [if_pos hn]
/-- All proofs that have a value at a place are equally long. -/
theorem valR_len : ∀ (p q : List Bytes) (n i : Nat) (s t a b : Bytes), valR p n i s = some a → valR q n i t = some b → p.length = q.length
  | [], [], _, _, _, _, _, _, _, _ => rfl
  | [], y :: q, n, i, s, t, a, b, h, g => by
    by_cases hn : n ≤ 1
    · rw [valR_one hn] at g; cases g
    · rw [valR_nil, if_neg hn] at h; cases h
  | x :: p, [], n, i, s, t, a, b, h, g => by
    by_cases hn : n ≤ 1
    · rw [valR_one hn] at h; cases h
    · rw [valR_nil, if_neg hn] at g; cases g
  | x :: p, y :: q, n, i, s, t, a, b, h, g => by
    by_cases hn : n ≤ 1
    · rw [valR_one hn] at h; cases h
    · rw [valR_cons (by omega)] at h g
      by_cases hk : i < leftN n
      · rw [if_pos hk] at h g
        obtain ⟨a', ha, _⟩ := Option.map_eq_some_iff.1 h
        obtain ⟨b', hb, _⟩ := Option.map_eq_some_iff.1 g
        simp only [List.length_cons]
        rw [valR_len p q _ _ _ _ _ _ ha hb]
      · rw [if_neg hk] at h g
        obtain ⟨a', ha, _⟩ := Option.map_eq_some_iff.1 h
        obtain ⟨b', hb, _⟩ := Option.map_eq_some_iff.1 g
        simp only [List.length_cons]
        rw [valR_len p q _ _ _ _ _ _ ha hb]
theorem leftN_le {n e : Nat} (h : 2 ≤ n) (he : n ≤ 2 ^ (e + 1)) : leftN n ≤ 2 ^ e := by
  have hb := leftN_bd h
  obtain ⟨k, h1, h2⟩ : ∃ k, 2 ^ k < n ∧ n ≤ 2 ^ (k + 1) := by
    refine ⟨Nat.log2 (n - 1), ?_, ?_⟩
    · have := Nat.log2_self_le (n := n - 1) (by omega); omega
    · have := Nat.lt_log2_self (n := n - 1); omega
  rw [leftN_of h1 h2]
  refine Nat.pow_le_pow_right (by omega) ?_
  have : 2 ^ k < 2 ^ (e + 1) := Nat.lt_of_lt_of_le h1 he
  have := (Nat.pow_lt_pow_iff_right (by omega)).1 this
  omega
/-- Proofs are short. -/
theorem proofL_short : ∀ (n : Nat) (l : List Bytes) (i e : Nat), l.length ≤ n → l.length ≤ 2 ^ e → (proofL l i).length ≤ e
  | 0, l, i, e, h, _ => by rw [proofL_one (by omega)]; exact Nat.zero_le _
  | n + 1, l, i, e, h, he => by
    by_cases h1 : l.length ≤ 1
    · rw [proofL_one h1]; exact Nat.zero_le _
    · have h2 : 2 ≤ l.length := by omega
      have hb := leftN_bd h2
      obtain ⟨e', rfl⟩ : ∃ e', e = e' + 1 := by
        cases e with
        | zero => simp at he; omega
        | succ e' => exact ⟨e', rfl⟩
      have hp : leftN l.length ≤ 2 ^ e' := leftN_le h2 he
      by_cases hk : i < leftN l.length
      · rw [proofL_lo h2 hk, List.length_append, List.length_singleton]
        have := proofL_short n (l.take (leftN l.length)) i e' (by rw [List.length_take]; omega) (by rw [List.length_take]; omega)
        omega
      · rw [proofL_hi h2 hk, List.length_append, List.length_singleton]
        have := proofL_short n (l.drop (leftN l.length)) (i - leftN l.length) e' (by rw [List.length_drop]; omega) (by rw [List.length_drop]; omega)
        omega
/-- The strings whose digests a proof's value is made of, and the value. -/
def wayR : List Bytes → Nat → Nat → Bytes → List Bytes × Bytes
  | [], _, _, s => ([0 :: s], leafB s)
  | x :: t, n, i, s => if n ≤ 1 then ([0 :: s], leafB s) else
    if i < leftN n then ((1 :: ((wayR t (leftN n) i s).2 ++ x)) :: (wayR t (leftN n) i s).1, nodeB (wayR t (leftN n) i s).2 x)
    else ((1 :: (x ++ (wayR t (n - leftN n) (i - leftN n) s).2)) :: (wayR t (n - leftN n) (i - leftN n) s).1, nodeB x (wayR t (n - leftN n) (i - leftN n) s).2)
/-- Two different strings at the same place have the same digest. -/
def collB (a b : List Bytes) : Bool := (a.zip b).any fun p => p.1 != p.2 && sha p.1 == sha p.2
theorem collB_head {x y : Bytes} {a b : List Bytes} (h : x ≠ y) (hs : sha x = sha y) : collB (x :: a) (y :: b) = true := by
  unfold collB
  simp [h, hs]
theorem collB_tail {x y : Bytes} {a b : List Bytes} (h : collB a b = true) : collB (x :: a) (y :: b) = true := by
  unfold collB at h ⊢
  rw [List.zip_cons_cons, List.any_cons, h, Bool.or_true]
theorem wayR_two : ∀ (p : List Bytes) (n i : Nat) (s r : Bytes), valR p n i s = some r → (wayR p n i s).2 = r ∧ r.length = 32
  | [], n, i, s, r, h => by
    rw [valR_nil] at h
    split at h
    · cases h; exact ⟨rfl, leafB_length _⟩
    · cases h
  | x :: t, n, i, s, r, h => by
    by_cases hn : n ≤ 1
    · rw [valR_one hn] at h; cases h
    · rw [valR_cons (by omega)] at h
      unfold wayR
      rw [if_neg hn]
      by_cases hk : i < leftN n
      · rw [if_pos hk] at h ⊢
        obtain ⟨a', ha, rfl⟩ := Option.map_eq_some_iff.1 h
        rw [(wayR_two t _ _ _ _ ha).1]
        exact ⟨rfl, nodeB_length _ _⟩
      · rw [if_neg hk] at h ⊢
        obtain ⟨a', ha, rfl⟩ := Option.map_eq_some_iff.1 h
        rw [(wayR_two t _ _ _ _ ha).1]
        exact ⟨rfl, nodeB_length _ _⟩
/-- Two entries with proofs for one place and one root: a collision. -/
theorem binding : ∀ (p q : List Bytes) (n i : Nat) (s t r : Bytes), (∀ x ∈ p, x.length = 32) → (∀ x ∈ q, x.length = 32) → s ≠ t → valR p n i s = some r → valR q n i t = some r → collB (wayR p n i s).1 (wayR q n i t).1 = true
  | [], [], n, i, s, t, r, _, _, hne, h, g => by
    rw [valR_nil] at h g
    split at h
    · rename_i hn
      rw [if_pos hn] at g
      exact collB_head (fun e => hne (by injection e)) ((Option.some.inj h).trans (Option.some.inj g).symm)
    · cases h
  | [], y :: q, n, i, s, t, r, _, _, _, h, g => by have := valR_len _ _ _ _ _ _ _ _ h g; simp at this
  | x :: p, [], n, i, s, t, r, _, _, _, h, g => by have := valR_len _ _ _ _ _ _ _ _ h g; simp at this
  | x :: p, y :: q, n, i, s, t, r, hp, hq, hne, h, g => by
    by_cases hn : n ≤ 1
    · rw [valR_one hn] at h; cases h
    · rw [valR_cons (by omega)] at h g
      unfold wayR
      rw [if_neg hn, if_neg hn]
      by_cases hk : i < leftN n
      · rw [if_pos hk] at h g ⊢
        rw [if_pos hk]
        obtain ⟨a, ha, ha'⟩ := Option.map_eq_some_iff.1 h
        obtain ⟨b, hb, hb'⟩ := Option.map_eq_some_iff.1 g
        have h1 := wayR_two _ _ _ _ _ ha
        have h2 := wayR_two _ _ _ _ _ hb
        rw [h1.1, h2.1]
        by_cases he : (1 : UInt8) :: (a ++ x) = 1 :: (b ++ y)
        · have e1 : a = b := (List.append_inj (by injection he) (by rw [h1.2, h2.2])).1
          subst e1
          exact collB_tail (binding p q _ _ s t a (fun z hz => hp z (by simp [hz])) (fun z hz => hq z (by simp [hz])) hne ha hb)
        · exact collB_head he (ha'.trans hb'.symm)
      · rw [if_neg hk] at h g ⊢
        rw [if_neg hk]
        obtain ⟨a, ha, ha'⟩ := Option.map_eq_some_iff.1 h
        obtain ⟨b, hb, hb'⟩ := Option.map_eq_some_iff.1 g
        have h1 := wayR_two _ _ _ _ _ ha
        have h2 := wayR_two _ _ _ _ _ hb
        rw [h1.1, h2.1]
        by_cases he : (1 : UInt8) :: (x ++ a) = 1 :: (y ++ b)
        · have e1 : a = b := (List.append_inj (by injection he) (by rw [hp x (by simp), hq y (by simp)])).2
          subst e1
          exact collB_tail (binding p q _ _ s t a (fun z hz => hp z (by simp [hz])) (fun z hz => hq z (by simp [hz])) hne ha hb)
        · exact collB_head he (ha'.trans hb'.symm)
theorem leftN_same {m n : Nat} (h : leftN n < m) (hm : m ≤ n) (hn : 2 ≤ n) : leftN m = leftN n := by
  obtain ⟨k, h1, h2⟩ : ∃ k, 2 ^ k < n ∧ n ≤ 2 ^ (k + 1) := by
    refine ⟨Nat.log2 (n - 1), ?_, ?_⟩
    · have := Nat.log2_self_le (n := n - 1) (by omega); omega
    · have := Nat.lt_log2_self (n := n - 1); omega
  rw [leftN_of h1 h2] at h ⊢
  exact leftN_of h (by omega)
theorem bothR_cons {old x : Bytes} {t : List Bytes} {m n : Nat} {whole : Bool} (h : m ≠ n) : bothR old (x :: t) m n whole = if m ≤ leftN n then (bothR old t m (leftN n) whole).map (fun p => (p.1, nodeB p.2 x)) else (bothR old t (m - leftN n) (n - leftN n) false).map (fun p => (nodeB x p.1, nodeB x p.2)) := by
  show (if m = n then _ else _) = _
  rw [if_neg h]
/-- The values of the proof that a list begins with m entries. -/
theorem bothR_part : ∀ (n : Nat) (l : List Bytes) (m : Nat) (whole : Bool) (old : Bytes), l.length ≤ n → 1 ≤ m → m ≤ l.length → (whole = true → old = rootL (l.take m)) → bothR old (partL l m whole).reverse m l.length whole = some (rootL (l.take m), rootL l)
  | 0, l, m, whole, old, h, h1, hm, _ => by omega
  | n + 1, l, m, whole, old, h, h1, hm, ho => by
    by_cases he : m = l.length
    · rw [partL_all h1 he]
      subst he
      rw [List.take_length] at ho ⊢
      cases whole
      · show (if l.length = l.length then (if false = false ∧ ([] : List Bytes) = [] then some (rootL l, rootL l) else none) else _) = _
        rw [if_pos rfl, if_pos ⟨rfl, rfl⟩]
      · rw [← ho rfl]
        show (if l.length = l.length ∧ true = true then some (old, old) else none) = _
        rw [if_pos ⟨rfl, rfl⟩]
    · have h2 : 2 ≤ l.length := by omega
      have hb := leftN_bd h2
      by_cases hk : m ≤ leftN l.length
      · have hlt : (l.take (leftN l.length)).length = leftN l.length := by rw [List.length_take]; omega
        have htt : (l.take (leftN l.length)).take m = l.take m := by rw [List.take_take, Nat.min_eq_left hk]
        have ih := bothR_part n (l.take (leftN l.length)) m whole old (by omega) h1 (by omega) (by rw [htt]; exact ho)
        rw [hlt, htt] at ih
        rw [partL_lo h1 (by omega) hk, List.reverse_append, List.reverse_singleton, List.singleton_append, bothR_cons he, if_pos hk, ih, rootL_split h2]
        rfl
      · have hlt : (l.drop (leftN l.length)).length = l.length - leftN l.length := by rw [List.length_drop]
        have ih := bothR_part n (l.drop (leftN l.length)) (m - leftN l.length) false old (by omega) (by omega) (by omega) (fun h => by cases h)
        rw [hlt] at ih
        have hlm : (l.take m).length = m := by rw [List.length_take]; omega
        have hsm := leftN_same (n := l.length) (m := m) (by omega) hm h2
        have hr : rootL (l.take m) = nodeB (rootL (l.take (leftN l.length))) (rootL ((l.drop (leftN l.length)).take (m - leftN l.length))) := by
          rw [rootL_split (by rw [hlm]; omega), hlm, hsm, List.take_take, Nat.min_eq_left (by omega), List.drop_take]
        rw [partL_hi h1 (by omega) hk, List.reverse_append, List.reverse_singleton, List.singleton_append, bothR_cons he, if_neg hk, ih, hr]
        conv => rhs; rw [rootL_split h2]
        rfl
/-- All elements of the proof of a beginning are digests, and it is short. -/
theorem partL_dig : ∀ (n : Nat) (l : List Bytes) (m : Nat) (whole : Bool), l.length ≤ n → 1 ≤ m → m ≤ l.length → ∀ x ∈ partL l m whole, x.length = 32
  | 0, l, m, whole, h, h1, hm, x, hx => by omega
  | n + 1, l, m, whole, h, h1, hm, x, hx => by
    by_cases he : m = l.length
    · rw [partL_all h1 he] at hx
      cases whole
      · rw [if_neg (by simp), List.mem_singleton] at hx; rw [hx]; exact rootL_length _
      · simp at hx
    · have hb := leftN_bd (n := l.length) (by omega)
      by_cases hk : m ≤ leftN l.length
      · rw [partL_lo h1 (by omega) hk] at hx
        rcases List.mem_append.1 hx with hx | hx
        · exact partL_dig n _ _ _ (by rw [List.length_take]; omega) h1 (by rw [List.length_take]; omega) x hx
        · rw [List.mem_singleton.1 hx]; exact rootL_length _
      · rw [partL_hi h1 (by omega) hk] at hx
        rcases List.mem_append.1 hx with hx | hx
        · exact partL_dig n _ _ _ (by rw [List.length_drop]; omega) (by omega) (by rw [List.length_drop]; omega) x hx
        · rw [List.mem_singleton.1 hx]; exact rootL_length _
theorem partL_short : ∀ (n : Nat) (l : List Bytes) (m : Nat) (whole : Bool) (e : Nat), l.length ≤ n → 1 ≤ m → m ≤ l.length → l.length ≤ 2 ^ e → (partL l m whole).length ≤ e + 1
  | 0, l, m, whole, e, h, h1, hm, he => by omega
  | n + 1, l, m, whole, e, h, h1, hm, he => by
    by_cases hq : m = l.length
    · rw [partL_all h1 hq]
      cases whole <;> simp
    · have h2 : 2 ≤ l.length := by omega
      have hb := leftN_bd h2
      obtain ⟨e', rfl⟩ : ∃ e', e = e' + 1 := by
        cases e with
        | zero => simp at he; omega
        | succ e' => exact ⟨e', rfl⟩
      have hp : leftN l.length ≤ 2 ^ e' := leftN_le h2 he
      by_cases hk : m ≤ leftN l.length
      · rw [partL_lo h1 (by omega) hk, List.length_append, List.length_singleton]
        have := partL_short n (l.take (leftN l.length)) m whole e' (by rw [List.length_take]; omega) h1 (by rw [List.length_take]; omega) (by rw [List.length_take]; omega)
        omega
      · rw [partL_hi h1 (by omega) hk, List.length_append, List.length_singleton]
        have := partL_short n (l.drop (leftN l.length)) (m - leftN l.length) false e' (by rw [List.length_drop]; omega) (by omega) (by rw [List.length_drop]; omega) (by rw [List.length_drop]; omega)
        omega
/-- The strings whose digests the new root of an extension is made of, and the value. -/
def sidesR (old : Bytes) : List Bytes → Nat → Nat → Bool → List Bytes × Bytes
  | [], _, _, _ => ([], old)
  | x :: t, m, n, whole => if n ≤ m then ([], if whole then old else (x :: t).getLastD []) else
    if m ≤ leftN n then ((1 :: ((sidesR old t m (leftN n) whole).2 ++ x)) :: (sidesR old t m (leftN n) whole).1, nodeB (sidesR old t m (leftN n) whole).2 x)
    else ((1 :: (x ++ (sidesR old t (m - leftN n) (n - leftN n) false).2)) :: (sidesR old t (m - leftN n) (n - leftN n) false).1, nodeB x (sidesR old t (m - leftN n) (n - leftN n) false).2)
theorem sidesR_two (old : Bytes) (ho : old.length = 32) : ∀ (p : List Bytes) (m n : Nat) (whole : Bool) (a b : Bytes), (∀ x ∈ p, x.length = 32) → 1 ≤ m → m ≤ n → bothR old p m n whole = some (a, b) → (sidesR old p m n whole).2 = b ∧ b.length = 32 ∧ a.length = 32
  | [], m, n, whole, a, b, _, _, _, h => by
    unfold bothR at h
    split at h
    · cases h; exact ⟨rfl, ho, ho⟩
    · cases h
  | x :: t, m, n, whole, a, b, hp, h1, hm, h => by
    by_cases hn : m = n
    · unfold bothR at h
      rw [if_pos hn] at h
      split at h
      · rename_i hw
        obtain ⟨rfl, rfl⟩ := hw
        cases h
        unfold sidesR
        rw [if_pos (by omega)]
        exact ⟨rfl, hp _ (by simp), hp _ (by simp)⟩
      · cases h
    · have hb := leftN_bd (n := n) (by omega)
      rw [bothR_cons hn] at h
      unfold sidesR
      rw [if_neg (by omega)]
      have hp' : ∀ y ∈ t, y.length = 32 := fun y hy => hp y (by simp [hy])
      by_cases hk : m ≤ leftN n
      · rw [if_pos hk] at h ⊢
        obtain ⟨⟨a', b'⟩, ha, hab⟩ := Option.map_eq_some_iff.1 h
        cases hab
        have ih := sidesR_two old ho t _ _ _ _ _ hp' h1 hk ha
        rw [ih.1]
        exact ⟨rfl, nodeB_length _ _, ih.2.2⟩
      · rw [if_neg hk] at h ⊢
        obtain ⟨⟨a', b'⟩, ha, hab⟩ := Option.map_eq_some_iff.1 h
        cases hab
        have ih := sidesR_two old ho t _ _ _ _ _ hp' (by omega) (by omega) ha
        rw [ih.1]
        exact ⟨rfl, nodeB_length _ _, nodeB_length _ _⟩
/-- Two beginnings of one length with proofs for one root: a collision. -/
theorem extBinding (o1 o2 : Bytes) (h1 : o1.length = 32) (h2 : o2.length = 32) : ∀ (p q : List Bytes) (m n : Nat) (whole : Bool) (a1 a2 r : Bytes), (∀ x ∈ p, x.length = 32) → (∀ x ∈ q, x.length = 32) → 1 ≤ m → m ≤ n → a1 ≠ a2 → bothR o1 p m n whole = some (a1, r) → bothR o2 q m n whole = some (a2, r) → collB (sidesR o1 p m n whole).1 (sidesR o2 q m n whole).1 = true
  | [], [], m, n, whole, a1, a2, r, _, _, _, _, hne, h, g => by
    unfold bothR at h g
    split at h
    · rename_i hc
      rw [if_pos hc] at g
      cases h; cases g; exact absurd rfl hne
    · cases h
  | [], y :: q, m, n, whole, a1, a2, r, _, _, _, _, hne, h, g => by
    unfold bothR at h g
    split at h
    · rename_i hc
      rw [if_pos hc.1, if_neg (by simp [hc.2])] at g
      cases g
    · cases h
  | x :: p, [], m, n, whole, a1, a2, r, _, _, _, _, hne, h, g => by
    unfold bothR at h g
    split at g
    · rename_i hc
      rw [if_pos hc.1, if_neg (by simp [hc.2])] at h
      cases h
    · cases g
  | x :: p, y :: q, m, n, whole, a1, a2, r, hp, hq, hm1, hm, hne, h, g => by
    by_cases hn : m = n
    · unfold bothR at h g
      rw [if_pos hn] at h g
      split at h
      · split at g
        · cases h; cases g; exact absurd rfl hne
        · cases g
      · cases h
    · have hb := leftN_bd (n := n) (by omega)
      rw [bothR_cons hn] at h g
      unfold sidesR
      rw [if_neg (show ¬ n ≤ m by omega), if_neg (show ¬ n ≤ m by omega)]
      have hp' : ∀ z ∈ p, z.length = 32 := fun z hz => hp z (by simp [hz])
      have hq' : ∀ z ∈ q, z.length = 32 := fun z hz => hq z (by simp [hz])
      by_cases hk : m ≤ leftN n
      · rw [if_pos hk] at h g ⊢
        rw [if_pos hk]
        obtain ⟨⟨c1, d1⟩, hc, e1⟩ := Option.map_eq_some_iff.1 h
        obtain ⟨⟨c2, d2⟩, hd, e2⟩ := Option.map_eq_some_iff.1 g
        injection e1 with e1 f1
        injection e2 with e2 f2
        have w1 := sidesR_two o1 h1 p _ _ _ _ _ hp' hm1 hk hc
        have w2 := sidesR_two o2 h2 q _ _ _ _ _ hq' hm1 hk hd
        rw [w1.1, w2.1]
        by_cases he : (1 : UInt8) :: (d1 ++ x) = 1 :: (d2 ++ y)
        · have hd12 : d1 = d2 := (List.append_inj (by injection he) (by rw [w1.2.1, w2.2.1])).1
          subst hd12
          exact collB_tail (extBinding o1 o2 h1 h2 p q _ _ _ c1 c2 d1 hp' hq' hm1 hk (fun e => hne (by rw [← e1, ← e2]; exact e)) hc hd)
        · exact collB_head he (f1.trans f2.symm)
      · rw [if_neg hk] at h g ⊢
        rw [if_neg hk]
        obtain ⟨⟨c1, d1⟩, hc, e1⟩ := Option.map_eq_some_iff.1 h
        obtain ⟨⟨c2, d2⟩, hd, e2⟩ := Option.map_eq_some_iff.1 g
        injection e1 with e1 f1
        injection e2 with e2 f2
        have w1 := sidesR_two o1 h1 p _ _ _ _ _ hp' (by omega) (by omega) hc
        have w2 := sidesR_two o2 h2 q _ _ _ _ _ hq' (by omega) (by omega) hd
        rw [w1.1, w2.1]
        by_cases he : (1 : UInt8) :: (x ++ d1) = 1 :: (y ++ d2)
        · obtain ⟨hxy, hd12⟩ := List.append_inj (show x ++ d1 = y ++ d2 by injection he) (by rw [hp x (by simp), hq y (by simp)])
          subst hd12
          exact collB_tail (extBinding o1 o2 h1 h2 p q _ _ _ c1 c2 d1 hp' hq' (by omega) (by omega) (fun e => hne (by rw [← e1, ← e2, e, hxy])) hc hd)
        · exact collB_head he (f1.trans f2.symm)
end Go.Proofs.YtcgopilkajfghaaGreatDoor
end

section
/- Encoding and decoding, without the program: each undoes the other. -/
namespace Go.Proofs.YtcgopilkajfghaaGreatDoor

theorem grp_fuel : ∀ (k m y : Nat), y < 128 ^ (k + 1) → grp (k + 1 + m) y = grp (k + 1) y
  | 0, m, y, h => by
    rw [show 0 + 1 + m = m + 1 from by omega, grp_last m y (by simpa using h), grp_last 0 y (by simpa using h)]
  | k + 1, m, y, h => by
    by_cases hy : y < 128
    · rw [show k + 1 + 1 + m = (k + 1 + m) + 1 from by omega, grp_last _ y hy, grp_last _ y hy]
    · rw [show k + 1 + 1 + m = (k + 1 + m) + 1 from by omega, grp_more _ y hy, grp_more _ y hy, grp_fuel k m (y / 128) (by rw [Nat.pow_succ] at h; omega)]

theorem byteOf_last (y : Nat) (h : y < 128) : (byteOf (y, true)).toNat = y := by simp [byteOf]; omega
theorem byteOf_more (y : Nat) (h : y < 128) : (byteOf (y, false)).toNat = y + 128 := by simp [byteOf]; omega

/-- Decoding reads what encoding wrote. -/
theorem decGo_grp : ∀ (k i z y : Nat) (t : List UInt8), y < 128 ^ (k + 1) → (0 < i → 0 < y) →
    decGo (k + 1) i z ((grp (k + 1) y).map byteOf ++ t) = some (z + y * 128 ^ i, i + (grp (k + 1) y).length) := by
  intro k
  induction k with
  | zero =>
    intro i z y t h h0
    have hy : y < 128 := by simpa using h
    rw [grp_last 0 y hy]
    have hb := byteOf_last y hy
    simp only [List.map_cons, List.map_nil, List.cons_append, List.nil_append, decGo, hb, List.length_cons, List.length_nil]
    rw [if_neg (by omega), if_neg (by omega), Nat.mod_eq_of_lt hy]
  | succ k ih =>
    intro i z y t h h0
    by_cases hy : y < 128
    · rw [grp_last _ y hy]
      have hb := byteOf_last y hy
      simp only [List.map_cons, List.map_nil, List.cons_append, List.nil_append, decGo, hb, List.length_cons, List.length_nil]
      rw [if_neg (by omega), if_neg (by omega), Nat.mod_eq_of_lt hy]
    · rw [grp_more _ y hy]
      have hb := byteOf_more (y % 128) (Nat.mod_lt _ (by omega))
      simp only [List.map_cons, List.cons_append, decGo, hb, List.length_cons]
      rw [if_pos (by omega), ih (i + 1) _ (y / 128) t (by rw [Nat.pow_succ] at h; omega) (fun _ => by omega)]
      congr 2
      · rw [Nat.pow_succ, show (y % 128 + 128) % 128 = y % 128 from by omega]
        have : y / 128 * (128 ^ i * 128) = (y / 128 * 128) * 128 ^ i := by rw [Nat.mul_comm (128 ^ i) 128, Nat.mul_assoc]
        rw [this, Nat.add_assoc, ← Nat.add_mul, show y % 128 + y / 128 * 128 = y from by omega]
      · omega

/-- What decoding accepts is what encoding writes. -/
theorem grp_of_decGo : ∀ (k i z : Nat) (l : List UInt8) (y c : Nat), decGo k i z l = some (y, c) →
    ∃ x, y = z + x * 128 ^ i ∧ (grp k x).map byteOf = l.take (c - i) ∧ x < 128 ^ k ∧ (0 < i → 0 < x) ∧ i < c
  | 0, _, _, _, _, _, h => by simp [decGo] at h
  | _ + 1, _, _, [], _, _, h => by simp [decGo] at h
  | k + 1, i, z, b :: t, y, c, h => by
    have hb := b.toNat_lt
    unfold decGo at h
    split at h
    · rename_i hb1
      obtain ⟨x, hy, hg, hx, h0, hc⟩ := grp_of_decGo k _ _ t y c h
      have hx0 := h0 (by omega)
      refine ⟨b.toNat % 128 + 128 * x, ?_, ?_, ?_, fun _ => by omega, by omega⟩
      · rw [hy, Nat.pow_succ, Nat.add_mul, Nat.add_assoc]
        congr 2
        rw [Nat.mul_comm (128 ^ i) 128, ← Nat.mul_assoc, Nat.mul_comm x 128]
      · rw [grp_more _ _ (by omega), show (b.toNat % 128 + 128 * x) % 128 = b.toNat % 128 from by omega, show (b.toNat % 128 + 128 * x) / 128 = x from by omega,
          List.map_cons, hg, show c - i = (c - (i + 1)) + 1 from by omega, List.take_succ_cons]
        congr 1
        apply UInt8.toNat_inj.1
        rw [byteOf_more _ (Nat.mod_lt _ (by omega))]
        omega
      · rw [Nat.pow_succ]; omega
    · rename_i hb1
      split at h
      · cases h
      · rename_i hb2
        simp at h
        obtain ⟨rfl, rfl⟩ := h
        refine ⟨b.toNat, by rw [Nat.mod_eq_of_lt (by omega)], ?_, ?_, fun h => by omega, by omega⟩
        · rw [grp_last _ _ (by omega), show i + 1 - i = 1 from by omega]
          simp only [List.map_cons, List.map_nil, List.take_succ_cons, List.take_zero]
          congr 1
          apply UInt8.toNat_inj.1
          rw [byteOf_last _ (by omega)]
        · have : 128 ^ 1 ≤ 128 ^ (k + 1) := Nat.pow_le_pow_right (by omega) (by omega)
          omega

/-- Decoding looks at no byte beyond the end of the encoding. -/
theorem decGo_more : ∀ (k i z : Nat) (l t : List UInt8) (r : Nat × Nat), decGo k i z l = some r → decGo k i z (l ++ t) = some r
  | 0, _, _, _, _, _, h => by simp [decGo] at h
  | _ + 1, _, _, [], _, _, h => by simp [decGo] at h
  | k + 1, i, z, b :: l, t, r, h => by
    unfold decGo at h
    rw [List.cons_append]
    unfold decGo
    split
    · rename_i hb
      rw [if_pos hb] at h
      exact decGo_more k _ _ l t r h
    · rename_i hb
      rw [if_neg hb] at h
      exact h

theorem unz_zz (n : Int) : unz (zz n) = n := by
  unfold zz unz
  by_cases h : n < 0
  · rw [if_pos h]; split <;> omega
  · rw [if_neg h]; split <;> omega
theorem zz_unz (z : Nat) : zz (unz z) = z := by
  unfold zz unz
  split
  · rw [if_neg (by omega)]; omega
  · rw [if_pos (by omega)]; omega
theorem zz_lt63 (n : Int) (h1 : -4611686018427387903 ≤ n) (h2 : n ≤ 4611686018427387903) : zz n < 128 ^ 9 := by
  unfold zz; split <;> omega

/-- An integer is decoded. -/
theorem dec_enc (n : Int) (h1 : -4611686018427387903 ≤ n) (h2 : n ≤ 4611686018427387903) (t : List UInt8) :
    dec (enc (zz n) ++ t) = some (n, (enc (zz n)).length) := by
  have hz := zz_lt63 n h1 h2
  unfold dec enc
  rw [show grp 10 (zz n) = grp 9 (zz n) from grp_fuel 8 1 (zz n) hz, decGo_grp 8 0 0 (zz n) t hz (fun h => by omega), List.length_map]
  simp only [Nat.pow_zero, Nat.mul_one, Nat.zero_add, unz_zz]
  rw [if_neg (by omega)]
/-- What is decoded is the encoding of what comes out. -/
theorem enc_of_dec {l : List UInt8} {n : Int} {c : Nat} (h : dec l = some (n, c)) : l.take c = enc (zz n) := by
  unfold dec at h
  split at h
  · rename_i z c' hd
    obtain ⟨x, hy, hg, hx, _, _⟩ := grp_of_decGo 9 0 0 l z c' hd
    split at h
    · cases h
    · simp at h
      obtain ⟨rfl, rfl⟩ := h
      rw [zz_unz, enc, show grp 10 z = grp 9 z from grp_fuel 8 1 z (by simp at hy; rw [hy]; exact hx)]
      simp at hy
      rw [hy, hg]
      simp
  · cases h
theorem dec_more {l : List UInt8} {r : Int × Nat} (h : dec l = some r) (t : List UInt8) : dec (l ++ t) = some r := by
  unfold dec at h ⊢
  split at h
  · rename_i z c hd
    rw [decGo_more 9 0 0 l t _ hd]
    exact h
  · cases h
theorem enc_pos (z : Nat) : 0 < (enc z).length := by
  unfold enc grp
  split <;> simp
/-- No proper beginning of an encoding is accepted. -/
theorem dec_short (n : Int) (h1 : -4611686018427387903 ≤ n) (h2 : n ≤ 4611686018427387903) (k : Nat) (hk : k < (enc (zz n)).length) : dec ((enc (zz n)).take k) = none := by
  cases hd : dec ((enc (zz n)).take k) with
  | none => rfl
  | some r =>
    exfalso
    have h3 := dec_more hd ((enc (zz n)).drop k)
    rw [List.take_append_drop] at h3
    have h4 := dec_enc n h1 h2 []
    rw [List.append_nil, h3] at h4
    have h5 := enc_of_dec (n := r.1) (c := r.2) hd
    have h6 : r.1 = n ∧ r.2 = (enc (zz n)).length := by
      have := Option.some.inj h4
      exact ⟨congrArg Prod.fst this, congrArg Prod.snd this⟩
    rw [h6.1] at h5
    have h7 := congrArg List.length h5
    rw [List.length_take, List.length_take] at h7
    omega
/-- Encodings of different integers are not the beginning of each other. -/
theorem enc_inj {n m : Int} (h1 : -4611686018427387903 ≤ n) (h2 : n ≤ 4611686018427387903) (h3 : -4611686018427387903 ≤ m) (h4 : m ≤ 4611686018427387903)
    {t : List UInt8} (h : enc (zz m) = enc (zz n) ++ t) : n = m := by
  have h5 := dec_enc n h1 h2 t
  rw [← h] at h5
  have h6 := dec_enc m h3 h4 []
  rw [List.append_nil, h5] at h6
  exact congrArg Prod.fst (Option.some.inj h6)
end Go.Proofs.YtcgopilkajfghaaGreatDoor
end

section
/- Plain: the strings that are hashed for a root; lists with one root; what proofs of a logbook bind. -/
namespace Go.Proofs.YtcgopilkajfghaaGreatDoor

def hashedF : Nat → List Bytes → List Bytes
  | 0, _ => [[]]
  | k + 1, l => if l.length = 0 then [[]] else if l.length = 1 then [0 :: l.getD 0 []] else hashedF k (l.take (leftN l.length)) ++ hashedF k (l.drop (leftN l.length)) ++ [1 :: (rootL (l.take (leftN l.length)) ++ rootL (l.drop (leftN l.length)))]
/-- The strings whose digests are computed for the root of a list. -/
def hashedL (l : List Bytes) : List Bytes := hashedF l.length l
theorem hashedF_eq : ∀ (k : Nat) (l : List Bytes), l.length ≤ k → ∀ j, l.length ≤ j → hashedF k l = hashedF j l
  | 0, l, h, 0, _ => rfl
  | 0, l, h, j + 1, _ => by unfold hashedF; rw [if_pos (by omega)]
  | k + 1, l, h, 0, hj => by unfold hashedF; rw [if_pos (by omega)]
  | k + 1, l, h, j + 1, hj => by
    unfold hashedF
    by_cases h0 : l.length = 0
    · rw [if_pos h0, if_pos h0]
    · rw [if_neg h0, if_neg h0]
      by_cases h1 : l.length = 1
      · rw [if_pos h1, if_pos h1]
      · rw [if_neg h1, if_neg h1]
        have hb := leftN_bd (n := l.length) (by omega)
        rw [hashedF_eq k (l.take (leftN l.length)) (by rw [List.length_take]; omega) j (by rw [List.length_take]; omega), hashedF_eq k (l.drop (leftN l.length)) (by rw [List.length_drop]; omega) j (by rw [List.length_drop]; omega)]
theorem hashedL_nil : hashedL [] = [[]] := rfl
theorem hashedL_one {l : List Bytes} (h : l.length = 1) : hashedL l = [0 :: l.getD 0 []] := by
  unfold hashedL
  rw [h]
  unfold hashedF
  rw [if_neg (by omega), if_pos h]
theorem hashedL_split {l : List Bytes} (h : 2 ≤ l.length) : hashedL l = hashedL (l.take (leftN l.length)) ++ hashedL (l.drop (leftN l.length)) ++ [1 :: (rootL (l.take (leftN l.length)) ++ rootL (l.drop (leftN l.length)))] := by
  have hb := leftN_bd h
  have h1 : hashedL l = hashedF (l.length - 1 + 1) l := hashedF_eq _ _ (Nat.le_refl _) _ (by omega)
  rw [h1]
  unfold hashedF
  rw [if_neg (by omega), if_neg (by omega)]
  unfold hashedL
  rw [hashedF_eq (l.length - 1) (l.take (leftN l.length)) (by rw [List.length_take]; omega) _ (Nat.le_refl _), hashedF_eq (l.length - 1) (l.drop (leftN l.length)) (by rw [List.length_drop]; omega) _ (Nat.le_refl _)]
/-- The strings of the way from an entry to the root are among them. -/
theorem way_hashed : ∀ (n : Nat) (l : List Bytes) (i : Nat), l.length ≤ n → i < l.length → ∀ x ∈ (wayR (proofL l i).reverse l.length i (l.getD i [])).1, x ∈ hashedL l
  | 0, l, i, h, hi => by omega
  | n + 1, l, i, h, hi => by
    intro x hx
    by_cases h2 : 2 ≤ l.length
    · have hb := leftN_bd h2
      have ht : (l.take (leftN l.length)).length = leftN l.length := by rw [List.length_take]; omega
      have hd : (l.drop (leftN l.length)).length = l.length - leftN l.length := List.length_drop ..
      rw [hashedL_split h2]
      by_cases hk : i < leftN l.length
      · rw [proofL_lo h2 hk, List.reverse_append, List.reverse_singleton, List.singleton_append] at hx
        unfold wayR at hx
        rw [if_neg (by omega), if_pos hk] at hx
        have e : l.getD i [] = (l.take (leftN l.length)).getD i [] := by rw [List.getD_eq_getElem?_getD, List.getD_eq_getElem?_getD, List.getElem?_take, if_pos hk]
        have hv := valR_proof n (l.take (leftN l.length)) i (by omega) (by omega)
        have ih := way_hashed n (l.take (leftN l.length)) i (by omega) (by omega)
        rw [ht] at hv ih
        rw [e] at hx
        rcases List.mem_cons.1 hx with rfl | hx
        · rw [(wayR_two _ _ _ _ _ hv).1]
          simp
        · exact List.mem_append_left _ (List.mem_append_left _ (ih x hx))
      · rw [proofL_hi h2 hk, List.reverse_append, List.reverse_singleton, List.singleton_append] at hx
        unfold wayR at hx
        rw [if_neg (by omega), if_neg hk] at hx
        have e : l.getD i [] = (l.drop (leftN l.length)).getD (i - leftN l.length) [] := by rw [List.getD_eq_getElem?_getD, List.getD_eq_getElem?_getD, List.getElem?_drop, show leftN l.length + (i - leftN l.length) = i from by omega]
        have hv := valR_proof n (l.drop (leftN l.length)) (i - leftN l.length) (by omega) (by omega)
        have ih := way_hashed n (l.drop (leftN l.length)) (i - leftN l.length) (by omega) (by omega)
        rw [hd] at hv ih
        rw [e] at hx
        rcases List.mem_cons.1 hx with rfl | hx
        · rw [(wayR_two _ _ _ _ _ hv).1]
          simp
        · exact List.mem_append_left _ (List.mem_append_right _ (ih x hx))
    · have h1 : l.length = 1 := by omega
      obtain rfl : i = 0 := by omega
      rw [proofL_one (by omega)] at hx
      rw [hashedL_one h1]
      simpa [wayR] using hx
/-- Two of some strings are different, with the same digest; or one has the digest of 32 zero bytes. -/
def outB (l : List Bytes) : Bool := l.any (fun x => sha x == List.replicate 32 0) || l.any fun a => l.any fun b => a != b && sha a == sha b
/-- Of two lists, two different strings have the same digest. -/
def meetB (a b : List Bytes) : Bool := a.any fun x => b.any fun y => x != y && sha x == sha y
theorem meetB_of {a b : List Bytes} {x y : Bytes} (hx : x ∈ a) (hy : y ∈ b) (hne : x ≠ y) (h : sha x = sha y) : meetB a b = true :=
  List.any_eq_true.2 ⟨x, hx, List.any_eq_true.2 ⟨y, hy, by simp [hne, h]⟩⟩
theorem meetB_iff {a b : List Bytes} : meetB a b = true ↔ ∃ x ∈ a, ∃ y ∈ b, x ≠ y ∧ sha x = sha y := by
  unfold meetB
  simp only [List.any_eq_true, Bool.and_eq_true, bne_iff_ne, beq_iff_eq]
theorem meetB_out {a b l : List Bytes} (h : meetB a b = true) (ha : ∀ x ∈ a, x ∈ l) (hb : ∀ x ∈ b, x ∈ l) : outB l = true := by
  obtain ⟨x, hx, y, hy, hne, hs⟩ := meetB_iff.1 h
  unfold outB
  rw [Bool.or_eq_true]
  exact .inr (List.any_eq_true.2 ⟨x, ha x hx, List.any_eq_true.2 ⟨y, hb y hy, by simp [hne, hs]⟩⟩)
theorem coll_meet {a b : List Bytes} (h : collB a b = true) : meetB a b = true := by
  unfold collB at h
  obtain ⟨⟨x, y⟩, hxy, hp⟩ := List.any_eq_true.1 h
  simp only [Bool.and_eq_true, bne_iff_ne, beq_iff_eq] at hp
  exact meetB_of (List.of_mem_zip hxy).1 (List.of_mem_zip hxy).2 hp.1 hp.2
theorem root_sha : ∀ (l : List Bytes), ∃ x ∈ hashedL l, rootL l = sha x ∧ (l.length = 0 → x = []) ∧ (l.length = 1 → x = 0 :: l.getD 0 []) ∧ (2 ≤ l.length → x = 1 :: (rootL (l.take (leftN l.length)) ++ rootL (l.drop (leftN l.length)))) := by
  intro l
  by_cases h0 : l.length = 0
  · obtain rfl : l = [] := List.eq_nil_of_length_eq_zero h0
    exact ⟨[], by simp [hashedL_nil], rootL_nil, fun _ => rfl, fun h => by simp at h, fun h => by simp at h⟩
  · by_cases h1 : l.length = 1
    · refine ⟨0 :: l.getD 0 [], by rw [hashedL_one h1]; simp, ?_, fun h => by omega, fun _ => rfl, fun h => by omega⟩
      match l, h1 with
      | [x], _ => exact rootL_one x
    · exact ⟨_, by rw [hashedL_split (by omega)]; simp, rootL_split (by omega), fun h => by omega, fun h => by omega, fun _ => rfl⟩
/-- Different lists with one root: a collision. -/
theorem roots_bind : ∀ (n : Nat) (l m : List Bytes), l.length ≤ n → rootL l = rootL m → l ≠ m → meetB (hashedL l) (hashedL m) = true
  | 0, l, m, h, hr, hne => by
    obtain rfl : l = [] := List.eq_nil_of_length_eq_zero (by omega)
    obtain ⟨x, hx, hxr, hx0, _, _⟩ := root_sha []
    obtain ⟨y, hy, hyr, hy0, hy1, hy2⟩ := root_sha m
    refine meetB_of hx hy (fun e => ?_) (by rw [← hxr, hr, hyr])
    have h0 := hx0 rfl
    have hm : m.length ≠ 0 := fun h => hne (List.eq_nil_of_length_eq_zero h).symm
    by_cases h1 : m.length = 1
    · rw [h0, hy1 h1] at e; cases e
    · rw [h0, hy2 (by omega)] at e; cases e
  | n + 1, l, m, h, hr, hne => by
    obtain ⟨x, hx, hxr, hx0, hx1, hx2⟩ := root_sha l
    obtain ⟨y, hy, hyr, hy0, hy1, hy2⟩ := root_sha m
    by_cases e : x = y
    · have hc : (l.length = 0 ∧ m.length = 0) ∨ (l.length = 1 ∧ m.length = 1) ∨ (2 ≤ l.length ∧ 2 ≤ m.length) := by
        rcases (by omega : l.length = 0 ∨ l.length = 1 ∨ 2 ≤ l.length) with a | a | a <;> rcases (by omega : m.length = 0 ∨ m.length = 1 ∨ 2 ≤ m.length) with b | b | b
        · exact .inl ⟨a, b⟩
        · rw [hx0 a, hy1 b] at e; cases e
        · rw [hx0 a, hy2 b] at e; cases e
        · rw [hx1 a, hy0 b] at e; cases e
        · exact .inr (.inl ⟨a, b⟩)
        · rw [hx1 a, hy2 b] at e; simp at e
        · rw [hx2 a, hy0 b] at e; cases e
        · rw [hx2 a, hy1 b] at e; simp at e
        · exact .inr (.inr ⟨a, b⟩)
      rcases hc with ⟨a, b⟩ | ⟨a, b⟩ | ⟨a, b⟩
      · exact absurd ((List.eq_nil_of_length_eq_zero a).trans (List.eq_nil_of_length_eq_zero b).symm) hne
      · rw [hx1 a, hy1 b] at e
        injection e with _ e
        match l, a, m, b with
        | [u], _, [v], _ => exact absurd (congrArg (fun z => [z]) (show u = v from e)) hne
      · rw [hx2 a, hy2 b] at e
        injection e with _ e
        have hlb := leftN_bd a
        obtain ⟨e1, e2⟩ := List.append_inj e (by rw [rootL_length, rootL_length])
        have hsl : ∀ z ∈ hashedL (l.take (leftN l.length)), z ∈ hashedL l := fun z hz => by rw [hashedL_split a]; exact List.mem_append_left _ (List.mem_append_left _ hz)
        have hsl2 : ∀ z ∈ hashedL (l.drop (leftN l.length)), z ∈ hashedL l := fun z hz => by rw [hashedL_split a]; exact List.mem_append_left _ (List.mem_append_right _ hz)
        have hsm : ∀ z ∈ hashedL (m.take (leftN m.length)), z ∈ hashedL m := fun z hz => by rw [hashedL_split b]; exact List.mem_append_left _ (List.mem_append_left _ hz)
        have hsm2 : ∀ z ∈ hashedL (m.drop (leftN m.length)), z ∈ hashedL m := fun z hz => by rw [hashedL_split b]; exact List.mem_append_left _ (List.mem_append_right _ hz)
        by_cases ht : l.take (leftN l.length) = m.take (leftN m.length)
        · have hd : l.drop (leftN l.length) ≠ m.drop (leftN m.length) := fun hd => hne (by rw [← List.take_append_drop (leftN l.length) l, ht, hd, List.take_append_drop])
          obtain ⟨u, hu, v, hv, huv⟩ := meetB_iff.1 (roots_bind n _ _ (by rw [List.length_drop]; omega) e2 hd)
          exact meetB_iff.2 ⟨u, hsl2 u hu, v, hsm2 v hv, huv⟩
        · obtain ⟨u, hu, v, hv, huv⟩ := meetB_iff.1 (roots_bind n _ _ (by rw [List.length_take]; omega) e1 ht)
          exact meetB_iff.2 ⟨u, hsl u hu, v, hsm v hv, huv⟩
    · exact meetB_of hx hy e (by rw [← hxr, hr, hyr])
/-- Another entry at a place of a list: a collision among what is hashed. -/
theorem proved_plain {c : List Bytes} {k : Nat} {s : Bytes} {q : List Bytes} (hk : k < c.length) (h : verB (rootL c) (c.length : Nat) (k : Nat) s q = true) (hne : s ≠ c.getD k []) : meetB (hashedL c) (wayR q.reverse c.length k s).1 = true := by
  unfold verB at h
  simp only [Bool.and_eq_true, beq_iff_eq, Int.toNat_natCast] at h
  have hq : ∀ x ∈ q.reverse, x.length = 32 := fun x hx => by
    have := List.all_eq_true.1 h.1.2 x (List.mem_reverse.1 hx)
    simpa using this
  have hp : ∀ x ∈ (proofL c k).reverse, x.length = 32 := fun x hx => proofL_dig c.length c k (Nat.le_refl _) x (List.mem_reverse.1 hx)
  have hb := binding (proofL c k).reverse q.reverse c.length k (c.getD k []) s (rootL c) hp hq (fun e => hne e.symm) (valR_proof c.length c k (Nat.le_refl _) hk) h.2
  obtain ⟨u, hu, v, hv, huv⟩ := meetB_iff.1 (coll_meet hb)
  exact meetB_iff.2 ⟨u, way_hashed c.length c k (Nat.le_refl _) hk u hu, v, hv, huv⟩
/-- The strings that are hashed for the old and the new root of an extension, and both values; the proof's last element first. -/
def sides3R (old : Bytes) : List Bytes → Nat → Nat → Bool → List Bytes × Bytes × Bytes
  | [], _, _, _ => ([], old, old)
  | x :: t, m, n, whole => if n ≤ m then ([], if whole then old else (x :: t).getLastD [], if whole then old else (x :: t).getLastD []) else
    if m ≤ leftN n then ((sides3R old t m (leftN n) whole).1 ++ [1 :: ((sides3R old t m (leftN n) whole).2.2 ++ x)], (sides3R old t m (leftN n) whole).2.1, nodeB (sides3R old t m (leftN n) whole).2.2 x)
    else ((sides3R old t (m - leftN n) (n - leftN n) false).1 ++ [1 :: (x ++ (sides3R old t (m - leftN n) (n - leftN n) false).2.1), 1 :: (x ++ (sides3R old t (m - leftN n) (n - leftN n) false).2.2)], nodeB x (sides3R old t (m - leftN n) (n - leftN n) false).2.1, nodeB x (sides3R old t (m - leftN n) (n - leftN n) false).2.2)
theorem sides3_sub (old : Bytes) : ∀ (p : List Bytes) (m n : Nat) (whole : Bool), (sides3R old p m n whole).2.2 = (sidesR old p m n whole).2 ∧ ∀ x ∈ (sidesR old p m n whole).1, x ∈ (sides3R old p m n whole).1
  | [], m, n, whole => ⟨rfl, fun x hx => by simp [sidesR] at hx⟩
  | x :: t, m, n, whole => by
    unfold sides3R sidesR
    by_cases h1 : n ≤ m
    · rw [if_pos h1, if_pos h1]
      exact ⟨rfl, fun y hy => by simp at hy⟩
    · rw [if_neg h1, if_neg h1]
      by_cases h2 : m ≤ leftN n
      · obtain ⟨e, ih⟩ := sides3_sub old t m (leftN n) whole
        rw [if_pos h2, if_pos h2, e]
        refine ⟨rfl, fun y hy => ?_⟩
        rcases List.mem_cons.1 hy with rfl | hy
        · simp
        · exact List.mem_append_left _ (ih y hy)
      · obtain ⟨e, ih⟩ := sides3_sub old t (m - leftN n) (n - leftN n) false
        rw [if_neg h2, if_neg h2, e]
        refine ⟨rfl, fun y hy => ?_⟩
        rcases List.mem_cons.1 hy with rfl | hy
        · simp
        · exact List.mem_append_left _ (ih y hy)
/-- A list that is accepted as the beginning of another one, and is not: a collision. -/
theorem grows_plain {c d : List Bytes} {many : Nat} {q l : List Bytes} (h1 : 1 ≤ many) (hm : many ≤ c.length) (hd : d.length = many) (hne : d ≠ c.take many) (h : verExtB (rootL d) (many : Nat) (rootL c) (c.length : Nat) q = true)
    (hc : ∀ x ∈ hashedL c, x ∈ l) (hdl : ∀ x ∈ hashedL d, x ∈ l) (ht : ∀ x ∈ hashedL (c.take many), x ∈ l) (hs1 : ∀ x ∈ (sides3R (rootL d) q.reverse many c.length true).1, x ∈ l) (hs2 : ∀ x ∈ (sides3R (rootL (c.take many)) (partL c many true).reverse many c.length true).1, x ∈ l) : outB l = true := by
  unfold verExtB at h
  simp only [Bool.and_eq_true, decide_eq_true_eq, Int.toNat_natCast] at h
  obtain ⟨⟨⟨⟨⟨_, _⟩, h5⟩, _⟩, _⟩, h8⟩ := h
  rw [if_neg (by omega)] at h8
  by_cases he : many = c.length
  · rw [if_pos (by omega), Bool.and_eq_true, beq_iff_eq] at h8
    have ht' : c.take many = c := List.take_of_length_le (by omega)
    rw [ht'] at hne
    exact meetB_out (roots_bind d.length d c (Nat.le_refl _) h8.2 hne) hdl hc
  · rw [if_neg (by omega), beq_iff_eq] at h8
    by_cases hr : rootL d = rootL (c.take many)
    · exact meetB_out (roots_bind d.length d _ (Nat.le_refl _) hr hne) hdl ht
    · have hq : ∀ x ∈ q.reverse, x.length = 32 := fun x hx => by
        have := List.all_eq_true.1 h5 x (List.mem_reverse.1 hx)
        simpa using this
      have hp : ∀ x ∈ (partL c many true).reverse, x.length = 32 := fun x hx => partL_dig c.length c many true (Nat.le_refl _) h1 hm x (List.mem_reverse.1 hx)
      have hb := extBinding (rootL d) (rootL (c.take many)) (rootL_length _) (rootL_length _) q.reverse (partL c many true).reverse many c.length true _ _ _ hq hp h1 hm hr h8 (bothR_part c.length c many true _ (Nat.le_refl _) h1 hm (fun _ => rfl))
      exact meetB_out (coll_meet hb) (fun x hx => hs1 x ((sides3_sub _ _ _ _ _).2 x hx)) (fun x hx => hs2 x ((sides3_sub _ _ _ _ _).2 x hx))
end Go.Proofs.YtcgopilkajfghaaGreatDoor
end
