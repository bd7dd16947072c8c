/- The digest as a function on bytes, without the program. -/
import Derived.Lib.Hide
namespace Go.Proofs.YteemhemnkdgehaaDoor

abbrev Bytes := List UInt8
def kTab : List UInt32 := [
  0x428a2f98, 0x71374491, 0xb5c0fbcf, 0xe9b5dba5, 0x3956c25b, 0x59f111f1, 0x923f82a4, 0xab1c5ed5,
  0xd807aa98, 0x12835b01, 0x243185be, 0x550c7dc3, 0x72be5d74, 0x80deb1fe, 0x9bdc06a7, 0xc19bf174,
  0xe49b69c1, 0xefbe4786, 0x0fc19dc6, 0x240ca1cc, 0x2de92c6f, 0x4a7484aa, 0x5cb0a9dc, 0x76f988da,
  0x983e5152, 0xa831c66d, 0xb00327c8, 0xbf597fc7, 0xc6e00bf3, 0xd5a79147, 0x06ca6351, 0x14292967,
  0x27b70a85, 0x2e1b2138, 0x4d2c6dfc, 0x53380d13, 0x650a7354, 0x766a0abb, 0x81c2c92e, 0x92722c85,
  0xa2bfe8a1, 0xa81a664b, 0xc24b8b70, 0xc76c51a3, 0xd192e819, 0xd6990624, 0xf40e3585, 0x106aa070,
  0x19a4c116, 0x1e376c08, 0x2748774c, 0x34b0bcb5, 0x391c0cb3, 0x4ed8aa4a, 0x5b9cca4f, 0x682e6ff3,
  0x748f82ee, 0x78a5636f, 0x84c87814, 0x8cc70208, 0x90befffa, 0xa4506ceb, 0xbef9a3f7, 0xc67178f2]
/-- A word turned right. -/
def rotr (x : UInt32) (n : Nat) : UInt32 := (x >>> UInt32.ofNat n) ||| (x <<< UInt32.ofNat (32 - n))
def mix (x : UInt32) (l : List Nat) : UInt32 := l.foldl (fun o n => o ^^^ rotr x n) 0
/-- Eight words. -/
structure H8 where
  a : UInt32
  b : UInt32
  c : UInt32
  d : UInt32
  e : UInt32
  f : UInt32
  g : UInt32
  h : UInt32
deriving DecidableEq, Inhabited
def H8.list (s : H8) : List UInt32 := [s.a, s.b, s.c, s.d, s.e, s.f, s.g, s.h]
def word (b : Bytes) (i : Nat) : UInt32 := (b.getD (4 * i) 0).toUInt32 <<< 24 ||| (b.getD (4 * i + 1) 0).toUInt32 <<< 16 ||| (b.getD (4 * i + 2) 0).toUInt32 <<< 8 ||| (b.getD (4 * i + 3) 0).toUInt32
def sig0 (x : UInt32) : UInt32 := mix x [7, 18] ^^^ x >>> 3
def sig1 (x : UInt32) : UInt32 := mix x [17, 19] ^^^ x >>> 10
def schedNext (w : List UInt32) (i : Nat) : UInt32 := w.getD (i - 16) 0 + sig0 (w.getD (i - 15) 0) + w.getD (i - 7) 0 + sig1 (w.getD (i - 2) 0)
def schedTo (b : Bytes) : Nat → List UInt32
  | 0 => []
  | i + 1 => let w := schedTo b i; w ++ [if i < 16 then word b i else schedNext w i]
def tU (s : H8) (k w : UInt32) : UInt32 := s.h + mix s.e [6, 11, 25] + ((s.e &&& s.f) ^^^ (~~~s.e &&& s.g)) + k + w
def uU (s : H8) : UInt32 := mix s.a [2, 13, 22] + ((s.a &&& s.b) ^^^ (s.a &&& s.c) ^^^ (s.b &&& s.c))
def rnd (s : H8) (kw : UInt32 × UInt32) : H8 := let t := tU s kw.1 kw.2; ⟨t + uU s, s.a, s.b, s.c, s.d + t, s.e, s.f, s.g⟩
def plusH (s t : H8) : H8 := ⟨s.a + t.a, s.b + t.b, s.c + t.c, s.d + t.d, s.e + t.e, s.f + t.f, s.g + t.g, s.h + t.h⟩
/-- The words of a computation, after so many rounds. -/
def rnds (s : H8) (w : List UInt32) : Nat → H8
  | 0 => s
  | i + 1 => rnd (rnds s w i) (kTab.getD i 0, w.getD i 0)
def blockH (s : H8) (b : Bytes) : H8 := plusH s (rnds s (schedTo b 64) 64)
def shaH0 : H8 := ⟨0x6a09e667, 0xbb67ae85, 0x3c6ef372, 0xa54ff53a, 0x510e527f, 0x9b05688c, 0x1f83d9ab, 0x5be0cd19⟩
def padZ (n : Nat) : Nat := (119 - n % 64) % 64
def lenByte (n i : Nat) : UInt8 := UInt8.ofNat (8 * n / 2 ^ (8 * i))
def pad (l : Bytes) : Bytes := l ++ [128] ++ List.replicate (padZ l.length) 0 ++ (List.range 8).map fun i => lenByte l.length (7 - i)
def blocksH : Nat → H8 → Bytes → H8
  | 0, s, _ => s
  | n + 1, s, b => blocksH n (blockH s (b.take 64)) (b.drop 64)
def bytes4 (x : UInt32) : Bytes := [(x >>> 24).toUInt8, (x >>> 16).toUInt8, (x >>> 8).toUInt8, x.toUInt8]
def outH (s : H8) : Bytes := bytes4 s.a ++ bytes4 s.b ++ bytes4 s.c ++ bytes4 s.d ++ bytes4 s.e ++ bytes4 s.f ++ bytes4 s.g ++ bytes4 s.h
/-- The digest of a string. -/
def sha (l : Bytes) : Bytes := outH (blocksH ((pad l).length / 64) shaH0 (pad l))

theorem outH_length (s : H8) : (outH s).length = 32 := rfl
theorem sha_length (l : Bytes) : (sha l).length = 32 := rfl
theorem schedTo_length (b : Bytes) : ∀ i, (schedTo b i).length = i
  | 0 => rfl
  | i + 1 => by simp only [schedTo, List.length_append, schedTo_length b i]; rfl
theorem schedTo_get (b : Bytes) (i j : Nat) (h : j < i) : (schedTo b i).getD j 0 = (schedTo b (j + 1)).getD j 0 := by
  induction i with
  | zero => omega
  | succ i ih =>
    by_cases e : j = i
    · subst e; rfl
    · rw [← ih (by omega)]
      simp only [schedTo]
      rw [List.getD_eq_getElem?_getD, List.getElem?_append_left (by rw [schedTo_length]; omega), ← List.getD_eq_getElem?_getD]
theorem pad_length (l : Bytes) : (pad l).length = 64 * ((l.length + 72) / 64) := by
  simp only [pad, padZ, List.length_append, List.length_replicate, List.length_map, List.length_range, List.length_cons, List.length_nil]
  omega
theorem padZ_lt (n : Nat) : padZ n < 64 := Nat.mod_lt _ (by decide)
/-- Where the zeros end. -/
theorem padZ_end (n z : Nat) (hz : z ≤ padZ n) : (n + 1 + z) % 64 = 56 ↔ z = padZ n := by
  unfold padZ at *
  omega
theorem blocksH_succ : ∀ (n : Nat) (s : H8) (b : Bytes), blocksH (n + 1) s b = blockH (blocksH n s b) ((b.drop (64 * n)).take 64)
  | 0, s, b => by rw [Nat.mul_zero, List.drop_zero]; rfl
  | n + 1, s, b => by
    have h := blocksH_succ n (blockH s (b.take 64)) (b.drop 64)
    rw [List.drop_drop, show 64 + 64 * n = 64 * (n + 1) from by omega] at h
    exact h
/-- The digests of trees and chains. -/
def leafB (l : Bytes) : Bytes := sha (0 :: l)
def nodeB (a b : Bytes) : Bytes := sha (1 :: (a ++ b))
def chainB (a b : Bytes) : Bytes := sha (2 :: (a ++ b))
theorem sha_empty : sha [] = [0xe3,0xb0,0xc4,0x42,0x98,0xfc,0x1c,0x14,0x9a,0xfb,0xf4,0xc8,0x99,0x6f,0xb9,0x24,0x27,0xae,0x41,0xe4,0x64,0x9b,0x93,0x4c,0xa4,0x95,0x99,0x1b,0x78,0x52,0xb8,0x55] := by decide +kernel
attribute [irreducible] sha
end Go.Proofs.YteemhemnkdgehaaDoor
