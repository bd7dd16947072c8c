import Derived.Test.YteicimmdcdjagaaGreatDoorMPlain
set_option linter.unusedVariables false
set_option linter.unusedSimpArgs false

/- The digest once more, on natural numbers: for the kernel, which counts with them fast. -/
set_option linter.unusedVariables false
set_option linter.unusedSimpArgs false
namespace Go.Proofs.YteicimmdcdjagaaGreatDoor

def W32 : Nat := 4294967296
def rotN (x n : Nat) : Nat := (x >>> n) ||| ((x <<< (32 - n)) % 4294967296)
theorem rotr_nat (x : UInt32) {n : Nat} (h1 : 0 < n) (h2 : n < 32) : (rotr x n).toNat = rotN x.toNat n := by
  unfold rotr rotN
  rw [UInt32.toNat_or, UInt32.toNat_shiftRight, UInt32.toNat_shiftLeft]
  have e1 : (UInt32.ofNat n).toNat = n := by rw [UInt32.toNat_ofNat']; exact Nat.mod_eq_of_lt (by omega)
  have e2 : (UInt32.ofNat (32 - n)).toNat = 32 - n := by rw [UInt32.toNat_ofNat']; exact Nat.mod_eq_of_lt (by omega)
  rw [e1, e2, Nat.mod_eq_of_lt h2, Nat.mod_eq_of_lt (by omega : 32 - n < 32)]
def b0N (x : Nat) : Nat := rotN x 2 ^^^ rotN x 13 ^^^ rotN x 22
def b1N (x : Nat) : Nat := rotN x 6 ^^^ rotN x 11 ^^^ rotN x 25
def s0N (x : Nat) : Nat := rotN x 7 ^^^ rotN x 18 ^^^ x >>> 3
def s1N (x : Nat) : Nat := rotN x 17 ^^^ rotN x 19 ^^^ x >>> 10
theorem mixN3 (x : UInt32) (a b c : Nat) (h : 0 < a ∧ a < 32 ∧ 0 < b ∧ b < 32 ∧ 0 < c ∧ c < 32) : (mix x [a, b, c]).toNat = rotN x.toNat a ^^^ rotN x.toNat b ^^^ rotN x.toNat c := by
  show (((0 : UInt32) ^^^ rotr x a) ^^^ rotr x b ^^^ rotr x c).toNat = _
  rw [UInt32.toNat_xor, UInt32.toNat_xor, UInt32.toNat_xor, rotr_nat x (by omega) (by omega), rotr_nat x (by omega) (by omega), rotr_nat x (by omega) (by omega)]
  show 0 ^^^ _ ^^^ _ ^^^ _ = _
  rw [Nat.zero_xor]
theorem mixN2 (x : UInt32) (a b : Nat) (h : 0 < a ∧ a < 32 ∧ 0 < b ∧ b < 32) : (mix x [a, b]).toNat = rotN x.toNat a ^^^ rotN x.toNat b := by
  show (((0 : UInt32) ^^^ rotr x a) ^^^ rotr x b).toNat = _
  rw [UInt32.toNat_xor, UInt32.toNat_xor, rotr_nat x (by omega) (by omega), rotr_nat x (by omega) (by omega)]
  show 0 ^^^ _ ^^^ _ = _
  rw [Nat.zero_xor]
theorem sig0_nat (x : UInt32) : (sig0 x).toNat = s0N x.toNat := by
  unfold sig0 s0N
  rw [UInt32.toNat_xor, mixN2 x 7 18 (by decide), UInt32.toNat_shiftRight]
  rfl
theorem sig1_nat (x : UInt32) : (sig1 x).toNat = s1N x.toNat := by
  unfold sig1 s1N
  rw [UInt32.toNat_xor, mixN2 x 17 19 (by decide), UInt32.toNat_shiftRight]
  rfl
/-- Eight words, as numbers. -/
structure N8 where
  a : Nat
  b : Nat
  c : Nat
  d : Nat
  e : Nat
  f : Nat
  g : Nat
  h : Nat
def H8.nat (s : H8) : N8 := ⟨s.a.toNat, s.b.toNat, s.c.toNat, s.d.toNat, s.e.toNat, s.f.toNat, s.g.toNat, s.h.toNat⟩
def chN (e f g : Nat) : Nat := (e &&& f) ^^^ ((4294967295 - e) &&& g)
def majN (a b c : Nat) : Nat := (a &&& b) ^^^ (a &&& c) ^^^ (b &&& c)
def tN (s : N8) (k w : Nat) : Nat := s.h + b1N s.e + chN s.e s.f s.g + k + w
def uN (s : N8) : Nat := b0N s.a + majN s.a s.b s.c
def rndN (s : N8) (k w : Nat) : N8 := ⟨(tN s k w + uN s) % 4294967296, s.a, s.b, s.c, (s.d + tN s k w) % 4294967296, s.e, s.f, s.g⟩
theorem tU_nat (s : H8) (k w : UInt32) : (tU s k w).toNat = tN s.nat k.toNat w.toNat % 4294967296 := by
  unfold tU tN H8.nat chN b1N
  rw [UInt32.toNat_add, UInt32.toNat_add, UInt32.toNat_add, UInt32.toNat_add, UInt32.toNat_xor, UInt32.toNat_and, UInt32.toNat_and, UInt32.toNat_not, mixN3 s.e 6 11 25 (by decide)]
  show _ % 4294967296 = _
  simp only [Nat.add_mod_mod, Nat.mod_add_mod]
  rfl
theorem uU_nat (s : H8) : (uU s).toNat = uN s.nat % 4294967296 := by
  unfold uU uN H8.nat majN b0N
  rw [UInt32.toNat_add, UInt32.toNat_xor, UInt32.toNat_xor, UInt32.toNat_and, UInt32.toNat_and, UInt32.toNat_and, mixN3 s.a 2 13 22 (by decide)]
theorem rnd_nat (s : H8) (k w : UInt32) : (rnd s (k, w)).nat = rndN s.nat k.toNat w.toNat := by
  have e1 : (tU s k w + uU s).toNat = (tN s.nat k.toNat w.toNat + uN s.nat) % 4294967296 := by
    rw [UInt32.toNat_add, tU_nat, uU_nat]
    show (_ + _) % 4294967296 = _
    simp only [Nat.add_mod_mod, Nat.mod_add_mod]
  have e2 : (s.d + tU s k w).toNat = (s.nat.d + tN s.nat k.toNat w.toNat) % 4294967296 := by
    rw [UInt32.toNat_add, tU_nat]
    show (_ + _) % 4294967296 = _
    simp only [Nat.add_mod_mod, Nat.mod_add_mod]
    rfl
  show (⟨(tU s k w + uU s).toNat, s.a.toNat, s.b.toNat, s.c.toNat, (s.d + tU s k w).toNat, s.e.toNat, s.f.toNat, s.g.toNat⟩ : N8) = _
  rw [e1, e2]
  rfl
def wordN (b : Bytes) (i : Nat) : Nat := ((b.getD (4 * i) 0).toNat <<< 24) % 4294967296 ||| ((b.getD (4 * i + 1) 0).toNat <<< 16) % 4294967296 ||| ((b.getD (4 * i + 2) 0).toNat <<< 8) % 4294967296 ||| (b.getD (4 * i + 3) 0).toNat
theorem word_nat (b : Bytes) (i : Nat) : (word b i).toNat = wordN b i := by
  unfold word wordN
  rw [UInt32.toNat_or, UInt32.toNat_or, UInt32.toNat_or, UInt32.toNat_shiftLeft, UInt32.toNat_shiftLeft, UInt32.toNat_shiftLeft]
  rfl
def nextN (w : List Nat) : Nat := (w.getD 15 0 + s0N (w.getD 14 0) + w.getD 6 0 + s1N (w.getD 1 0)) % 4294967296
/-- The schedule, the newest word first. -/
def schedR (b : Bytes) : Nat → List Nat
  | 0 => []
  | i + 1 => (if i < 16 then wordN b i else nextN (schedR b i)) :: schedR b i
theorem schedR_length (b : Bytes) : ∀ i, (schedR b i).length = i
  | 0 => rfl
  | i + 1 => by show (schedR b i).length + 1 = i + 1; rw [schedR_length b i]
theorem getD_rev (w : List UInt32) (l : List Nat) (h : w.map UInt32.toNat = l.reverse) (j k : Nat) (hj : j + k + 1 = l.length) : (w.getD j 0).toNat = l.getD k 0 := by
  have e : w = w := rfl
  have hl : w.length = l.length := by have := congrArg List.length h; simpa using this
  have h1 : (w.map UInt32.toNat)[j]? = l.reverse[j]? := by rw [h]
  rw [List.getElem?_map, List.getElem?_reverse (by omega), List.getElem?_eq_getElem (by omega : j < w.length)] at h1
  rw [List.getD_eq_getElem?_getD, List.getD_eq_getElem?_getD, List.getElem?_eq_getElem (by omega : j < w.length)]
  rw [show l.length - 1 - j = k from by omega] at h1
  rw [← h1]
  rfl
theorem sched_nat (b : Bytes) : ∀ i, (schedTo b i).map UInt32.toNat = (schedR b i).reverse
  | 0 => rfl
  | i + 1 => by
    have ih := sched_nat b i
    have hl := schedR_length b i
    show (schedTo b i ++ [if i < 16 then word b i else schedNext (schedTo b i) i]).map UInt32.toNat = ((if i < 16 then wordN b i else nextN (schedR b i)) :: schedR b i).reverse
    rw [List.map_append, List.reverse_cons, ih]
    congr 1
    show [_] = [_]
    congr 1
    by_cases h : i < 16
    · rw [if_pos h, if_pos h]
      exact word_nat b i
    · rw [if_neg h, if_neg h]
      unfold schedNext nextN
      rw [UInt32.toNat_add, UInt32.toNat_add, UInt32.toNat_add, sig0_nat, sig1_nat, getD_rev _ _ ih (i - 16) 15 (by omega), getD_rev _ _ ih (i - 15) 14 (by omega), getD_rev _ _ ih (i - 7) 6 (by omega), getD_rev _ _ ih (i - 2) 1 (by omega)]
      show _ % 4294967296 = _
      simp only [Nat.add_mod_mod, Nat.mod_add_mod]
def rndsN (s : N8) : List Nat → List Nat → N8
  | k :: ks, w :: ws => rndsN (rndN s k w) ks ws
  | _, _ => s
theorem rndsN_snoc : ∀ (ks ws : List Nat) (s : N8) (k w : Nat), ks.length = ws.length → rndsN s (ks ++ [k]) (ws ++ [w]) = rndN (rndsN s ks ws) k w
  | [], [], s, k, w, _ => rfl
  | k1 :: ks, w1 :: ws, s, k, w, h => rndsN_snoc ks ws (rndN s k1 w1) k w (by simpa using h)
theorem take_snoc {α : Type} (l : List α) (d : α) (k : Nat) (h : k < l.length) : l.take (k + 1) = l.take k ++ [l.getD k d] := by
  rw [List.take_add_one, List.getD_eq_getElem?_getD, List.getElem?_eq_getElem h]
  rfl
theorem rnds_nat (s : H8) (w : List UInt32) (hw : w.length = 64) : ∀ i, i ≤ 64 → (rnds s w i).nat = rndsN s.nat ((kTab.take i).map UInt32.toNat) ((w.take i).map UInt32.toNat)
  | 0, _ => rfl
  | i + 1, h => by
    have hk : kTab.length = 64 := rfl
    rw [take_snoc kTab 0 i (by omega), take_snoc w 0 i (by omega), List.map_append, List.map_append]
    show (rnd (rnds s w i) (kTab.getD i 0, w.getD i 0)).nat = rndsN s.nat (_ ++ [(kTab.getD i 0).toNat]) (_ ++ [(w.getD i 0).toNat])
    rw [rndsN_snoc _ _ _ _ _ (by rw [List.length_map, List.length_map, List.length_take, List.length_take]; omega), rnd_nat, rnds_nat s w hw i (by omega)]
def kN : List Nat := [
  0x428a2f98, 0x71374491, 0xb5c0fbcf, 0xe9b5dba5, 0x3956c25b, 0x59f111f1, 0x923f82a4, 0xab1c5ed5,
  0xd807aa98, 0x12835b01, 0x243185be, 0x550c7dc3, 0x72be5d74, 0x80deb1fe, 0x9bdc06a7, 0xc19bf174,
  0xe49b69c1, 0xefbe4786, 0x0fc19dc6, 0x240ca1cc, 0x2de92c6f, 0x4a7484aa, 0x5cb0a9dc, 0x76f988da,
  0x983e5152, 0xa831c66d, 0xb00327c8, 0xbf597fc7, 0xc6e00bf3, 0xd5a79147, 0x06ca6351, 0x14292967,
  0x27b70a85, 0x2e1b2138, 0x4d2c6dfc, 0x53380d13, 0x650a7354, 0x766a0abb, 0x81c2c92e, 0x92722c85,
  0xa2bfe8a1, 0xa81a664b, 0xc24b8b70, 0xc76c51a3, 0xd192e819, 0xd6990624, 0xf40e3585, 0x106aa070,
  0x19a4c116, 0x1e376c08, 0x2748774c, 0x34b0bcb5, 0x391c0cb3, 0x4ed8aa4a, 0x5b9cca4f, 0x682e6ff3,
  0x748f82ee, 0x78a5636f, 0x84c87814, 0x8cc70208, 0x90befffa, 0xa4506ceb, 0xbef9a3f7, 0xc67178f2]
theorem kN_eq : kTab.map UInt32.toNat = kN := by decide +kernel
def plusN (s t : N8) : N8 := ⟨(s.a + t.a) % 4294967296, (s.b + t.b) % 4294967296, (s.c + t.c) % 4294967296, (s.d + t.d) % 4294967296, (s.e + t.e) % 4294967296, (s.f + t.f) % 4294967296, (s.g + t.g) % 4294967296, (s.h + t.h) % 4294967296⟩
def blockN (s : N8) (b : Bytes) : N8 := plusN s (rndsN s kN (schedR b 64).reverse)
theorem plus_nat (s t : H8) : (plusH s t).nat = plusN s.nat t.nat := by
  unfold plusH plusN H8.nat
  simp only [UInt32.toNat_add]
theorem block_nat (s : H8) (b : Bytes) : (blockH s b).nat = blockN s.nat b := by
  unfold blockH blockN
  have hl : (schedTo b 64).length = 64 := schedTo_length b 64
  rw [plus_nat, rnds_nat s _ hl 64 (Nat.le_refl _), List.take_of_length_le (show (schedTo b 64).length ≤ 64 by rw [hl]; exact Nat.le_refl _), sched_nat, List.take_of_length_le (show kTab.length ≤ 64 from Nat.le_refl _), kN_eq]
def blocksN : Nat → N8 → Bytes → N8
  | 0, s, _ => s
  | n + 1, s, b => blocksN n (blockN s (b.take 64)) (b.drop 64)
theorem blocks_nat : ∀ (n : Nat) (s : H8) (b : Bytes), (blocksH n s b).nat = blocksN n s.nat b
  | 0, s, b => rfl
  | n + 1, s, b => by
    show (blocksH n (blockH s (b.take 64)) (b.drop 64)).nat = blocksN n (blockN s.nat (b.take 64)) (b.drop 64)
    rw [blocks_nat n, block_nat]
def bytes4N (x : Nat) : Bytes := [UInt8.ofNat (x >>> 24), UInt8.ofNat (x >>> 16), UInt8.ofNat (x >>> 8), UInt8.ofNat x]
theorem bytes4_nat (x : UInt32) : bytes4 x = bytes4N x.toNat := by
  have e : ∀ y : UInt32, y.toUInt8 = UInt8.ofNat y.toNat := fun y => rfl
  unfold bytes4 bytes4N
  rw [e, e, e, e, UInt32.toNat_shiftRight, UInt32.toNat_shiftRight, UInt32.toNat_shiftRight]
  rfl
def outN (s : N8) : Bytes := bytes4N s.a ++ bytes4N s.b ++ bytes4N s.c ++ bytes4N s.d ++ bytes4N s.e ++ bytes4N s.f ++ bytes4N s.g ++ bytes4N s.h
theorem out_nat (s : H8) : outH s = outN s.nat := by
  unfold outH outN
  rw [bytes4_nat, bytes4_nat, bytes4_nat, bytes4_nat, bytes4_nat, bytes4_nat, bytes4_nat, bytes4_nat]
  rfl
def h0N : N8 := ⟨0x6a09e667, 0xbb67ae85, 0x3c6ef372, 0xa54ff53a, 0x510e527f, 0x9b05688c, 0x1f83d9ab, 0x5be0cd19⟩
/-- The digest, by natural numbers. -/
def shaN (l : Bytes) : Bytes := outN (blocksN ((pad l).length / 64) h0N (pad l))
theorem sha_nat (l : Bytes) : sha l = shaN l := by
  unfold sha shaN
  rw [out_nat, blocks_nat]
  rfl
theorem sha_fun : (sha : Bytes → Bytes) = shaN := funext sha_nat
/-- Leaves, nodes, roots and values, with any digest. -/
def leafG (h : Bytes → Bytes) (l : Bytes) : Bytes := h (0 :: l)
def nodeG (h : Bytes → Bytes) (a b : Bytes) : Bytes := h (1 :: (a ++ b))
def rootFG (h : Bytes → Bytes) : Nat → List Bytes → Bytes
  | 0, _ => h []
  | k + 1, l => if l.length = 0 then h [] else if l.length = 1 then leafG h (l.getD 0 []) else nodeG h (rootFG h k (l.take (leftN l.length))) (rootFG h k (l.drop (leftN l.length)))
def rootG (h : Bytes → Bytes) (l : List Bytes) : Bytes := rootFG h l.length l
def valG (h : Bytes → Bytes) : List Bytes → Nat → Nat → Bytes → Option Bytes
  | [], n, _, s => if n ≤ 1 then some (leafG h s) else none
  | x :: t, n, i, s => if n ≤ 1 then none else if i < leftN n then (valG h t (leftN n) i s).map (nodeG h · x) else (valG h t (n - leftN n) (i - leftN n) s).map (nodeG h x ·)
theorem leaf_n (l : Bytes) : leafB l = leafG shaN l := by unfold leafB leafG; rw [sha_fun]
theorem node_n (a b : Bytes) : nodeB a b = nodeG shaN a b := by unfold nodeB nodeG; rw [sha_fun]
theorem rootF_n : ∀ (k : Nat) (l : List Bytes), rootF k l = rootFG shaN k l
  | 0, l => by show sha [] = shaN []; rw [sha_fun]
  | k + 1, l => by
    unfold rootF rootFG
    rw [rootF_n k, rootF_n k, sha_fun, leaf_n, node_n]
theorem root_n (l : List Bytes) : rootL l = rootG shaN l := rootF_n _ _
theorem val_n : ∀ (q : List Bytes) (n i : Nat) (s : Bytes), valR q n i s = valG shaN q n i s
  | [], n, i, s => by unfold valR valG; rw [leaf_n]
  | x :: t, n, i, s => by
    unfold valR valG
    rw [val_n t, val_n t]
    have e1 : (fun y => nodeB y x) = fun y => nodeG shaN y x := funext fun y => node_n y x
    have e2 : (fun y => nodeB x y) = fun y => nodeG shaN x y := funext fun y => node_n x y
    rw [e1, e2]
def verG (h : Bytes → Bytes) (root : Bytes) (n i : Int) (s : Bytes) (proof : List Bytes) : Bool := decide (0 ≤ i) && decide (i < n) && digB proof && (valG h proof.reverse n.toNat i.toNat s == some root)
theorem ver_n (root : Bytes) (n i : Int) (s : Bytes) (p : List Bytes) : verB root n i s p = verG shaN root n i s p := by
  unfold verB verG
  rw [val_n]
end Go.Proofs.YteicimmdcdjagaaGreatDoor
