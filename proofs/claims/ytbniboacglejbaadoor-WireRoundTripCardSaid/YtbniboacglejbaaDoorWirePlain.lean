/- The encoding of integers, without the program -/
namespace Go.Proofs.YtbniboacglejbaaDoor

/-- The groups of seven bits of a number, the least significant one first; whether a group is the last one. -/
def grp : Nat → Nat → List (Nat × Bool)
  | 0, _ => []
  | k + 1, z => if z < 128 then [(z, true)] else (z % 128, false) :: grp k (z / 128)
def byteOf (x : Nat × Bool) : UInt8 := UInt8.ofNat (if x.2 then x.1 else x.1 + 128)
/-- The encoding of a natural number. -/
def enc (z : Nat) : List UInt8 := (grp 10 z).map byteOf
/-- Zigzag. -/
def zz (n : Int) : Nat := if n < 0 then (-n * 2 - 1).toNat else (n * 2).toNat

theorem grp_lt : ∀ (k z : Nat) (x : Nat × Bool), x ∈ grp k z → x.1 < 128
  | 0, _, x, h => by simp [grp] at h
  | k + 1, z, x, h => by
    unfold grp at h
    split at h
    · simp at h; subst h; assumption
    · rcases List.mem_cons.1 h with rfl | h
      · exact Nat.mod_lt _ (by omega)
      · exact grp_lt k _ x h
theorem grp_length : ∀ (k z : Nat), (grp k z).length ≤ k
  | 0, _ => by simp [grp]
  | k + 1, z => by
    unfold grp
    split
    · simp
    · simp; exact grp_length k _
theorem grp_last (k y : Nat) (h : y < 128) : grp (k + 1) y = [(y, true)] := by simp [grp, h]
theorem grp_more (k y : Nat) (h : ¬ y < 128) : grp (k + 1) y = (y % 128, false) :: grp k (y / 128) := by simp [grp, h]
theorem enc_length (z : Nat) : (enc z).length ≤ 10 := by unfold enc; rw [List.length_map]; exact grp_length 10 z

/-- Decoding: the groups from number i on, z having been read; the number and how many bytes there are. -/
def decGo : Nat → Nat → Nat → List UInt8 → Option (Nat × Nat)
  | 0, _, _, _ => none
  | _ + 1, _, _, [] => none
  | k + 1, i, z, b :: t =>
    if 128 ≤ b.toNat then decGo k (i + 1) (z + b.toNat % 128 * 128 ^ i) t
    else if b.toNat = 0 ∧ 0 < i then none else some (z + b.toNat % 128 * 128 ^ i, i + 1)
/-- Zigzag undone. -/
def unz (z : Nat) : Int := if z % 2 = 0 then (z / 2 : Nat) else -(z / 2 : Nat) - 1
/-- The integer that a string begins with, and the length of its encoding. -/
def dec (l : List UInt8) : Option (Int × Nat) :=
  match decGo 9 0 0 l with
  | some (z, c) => if unz z < -4611686018427387903 then none else some (unz z, c)
  | none => none
end Go.Proofs.YtbniboacglejbaaDoor
