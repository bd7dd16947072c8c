/- The functions of the statements on digest: hex. -/
import Derived.Test.YteemhemnkdgehaaDoorDLawF
import Derived.WalkSpells
namespace Go.Proofs.YteemhemnkdgehaaDoor
open Go.RowKit Go.Shelf

def hexAll : Bytes := [48, 49, 50, 51, 52, 53, 54, 55, 56, 57, 97, 98, 99, 100, 101, 102]
def hexB (l : Bytes) : Bytes := l.flatMap fun b => [hexAll.getD (b.toNat / 16) 0, hexAll.getD (b.toNat % 16) 0]
theorem hexB_succ (l : Bytes) (k : Nat) (h : k < l.length) : hexB (l.take (k + 1)) = hexB (l.take k) ++ [hexAll.getD ((l.getD k 0).toNat / 16) 0] ++ [hexAll.getD ((l.getD k 0).toNat % 16) 0] := by
  rw [take_getD l 0 k h]
  unfold hexB
  rw [List.flatMap_append]
  simp
theorem hexB_len (l : Bytes) : (hexB l).length = 2 * l.length := by
  unfold hexB
  induction l with
  | nil => rfl
  | cons x t ih => rw [List.flatMap_cons, List.length_append, ih]; simp; omega
theorem hex_piece : ∀ j, j < 16 → (bs hexAll).extract j (j + 1) = bs [hexAll.getD j 0] := by decide
set_option maxRecDepth 100000 in
set_option maxHeartbeats 1000000 in
theorem hex_any (l : Bytes) (w : World) (hl : l.length ≤ 1000) :
    Calls Tryd.prog 39 #[.string (bs l)] w fun e w' => e = .returned (.string (bs (hexB l))) ∧ Below w.heap.size w w' := by
  have hz : (bs l).size = l.length := bs_size l
  generalize hS : bs l = S at *
  have HS := Lib.hid hS
  clear hS
  generalize hn : l.length = n at *
  have Hn := Lib.hid hn
  clear hn
  go_enter Tryd.func39, Tryd.ntmps39
  go_wp2
  go_loopw [3, 4] (fun o i wr => ∃ k : Nat, k ≤ n ∧ i = .int .i64 k ∧ o = .string (bs (hexB (l.take k))) ∧ Below w.heap.size w wr) (fun _ i _ => n - (intOf i).toNat)
  case atStart => exact ⟨0, Nat.zero_le _, rfl, rfl, Below.refl _ _⟩
  case round =>
    obtain ⟨k, hk, rfl, rfl, hB⟩ := hrel
    by_cases h1 : k < n
    · have HX := Lib.hid (hexB_succ l k (by rw [Hn.out]; exact h1))
      have hol : (bs (hexB (l.take k))).size ≤ 2000 := by rw [bs_size, hexB_len, List.length_take]; omega
      generalize hexB (l.take k) = o at *
      have hb := list_getD S k (by omega)
      have hgx : l.getD k 0 = S[k]'(by omega) := by rw [← hb, ← HS.out]; rfl
      rw [hgx] at HX
      clear hgx hb
      have hk : k < S.size := by omega
      generalize hx : S[k] = x at *
      have hx256 := x.toNat_lt
      have hp1 := hex_piece (x.toNat / 16) (by omega)
      have hp2 := hex_piece (x.toNat % 16) (by omega)
      generalize hexAll.getD (x.toNat / 16) 0 = h1 at *
      generalize hexAll.getD (x.toNat % 16) 0 = h2 at *
      obtain ⟨q, hq⟩ : ∃ q, q = x.toNat / 16 := ⟨_, rfl⟩
      obtain ⟨r, hr⟩ : ∃ r, r = x.toNat % 16 := ⟨_, rfl⟩
      rw [← hq] at hp1
      rw [← hr] at hp2
      have w1 : IntKind.u8.wrap ((x.toNat : Int) / (16 : Int)) = (q : Int) := by rw [IntWalk.u8_in _ (by omega)]; omega
      have w2 : IntKind.u8.wrap ((q : Int) + 1) = (q : Int) + 1 := IntWalk.u8_in _ (by omega)
      have hxr : (x.toNat : Int) % (16 : Int) = (r : Int) := by omega
      have w4 : IntKind.u8.wrap ((x.toNat : Int) % (16 : Int) + 1) = (x.toNat : Int) % (16 : Int) + 1 := IntWalk.u8_in _ (by omega)
      have w6 : 0 ≤ (x.toNat : Int) % (16 : Int) := by omega
      have w7 : (x.toNat : Int) % (16 : Int) + 1 ≤ 16 := by omega
      have w8 : ((x.toNat : Int) % (16 : Int)).toNat = r := by omega
      have w9 : ((x.toNat : Int) % (16 : Int) + 1).toNat = r + 1 := by omega
      have w10 : 0 ≤ (x.toNat : Int) % (16 : Int) + 1 := by omega
      clear hxr
      have hq16 : q < 16 := by omega
      have hr16 : r < 16 := by omega
      have hq17 : (q : Int) + 1 ≤ 16 := by omega
      have hr17 : (r : Int) + 1 ≤ 16 := by omega
      have HO2 : Hid (bs o ++ bs [h1] ++ bs [h2] = bs (hexB (l.take (k + 1)))) := by show _ = _; rw [HX.out, cat_bs, cat_bs]
      have hp1' : (⟨#[48, 49, 50, 51, 52, 53, 54, 55, 56, 57, 97, 98, 99, 100, 101, 102]⟩ : ByteArray).extract q (q + 1) = bs [h1] := hp1
      have hp2' : (⟨#[48, 49, 50, 51, 52, 53, 54, 55, 56, 57, 97, 98, 99, 100, 101, 102]⟩ : ByteArray).extract r (r + 1) = bs [h2] := hp2
      have e1 : (bs [h1]).size = 1 := bs_size _
      have e2 : (bs [h2]).size = 1 := bs_size _
      have hsz : (⟨#[48, 49, 50, 51, 52, 53, 54, 55, 56, 57, 97, 98, 99, 100, 101, 102]⟩ : ByteArray).size = 16 := rfl
      clear hq hr hp1 hp2 HX
      generalize bs [h1] = X1 at *
      generalize bs [h2] = X2 at *
      generalize bs o = O at *
      have hno1 : ¬ (9223372036854775807 < O.size + X1.size) := by omega
      have hno2 : ¬ (9223372036854775807 < (O ++ X1).size + X2.size) := by rw [ByteArray.size_append]; omega
      have hno3 : ¬ (9223372036854775807 < O.size + X1.size + X2.size) := by omega
      go_wp2
      go_quiet (fail)
      go_wp2
      go_roundw
      case rel => exact ⟨k + 1, by omega, by go_num, by rw [← HO2.out], below_drewN0 hB _⟩
      case measure => simp [intOf]; omega
    · obtain rfl : k = n := by omega
      have HR : Hid (l.take k = l) := List.take_of_length_le (by rw [Hn.out]; exact Nat.le_refl _)
      go_wp2
      go_ret
      exact ⟨by rw [HR.out]; rfl, hB⟩
end Go.Proofs.YteemhemnkdgehaaDoor
