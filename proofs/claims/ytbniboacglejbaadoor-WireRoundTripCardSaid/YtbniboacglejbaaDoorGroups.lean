/- wire.groups yields the groups of a number. -/
import Derived.Test.YtbniboacglejbaaDoorProg
import Derived.Test.YtbniboacglejbaaDoorRange
import Derived.Test.YtbniboacglejbaaDoorWirePlain
import Derived.Lib.Hide
import Derived.Shelf.RegionOpen
import Derived.TacticsInMore
import Derived.LoopNIn
import Derived.LoopIn
namespace Go.Proofs.YtbniboacglejbaaDoor
open Go.RowKit Go.Shelf
attribute [local go_sem] Oper.semAt_some

theorem groups_any (z : Int) (w : World) :
    Calls Tryd.prog 23 #[.int .u64 z] w fun e w' => e = .returned (.func (.func 25) #[] #[.pointer (some ⟨w.heap.size, 0, none⟩)]) ∧ w' = w.alloc (.cells #[.int .u64 z] 49) := by
  go_enter Tryd.func23, Tryd.ntmps23
  go_wp2
  go_ret
  exact ⟨rfl, rfl⟩

/-- The number in a box. -/
def boxNat (w : World) (B : Nat) : Nat := match w.cell? ⟨B, 0, none⟩ with | some (.int _ n) => n.toNat | _ => 0
theorem boxNat_eq {w : World} {B : Nat} {t : TypeId} {k : IntKind} {n : Nat} (h : Boxed w B t (.int k (n : Int))) : boxNat w B = n := by
  unfold boxNat; rw [h.cell]; rfl
theorem u64_and127 (z : Int) : bits .and .u64 z (127 : Int) = z % (128 : Int) := by
  show IntKind.u64.wrap ((BitVec.ofInt 64 z &&& BitVec.ofInt 64 127).toNat : Int) = _
  rw [BitVec.toNat_and, show (BitVec.ofInt 64 127).toNat = 2 ^ 7 - 1 from by decide, Nat.and_two_pow_sub_one_eq_mod, BitVec.toNat_ofInt, IntKind.wrap_u64]
  omega

attribute [local go_sem] u64_and127

set_option maxRecDepth 100000 in
set_option maxHeartbeats 400000 in
theorem groups1_seq (Bz z : Nat) (w : World) (hz : z < 18446744073709551616) (hb : Boxed w Bz 49 (.int .u64 z)) :
    SeqBox Tryd.prog 25 #[.pointer (some ⟨Bz, 0, none⟩)] (fun x : Nat × Bool => #[.int .u8 (x.1 : Int), .bool x.2]) Bz (grp 10 z) w := by
  intro n l J W hW hJs hY h0
  have hb1 : Boxed W Bz 49 (.int .u64 z) := (hW.block _ hb.lt).trans hb
  have HY := Lib.hid hY
  have HJ := Lib.hid hJs
  clear hY hJs hb hW
  refine callsIn_of_wp Tryd.func25 rfl trivial ?_
  simp only [Tryd.ntmps25, List.size_toArray, List.length_cons, List.length_nil, Nat.reduceAdd, Nat.reduceSub, Array.replicate_succ, Array.replicate_zero, List.push_toArray, List.append_toArray, List.nil_append, List.cons_append]
  gi_wp2
  gi_loopw [3] (fun _ wr => ∃ (pre : List (Nat × Bool)) (k y : Nat), Hid (grp 10 z = pre ++ grp (k + 1) y) ∧ y < 128 ^ (k + 1) ∧ y < 18446744073709551616 ∧ Boxed wr Bz 49 (.int .u64 y) ∧ J pre wr) (fun _ wr => boxNat wr Bz)
  case atStart => exact ⟨[], 9, z, Lib.hid rfl, by omega, hz, hb1, h0⟩
  case round =>
    obtain ⟨pre, k, y, hg, hyk, hyz, hby, hJ⟩ := hrel
    have hcell := hby.cell
    by_cases hy : y < 128
    · obtain ⟨fn, tmps, assign, body, hyi, hR⟩ := HY.out pre (y, true) [] wr (by rw [hg.out, grp_last _ _ hy]) hJ
      dsimp only at hyi
      have hm : (y : Int) % 128 = y := by omega
      have hd : decide ((y : Int) < 128) = true := by simp; omega
      gi_wp2
      refine hR.mono ?_
      rintro e W3 ⟨rfl, hJ3, _⟩
      gi_wp2
      refine bodyPost_ret (results_none rfl _ _ _) rfl ?_
      exact ⟨⟨_, rfl⟩, by rw [hg.out, grp_last _ _ hy]; exact hJ3⟩
    · obtain ⟨fn, tmps, assign, body, hyi, hR⟩ := HY.out pre (y % 128, false) (grp k (y / 128)) wr (by rw [hg.out, grp_more _ _ hy]) hJ
      dsimp only at hyi
      rw [show ((y % 128 : Nat) : Int) = (y : Int) % (128 : Int) from by omega] at hyi
      have hd : decide ((y : Int) < 128) = false := by simp; omega
      obtain ⟨k, rfl⟩ : ∃ j, k = j + 1 := by
        cases k with
        | zero => exact absurd hyk hy
        | succ j => exact ⟨j, rfl⟩
      gi_wp2
      refine hR.mono ?_
      rintro e W3 ⟨rfl, hJ3, hk3⟩
      have hb3 : Boxed W3 Bz 49 (.int .u64 y) := hk3.trans hby
      have hc3 := hb3.cell
      have hf3 := hb3.frozen
      clear hk3
      gi_wp2
      go_roundw
      case rel =>
        refine ⟨_, k, y / 128, Lib.hid (by rw [hg.out, grp_more _ _ hy, List.append_assoc]; rfl), ?_, by omega, by rw [Int.natCast_ediv]; exact hb3.set _, HJ.out _ _ _ hJ3⟩
        rw [Nat.pow_succ] at hyk; omega
      case measure => rw [boxNat_eq hby, boxNat_eq (show Boxed _ Bz 49 (.int .u64 ((y / 128 : Nat) : Int)) from by rw [Int.natCast_ediv]; exact hb3.set _)]; omega
end Go.Proofs.YtbniboacglejbaaDoor
