/- The functions of the statements on wire: pick, NumberFrom, sane. -/
import Derived.Test.YtbniboacglejbaaDoorWire
namespace Go.Proofs.YtbniboacglejbaaDoor
open Go.RowKit Go.Shelf

/-- pick. -/
def pickZ (c n : Int) : Int := (if c < 0 then -(c + 1) else c).tmod n
theorem pickZ_bd (c n : Int) (hn : 1 ≤ n) : 0 ≤ pickZ c n ∧ pickZ c n < n := by
  unfold pickZ
  have h : 0 ≤ (if c < 0 then -(c + 1) else c) := by split <;> omega
  rw [Int.tmod_eq_emod_of_nonneg h]
  exact ⟨Int.emod_nonneg _ (by omega), Int.emod_lt_of_pos _ (by omega)⟩
set_option maxHeartbeats 400000 in
theorem pick_any (c n : Int) (w : World) (h1 : -9223372036854775808 ≤ c) (h2 : c ≤ 9223372036854775807) (hn : 1 ≤ n) (hn2 : n ≤ 9223372036854775807) :
    Calls Tryd.prog 14 #[.int .i64 c, .int .i64 n] w fun e w' => e = .returned (.int .i64 (pickZ c n)) ∧ w = w' := by
  by_cases hc : c < 0
  · have hp : pickZ c n = (-(c + 1)).tmod n := by rw [pickZ, if_pos hc]
    rw [hp]
    clear hp
    go_enter Tryd.func14, Tryd.ntmps14
    go_wp2
    go_ret
    exact ⟨ret_int (Int.neg_tmod _ _).symm, rfl⟩
  · have hp : pickZ c n = c.tmod n := by rw [pickZ, if_neg hc]
    rw [hp]
    clear hp
    go_enter Tryd.func14, Tryd.ntmps14
    go_wp2
    go_ret
    exact ⟨ret_int (Int.tmod_eq_emod_of_nonneg (by omega)).symm, rfl⟩

theorem cell_alloc_at (W : World) (cs : Array Value) (t : TypeId) (j : Nat) (v : Value) (h : cs[j]? = some v) : (W.alloc (.cells cs t)).cell? ⟨W.heap.size, j, none⟩ = some v := by
  unfold World.cell?
  rw [World.alloc_heap_new W (.cells cs t)]
  exact h
/-- NumberFrom. -/
def numTab : List Int := [64, 128, 8192, 16384, 1073741824, 36028797018963968, 576460752303423488, 2]
def numF (c : Int) : Int :=
  let n := pickZ (pickZ c 4611686018427387904 / 8) (numTab.getD (pickZ c 8).toNat 2)
  if 8 ≤ pickZ c 16 then -n else n

set_option maxRecDepth 100000 in
set_option maxHeartbeats 400000 in
theorem number_at (c : Int) (w : World) (h1 : -9223372036854775808 ≤ c) (h2 : c ≤ 9223372036854775807) (j : Nat) (m : Int) (h8 : pickZ c 8 = j) (hj : j < 8) (hm : numTab.getD j 2 = m) (hm1 : 1 ≤ m) (hm2 : m ≤ 576460752303423488)
    (hcell : ∀ W : World, (W.alloc (.cells #[.int .i64 64, .int .i64 128, .int .i64 8192, .int .i64 16384, .int .i64 1073741824, .int .i64 36028797018963968, .int .i64 576460752303423488, .int .i64 2] 3)).cell? ⟨W.heap.size, j, none⟩ = some (.int .i64 m)) :
    Calls Tryd.prog 11 #[.int .i64 c] w fun e w' => e = .returned (.int .i64 (numF c)) ∧ Below w.heap.size w w' := by
  have hb := pickZ_bd c 4611686018427387904 (by omega)
  have hb2 := pickZ_bd (pickZ c 4611686018427387904 / 8) m hm1
  have hN : numF c = if 8 ≤ pickZ c 16 then -(pickZ (pickZ c 4611686018427387904 / 8) m) else pickZ (pickZ c 4611686018427387904 / 8) m := by
    rw [numF, h8, Int.toNat_natCast, hm]
  have HN := Lib.hid hN
  clear hN hm
  have h8' : (pickZ c 8) = (j : Int) := h8
  clear h8
  by_cases h16 : 8 ≤ pickZ c 16
  all_goals
    go_enter Tryd.func11, Tryd.ntmps11
    go_wp2_with (go_at_call 14; refine (pick_any _ _ _ (by omega) (by omega) (by omega) (by omega)).mono ?_; rintro e w' ⟨rfl, rfl⟩)
    go_ret
    refine ⟨?_, (Below.refl _ _).alloc (Nat.le_refl _) _⟩
    rw [HN.out]
    first | rw [if_pos h16] | rw [if_neg (by omega)]
    rfl
theorem number_any (c : Int) (w : World) (h1 : -9223372036854775808 ≤ c) (h2 : c ≤ 9223372036854775807) :
    Calls Tryd.prog 11 #[.int .i64 c] w fun e w' => e = .returned (.int .i64 (numF c)) ∧ Below w.heap.size w w' := by
  have hb := pickZ_bd c 8 (by omega)
  obtain ⟨j, hj⟩ := Int.eq_ofNat_of_zero_le hb.1
  have hj8 : j < 8 := by omega
  match j, hj8, hj with
  | 0, h, hj => exact number_at c w h1 h2 0 64 hj h rfl (by omega) (by omega) fun W => cell_alloc_at W _ _ 0 _ rfl
  | 1, h, hj => exact number_at c w h1 h2 1 128 hj h rfl (by omega) (by omega) fun W => cell_alloc_at W _ _ 1 _ rfl
  | 2, h, hj => exact number_at c w h1 h2 2 8192 hj h rfl (by omega) (by omega) fun W => cell_alloc_at W _ _ 2 _ rfl
  | 3, h, hj => exact number_at c w h1 h2 3 16384 hj h rfl (by omega) (by omega) fun W => cell_alloc_at W _ _ 3 _ rfl
  | 4, h, hj => exact number_at c w h1 h2 4 1073741824 hj h rfl (by omega) (by omega) fun W => cell_alloc_at W _ _ 4 _ rfl
  | 5, h, hj => exact number_at c w h1 h2 5 36028797018963968 hj h rfl (by omega) (by omega) fun W => cell_alloc_at W _ _ 5 _ rfl
  | 6, h, hj => exact number_at c w h1 h2 6 576460752303423488 hj h rfl (by omega) (by omega) fun W => cell_alloc_at W _ _ 6 _ rfl
  | 7, h, hj => exact number_at c w h1 h2 7 2 hj h rfl (by omega) (by omega) fun W => cell_alloc_at W _ _ 7 _ rfl
theorem numF_bd (c : Int) : -4611686018427387903 ≤ numF c ∧ numF c ≤ 4611686018427387903 := by
  have h : ∀ i : Nat, 1 ≤ numTab.getD i 2 ∧ numTab.getD i 2 ≤ 576460752303423488 := by
    intro i
    match i with
    | 0 => decide
    | 1 => decide
    | 2 => decide
    | 3 => decide
    | 4 => decide
    | 5 => decide
    | 6 => decide
    | 7 => decide
    | i + 8 => exact ⟨(by decide : (1 : Int) ≤ 2), (by decide : (2 : Int) ≤ 576460752303423488)⟩
  have hm := h (pickZ c 8).toNat
  have hb := pickZ_bd (pickZ c 4611686018427387904 / 8) (numTab.getD (pickZ c 8).toNat 2) hm.1
  unfold numF
  dsimp only
  split <;> omega

theorem Nibs.below {w w' : World} (h : Nibs w) (hb : Below w.heap.size w w') (hz : 0 < w.heap.size) : Nibs w' := fun x => (hb.cell (p := ⟨0, _, none⟩) hz).trans (h x)

theorem sane1 : putInt (-64) = ([127], 0) := by decide
theorem sane2 : putInt 64 = ([128, 1], 0) := by decide
theorem sane3 : intAt [97, 172, 2, 98] 1 = tup3 150 3 0 := by rfl
theorem sane4 : intAt [128, 0] 0 = tup3 0 0 10 := by rfl
theorem sane5 : putStr [97, 98] = ([4, 97, 98], 0) := by decide
theorem sane6 : strAt [4, 97, 98, 99] 0 = .tuple #[strV [97, 98], .int .i64 3, .int .i64 0] := by rfl
theorem sane7 : strAt [4, 97] 0 = .tuple #[strV [], .int .i64 0, .int .i64 10] := by rfl
theorem sane8 : putInt 4611686018427387904 = ([], 10) := by decide
theorem sane9 : intAt [] 1 = tup3 0 0 2 := by rfl
theorem sane10 : w32 (crc [49, 50, 51, 52, 53, 54, 55, 56, 57]) = 3808858755 := by decide +kernel
end Go.Proofs.YtbniboacglejbaaDoor
