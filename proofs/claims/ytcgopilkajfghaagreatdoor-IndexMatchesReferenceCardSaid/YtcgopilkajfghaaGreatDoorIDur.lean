/- During and About of an index. -/
import Derived.Test.YtcgopilkajfghaaGreatDoorIFind
set_option linter.unusedVariables false
set_option linter.unusedSimpArgs false
namespace Go.Proofs.YtcgopilkajfghaaGreatDoor
open Go.RowKit Go.Shelf

def durE (l : List ICard) (f t : Int) : List Int := findE l f t fun _ => true
def aboutE (l : List ICard) (u f t : Int) : List Int := findE l f t fun c => decide (c.unit = u)
set_option maxRecDepth 100000 in
theorem dur1_any (x : ICard) (w : World) : Calls Tryz.prog 49 (#[cardV x] ++ #[]) w fun e w' => e = .returned (.bool true) ∧ Below w.heap.size w w' := by
  have HB : Hid (Below w.heap.size w (w.alloc (.cells (cardR x) 35))) := (Below.refl _ _).alloc (Nat.le_refl _) _
  show Calls Tryz.prog 49 #[cardV x] w _
  go_enter Tryz.func49, Tryz.ntmps49
  go_wp2
  go_ret
  exact ⟨rfl, HB.out⟩
set_option maxRecDepth 100000 in
theorem abt1_any (x : ICard) (u : Int) (b : Nat) (w : World) (hb : BoxN b 3 #[.int .i64 u] w) : Calls Tryz.prog 51 (#[cardV x] ++ #[.pointer (some ⟨b, 0, none⟩)]) w fun e w' => e = .returned (.bool (decide (x.unit = u))) ∧ Below w.heap.size w w' := by
  have HB : Hid (Below w.heap.size w (w.alloc (.cells (cardR x) 35))) := (Below.refl _ _).alloc (Nat.le_refl _) _
  have b0 := BoxN.cell (hb.alloc (.cells (cardR x) 35)) 0 _ rfl
  have hne : b ≠ w.heap.size := by have := hb.lt; omega
  clear hb
  show Calls Tryz.prog 51 #[cardV x, .pointer (some ⟨b, 0, none⟩)] w _
  go_enter Tryz.func51, Tryz.ntmps51
  go_wp2
  go_ret
  exact ⟨by first | rfl | (congr 2; simp) | simp, HB.out⟩
set_option maxRecDepth 100000 in
theorem during_any {S : Nat → Prop} {X : Nat} {l : List ICard} (f t : Int) (w : World) (hN : IdxN S X l w) :
    Calls Tryz.prog 15 #[.pointer (some ⟨X, 0, none⟩), .agg #[.int .i64 f, .int .i64 t]] w fun e w' => ∃ v, e = .returned v ∧ OwnK intK w.heap.size w' v (durE l f t) ∧ Below w.heap.size w w' := by
  obtain ⟨V, hV⟩ : ∃ V, V = w.alloc (.cells #[.int .i64 f, .int .i64 t] 25) := ⟨_, rfl⟩
  have HB0 : Hid (Below w.heap.size w V) := by show Below _ _ _; rw [hV]; exact (Below.refl _ _).alloc (Nat.le_refl _) _
  have HF := Lib.hid (find_any 49 #[] (enters_of Tryz.func49 (by kernel_rfl) rfl) (fun _ => true) f t V (hN.below HB0.out) (fun W x _ => dur1_any x W))
  have k := box_new w 25 #[.int .i64 f, .int .i64 t]
  have k0 := BoxN.cell k 0 _ rfl
  have k1 := BoxN.cell k 1 _ rfl
  have HVe := Lib.hid hV
  clear hN hV k
  go_enter Tryz.func15, Tryz.ntmps15
  go_wp2_with fail
  rw [← HVe.out]
  clear k0 k1
  refine HF.out.mono ?_
  rintro e w' ⟨v, rfl, ho, hb⟩
  have HO := Lib.hid (ho.mono HB0.out.size)
  have HB := Lib.hid (HB0.out.trans (hb.mono HB0.out.size))
  clear ho hb
  go_wp2
  go_ret
  exact ⟨_, rfl, HO.out, HB.out⟩
set_option maxRecDepth 100000 in
theorem about_any {S : Nat → Prop} {X : Nat} {l : List ICard} (u f t : Int) (w : World) (hN : IdxN S X l w) :
    Calls Tryz.prog 17 #[.pointer (some ⟨X, 0, none⟩), .int .i64 u, .agg #[.int .i64 f, .int .i64 t]] w fun e w' => ∃ v, e = .returned v ∧ OwnK intK w.heap.size w' v (aboutE l u f t) ∧ Below w.heap.size w w' := by
  obtain ⟨V, hV⟩ : ∃ V, V = (w.alloc (.cells #[.int .i64 u] 3)).alloc (.cells #[.int .i64 f, .int .i64 t] 25) := ⟨_, rfl⟩
  have HB0 : Hid (Below w.heap.size w V) := by show Below _ _ _; rw [hV]; exact ((Below.refl _ _).alloc (Nat.le_refl _) _).alloc (by simp) _
  have hU : BoxN w.heap.size 3 #[.int .i64 u] V := by rw [hV]; exact (box_new w 3 #[.int .i64 u]).alloc _
  have HF := Lib.hid (find_any 51 #[.pointer (some ⟨w.heap.size, 0, none⟩)] (enters_of Tryz.func51 (by kernel_rfl) rfl) (fun c => decide (c.unit = u)) f t V (hN.below HB0.out) (fun W x hb => abt1_any x u _ W (BoxN.below hU hb hU.lt)))
  have k := box_new (w.alloc (.cells #[.int .i64 u] 3)) 25 #[.int .i64 f, .int .i64 t]
  have k0 := BoxN.cell k 0 _ rfl
  have k1 := BoxN.cell k 1 _ rfl
  have HVe := Lib.hid hV
  clear hN hV k hU
  go_enter Tryz.func17, Tryz.ntmps17
  go_wp2_with fail
  rw [← HVe.out]
  clear k0 k1
  refine HF.out.mono ?_
  rintro e w' ⟨v, rfl, ho, hb⟩
  have HO := Lib.hid (ho.mono HB0.out.size)
  have HB := Lib.hid (HB0.out.trans (hb.mono HB0.out.size))
  clear ho hb
  go_wp2
  go_ret
  exact ⟨_, rfl, HO.out, HB.out⟩
set_option maxRecDepth 100000 in
theorem find_nil (fv : Value) (f t : Int) (w : World) : Calls Tryz.prog 48 #[.pointer none, .agg #[.int .i64 f, .int .i64 t], fv] w fun e w' => e = .returned (.slice none 0 0) ∧ Below w.heap.size w w' := by
  have HB : Hid (Below w.heap.size w (w.alloc (.cells #[.int .i64 f, .int .i64 t] 25))) := (Below.refl _ _).alloc (Nat.le_refl _) _
  go_enter Tryz.func48, Tryz.ntmps48
  go_wp2
  go_ret
  exact ⟨rfl, HB.out⟩
set_option maxRecDepth 100000 in
theorem during_nil (f t : Int) (w : World) : Calls Tryz.prog 15 #[.pointer none, .agg #[.int .i64 f, .int .i64 t]] w fun e w' => e = .returned (.slice none 0 0) ∧ Below w.heap.size w w' := by
  have HB0 : Hid (Below w.heap.size w (w.alloc (.cells #[.int .i64 f, .int .i64 t] 25))) := (Below.refl _ _).alloc (Nat.le_refl _) _
  have HF := Lib.hid (fun fv W => find_nil fv f t W)
  have k := box_new w 25 #[.int .i64 f, .int .i64 t]
  have k0 := BoxN.cell k 0 _ rfl
  have k1 := BoxN.cell k 1 _ rfl
  clear k
  go_enter Tryz.func15, Tryz.ntmps15
  go_wp2_with fail
  clear k0 k1
  refine (HF.out _ _).mono ?_
  rintro e w' ⟨rfl, hb⟩
  have HB := Lib.hid (HB0.out.trans (hb.mono HB0.out.size))
  clear hb HB0
  go_wp2
  go_ret
  exact ⟨rfl, HB.out⟩
set_option maxRecDepth 100000 in
theorem about_nil (u f t : Int) (w : World) : Calls Tryz.prog 17 #[.pointer none, .int .i64 u, .agg #[.int .i64 f, .int .i64 t]] w fun e w' => e = .returned (.slice none 0 0) ∧ Below w.heap.size w w' := by
  have HB0 : Hid (Below w.heap.size w ((w.alloc (.cells #[.int .i64 u] 3)).alloc (.cells #[.int .i64 f, .int .i64 t] 25))) := ((Below.refl _ _).alloc (Nat.le_refl _) _).alloc (by simp) _
  have HF := Lib.hid (fun fv W => find_nil fv f t W)
  have k := box_new (w.alloc (.cells #[.int .i64 u] 3)) 25 #[.int .i64 f, .int .i64 t]
  have k0 := BoxN.cell k 0 _ rfl
  have k1 := BoxN.cell k 1 _ rfl
  clear k
  go_enter Tryz.func17, Tryz.ntmps17
  go_wp2_with fail
  clear k0 k1
  refine (HF.out _ _).mono ?_
  rintro e w' ⟨rfl, hb⟩
  have HB := Lib.hid (HB0.out.trans (hb.mono HB0.out.size))
  clear hb HB0
  go_wp2
  go_ret
  exact ⟨rfl, HB.out⟩
end Go.Proofs.YtcgopilkajfghaaGreatDoor
