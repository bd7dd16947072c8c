/- justify.Retract. -/
import Derived.Test.YtmihkbiihfhpoaaDoorJApi
import Derived.Deep.RegionHeld3
import Derived.Deep.Light
import Derived.Deep.RegionWith
import Derived.WalkSmall
namespace Go.Proofs.YtmihkbiihfhpoaaDoor
open Go.RowKit Go.Shelf
attribute [local go_sem] i64_and1

/-- A set without another one. -/
def sdiff (a b : Nat) : Nat := a ^^^ (a &&& b)
theorem testBit_sdiff (a b i : Nat) : (sdiff a b).testBit i = (a.testBit i && !b.testBit i) := by
  unfold sdiff
  rw [Nat.testBit_xor, Nat.testBit_and]
  cases a.testBit i <;> cases b.testBit i <;> rfl
theorem sdiff_le (a b : Nat) : sdiff a b ≤ a := by
  have h : sdiff a b = a &&& (sdiff a b) := by
    apply Nat.eq_of_testBit_eq
    intro i
    rw [Nat.testBit_and, testBit_sdiff]
    cases a.testBit i <;> rfl
  rw [h]
  exact Nat.and_le_left
theorem i64_andNot (a b : Nat) (ha : a < 9223372036854775808) : bits .andNot .i64 (a : Int) (b : Int) = ((sdiff a b : Nat) : Int) := by
  have hle := sdiff_le a b
  have e : (BitVec.ofInt 64 (a : Int) &&& ~~~ (BitVec.ofInt 64 (b : Int))).toNat = sdiff a b := by
    apply Nat.eq_of_testBit_eq
    intro i
    have e1 : BitVec.ofInt 64 (a : Int) = BitVec.ofNat 64 a := by apply BitVec.eq_of_toNat_eq; rw [BitVec.toNat_ofInt, BitVec.toNat_ofNat]; omega
    have e2 : BitVec.ofInt 64 (b : Int) = BitVec.ofNat 64 b := by apply BitVec.eq_of_toNat_eq; rw [BitVec.toNat_ofInt, BitVec.toNat_ofNat]; omega
    rw [e1, e2, BitVec.testBit_toNat, BitVec.getLsbD_and, BitVec.getLsbD_not, BitVec.getLsbD_ofNat, BitVec.getLsbD_ofNat, testBit_sdiff]
    by_cases hi : i < 64
    · simp [hi]
    · have hp : (2 : Nat) ^ 63 ≤ 2 ^ i := Nat.pow_le_pow_right (by omega) (by omega)
      have : a < 2 ^ i := by omega
      simp [hi, Nat.testBit_lt_two_pow this]
  show IntKind.i64.wrap ((BitVec.ofInt 64 (a : Int) &&& ~~~ (BitVec.ofInt 64 (b : Int))).toNat : Int) = _
  rw [e, IntKind.wrap_i64]
  omega

def retB (t : JTh) (z o : Int) : Bool := setB t z && inB o 0 (t.seen - 1)
def retractL (t : JTh) (z o : Int) : List Int := if retB t z o then listB (sdiff (heldF t.rules z.toNat).1 (heldF t.rules (sdiff z.toNat (2 ^ o.toNat))).1) else []
set_option maxRecDepth 100000 in
set_option maxHeartbeats 1000000 in
theorem retract_any (t : JTh) (rv : Value) (z o : Int) (w : World) (hR : RulesAt w.heap.size w rv t.rules) (hT : Tabs w) :
    Calls Tryd.prog 22 #[thV t.seen t.drawn rv, .int .i64 z, .int .i64 o] w fun e w' => ∃ v, e = .returned (.tuple #[v, .int .i64 (errOf (retB t z o))]) ∧ OwnI w.heap.size w' v (retractL t z o) ∧ Below w.heap.size w w' := by
  obtain ⟨ra, rc, rfl, _, _⟩ := hR.shape
  have HR0 := Lib.hid hR
  have HR := Lib.hid (box_rules hR)
  have hb0 : Below w.heap.size w (w.alloc (.cells #[.int .i64 t.seen, .int .i64 t.drawn, .slice ra t.rules.length rc] 25)) := (Below.refl _ _).alloc (Nat.le_refl _) _
  have HB0 := Lib.hid hb0
  have HT := Lib.hid hT
  have hTb := ThBox.new w t.seen t.drawn (.slice ra t.rules.length rc)
  have HTb := Lib.hid hTb
  have h2 := hT.2
  have HL : Hid (retractL t z o = if retB t z o then listB (sdiff (heldF t.rules z.toNat).1 (heldF t.rules (sdiff z.toNat (2 ^ o.toNat))).1) else []) := rfl
  have HE : Hid (retB t z o = (setB t z && inB o 0 (t.seen - 1))) := rfl
  clear hR hb0 hT hTb
  cases hv : setB t z
  · rw [hv, Bool.false_and] at HE
    rw [HE.out] at HL ⊢
    go_enter Tryd.func22, Tryd.ntmps22
    go_wp2_with (go_at_call 47; refine (isSet_any t _ _ _ HR.out).mono ?_; rintro e w2 ⟨rfl, hb2⟩; rw [hv])
    go_ret2
    exact ⟨_, rfl, by rw [HL.out]; exact OwnI.nil _ _, HB0.out.trans (hb2.mono HB0.out.size)⟩
  · rw [hv, Bool.true_and] at HE
    obtain ⟨hval, hz0, hz1, hz2⟩ := set_facts hv
    obtain ⟨n, rfl⟩ := Int.eq_ofNat_of_zero_le hz0
    have hvg := valid_good hval
    have HG := Lib.hid hvg.2.2.1
    have hs := hvg.1
    clear hz1 hvg
    have hn32 : n < 4294967296 := by omega
    cases ho : inB o 0 (t.seen - 1)
    · rw [ho] at HE
      rw [HE.out] at HL ⊢
      go_enter Tryd.func22, Tryd.ntmps22
      go_wp2_with (first | (go_at_call 47; refine (isSet_any t _ _ _ HR.out).mono ?_; rintro e w2 ⟨rfl, hb2⟩; rw [hv]; have hTb2 := HTb.out.below hb2 (by simp); have c0 := hTb2.c0) | (go_at_call 39; refine (isIn_any _ _ _ _).mono ?_; rintro e w' ⟨rfl, rfl⟩; rw [ho]))
      go_ret2
      exact ⟨_, rfl, by rw [HL.out]; exact OwnI.nil _ _, HB0.out.trans (hb2.mono HB0.out.size)⟩
    · rw [ho] at HE
      rw [HE.out] at HL ⊢
      have ho2 := ho
      simp only [inB, Bool.and_eq_true, decide_eq_true_eq] at ho2
      obtain ⟨m, rfl⟩ := Int.eq_ofNat_of_zero_le ho2.1
      have hm : m < 32 := by omega
      rw [Int.toNat_natCast, Int.toNat_natCast] at HL
      have hsh := shl_one m hm
      have hnot := i64_andNot n (2 ^ m) (by omega)
      have hle := sdiff_le n (2 ^ m)
      have HP := Lib.hid (pow_lt32 hm)
      generalize hx : sdiff n (2 ^ m) = x at *
      clear hx
      have hx32 : x < 4294967296 := by omega
      have hlt1 := held_lt HG.out hn32
      have hlt2 := held_lt HG.out hx32
      have hnot2 := i64_andNot (heldF t.rules n).1 (heldF t.rules x).1 (by omega)
      have hle2 := sdiff_le (heldF t.rules n).1 (heldF t.rules x).1
      generalize hy : sdiff (heldF t.rules n).1 (heldF t.rules x).1 = y at *
      clear hy
      have hy32 : y < 4294967296 := by omega
      have HNW : Hid (bits .andNot .i64 (n : Int) (IntKind.i64.wrap (2 ^ m)) = (x : Int)) := by
        show _ = _
        rw [show IntKind.i64.wrap (2 ^ m) = wrap64 (2 ^ m) from by rw [IntKind.wrap_i64, wrap64], hsh, hnot]
      generalize (2 : Nat) ^ m = p at *
      go_enter Tryd.func22, Tryd.ntmps22
      go_wp2_with (first | (go_at_call 47; refine (isSet_any t _ _ _ HR.out).mono ?_; rintro e w2 ⟨rfl, hb2⟩; rw [hv]; have hTb2 := HTb.out.below hb2 (by simp); have c0 := hTb2.c0; have c1 := hTb2.c1; have c2 := hTb2.c2) | (go_at_call 39; refine (isIn_any _ _ _ _).mono ?_; rintro e w' ⟨rfl, rfl⟩; rw [ho]) | (go_at_call 48; refine (held_any _ _ t.rules _ n _ (HR.out.later hb2 (Nat.le_refl _)) HG.out hn32).mono ?_; rintro e w3 ⟨vv, rfl, hown, hb3⟩))
      have z2 := hb2.size
      have z3 := hb3.size
      simp only [World.size_alloc] at z2
      have hB3 : Below w.heap.size w w3 := HB0.out.trans ((hb2.mono (by simp)).trans (hb3.mono (by omega)))
      have hTb3 := hTb2.below hb3 hTb2.lt
      have k0 := hTb3.c0
      have k1 := hTb3.c1
      have k2 := hTb3.c2
      have HTb3 := Lib.hid hTb3
      clear hown c0 c1 c2 hTb2 hTb3
      go_region_held3 (fun W => W.cell? ⟨w.heap.size, 0, none⟩ = some (.int .i64 t.seen) ∧ W.cell? ⟨w.heap.size, 1, none⟩ = some (.int .i64 t.drawn) ∧ W.cell? ⟨w.heap.size, 2, none⟩ = some (.slice ra t.rules.length rc) ∧ Below w.heap.size w W) (first | exact ⟨k0, k1, k2, hB3.drew⟩ | exact ⟨k0', k1', k2', hBc⟩)
        (first | (go_at_call 48; rw [HNW.out]; refine (held_any _ _ t.rules _ x _ (HR0.out.later hB3.drew (Nat.le_refl _)) HG.out hx32).mono ?_; rintro e wc ⟨vc, rfl, hownc, hbc⟩; have hBc : Below w.heap.size w wc := hB3.drew.trans (hbc.mono (by simpa using hB3.size)); have hTbc := HTb3.out.below ((Below.refl w3.heap.size w3).drew.trans hbc) HTb3.out.lt; have k0' := hTbc.c0; have k1' := hTbc.c1; have k2' := hTbc.c2))
      all_goals go_wp2_with (go_at_call 49; refine (listed_any _ _ hy32 (HT.out.below hBc h2)).mono ?_; rintro e w4 ⟨vl, rfl, hownl, hb4⟩)
      all_goals go_ret2
      all_goals exact ⟨vl, rfl, by rw [HL.out]; exact hownl.mono hBc.size, hBc.trans (hb4.mono hBc.size)⟩
end Go.Proofs.YtmihkbiihfhpoaaDoor
