/- run of the statements on indices: after at most 40 steps the index has the cards of the reference. -/
import Derived.Test.YtcgopilkajfghaaGreatDoorIBase
set_option linter.unusedVariables false
set_option linter.unusedSimpArgs false
namespace Go.Proofs.YtcgopilkajfghaaGreatDoor
open Go.RowKit Go.Shelf

set_option maxRecDepth 100000 in
set_option maxHeartbeats 4000000 in
theorem run_any (v : Value) (N : Nat) (f : Nat → Nat → Int) (w : World) (hX : SixAt w.heap.size w v N f) :
    Calls Tryz.prog 5 #[v] w fun e w' => ∃ S X, e = .returned (.tuple #[.pointer (some ⟨X, 0, none⟩), .bool true]) ∧ IdxN S X (runL f (min N 40)) w' ∧ Below w.heap.size w w' ∧ ∀ k, S k → w.heap.size ≤ k := by
  have HX := Lib.hid hX
  obtain ⟨⟨a, oc, rfl, hac, hcm, hz1⟩, hz2⟩ := hX
  unfold maxLen at hcm
  clear hz1 hz2
  go_enter Tryz.func5, Tryz.ntmps5
  go_wp2_with fail
  refine (new_any _).mono ?_
  rintro e w1 ⟨S0, X, rfl, hN, hb, hS⟩
  have HN0 := Lib.hid hN
  have HB0 := Lib.hid hb
  have HS0 := Lib.hid hS
  clear hN hb hS
  go_wp2
  go_loopw [5, 6] (fun s i wr => ∃ (k : Nat) (S : Nat → Prop) (lv : Value), k ≤ N ∧ k ≤ 40 ∧ i = .int .i64 k ∧ lv = s ∧ Hid (IdxN S X (runL f k) wr) ∧ Hid (RowsAt cardK wr.heap.size wr lv (runL f k)) ∧ Hid (∀ g, lv.ownBlock = some g → ¬ S g ∧ g < wr.heap.size) ∧ Hid (∀ k, S k → w.heap.size ≤ k) ∧ Hid (Below w.heap.size w wr)) (fun _ i _ => 40 - (intOf i).toNat)
  case atStart => exact ⟨0, S0, _, Nat.zero_le _, Nat.zero_le _, rfl, rfl, HN0, Lib.hid (RowsAt.nil _ _), Lib.hid (fun g h => by cases h), HS0, HB0⟩
  case round =>
    obtain ⟨k, S, lv, hkN, hk40, rfl, rfl, HI, HR, HO, HS, HB⟩ := hrel
    have k0 : 0 ≤ (k : Int) := by omega
    by_cases h1 : k < N
    · have k1 : (k : Int) < (N : Int) := by omega
      by_cases h2 : k < 40
      · have k2 : (k : Int) < 40 := by omega
        obtain ⟨gb, off, hae, hgb, ⟨x0, x1, x2, x3, x4, x5⟩, hall⟩ := SixAt.row (HX.out.below HB.out (Nat.le_refl _)) h1
        subst hae
        have HA := Lib.hid hall
        clear hall
        go_wp2_with fail
        refine (step_any (f k) _ HA.out).mono ?_
        rintro e w2 ⟨rfl, hb⟩
        have hb2 : Below w.heap.size w w2 := HB.out.trans (hb.mono HB.out.size)
        have hiok := HI.out.iok
        have HI2 := Lib.hid (HI.out.below hb)
        have HR2 := Lib.hid (HR.out.later hb (Nat.le_refl _))
        have HO2 : Hid (∀ g, lv.ownBlock = some g → ¬ S g ∧ g < w2.heap.size) := fun g hg => ⟨(HO.out g hg).1, Nat.lt_of_lt_of_le (HO.out g hg).2 hb.size⟩
        have HSt : Hid (runL f (k + 1) = if dropsB (f k) then (dropL (runL f k) (cardG (f k)).id).1 else (putL (runL f k) (cardG (f k))).1) := rfl
        have HIn := Lib.hid (cardG_in (f k))
        generalize cardG (f k) = c at *
        clear HI HR HO hb
        have hb9 : Below w2.heap.size w2 (w2.alloc (.cells #[.int .i64 c.id, .int .i64 c.unit, .int .i64 c.kind, .int .i64 c.beg, .int .i64 c.fin] 35)) := (Below.refl _ _).alloc (Nat.le_refl _) _
        have HC9 : Hid (CardN w2.heap.size c (w2.alloc (.cells #[.int .i64 c.id, .int .i64 c.unit, .int .i64 c.kind, .int .i64 c.beg, .int .i64 c.fin] 35))) := box_new w2 _ _
        have HB9 : Hid (Below w.heap.size w (w2.alloc (.cells #[.int .i64 c.id, .int .i64 c.unit, .int .i64 c.kind, .int .i64 c.beg, .int .i64 c.fin] 35))) := hb2.trans (hb9.mono hb2.size)
        have hlt9 : gb < w2.heap.size := Nat.lt_of_lt_of_le hgb hb2.size
        have hgw : gb < w.heap.size := hgb
        obtain ⟨gb', off', hae', hz1, ⟨y0, y1, y2, y3, y4, y5⟩, hz2⟩ := SixAt.row (HX.out.below HB9.out (Nat.le_refl _)) h1
        cases hae'
        clear hz1 hz2
        have HI9 := Lib.hid (HI2.out.below hb9)
        have HR9 := Lib.hid (HR2.out.later hb9 (Nat.le_refl _))
        have HO9 : Hid (∀ g, lv.ownBlock = some g → ¬ S g ∧ g < (w2.alloc (.cells #[.int .i64 c.id, .int .i64 c.unit, .int .i64 c.kind, .int .i64 c.beg, .int .i64 c.fin] 35)).heap.size) := fun g hg => ⟨(HO2.out g hg).1, Nat.lt_of_lt_of_le (HO2.out g hg).2 hb9.size⟩
        clear hb9 hb2 HI2 HR2 HO2 hlt9 hgw
        go_wp2_with fail
        clear x0 x1 x2 x3 x4 x5 y0 y1 y2 y3 y4 y5
        generalize (w2.alloc (.cells #[.int .i64 c.id, .int .i64 c.unit, .int .i64 c.kind, .int .i64 c.beg, .int .i64 c.fin] 35)) = w9 at *
        refine (drops_any (f k) w9 HA.out).mono ?_
        rintro e w3 ⟨rfl, hb⟩
        rw [show decide (pickZ (f k 5) 4 = 0) = dropsB (f k) from rfl]
        have HC3 : Hid (CardN w2.heap.size c w3) := BoxN.below HC9.out hb (BoxN.lt HC9.out)
        have HB3 : Hid (Below w.heap.size w w3) := HB9.out.trans (hb.mono HB9.out.size)
        have HI3 := Lib.hid (HI9.out.below hb)
        have HR3 := Lib.hid (HR9.out.later hb (Nat.le_refl _))
        have HO3 : Hid (∀ g, lv.ownBlock = some g → ¬ S g ∧ g < w3.heap.size) := fun g hg => ⟨(HO9.out g hg).1, Nat.lt_of_lt_of_le (HO9.out g hg).2 hb.size⟩
        clear hb HC9 HB9 HI9 HR9 HO9
        obtain ⟨q0, q1, q2, q3, q4⟩ := CardN.cells HC3.out
        cases hd : dropsB (f k)
        · have HSt2 : Hid (runL f (k + 1) = (putL (runL f k) c).1) := by show _ = _; rw [HSt.out, hd]; rfl
          clear hd HSt
          go_wp2_with fail
          clear q0 q1 q2 q3 q4
          refine (rput_any lv (runL f k) c w3 HR3.out hiok).mono ?_
          rintro e w4 ⟨v', rfl, hr, hb, ho⟩
          have HI4 := Lib.hid (HI3.out.below hb)
          have HB4 : Hid (Below w.heap.size w w4) := HB3.out.trans (hb.mono HB3.out.size)
          have HR4 := Lib.hid hr
          have HO4 : Hid (∀ g, v'.ownBlock = some g → ¬ S g ∧ g < w4.heap.size) := fun g hg => by
            rcases ho g hg with h | h
            · exact ⟨(HO3.out g h).1, Nat.lt_of_lt_of_le (HO3.out g h).2 hb.size⟩
            · exact ⟨fun hs => Nat.lt_irrefl _ (Nat.lt_of_lt_of_le (HI3.out.lt g hs) h.1), h.2⟩
          obtain ⟨q0, q1, q2, q3, q4⟩ := CardN.cells (BoxN.below HC3.out hb (BoxN.lt HC3.out))
          clear hb hr ho HI3 HB3 HR3 HO3 HC3
          go_wp2_with fail
          clear q0 q1 q2 q3 q4
          refine (put_any c w4 HI4.out HIn.out).mono ?_
          rintro e w5 ⟨rfl, S', hi5, ht5, hs5⟩
          have HI5 := Lib.hid hi5
          have HB5 : Hid (Below w.heap.size w w5) := HB4.out.trans (ht5.below HB4.out.size HS.out)
          have HR5 : Hid (RowsAt cardK w5.heap.size w5 v' (putL (runL f k) c).1) := (HR4.out.turnO ht5 (Nat.le_refl _) (fun g hg => (HO4.out g hg).1)).mono ht5.size
          have HO5 : Hid (∀ g, v'.ownBlock = some g → ¬ S' g ∧ g < w5.heap.size) := fun g hg => ⟨fun h => by
            rcases hs5 g h with h | h
            · exact (HO4.out g hg).1 h
            · exact Nat.lt_irrefl _ (Nat.lt_of_lt_of_le (HO4.out g hg).2 h), Nat.lt_of_lt_of_le (HO4.out g hg).2 ht5.size⟩
          have HS5 : Hid (∀ k, S' k → w.heap.size ≤ k) := fun j hj => by
            rcases hs5 j hj with h | h
            · exact HS.out j h
            · exact Nat.le_trans HB4.out.size h
          clear hi5 ht5 hs5 HI4 HB4 HR4 HO4
          generalize (putL (runL f k) c).2 = q at *
          have hqq : (q != q) = false := by simp
          go_wp2
          go_roundw
          case rel => exact ⟨k + 1, S', _, by omega, by omega, by go_num, rfl, by rw [HSt2.out]; exact HI5, by rw [HSt2.out]; exact HR5, HO5, HS5, HB5⟩
          case measure => simp [intOf]; omega
        · have HSt2 : Hid (runL f (k + 1) = (dropL (runL f k) c.id).1) := by show _ = _; rw [HSt.out, hd]; rfl
          clear hd HSt
          go_wp2_with fail
          clear q0 q1 q2 q3 q4
          refine (rdrop_any lv (runL f k) c.id w3 HR3.out hiok).mono ?_
          rintro e w4 ⟨v', rfl, hr, hb, ho⟩
          have HI4 := Lib.hid (HI3.out.below hb)
          have HB4 : Hid (Below w.heap.size w w4) := HB3.out.trans (hb.mono HB3.out.size)
          have HR4 := Lib.hid hr
          have HO4 : Hid (∀ g, v'.ownBlock = some g → ¬ S g ∧ g < w4.heap.size) := fun g hg => by
            rcases ho g hg with h | h
            · exact ⟨(HO3.out g h).1, Nat.lt_of_lt_of_le (HO3.out g h).2 hb.size⟩
            · exact ⟨fun hs => Nat.lt_irrefl _ (Nat.lt_of_lt_of_le (HI3.out.lt g hs) h.1), h.2⟩
          obtain ⟨q0, q1, q2, q3, q4⟩ := CardN.cells (BoxN.below HC3.out hb (BoxN.lt HC3.out))
          clear hb hr ho HI3 HB3 HR3 HO3 HC3
          go_wp2_with fail
          clear q0 q1 q2 q3 q4
          refine (drop_any c.id w4 HI4.out HIn.out).mono ?_
          rintro e w5 ⟨rfl, S', hi5, ht5, hs5⟩
          have HI5 := Lib.hid hi5
          have HB5 : Hid (Below w.heap.size w w5) := HB4.out.trans (ht5.below HB4.out.size HS.out)
          have HR5 : Hid (RowsAt cardK w5.heap.size w5 v' (dropL (runL f k) c.id).1) := (HR4.out.turnO ht5 (Nat.le_refl _) (fun g hg => (HO4.out g hg).1)).mono ht5.size
          have HO5 : Hid (∀ g, v'.ownBlock = some g → ¬ S' g ∧ g < w5.heap.size) := fun g hg => ⟨fun h => by
            rcases hs5 g h with h | h
            · exact (HO4.out g hg).1 h
            · exact Nat.lt_irrefl _ (Nat.lt_of_lt_of_le (HO4.out g hg).2 h), Nat.lt_of_lt_of_le (HO4.out g hg).2 ht5.size⟩
          have HS5 : Hid (∀ k, S' k → w.heap.size ≤ k) := fun j hj => by
            rcases hs5 j hj with h | h
            · exact HS.out j h
            · exact Nat.le_trans HB4.out.size h
          clear hi5 ht5 hs5 HI4 HB4 HR4 HO4
          generalize (dropL (runL f k) c.id).2 = q at *
          have hqq : (q != q) = false := by simp
          go_wp2
          go_roundw
          case rel => exact ⟨k + 1, S', _, by omega, by omega, by go_num, rfl, by rw [HSt2.out]; exact HI5, by rw [HSt2.out]; exact HR5, HO5, HS5, HB5⟩
          case measure => simp [intOf]; omega
      · obtain rfl : k = 40 := by omega
        have hE : min N 40 = 40 := by omega
        go_wp2
        go_ret2
        exact ⟨S, X, rfl, by rw [hE]; exact HI.out, HB.out, HS.out⟩
    · obtain rfl : k = N := by omega
      have hE : min k 40 = k := by omega
      go_wp2
      go_ret2
      exact ⟨S, X, rfl, by rw [hE]; exact HI.out, HB.out, HS.out⟩
end Go.Proofs.YtcgopilkajfghaaGreatDoor
