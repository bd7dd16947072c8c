/- justify.Core. -/
import Derived.Test.YtmihkbiihfhpoaaDoorJOnes
namespace Go.Proofs.YtmihkbiihfhpoaaDoor
open Go.RowKit Go.Shelf

def cnt (z : Int) : Nat := (bitsN z.toNat).length
def coreTest (S : Nat) (best x : Int) : Bool := (sdiff x.toNat S == 0) && (decide (best < 0) || decide (cnt x < cnt best))
def coreStep (S : Nat) (best x : Int) : Int := if coreTest S best x then x else best
def coreI (S : Nat) (l : List Int) : Int := l.foldl (coreStep S) (-1)
def coreOk (t : JTh) (z k : Int) : Bool := suppB t k && setB t z
def coreV (t : JTh) (z k : Int) : Int := if coreOk t z k then coreI z.toNat (suppL t k) else -1
theorem foldl_step {α β : Type} (f : β → α → β) (d : α) (b : β) (l : List α) (j : Nat) (h : j < l.length) : (l.take (j + 1)).foldl f b = f ((l.take j).foldl f b) (l.getD j d) := by
  rw [List.take_succ_eq_append_getElem h, List.foldl_append, List.getD_eq_getElem?_getD, List.getElem?_eq_getElem h]
  rfl
theorem leastI_bd (n : Nat) (p : Nat → Bool) (hn : n ≤ 12) (z : Int) (hz : z ∈ leastI n p) : 0 ≤ z ∧ z < 4096 := by
  obtain ⟨m, hm, rfl⟩ := List.mem_map.1 hz
  have h1 := (mem_leastN.1 hm).1
  have h2 := all_lt hn
  omega
theorem leastI_length (n : Nat) (p : Nat → Bool) (hn : n ≤ 12) : (leastI n p).length ≤ 4096 := by
  have h1 := leastTo_length p (2 ^ n)
  have h2 := all_lt hn
  have e : leastI n p = leastTo p (2 ^ n) := rfl
  rw [e]
  omega
theorem suppL_bd (t : JTh) (k : Int) : (suppL t k).length ≤ 4096 ∧ ∀ z ∈ suppL t k, 0 ≤ z ∧ z < 4096 := by
  unfold suppL
  cases h : suppB t k
  · exact ⟨by simp, fun z hz => by simp at hz⟩
  · have hv : validB t = true := by unfold suppB at h; rw [Bool.and_eq_true] at h; exact h.1
    have hn : t.seen.toNat ≤ 12 := by have := (valid_good hv).1; omega
    exact ⟨leastI_length _ _ hn, leastI_bd _ _ hn⟩
theorem coreStep_bd {S : Nat} {best x : Int} (hb : -1 ≤ best ∧ best < 4096) (hx : 0 ≤ x ∧ x < 4096) : -1 ≤ coreStep S best x ∧ coreStep S best x < 4096 := by
  unfold coreStep
  split <;> omega
theorem coreFold_bd (S : Nat) : ∀ (l : List Int) (b : Int), (∀ z ∈ l, 0 ≤ z ∧ z < 4096) → -1 ≤ b ∧ b < 4096 → -1 ≤ l.foldl (coreStep S) b ∧ l.foldl (coreStep S) b < 4096
  | [], b, _, hb => hb
  | x :: l, b, hl, hb => coreFold_bd S l _ (fun z hz => hl z (by simp [hz])) (coreStep_bd hb (hl x (by simp)))

set_option maxRecDepth 100000 in
set_option maxHeartbeats 2000000 in
theorem core_any (t : JTh) (rv : Value) (z k : Int) (w : World) (hR : RulesAt w.heap.size w rv t.rules) :
    Calls Tryd.prog 20 #[thV t.seen t.drawn rv, .int .i64 z, .int .i64 k] w fun e w' => e = .returned (.tuple #[.int .i64 (max (coreV t z k) 0), .bool (decide (0 ≤ coreV t z k))]) ∧ Below w.heap.size w w' := by
  obtain ⟨ra, rc, rfl, _, _⟩ := hR.shape
  have HR := Lib.hid (box_rules hR)
  have hb0 : Below w.heap.size w (w.alloc (.cells #[.int .i64 t.seen, .int .i64 t.drawn, .slice ra t.rules.length rc] 25)) := (Below.refl _ _).alloc (Nat.le_refl _) _
  have HB0 := Lib.hid hb0
  have HTb := Lib.hid (ThBox.new w t.seen t.drawn (.slice ra t.rules.length rc))
  have HV : Hid (coreV t z k = if coreOk t z k then coreI z.toNat (suppL t k) else -1) := rfl
  have HE : Hid (coreOk t z k = (suppB t k && setB t z)) := rfl
  clear hR hb0
  cases hv : suppB t k
  · rw [hv, Bool.false_and] at HE
    rw [HE.out] at HV
    have HVV : Hid (coreV t z k = -1) := HV
    have he : errOf false = 230 := rfl
    go_enter Tryd.func20, Tryd.ntmps20
    go_wp2_with (go_at_call 28; refine (supports_any t _ _ _ HR.out).mono ?_; rintro e w2 ⟨vv, rfl, hown, hb2⟩; rw [hv, he])
    go_ret2
    exact ⟨by rw [HVV.out]; rfl, HB0.out.trans (hb2.mono HB0.out.size)⟩
  · rw [hv, Bool.true_and] at HE
    have he : errOf true = 0 := rfl
    cases hs : setB t z
    · rw [hs] at HE
      rw [HE.out] at HV
      have HVV : Hid (coreV t z k = -1) := HV
      go_enter Tryd.func20, Tryd.ntmps20
      go_wp2_with (first | (go_at_call 28; refine (supports_any t _ _ _ HR.out).mono ?_; rintro e w2 ⟨vv, rfl, hown, hb2⟩; rw [hv, he]; have hTb2 := HTb.out.below hb2 (by simp); have c0 := hTb2.c0; have c1 := hTb2.c1; have c2 := hTb2.c2) | (go_at_call 47; refine (isSet_any t _ _ _ (HR.out.later hb2 (Nat.le_refl _))).mono ?_; rintro e w3 ⟨rfl, hb3⟩; rw [hs]))
      go_ret2
      exact ⟨by rw [HVV.out]; rfl, HB0.out.trans ((hb2.mono HB0.out.size).trans (hb3.mono (by have := HB0.out.size; have := hb2.size; omega)))⟩
    · rw [hs] at HE
      rw [HE.out] at HV
      obtain ⟨hval, hz0, hz1, hz2⟩ := set_facts hs
      obtain ⟨S, rfl⟩ := Int.eq_ofNat_of_zero_le hz0
      have HVV : Hid (coreV t (S : Int) k = coreI S (suppL t k)) := by show _ = _; rw [HV.out, Int.toNat_natCast]; rfl
      clear HV hz1 hval
      have hbd := suppL_bd t k
      have HBd := Lib.hid hbd.2
      have hlen := hbd.1
      clear hbd
      generalize hl : suppL t k = l at *
      have Hl := Lib.hid hl
      clear hl
      go_enter Tryd.func20, Tryd.ntmps20
      go_wp2_with (first | (go_at_call 28; refine (supports_any t _ _ _ HR.out).mono ?_; rintro e w2 ⟨vv, rfl, hown, hb2⟩; rw [hv, he]; have hTb2 := HTb.out.below hb2 (by simp); have c0 := hTb2.c0; have c1 := hTb2.c1; have c2 := hTb2.c2; obtain ⟨av, cv, hvv, hcv1, hcv2⟩ := hown.ints.shape; subst hvv) | (go_at_call 47; refine (isSet_any t _ _ _ (HR.out.later hb2 (Nat.le_refl _))).mono ?_; rintro e w3 ⟨rfl, hb3⟩; rw [hs]))
      rw [Hl.out] at hown
      rw [Hl.out]
      have z2 := hb2.size
      have HB3 : Hid (Below w.heap.size w w3) := HB0.out.trans ((hb2.mono (by simp)).trans (hb3.mono (by simp at z2; omega)))
      have HI := Lib.hid (hown.ints.later hb3 (Nat.le_refl _))
      rw [Hl.out] at hcv1
      clear hown c0 c1 c2 hTb2 hb2 hb3 z2 hv hs
      generalize hn : l.length = n at *
      have Hn := Lib.hid hn
      clear hn
      go_loop [10, 29] (fun bv i => ∃ (j : Nat) (b : Int), j ≤ n ∧ i = .int .i64 j ∧ bv = .int .i64 b ∧ Hid (b = (l.take j).foldl (coreStep S) (-1)) ∧ -1 ≤ b ∧ b < 4096) (fun _ i => n - (intOf i).toNat)
      case atStart => exact ⟨0, -1, Nat.zero_le _, rfl, rfl, rfl, by omega, by omega⟩
      case round =>
        obtain ⟨j, b, hj, rfl, rfl, HBest, hb1, hb2⟩ := hrel
        by_cases hlt : j < n
        · obtain ⟨bl, off, hae, _, hcl⟩ := HI.out.at j (by rw [Hn.out]; exact hlt)
          have hxb := HBd.out (l.getD j 0) (getD_mem _ _ _ (by rw [Hn.out]; exact hlt))
          have HSt := Lib.hid (foldl_step (coreStep S) 0 (-1) l j (by rw [Hn.out]; exact hlt))
          rw [← HBest.out] at HSt
          have hsb := coreStep_bd (S := S) ⟨hb1, hb2⟩ hxb
          subst hae
          have jj : (j : Int) < (n : Int) := by omega
          obtain ⟨x, hx⟩ := Int.eq_ofNat_of_zero_le hxb.1
          rw [hx] at hcl HSt hxb hsb
          have HC : Hid (coreStep S b x = if coreTest S b x then (x : Int) else b) := rfl
          have HCT : Hid (coreTest S b x = ((sdiff x S == 0) && (decide (b < 0) || decide (cnt x < cnt b)))) := by show _ = _; simp [coreTest]
          have hnot := i64_andNot x S (by omega)
          have hx4 : x < 4096 := by omega
          have HCx : Hid (cnt x = (bitsN x).length) := by show _ = _; simp [cnt]
          have Hsb := Lib.hid hsb
          clear hx HBest hsb
          generalize sdiff x S = q at *
          by_cases hq : q = 0
          · subst hq
            rw [show ((0 : Nat) == 0) = true from rfl, Bool.true_and] at HCT
            by_cases hbn : b < 0
            · rw [show decide (b < 0) = true from by simp [hbn], Bool.true_or] at HCT
              rw [HCT.out] at HC
              go_wp2
              go_round
              case rel => exact ⟨j + 1, x, by omega, by go_num, rfl, by show _ = _; rw [HSt.out, HC.out]; rfl, by omega, by omega⟩
              case measure => simp [intOf]; omega
            · rw [show decide (b < 0) = false from by simp [hbn], Bool.false_or] at HCT
              obtain ⟨y, rfl⟩ := Int.eq_ofNat_of_zero_le (show 0 ≤ b by omega)
              have hy4 : y < 4096 := by omega
              have HCy : Hid (cnt (y : Nat) = (bitsN y).length) := by show _ = _; simp [cnt]
              rw [HCx.out, HCy.out] at HCT
              have hcx := bitsN_length x
              have hcy := bitsN_length y
              by_cases hc : (bitsN x).length < (bitsN y).length
              · rw [show decide ((bitsN x).length < (bitsN y).length) = true from by simp [hc]] at HCT
                rw [HCT.out] at HC
                go_wp2_with (first | (go_at_call 52; refine (ones_any x _ hx4).mono ?_; rintro e w' ⟨rfl, rfl⟩) | (go_at_call 52; refine (ones_any y _ hy4).mono ?_; rintro e w' ⟨rfl, rfl⟩))
                go_round
                case rel => exact ⟨j + 1, x, by omega, by go_num, rfl, by show _ = _; rw [HSt.out, HC.out]; rfl, by omega, by omega⟩
                case measure => simp [intOf]; omega
              · rw [show decide ((bitsN x).length < (bitsN y).length) = false from by simp; omega] at HCT
                rw [HCT.out] at HC
                go_wp2_with (first | (go_at_call 52; refine (ones_any x _ hx4).mono ?_; rintro e w' ⟨rfl, rfl⟩) | (go_at_call 52; refine (ones_any y _ hy4).mono ?_; rintro e w' ⟨rfl, rfl⟩))
                go_round
                case rel => exact ⟨j + 1, y, by omega, by go_num, rfl, by show _ = _; rw [HSt.out, HC.out]; rfl, by omega, by omega⟩
                case measure => simp [intOf]; omega
          · rw [show (q == 0) = false from by simp [hq], Bool.false_and] at HCT
            rw [HCT.out] at HC
            have hq0 : ((q : Int) == 0) = false := by simp; omega
            go_wp2
            go_round
            case rel => exact ⟨j + 1, b, by omega, by go_num, rfl, by show _ = _; rw [HSt.out, HC.out]; rfl, by omega, by omega⟩
            case measure => simp [intOf]; omega
        · obtain rfl : j = n := by omega
          have HFin : Hid (coreV t (S : Int) k = b) := by show _ = _; rw [HVV.out, HBest.out, List.take_of_length_le (by rw [Hn.out]; exact Nat.le_refl _)]; rfl
          clear HBest
          by_cases hbn : b < 0
          all_goals
            go_wp2
            go_ret2
            exact ⟨by rw [HFin.out]; first | (rw [show max b 0 = 0 from by omega, show decide (0 ≤ b) = false from by simp; omega]; rfl) | (rw [show max b 0 = b from by omega, show decide (0 ≤ b) = true from by simp; omega]; rfl), HB3.out⟩
end Go.Proofs.YtmihkbiihfhpoaaDoor
