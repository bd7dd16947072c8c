/- justify.Supports, Cuts. -/
import Derived.Test.YtmihkbiihfhpoaaDoorJLeast
namespace Go.Proofs.YtmihkbiihfhpoaaDoor
open Go.RowKit Go.Shelf
attribute [local go_sem] i64_and1

theorem bit_eq1 (S n : Nat) : ((((S : Int) / 2 ^ n) % 2 : Int) == 1) = S.testBit n := by
  have : ((S : Int) / 2 ^ n) % 2 = ((S / 2 ^ n % 2 : Nat) : Int) := by push_cast; rfl
  rw [this, Nat.testBit_eq_decide_div_mod_eq]
  rcases Nat.mod_two_eq_zero_or_one (S / 2 ^ n) with h | h <;> simp [h]
set_option maxRecDepth 100000 in
theorem supports1_any (s d : Int) (rs : List JRule) (rv : Value) (k x T : Nat) (w : World) (hT : ThBox w T s d rv) (hR : RulesAt w.heap.size w rv rs) (hG : GoodR rs) (hk : k < 32) (hx : x < 4294967296) :
    Calls Tryd.prog 62 #[.int .i64 k, .int .i64 x, .pointer (some ⟨T, 0, none⟩)] w fun e w' => e = .returned (.bool (suppP rs k x)) ∧ Below w.heap.size w w' := by
  obtain ⟨a, c, rfl, _, _⟩ := hR.shape
  have c0 := hT.c0
  have c1 := hT.c1
  have c2 := hT.c2
  have HR := Lib.hid hR
  have HG := Lib.hid hG
  have hlt := held_lt hG hx
  have he := bit_eq1 (heldF rs x).1 k
  have HS : Hid (suppP rs k x = (heldF rs x).1.testBit k) := by show _ = _; simp [suppP, bitB, hd]
  rw [HS.out]
  clear hR hG HS hT
  generalize hH : (heldF rs x).1 = H at *
  have HH := Lib.hid hH
  clear hH
  generalize hb : H.testBit k = b at *
  clear hb
  go_enter Tryd.func62, Tryd.ntmps62
  go_wp2_with (go_at_call 48; refine (held_any _ _ rs _ x _ HR.out HG.out hx).mono ?_; rintro e w2 ⟨vv, rfl, _, hb2⟩; rw [HH.out])
  go_ret
  exact ⟨rfl, hb2⟩
theorem egs : ∀ args w, (callFunc 62 args).run Tryd.prog w = .ok (.enter 62 args) w := enters_of Tryd.func62 (by kernel_rfl) rfl
def suppB (t : JTh) (k : Int) : Bool := validB t && thingB t k
def suppL (t : JTh) (k : Int) : List Int := if suppB t k then leastI t.seen.toNat (suppP t.rules k) else []

set_option maxRecDepth 100000 in
theorem supports_any (t : JTh) (rv : Value) (k : Int) (w : World) (hR : RulesAt w.heap.size w rv t.rules) :
    Calls Tryd.prog 28 #[thV t.seen t.drawn rv, .int .i64 k] w fun e w' => ∃ v, e = .returned (.tuple #[v, .int .i64 (errOf (suppB t k))]) ∧ OwnI w.heap.size w' v (suppL t k) ∧ Below w.heap.size w w' := by
  obtain ⟨ra, rc, rfl, _, _⟩ := hR.shape
  have HR := Lib.hid (box_rules hR)
  have hb0 : Below w.heap.size w (w.alloc (.cells #[.int .i64 t.seen, .int .i64 t.drawn, .slice ra t.rules.length rc] 25)) := (Below.refl _ _).alloc (Nat.le_refl _) _
  have HB0 := Lib.hid hb0
  have HTb := Lib.hid (ThBox.new w t.seen t.drawn (.slice ra t.rules.length rc))
  have HL : Hid (suppL t k = if suppB t k then leastI t.seen.toNat (suppP t.rules k) else []) := rfl
  have HE : Hid (suppB t k = (validB t && thingB t k)) := rfl
  clear hR hb0
  cases hv : validB t
  · rw [hv, Bool.false_and] at HE
    rw [HE.out] at HL ⊢
    go_enter Tryd.func28, Tryd.ntmps28
    go_wp2_with (go_at_call 14; refine (valid_any t _ _ HR.out).mono ?_; rintro e w2 ⟨rfl, hb2⟩; rw [hv])
    go_ret2
    exact ⟨_, rfl, by rw [HL.out]; exact OwnI.nil _ _, HB0.out.trans (hb2.mono HB0.out.size)⟩
  · rw [hv, Bool.true_and] at HE
    have hvg := valid_good hv
    have HG := Lib.hid hvg.2.2.1
    have hs := hvg.1
    have hd' := hvg.2.1
    clear hvg
    cases hk : thingB t k
    · rw [hk] at HE
      rw [HE.out] at HL ⊢
      have HK : Hid (inB k 0 (t.seen + t.drawn - 1) = false) := hk
      clear hk
      go_enter Tryd.func28, Tryd.ntmps28
      go_wp2_with (first | (go_at_call 14; refine (valid_any t _ _ HR.out).mono ?_; rintro e w2 ⟨rfl, hb2⟩; rw [hv]; have hTb2 := HTb.out.below hb2 (by simp); have c0 := hTb2.c0; have c1 := hTb2.c1; have c2 := hTb2.c2) | (go_at_call 43; refine (isThing_any _ _ _ _ _ hs hd').mono ?_; rintro e w3 ⟨rfl, hb3⟩; rw [HK.out]))
      go_ret2
      exact ⟨_, rfl, by rw [HL.out]; exact OwnI.nil _ _, HB0.out.trans ((hb2.mono HB0.out.size).trans (hb3.mono (by have := HB0.out.size; have := hb2.size; omega)))⟩
    · rw [hk] at HE
      rw [HE.out] at HL ⊢
      have HK : Hid (inB k 0 (t.seen + t.drawn - 1) = true) := hk
      have hk2 := HK.out
      simp only [inB, Bool.and_eq_true, decide_eq_true_eq] at hk2
      obtain ⟨m, rfl⟩ := Int.eq_ofNat_of_zero_le hk2.1
      have hm : m < 32 := by omega
      obtain ⟨n, hn⟩ := Int.eq_ofNat_of_zero_le hs.1
      have hn12 : n ≤ 12 := by omega
      rw [hn, Int.toNat_natCast] at HL
      have Hn := Lib.hid hn
      clear hk hn
      go_enter Tryd.func28, Tryd.ntmps28
      go_wp2_with (first | (go_at_call 14; refine (valid_any t _ _ HR.out).mono ?_; rintro e w2 ⟨rfl, hb2⟩; rw [hv]; have hTb2 := HTb.out.below hb2 (by simp); have c0 := hTb2.c0; have c1 := hTb2.c1; have c2 := hTb2.c2) | (go_at_call 43; refine (isThing_any _ _ _ _ _ hs hd').mono ?_; rintro e w3 ⟨rfl, hb3⟩; rw [HK.out]; have hTb3 := hTb2.below hb3 hTb2.lt; have c3 := hTb3.c0; have c4 := hTb3.c1; have c5 := hTb3.c2) | (go_at_call 61; refine (least_any _ _ _ _ 62 #[.pointer (some ⟨w.heap.size, 0, none⟩)] egs (suppP t.rules m) n Hn.out hn12 ⟨_, _, _, rfl⟩ _ (fun x W hx hb => supports1_any t.seen t.drawn t.rules _ m x w.heap.size W (hTb3.below hb hTb3.lt) (((HR.out.later hb2 (Nat.le_refl _)).later hb3 (Nat.le_refl _)).later hb (Nat.le_refl _)) HG.out hm hx)).mono ?_; rintro e w4 ⟨vl, rfl, hown, hb4⟩))
      go_ret2
      have z2 := hb2.size
      have z3 := hb3.size
      simp at z2
      exact ⟨vl, rfl, by rw [HL.out]; exact hown.mono (by omega), HB0.out.trans ((hb2.mono (by simp)).trans ((hb3.mono (by omega)).trans (hb4.mono (by omega))))⟩

theorem all_lt {n : Nat} (hn : n ≤ 12) : 2 ^ n ≤ 4096 := Nat.le_trans (Nat.pow_le_pow_right (by omega) hn) (by decide)
set_option maxRecDepth 100000 in
set_option maxHeartbeats 1000000 in
theorem cuts1_any (n : Nat) (d : Int) (rs : List JRule) (rv : Value) (k x T : Nat) (w : World) (hn : n ≤ 12) (hT : ThBox w T n d rv) (hR : RulesAt w.heap.size w rv rs) (hG : GoodR rs) (hk : k < 32) (hx : x < 4294967296) :
    Calls Tryd.prog 63 #[.int .i64 k, .int .i64 x, .pointer (some ⟨T, 0, none⟩)] w fun e w' => e = .returned (.bool (cutP rs n k x)) ∧ Below w.heap.size w w' := by
  obtain ⟨a, c, rfl, _, _⟩ := hR.shape
  have c0 := hT.c0
  have c1 := hT.c1
  have c2 := hT.c2
  have HR := Lib.hid hR
  have HG := Lib.hid hG
  have hsh := shl_one n (by omega)
  have h4 := all_lt hn
  have h0 : 0 < 2 ^ n := Nat.pow_pos (by omega)
  have hnot := i64_andNot (2 ^ n - 1) x (by omega)
  have hle := sdiff_le (2 ^ n - 1) x
  have HS : Hid (cutP rs n k x = !(heldF rs (sdiff (2 ^ n - 1) x)).1.testBit k) := by show _ = _; simp [cutP, bitB, hd]
  rw [HS.out]
  clear HS
  generalize hy : sdiff (2 ^ n - 1) x = y at *
  clear hy
  have hy32 : y < 4294967296 := by omega
  have hlt := held_lt hG hy32
  have he := bit_eq0 (heldF rs y).1 k
  have HNW : Hid (bits .andNot .i64 (IntKind.i64.wrap (IntKind.i64.wrap (2 ^ n) - 1)) (x : Int) = (y : Int)) := by
    show _ = _
    rw [show IntKind.i64.wrap (2 ^ n) = wrap64 (2 ^ n) from by rw [IntKind.wrap_i64, wrap64], hsh, show (((2 ^ n : Nat) : Int) - 1) = ((2 ^ n - 1 : Nat) : Int) from by omega, ← hnot]
    congr 1
    rw [IntKind.wrap_i64]
    omega
  have hTl := hT.lt
  clear hR hG hT hnot
  have HT : Hid (Below w.heap.size w w) := Below.refl _ _
  generalize hH : (heldF rs y).1 = H at *
  have HH := Lib.hid hH
  clear hH
  generalize hb : H.testBit k = b at *
  clear hb
  generalize (2 : Nat) ^ n = p at *
  go_enter Tryd.func63, Tryd.ntmps63
  go_wp2
  have hB := HT.out.drew
  go_region_held3 (fun W => W.cell? ⟨T, 0, none⟩ = some (.int .i64 n) ∧ W.cell? ⟨T, 1, none⟩ = some (.int .i64 d) ∧ W.cell? ⟨T, 2, none⟩ = some (.slice a rs.length c) ∧ Below w.heap.size w W) (first | exact ⟨c0, c1, c2, hB⟩ | exact ⟨k0, k1, k2, hBc⟩)
    (first | (go_at_call 48; rw [HNW.out]; refine (held_any _ _ rs _ y _ (HR.out.later hB (Nat.le_refl _)) HG.out hy32).mono ?_; rintro e wc ⟨vc, rfl, _, hbc⟩; rw [HH.out]; have hBc : Below w.heap.size w wc := hB.trans (hbc.mono hB.size); have k0 := (hBc.cell (p := ⟨T, 0, none⟩) hTl).trans c0; have k1 := (hBc.cell (p := ⟨T, 1, none⟩) hTl).trans c1; have k2 := (hBc.cell (p := ⟨T, 2, none⟩) hTl).trans c2))
  all_goals go_wp2
  all_goals go_ret
  all_goals exact ⟨rfl, hBc⟩
theorem egc : ∀ args w, (callFunc 63 args).run Tryd.prog w = .ok (.enter 63 args) w := enters_of Tryd.func63 (by kernel_rfl) rfl
def cutL (t : JTh) (k : Int) : List Int := if suppB t k then leastI t.seen.toNat (cutP t.rules t.seen.toNat k) else []
set_option maxRecDepth 100000 in
theorem cuts_any (t : JTh) (rv : Value) (k : Int) (w : World) (hR : RulesAt w.heap.size w rv t.rules) :
    Calls Tryd.prog 30 #[thV t.seen t.drawn rv, .int .i64 k] w fun e w' => ∃ v, e = .returned (.tuple #[v, .int .i64 (errOf (suppB t k))]) ∧ OwnI w.heap.size w' v (cutL t k) ∧ Below w.heap.size w w' := by
  obtain ⟨ra, rc, rfl, _, _⟩ := hR.shape
  have HR := Lib.hid (box_rules hR)
  have hb0 : Below w.heap.size w (w.alloc (.cells #[.int .i64 t.seen, .int .i64 t.drawn, .slice ra t.rules.length rc] 25)) := (Below.refl _ _).alloc (Nat.le_refl _) _
  have HB0 := Lib.hid hb0
  have HTb := Lib.hid (ThBox.new w t.seen t.drawn (.slice ra t.rules.length rc))
  have HL : Hid (cutL t k = if suppB t k then leastI t.seen.toNat (cutP t.rules t.seen.toNat k) else []) := rfl
  have HE : Hid (suppB t k = (validB t && thingB t k)) := rfl
  clear hR hb0
  cases hv : validB t
  · rw [hv, Bool.false_and] at HE
    rw [HE.out] at HL ⊢
    go_enter Tryd.func30, Tryd.ntmps30
    go_wp2_with (go_at_call 14; refine (valid_any t _ _ HR.out).mono ?_; rintro e w2 ⟨rfl, hb2⟩; rw [hv])
    go_ret2
    exact ⟨_, rfl, by rw [HL.out]; exact OwnI.nil _ _, HB0.out.trans (hb2.mono HB0.out.size)⟩
  · rw [hv, Bool.true_and] at HE
    have hvg := valid_good hv
    have HG := Lib.hid hvg.2.2.1
    have hs := hvg.1
    have hd' := hvg.2.1
    clear hvg
    cases hk : thingB t k
    · rw [hk] at HE
      rw [HE.out] at HL ⊢
      have HK : Hid (inB k 0 (t.seen + t.drawn - 1) = false) := hk
      clear hk
      go_enter Tryd.func30, Tryd.ntmps30
      go_wp2_with (first | (go_at_call 14; refine (valid_any t _ _ HR.out).mono ?_; rintro e w2 ⟨rfl, hb2⟩; rw [hv]; have hTb2 := HTb.out.below hb2 (by simp); have c0 := hTb2.c0; have c1 := hTb2.c1; have c2 := hTb2.c2) | (go_at_call 43; refine (isThing_any _ _ _ _ _ hs hd').mono ?_; rintro e w3 ⟨rfl, hb3⟩; rw [HK.out]))
      go_ret2
      exact ⟨_, rfl, by rw [HL.out]; exact OwnI.nil _ _, HB0.out.trans ((hb2.mono HB0.out.size).trans (hb3.mono (by have := HB0.out.size; have := hb2.size; omega)))⟩
    · rw [hk] at HE
      rw [HE.out] at HL ⊢
      have HK : Hid (inB k 0 (t.seen + t.drawn - 1) = true) := hk
      have hk2 := HK.out
      simp only [inB, Bool.and_eq_true, decide_eq_true_eq] at hk2
      obtain ⟨m, rfl⟩ := Int.eq_ofNat_of_zero_le hk2.1
      have hm : m < 32 := by omega
      obtain ⟨n, hn⟩ := Int.eq_ofNat_of_zero_le hs.1
      have hn12 : n ≤ 12 := by omega
      rw [hn, Int.toNat_natCast] at HL
      have Hn := Lib.hid hn
      clear hk hn
      go_enter Tryd.func30, Tryd.ntmps30
      go_wp2_with (first | (go_at_call 14; refine (valid_any t _ _ HR.out).mono ?_; rintro e w2 ⟨rfl, hb2⟩; rw [hv]; have hTb2 := HTb.out.below hb2 (by simp); have c0 := hTb2.c0; have c1 := hTb2.c1; have c2 := hTb2.c2) | (go_at_call 43; refine (isThing_any _ _ _ _ _ hs hd').mono ?_; rintro e w3 ⟨rfl, hb3⟩; rw [HK.out]; have hTb3 := hTb2.below hb3 hTb2.lt; have c3 := hTb3.c0; have c4 := hTb3.c1; have c5 := hTb3.c2) | (go_at_call 61; refine (least_any _ _ _ _ 63 #[.pointer (some ⟨w.heap.size, 0, none⟩)] egc (cutP t.rules n m) n Hn.out hn12 ⟨_, _, _, rfl⟩ _ (fun x W hx hb => cuts1_any n t.drawn t.rules _ m x w.heap.size W hn12 (Hn.out ▸ hTb3.below hb hTb3.lt) (((HR.out.later hb2 (Nat.le_refl _)).later hb3 (Nat.le_refl _)).later hb (Nat.le_refl _)) HG.out hm hx)).mono ?_; rintro e w4 ⟨vl, rfl, hown, hb4⟩))
      go_ret2
      have z2 := hb2.size
      have z3 := hb3.size
      simp at z2
      exact ⟨vl, rfl, by rw [HL.out]; exact hown.mono (by omega), HB0.out.trans ((hb2.mono (by simp)).trans ((hb3.mono (by omega)).trans (hb4.mono (by omega))))⟩

end Go.Proofs.YtmihkbiihfhpoaaDoor
