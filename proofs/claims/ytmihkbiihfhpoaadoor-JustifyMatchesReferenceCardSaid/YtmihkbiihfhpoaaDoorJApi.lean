/- justify.Holds, Check, Retract. -/
import Derived.Test.YtmihkbiihfhpoaaDoorJDer
namespace Go.Proofs.YtmihkbiihfhpoaaDoor
open Go.RowKit Go.Shelf
attribute [local go_sem] i64_and1

theorem heldGo_lt (rs : List JRule) (hG : GoodR rs) : ∀ (k S : Nat) (b : List Int), S < 4294967296 → (heldGo rs k S b).1 < 4294967296
  | 0, S, b, h => h
  | k + 1, S, b, h => by
    cases hf : rs.findIdx? (firesB · S) with
    | none => rw [heldGo_none rs (k + 1) S b hf]; exact h
    | some i =>
      rw [heldGo_some rs k S i b hf]
      apply heldGo_lt rs hG k
      have hi : i < rs.length := by
        rw [List.findIdx?_eq_some_iff_getElem] at hf
        exact hf.1
      have hg := hG.2 (rs.getD i default) (getD_mem _ _ _ hi)
      exact or_addB S _ h hg.2.1 hg.2.2
theorem held_lt {rs : List JRule} (hG : GoodR rs) {S : Nat} (h : S < 4294967296) : (heldF rs S).1 < 4294967296 := heldGo_lt rs hG _ S _ h
theorem set_facts {t : JTh} {z : Int} (h : setB t z = true) : validB t = true ∧ 0 ≤ z ∧ z < 2 ^ t.seen.toNat ∧ z < 4096 := by
  unfold setB at h
  rw [Bool.and_eq_true] at h
  have hv := valid_good h.1
  have h2 := h.2
  simp only [inB, Bool.and_eq_true, decide_eq_true_eq] at h2
  obtain ⟨n, hn⟩ := Int.eq_ofNat_of_zero_le hv.1.1
  rw [hn, Int.toNat_natCast] at h2 ⊢
  have hle : 2 ^ n ≤ 2 ^ 12 := Nat.pow_le_pow_right (by omega) (by omega)
  have e : ((2 : Int) ^ n) = ((2 ^ n : Nat) : Int) := by push_cast; rfl
  rw [e] at h2 ⊢
  generalize 2 ^ n = p at *
  exact ⟨h.1, by omega, by omega, by omega⟩
/-- What a world of a boxed theory bears. -/
theorem box_rules {t : JTh} {rv : Value} {w : World} (hR : RulesAt w.heap.size w rv t.rules) :
    RulesAt (w.alloc (.cells #[.int .i64 t.seen, .int .i64 t.drawn, rv] 25)).heap.size (w.alloc (.cells #[.int .i64 t.seen, .int .i64 t.drawn, rv] 25)) rv t.rules :=
  (hR.below ((Below.refl _ _).alloc (Nat.le_refl _) _) (Nat.le_refl _)).mono (by simp)
theorem RulesAt.later {B : Nat} {w w' : World} {rv : Value} {rs : List JRule} (h : RulesAt w.heap.size w rv rs) (hb : Below B w w') (hB : w.heap.size ≤ B) : RulesAt w'.heap.size w' rv rs := (h.below hb hB).mono hb.size
theorem IntsAt.later {B : Nat} {w w' : World} {v : Value} {l : List Int} (h : IntsAt w.heap.size w v l) (hb : Below B w w') (hB : w.heap.size ≤ B) : IntsAt w'.heap.size w' v l := (h.below hb hB).mono hb.size

def holdsL (t : JTh) (z : Int) : List Int := if setB t z then listB (heldF t.rules z.toNat).1 else []
def errOf (b : Bool) : Int := if b then 0 else 230
set_option maxRecDepth 100000 in
theorem holds_any (t : JTh) (rv : Value) (z : Int) (w : World) (hR : RulesAt w.heap.size w rv t.rules) (hT : Tabs w) :
    Calls Tryd.prog 17 #[thV t.seen t.drawn rv, .int .i64 z] w fun e w' => ∃ v, e = .returned (.tuple #[v, .int .i64 (errOf (setB t z))]) ∧ OwnI w.heap.size w' v (holdsL t z) ∧ Below w.heap.size w w' := by
  obtain ⟨ra, rc, rfl, _, _⟩ := hR.shape
  have HR := Lib.hid (box_rules hR)
  have hb0 : Below w.heap.size w (w.alloc (.cells #[.int .i64 t.seen, .int .i64 t.drawn, .slice ra t.rules.length rc] 25)) := (Below.refl _ _).alloc (Nat.le_refl _) _
  have HB0 := Lib.hid hb0
  have HT := Lib.hid hT
  have hTb := ThBox.new w t.seen t.drawn (.slice ra t.rules.length rc)
  have HTb := Lib.hid hTb
  have h2 := hT.2
  have HL : Hid (holdsL t z = if setB t z then listB (heldF t.rules z.toNat).1 else []) := rfl
  clear hR hb0 hT hTb
  cases hv : setB t z
  · rw [hv] at HL
    go_enter Tryd.func17, Tryd.ntmps17
    go_wp2_with (go_at_call 47; refine (isSet_any t _ _ _ HR.out).mono ?_; rintro e w2 ⟨rfl, hb2⟩; rw [hv])
    go_ret2
    exact ⟨_, rfl, by rw [HL.out]; exact OwnI.nil _ _, HB0.out.trans (hb2.mono HB0.out.size)⟩
  · rw [hv] at HL
    obtain ⟨hval, hz0, hz1, hz2⟩ := set_facts hv
    obtain ⟨n, rfl⟩ := Int.eq_ofNat_of_zero_le hz0
    have HG := Lib.hid (valid_good hval).2.2.1
    have hlt := held_lt HG.out (S := n) (by omega)
    clear hz1
    rw [Int.toNat_natCast] at HL
    have hn32 : n < 4294967296 := by omega
    go_enter Tryd.func17, Tryd.ntmps17
    go_wp2_with (first | (go_at_call 47; refine (isSet_any t _ _ _ HR.out).mono ?_; rintro e w2 ⟨rfl, hb2⟩; rw [hv]; have hTb2 := HTb.out.below hb2 (by simp); have c0 := hTb2.c0; have c1 := hTb2.c1; have c2 := hTb2.c2) | (go_at_call 48; refine (held_any _ _ t.rules _ n _ (HR.out.later hb2 (Nat.le_refl _)) HG.out hn32).mono ?_; rintro e w3 ⟨vv, rfl, hown, hb3⟩) | (go_at_call 49; refine (listed_any _ _ hlt ((((HT.out.below HB0.out h2)).below hb2 (by simp; omega)).below hb3 (by have := hb2.size; simp at this; omega))).mono ?_; rintro e w4 ⟨vl, rfl, hownl, hb4⟩))
    go_ret2
    have z2 := hb2.size
    have z3 := hb3.size
    simp at z2
    exact ⟨vl, rfl, by rw [HL.out]; exact hownl.mono (by omega), HB0.out.trans ((hb2.mono (by simp)).trans ((hb3.mono (by omega)).trans (hb4.mono (by omega))))⟩

def thingB (t : JTh) (k : Int) : Bool := inB k 0 (t.seen + t.drawn - 1)
def checkB (t : JTh) (z k : Int) (l : List Int) : Bool := setB t z && thingB t k && derivesB t.seen t.rules z.toNat k l
set_option maxRecDepth 100000 in
theorem check_any (t : JTh) (rv lv : Value) (z k : Int) (l : List Int) (w : World) (hR : RulesAt w.heap.size w rv t.rules) (hL : IntsAt w.heap.size w lv l) :
    Calls Tryd.prog 26 #[thV t.seen t.drawn rv, .int .i64 z, .int .i64 k, lv] w fun e w' => e = .returned (.bool (checkB t z k l)) ∧ Below w.heap.size w w' := by
  obtain ⟨ra, rc, rfl, _, _⟩ := hR.shape
  obtain ⟨la, lc, rfl, _, _⟩ := hL.shape
  have hb0 : Below w.heap.size w (w.alloc (.cells #[.int .i64 t.seen, .int .i64 t.drawn, .slice ra t.rules.length rc] 25)) := (Below.refl _ _).alloc (Nat.le_refl _) _
  have HR := Lib.hid (box_rules hR)
  have HL := Lib.hid (hL.later hb0 (Nat.le_refl _))
  have HB0 := Lib.hid hb0
  have hTb := ThBox.new w t.seen t.drawn (.slice ra t.rules.length rc)
  have HTb := Lib.hid hTb
  have HC : Hid (checkB t z k l = (setB t z && thingB t k && derivesB t.seen t.rules z.toNat k l)) := rfl
  clear hR hL hb0 hTb
  cases hv : setB t z
  · rw [hv] at HC
    go_enter Tryd.func26, Tryd.ntmps26
    go_wp2_with (go_at_call 47; refine (isSet_any t _ _ _ HR.out).mono ?_; rintro e w2 ⟨rfl, hb2⟩; rw [hv])
    go_ret
    exact ⟨by rw [HC.out]; rfl, HB0.out.trans (hb2.mono HB0.out.size)⟩
  · rw [hv] at HC
    obtain ⟨hval, hz0, hz1, hz2⟩ := set_facts hv
    obtain ⟨n, rfl⟩ := Int.eq_ofNat_of_zero_le hz0
    have hvg := valid_good hval
    have HG := Lib.hid hvg.2.2.1
    have hs := hvg.1
    have hd := hvg.2.1
    clear hz1 hvg
    have hn32 : n < 4294967296 := by omega
    rw [Int.toNat_natCast, Bool.true_and] at HC
    cases hk : thingB t k
    · rw [hk] at HC
      have HK : Hid (inB k 0 (t.seen + t.drawn - 1) = false) := hk
      clear hk
      go_enter Tryd.func26, Tryd.ntmps26
      go_wp2_with (first | (go_at_call 47; refine (isSet_any t _ _ _ HR.out).mono ?_; rintro e w2 ⟨rfl, hb2⟩; rw [hv]; have hTb2 := HTb.out.below hb2 (by simp); have c0 := hTb2.c0; have c1 := hTb2.c1; have c2 := hTb2.c2) | (go_at_call 43; refine (isThing_any _ _ _ _ _ hs hd).mono ?_; rintro e w3 ⟨rfl, hb3⟩; rw [HK.out]))
      go_ret
      exact ⟨by rw [HC.out]; rfl, HB0.out.trans ((hb2.mono HB0.out.size).trans (hb3.mono (by have := HB0.out.size; have := hb2.size; omega)))⟩
    · rw [hk, Bool.true_and] at HC
      have HK : Hid (inB k 0 (t.seen + t.drawn - 1) = true) := hk
      have hk2 := HK.out
      simp only [inB, Bool.and_eq_true, decide_eq_true_eq] at hk2
      obtain ⟨m, rfl⟩ := Int.eq_ofNat_of_zero_le hk2.1
      have hm : m < 32 := by omega
      clear hk
      go_enter Tryd.func26, Tryd.ntmps26
      go_wp2_with (first | (go_at_call 47; refine (isSet_any t _ _ _ HR.out).mono ?_; rintro e w2 ⟨rfl, hb2⟩; rw [hv]; have hTb2 := HTb.out.below hb2 (by simp); have c0 := hTb2.c0; have c1 := hTb2.c1; have c2 := hTb2.c2) | (go_at_call 43; refine (isThing_any _ _ _ _ _ hs hd).mono ?_; rintro e w3 ⟨rfl, hb3⟩; rw [HK.out]; have hTb3 := hTb2.below hb3 hTb2.lt; have c3 := hTb3.c0; have c4 := hTb3.c1; have c5 := hTb3.c2) | (go_at_call 59; refine (derives_any _ _ t.rules _ _ n m l _ ((HR.out.later hb2 (Nat.le_refl _)).later hb3 (Nat.le_refl _)) ((HL.out.later hb2 (Nat.le_refl _)).later hb3 (Nat.le_refl _)) HG.out hn32 hm).mono ?_; rintro e w4 ⟨rfl, hb4⟩))
      go_ret
      exact ⟨by rw [HC.out]; rfl, HB0.out.trans ((hb2.mono HB0.out.size).trans ((hb3.mono (by have := HB0.out.size; have := hb2.size; omega)).trans (hb4.mono (by have := HB0.out.size; have := hb2.size; have := hb3.size; omega))))⟩
end Go.Proofs.YtmihkbiihfhpoaaDoor
