/- justify.isSet, Holds, derives, Check. -/
import Derived.Test.YtmihkbiihfhpoaaDoorJList
namespace Go.Proofs.YtmihkbiihfhpoaaDoor
open Go.RowKit Go.Shelf
attribute [local go_sem] i64_and1

/-- The run of a derivation: the last thing that it gives. -/
def runL (rs : List JRule) : Nat → Int → List Int → Option Int
  | _, last, [] => some last
  | S, _, i :: t => if inB i 0 ((rs.length : Int) - 1) && meetsB (rs.getD i.toNat default).needs S then runL rs (addB S (rs.getD i.toNat default).gives) (rs.getD i.toNat default).gives t else none
def derivesB (s : Int) (rs : List JRule) (S : Nat) (k : Int) (l : List Int) : Bool :=
  if 40 < l.length then false else if l.length = 0 && (decide (s ≤ k) || !bitB S k) then false else runL rs S k l == some k
theorem runL_cons (rs : List JRule) (S : Nat) (last i : Int) (t : List Int) : runL rs S last (i :: t) = if inB i 0 ((rs.length : Int) - 1) && meetsB (rs.getD i.toNat default).needs S then runL rs (addB S (rs.getD i.toNat default).gives) (rs.getD i.toNat default).gives t else none := rfl
theorem drop_getD {α : Type} (l : List α) (d : α) (j : Nat) (h : j < l.length) : l.drop j = l.getD j d :: l.drop (j + 1) := by
  rw [List.getD_eq_getElem?_getD, List.getElem?_eq_getElem h]
  exact List.drop_eq_getElem_cons h
theorem or_addB (S : Nat) (z : Int) (hS : S < 4294967296) (h0 : 0 ≤ z) (h1 : z < 32) : addB S z < 4294967296 := by
  obtain ⟨n, rfl⟩ := Int.eq_ofNat_of_zero_le h0
  have := (or_bit S n hS (by omega)).2
  simpa [addB] using this
/-- A rule's cells. -/
theorem RulesAt.at {B : Nat} {w : World} {a : Option Addr} {n c : Nat} {rs : List JRule} (h : RulesAt B w (.slice a n c) rs) (j : Nat) (hj : j < rs.length) :
    ∃ b off nv, a = some ⟨b, off, none⟩ ∧ b < B ∧ w.cell? ⟨b, off + j * 2, none⟩ = some nv ∧ w.cell? ⟨b, off + j * 2 + 1, none⟩ = some (.int .i64 (rs.getD j default).gives) ∧ IntsAt B w nv (rs.getD j default).needs := by
  obtain ⟨a', c', he, _, _, hc⟩ := h
  obtain ⟨b, off, ha, hb, hcc⟩ := hc (by omega)
  injection he with e1 e2 e3
  obtain ⟨nv, h1, h2, h3⟩ := hcc j hj
  exact ⟨b, off, nv, e1.trans ha, hb, h1, h2, h3⟩
theorem RulesAt.shape {B : Nat} {w : World} {rv : Value} {rs : List JRule} (h : RulesAt B w rv rs) : ∃ a c, rv = .slice a rs.length c ∧ rs.length ≤ c ∧ c ≤ maxLen := by
  obtain ⟨a, c, h1, h2, h3, _⟩ := h
  exact ⟨a, c, h1, h2, h3⟩
theorem IntsAt.at {B : Nat} {w : World} {a : Option Addr} {n c : Nat} {l : List Int} (h : IntsAt B w (.slice a n c) l) (j : Nat) (hj : j < l.length) :
    ∃ b off, a = some ⟨b, off, none⟩ ∧ b < B ∧ w.cell? ⟨b, off + j, none⟩ = some (.int .i64 (l.getD j 0)) := by
  obtain ⟨a', c', he, _, _, hc⟩ := h
  obtain ⟨b, off, ha, hb, hcc⟩ := hc (by omega)
  injection he with e1 e2 e3
  exact ⟨b, off, e1.trans ha, hb, hcc j hj⟩
theorem IntsAt.shape {B : Nat} {w : World} {v : Value} {l : List Int} (h : IntsAt B w v l) : ∃ a c, v = .slice a l.length c ∧ l.length ≤ c ∧ c ≤ maxLen := by
  obtain ⟨a, c, h1, h2, h3, _⟩ := h
  exact ⟨a, c, h1, h2, h3⟩

set_option maxRecDepth 100000 in
set_option maxHeartbeats 2000000 in
theorem derives_any (s d : Int) (rs : List JRule) (rv lv : Value) (S0 : Nat) (k : Nat) (l : List Int) (w : World) (hR : RulesAt w.heap.size w rv rs) (hL : IntsAt w.heap.size w lv l) (hG : GoodR rs) (hS : S0 < 4294967296) (hk : k < 32) :
    Calls Tryd.prog 59 #[thV s d rv, .int .i64 S0, .int .i64 k, lv] w fun e w' => e = .returned (.bool (derivesB s rs S0 k l)) ∧ Below w.heap.size w w' := by
  obtain ⟨la, lc, rfl, hlc, hcm⟩ := hL.shape
  obtain ⟨ra, rc, rfl, hrc, hrm⟩ := hR.shape
  unfold maxLen at hcm hrm
  have HD : Hid (derivesB s rs S0 k l = if 40 < l.length then false else if l.length = 0 && (decide (s ≤ (k : Int)) || !bitB S0 k) then false else runL rs S0 k l == some (k : Int)) := rfl
  have h40 := hG.1
  have HG := Lib.hid hG
  have HR := Lib.hid hR
  have HL := Lib.hid hL
  have hbit := bit_eq0 S0 k
  have hbitB : bitB S0 (k : Int) = S0.testBit k := by simp [bitB]
  have HBB := Lib.hid hbitB
  clear hG hR hL hbitB
  by_cases h1 : 40 < l.length
  · have h1' : (40 : Int) < (l.length : Int) := by omega
    have HQ : Hid (derivesB s rs S0 k l = false) := by show _ = _; rw [HD.out, if_pos h1]
    clear hbit
    go_enter Tryd.func59, Tryd.ntmps59
    go_wp2
    go_ret
    exact ⟨by rw [HQ.out]; rfl, (Below.refl _ _).alloc (Nat.le_refl _) _⟩
  have h1' : (l.length : Int) ≤ 40 := by omega
  by_cases h2 : l.length = 0
  · have HQ : Hid (derivesB s rs S0 k l = !(decide (s ≤ (k : Int)) || !S0.testBit k)) := by
      show _ = _
      obtain rfl : l = [] := List.eq_nil_of_length_eq_zero h2
      rw [HD.out, HBB.out]
      cases decide (s ≤ (k : Int)) <;> cases S0.testBit k <;> simp [runL]
    rw [HQ.out]
    clear HQ HD
    rw [h2]
    by_cases h3 : s ≤ (k : Int)
    · clear hbit
      go_enter Tryd.func59, Tryd.ntmps59
      go_wp2
      go_ret
      exact ⟨by simp [h3], (Below.refl _ _).alloc (Nat.le_refl _) _⟩
    · cases hb : S0.testBit k
      · rw [hb] at hbit
        go_enter Tryd.func59, Tryd.ntmps59
        go_wp2
        go_ret
        exact ⟨by simp, (Below.refl _ _).alloc (Nat.le_refl _) _⟩
      · rw [hb] at hbit
        have hd3 : decide (s ≤ (k : Int)) = false := by simp; omega
        rw [hd3]
        go_enter Tryd.func59, Tryd.ntmps59
        go_wp2
        go_loopw [9, 34] (fun q i wr => q = .int .i64 k ∧ i = .int .i64 0 ∧ Below w.heap.size w wr) (fun _ _ _ => 0)
        case atStart => exact ⟨rfl, rfl, (Below.refl _ _).alloc (Nat.le_refl _) _⟩
        case round =>
          obtain ⟨rfl, rfl, hB⟩ := hrel
          go_wp2
          go_ret
          exact ⟨by simp, hB⟩
  · have hne : ((l.length : Int) == 0) = false := by rw [beq_eq_false_iff_ne]; omega
    have HQ : Hid (derivesB s rs S0 k l = (runL rs S0 k l == some (k : Int))) := by
      show _ = _
      rw [HD.out, if_neg h1, if_neg (by simp [h2])]
    rw [HQ.out]
    clear HQ HD hbit
    have hTb := ThBox.new w s d (.slice ra rs.length rc)
    have HT := Lib.hid hTb
    have hW0 : Below w.heap.size w (w.alloc (.cells #[.int .i64 s, .int .i64 d, .slice ra rs.length rc] 25)) := (Below.refl _ _).alloc (Nat.le_refl _) _
    have HW0 := Lib.hid hW0
    clear hTb hW0
    generalize hn : l.length = n at *
    have Hn := Lib.hid hn
    generalize hm : rs.length = m at *
    have Hm := Lib.hid hm
    clear hn hm
    go_enter Tryd.func59, Tryd.ntmps59
    go_wp2
    obtain ⟨W, hW⟩ : ∃ W, W = w.alloc (.cells #[.int .i64 s, .int .i64 d, .slice ra m rc] 25) := ⟨_, rfl⟩
    rw [← hW]
    rw [← hW] at HT HW0
    have hszW : W.heap.size = w.heap.size + 1 := by rw [hW]; simp
    clear hW
    go_loopg [1, 9, 34] n (fun gg q last i wr => ∃ (S' : Nat) (z : Int) (j : Nat), j + gg = n ∧ q = .int .i64 S' ∧ last = .int .i64 z ∧ i = .int .i64 j ∧ S' < 4294967296 ∧ Hid (runL rs S0 k l = runL rs S' z (l.drop j)) ∧ Below W.heap.size W wr)
    case atStart => exact ⟨S0, k, 0, by omega, rfl, rfl, rfl, hS, rfl, Below.refl _ _⟩
    case round =>
      obtain ⟨S', z, j, hj, rfl, rfl, rfl, hS', HRun, hB⟩ := hrel
      have hBw : Below w.heap.size w wr := HW0.out.trans (hB.mono (by omega))
      by_cases hlt : j < n
      · have hjj : (j : Int) < (n : Int) := by omega
        have hdrop := drop_getD l 0 j (by rw [Hn.out]; exact hlt)
        rw [hdrop, runL_cons, Hm.out] at HRun
        obtain ⟨b, off, hae, hb, hcl⟩ := HL.out.at j (by rw [Hn.out]; exact hlt)
        subst hae
        have c1 := (hBw.cell (p := ⟨b, off + j, none⟩) hb).trans hcl
        have cT := (HT.out.below hB (by omega)).c2
        clear hcl hdrop
        generalize l.getD j 0 = i at *
        cases hin : inB i 0 ((m : Int) - 1)
        · rw [hin] at HRun
          have HR2 : Hid (runL rs S0 k l = none) := HRun
          go_wp2_with (go_at_call 39; refine (isIn_any _ _ _ _).mono ?_; rintro e w' ⟨rfl, rfl⟩; rw [hin])
          go_ret
          exact ⟨by rw [HR2.out]; rfl, hBw⟩
        · have hi := hin
          simp only [inB, Bool.and_eq_true, decide_eq_true_eq] at hi
          obtain ⟨t, rfl⟩ := Int.eq_ofNat_of_zero_le hi.1
          have htm : t < m := by omega
          rw [hin, Int.toNat_natCast, Bool.true_and] at HRun
          obtain ⟨b2, off2, nv, hae2, hb2, d1, d2, d3⟩ := HR.out.at t (by rw [Hm.out]; exact htm)
          subst hae2
          have hgood := HG.out.2 (rs.getD t default) (getD_mem _ _ _ (by rw [Hm.out]; exact htm))
          generalize rs.getD t default = r at *
          have e1 := (hBw.cell (p := ⟨b2, off2 + t * 2, none⟩) hb2).trans d1
          have e2 := (hBw.cell (p := ⟨b2, off2 + t * 2 + 1, none⟩) hb2).trans d2
          have HN : Hid (IntsAt wr.heap.size wr nv r.needs) := (d3.below hBw (Nat.le_refl _)).mono hBw.size
          obtain ⟨g, hg⟩ := Int.eq_ofNat_of_zero_le hgood.2.1
          have hg32 : g < 32 := by omega
          have HNeeds := Lib.hid hgood.1
          rw [hg] at e2 HRun
          have Hd1 := Lib.hid d1
          have Hd2 : Hid (w.cell? ⟨b2, off2 + t * 2 + 1, none⟩ = some (.int .i64 g)) := by rw [← hg]; exact d2
          have htt : (t : Int) < (m : Int) := by omega
          obtain ⟨na, nc, hnv, _, _⟩ := d3.shape
          clear d1 d2 d3 hgood hg hi
          subst hnv
          cases hmt : meetsB r.needs S'
          · rw [hmt] at HRun
            have HR2 : Hid (runL rs S0 k l = none) := HRun
            have HMt := Lib.hid hmt
            clear hmt
            unfold ruleV at *
            go_wp2_with (first | (go_at_call 39; refine (isIn_any _ _ _ _).mono ?_; rintro e w' ⟨rfl, rfl⟩; rw [hin]) | (go_at_call 65; refine (meets_any _ _ _ _ _ HN.out HNeeds.out).mono ?_; rintro e w2 ⟨rfl, hb2⟩; rw [HMt.out]))
            go_ret
            exact ⟨by rw [HR2.out]; rfl, hBw.trans (hb2.mono hBw.size)⟩
          · rw [hmt] at HRun
            have HR2 : Hid (runL rs S0 k l = runL rs (addB S' g) g (l.drop (j + 1))) := HRun
            have HMt := Lib.hid hmt
            have HOr := or_bit S' g hS' hg32
            have hor := HOr.1
            have HS2 := Lib.hid HOr.2
            have HAdd : Hid (addB S' (g : Int) = S' ||| 2 ^ g) := by show _ = _; simp [addB]
            generalize S' ||| 2 ^ g = S2 at *
            clear hmt HOr
            have HRL := HRun
            clear HRun
            unfold ruleV at *
            go_wp2_with (first | (go_at_call 39; refine (isIn_any _ _ _ _).mono ?_; rintro e w' ⟨rfl, rfl⟩; rw [hin]) | (go_at_call 65; refine (meets_any _ _ _ _ _ HN.out HNeeds.out).mono ?_; rintro e w2 ⟨rfl, hb3⟩; rw [HMt.out]; have hB2 : Below W.heap.size W w2 := hB.trans (hb3.mono hB.size); have cT2 := (HT.out.below hB2 (by omega)).c2; have hBw2 : Below w.heap.size w w2 := HW0.out.trans (hB2.mono (by omega)); have e3 := (hBw2.cell (p := ⟨b2, off2 + t * 2 + 1, none⟩) hb2).trans Hd2.out))
            go_roundg (gk - 1)
            case measure => omega
            case rel => exact ⟨S2, g, j + 1, by omega, rfl, rfl, by go_num, HS2.out, by show _ = _; rw [HR2.out, HAdd.out], hB2⟩
      · obtain rfl : j = n := by omega
        have HR2 : Hid (runL rs S0 k l = some z) := by
          show _ = _
          rw [HRun.out, show l.drop j = [] from List.drop_eq_nil_of_le (by rw [Hn.out]; exact Nat.le_refl _)]
          rfl
        clear HRun
        go_wp2
        go_ret
        exact ⟨by rw [HR2.out]; rfl, hBw⟩

/-- isSet, of a valid theory. -/
def setB (t : JTh) (z : Int) : Bool := validB t && inB z 0 (2 ^ t.seen.toNat - 1)
theorem valid_good {t : JTh} (h : validB t = true) : (0 ≤ t.seen ∧ t.seen ≤ 12) ∧ (0 ≤ t.drawn ∧ t.drawn ≤ 20) ∧ GoodR t.rules ∧ ∀ r ∈ t.rules, badRule t.seen t.drawn r = false := by
  unfold validB at h
  simp only [Bool.and_eq_true, Bool.not_eq_true', inB, decide_eq_true_eq, decide_eq_false_iff_not, List.any_eq_false] at h
  obtain ⟨⟨⟨h1, h2⟩, h3⟩, h4⟩ := h
  refine ⟨h1, h2, ⟨by omega, fun r hr => ?_⟩, fun r hr => by simpa using h4 r hr⟩
  have hb := h4 r hr
  unfold badRule at hb
  simp only [Bool.or_eq_true, not_or, decide_eq_true_eq, Bool.not_eq_true', Bool.not_eq_false] at hb
  obtain ⟨⟨⟨b1, b2⟩, b3⟩, b4⟩ := hb
  simp only [inB, Bool.and_eq_true, decide_eq_true_eq] at b4
  refine ⟨fun z hz => ?_, by omega, by omega⟩
  obtain ⟨i, hi, rfl⟩ := List.getElem_of_mem hz
  unfold badNs at b2
  rw [Bool.not_eq_true] at b2
  have := List.any_eq_false.1 b2 i (List.mem_range.2 hi)
  unfold badN at this
  rw [Bool.or_eq_true, not_or, Bool.not_eq_true', Bool.not_eq_false] at this
  have h5 := this.2
  rw [List.getD_eq_getElem?_getD, List.getElem?_eq_getElem hi] at h5
  simp only [inB, Bool.and_eq_true, decide_eq_true_eq, Option.getD_some] at h5
  omega
set_option maxRecDepth 100000 in
theorem isSet_any (t : JTh) (rv : Value) (z : Int) (w : World) (hR : RulesAt w.heap.size w rv t.rules) :
    Calls Tryd.prog 47 #[thV t.seen t.drawn rv, .int .i64 z] w fun e w' => e = .returned (.bool (setB t z)) ∧ Below w.heap.size w w' := by
  obtain ⟨ra, rc, rfl, _, _⟩ := hR.shape
  have hb0 : Below w.heap.size w (w.alloc (.cells #[.int .i64 t.seen, .int .i64 t.drawn, .slice ra t.rules.length rc] 25)) := (Below.refl _ _).alloc (Nat.le_refl _) _
  have HR : Hid (RulesAt (w.alloc (.cells #[.int .i64 t.seen, .int .i64 t.drawn, .slice ra t.rules.length rc] 25)).heap.size (w.alloc (.cells #[.int .i64 t.seen, .int .i64 t.drawn, .slice ra t.rules.length rc] 25)) (.slice ra t.rules.length rc) t.rules) := (hR.below hb0 (Nat.le_refl _)).mono hb0.size
  have HB0 := Lib.hid hb0
  have HV : Hid (setB t z = (validB t && inB z 0 (2 ^ t.seen.toNat - 1))) := rfl
  clear hR hb0
  cases hv : validB t
  · rw [hv] at HV
    go_enter Tryd.func47, Tryd.ntmps47
    go_wp2_with (go_at_call 14; refine (valid_any t _ _ HR.out).mono ?_; rintro e w2 ⟨rfl, hb2⟩; rw [hv])
    go_ret
    exact ⟨by rw [HV.out]; rfl, HB0.out.trans (hb2.mono HB0.out.size)⟩
  · rw [hv] at HV
    have hg := (valid_good hv).1
    obtain ⟨n, hn⟩ := Int.eq_ofNat_of_zero_le hg.1
    have hn32 : n < 32 := by omega
    have hsh := shl_one n (by omega)
    have hpw := pow_lt32 (n := n) (by omega)
    have hpp : 0 < 2 ^ n := Nat.pow_pos (by omega)
    have HV2 : Hid (setB t z = inB z 0 (((2 ^ n : Nat) : Int) - 1)) := by show _ = _; rw [HV.out, hn, Int.toNat_natCast]; push_cast; rfl
    clear HV hg
    have hT0 : (w.alloc (.cells #[.int .i64 t.seen, .int .i64 t.drawn, .slice ra t.rules.length rc] 25)).cell? ⟨w.heap.size, 0, none⟩ = some (.int .i64 n) := by rw [← hn]; simp
    have HT0 := Lib.hid hT0
    clear hT0
    have Hn := Lib.hid hn
    clear hn
    generalize 2 ^ n = p at *
    go_enter Tryd.func47, Tryd.ntmps47
    go_wp2_with (first | (go_at_call 14; refine (valid_any t _ _ HR.out).mono ?_; rintro e w2 ⟨rfl, hb2⟩; rw [hv]; have c0 := (hb2.cell (p := ⟨w.heap.size, 0, none⟩) (by simp)).trans HT0.out) | (go_at_call 39; refine (isIn_any _ _ _ _).mono ?_; rintro e w' ⟨rfl, rfl⟩))
    go_ret
    exact ⟨by rw [HV2.out]; rfl, HB0.out.trans (hb2.mono HB0.out.size)⟩
end Go.Proofs.YtmihkbiihfhpoaaDoor
