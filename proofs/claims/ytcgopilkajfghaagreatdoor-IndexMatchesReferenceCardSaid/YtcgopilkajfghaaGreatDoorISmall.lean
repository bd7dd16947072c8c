/- The small functions of the statements on indices and of the reference. -/
import Derived.Test.YtcgopilkajfghaaGreatDoorIRoot
set_option linter.unusedVariables false
set_option linter.unusedSimpArgs false
namespace Go.Proofs.YtcgopilkajfghaaGreatDoor
open Go.RowKit Go.Shelf

set_option maxHeartbeats 400000 in
theorem ipick_any (c n : Int) (w : World) (h1 : -9223372036854775808 ≤ c) (h2 : c ≤ 9223372036854775807) (hn : 1 ≤ n) (hn2 : n ≤ 9223372036854775807) :
    Calls Tryz.prog 13 #[.int .i64 c, .int .i64 n] w fun e w' => e = .returned (.int .i64 (pickZ c n)) ∧ w = w' := by
  by_cases hc : c < 0
  · have hp : pickZ c n = (-(c + 1)).tmod n := by rw [pickZ, if_pos hc]
    rw [hp]
    clear hp
    go_enter Tryz.func13, Tryz.ntmps13
    go_wp2
    go_ret
    exact ⟨ret_int (Int.neg_tmod _ _).symm, rfl⟩
  · have hp : pickZ c n = c.tmod n := by rw [pickZ, if_neg hc]
    rw [hp]
    clear hp
    go_enter Tryz.func13, Tryz.ntmps13
    go_wp2
    go_ret
    exact ⟨ret_int (Int.tmod_eq_emod_of_nonneg (by omega)).symm, rfl⟩
set_option maxHeartbeats 400000 in
theorem ipickR_any (c n : Int) (w : World) (h1 : -9223372036854775808 ≤ c) (h2 : c ≤ 9223372036854775807) (hn : 1 ≤ n) (hn2 : n ≤ 9223372036854775807) :
    Calls Tryz.prog 61 #[.int .i64 c, .int .i64 n] w fun e w' => e = .returned (.int .i64 (pickZ c n)) ∧ w = w' := by
  by_cases hc : c < 0
  · have hp : pickZ c n = (-(c + 1)).tmod n := by rw [pickZ, if_pos hc]
    rw [hp]
    clear hp
    go_enter Tryz.func61, Tryz.ntmps61
    go_wp2
    go_ret
    exact ⟨ret_int (Int.neg_tmod _ _).symm, rfl⟩
  · have hp : pickZ c n = c.tmod n := by rw [pickZ, if_neg hc]
    rw [hp]
    clear hp
    go_enter Tryz.func61, Tryz.ntmps61
    go_wp2
    go_ret
    exact ⟨ret_int (Int.tmod_eq_emod_of_nonneg (by omega)).symm, rfl⟩
set_option maxHeartbeats 400000 in
theorem rin_any (n lo hi : Int) (w : World) :
    Calls Tryz.prog 42 #[.int .i64 n, .int .i64 lo, .int .i64 hi] w fun e w' => e = .returned (.bool (inC n lo hi)) ∧ w = w' := by
  have HI : Hid (inC n lo hi = (decide (lo ≤ n) && decide (n ≤ hi))) := rfl
  by_cases h1 : lo ≤ n
  · by_cases h2 : n ≤ hi
    · have d1 : decide (lo ≤ n) = true := by simp [h1]
      have d2 : decide (n ≤ hi) = true := by simp [h2]
      have HF : Hid (inC n lo hi = true) := by show _ = _; rw [HI.out, d1, d2]; rfl
      go_enter Tryz.func42, Tryz.ntmps42
      go_wp2
      go_ret
      exact ⟨by rw [HF.out]; rfl, rfl⟩
    · have d1 : decide (lo ≤ n) = true := by simp [h1]
      have d2 : decide (n ≤ hi) = false := by simp; omega
      have HF : Hid (inC n lo hi = false) := by show _ = _; rw [HI.out, d1, d2]; rfl
      go_enter Tryz.func42, Tryz.ntmps42
      go_wp2
      go_ret
      exact ⟨by rw [HF.out]; rfl, rfl⟩
  · have d1 : decide (lo ≤ n) = false := by simp; omega
    have HF : Hid (inC n lo hi = false) := by show _ = _; rw [HI.out, d1]; rfl
    go_enter Tryz.func42, Tryz.ntmps42
    go_wp2
    go_ret
    exact ⟨by rw [HF.out]; rfl, rfl⟩
theorem rin_eq {n lo hi : Int} {b : Bool} (h : inC n lo hi = b) (w : World) :
    Calls Tryz.prog 42 #[.int .i64 n, .int .i64 lo, .int .i64 hi] w fun e w' => e = .returned (.bool b) ∧ w = w' := h ▸ rin_any n lo hi w
set_option maxRecDepth 100000 in
set_option maxHeartbeats 1000000 in
theorem rspell_any (a b : Int) (w : World) :
    Calls Tryz.prog 43 #[.agg #[.int .i64 a, .int .i64 b]] w fun e w' => e = .returned (.bool (spellB a b)) ∧ Below w.heap.size w w' := by
  have HS : Hid (spellB a b = (decide (0 ≤ a) && (decide (a < b) && decide (b ≤ 2100)))) := rfl
  have HB : Hid (∀ o : Obj, Below w.heap.size w (w.alloc o)) := fun o => (Below.refl _ _).alloc (Nat.le_refl _) o
  have hx := box_new w 25 #[.int .i64 a, .int .i64 b]
  have c0 := BoxN.cell hx 0 _ rfl
  have c1 := BoxN.cell hx 1 _ rfl
  clear hx
  by_cases h1 : 0 ≤ a
  · have d1 : decide (0 ≤ a) = true := decide_eq_true h1
    by_cases h2 : a < b
    · have d2 : decide (a < b) = true := decide_eq_true h2
      by_cases h3 : b ≤ 2100
      · have d3 : decide (b ≤ 2100) = true := decide_eq_true h3
        have HF : Hid (spellB a b = true) := by show _ = _; rw [HS.out, d1, d2, d3]; rfl
        go_enter Tryz.func43, Tryz.ntmps43
        go_wp2
        go_ret
        exact ⟨by rw [HF.out]; try rfl, HB.out _⟩
      · have d3 : decide (b ≤ 2100) = false := decide_eq_false h3
        have HF : Hid (spellB a b = false) := by show _ = _; rw [HS.out, d1, d2, d3]; rfl
        go_enter Tryz.func43, Tryz.ntmps43
        go_wp2
        go_ret
        exact ⟨by rw [HF.out]; try rfl, HB.out _⟩
    · have d2 : decide (a < b) = false := decide_eq_false h2
      have HF : Hid (spellB a b = false) := by show _ = _; rw [HS.out, d1, d2]; rfl
      go_enter Tryz.func43, Tryz.ntmps43
      go_wp2
      go_ret
      exact ⟨by rw [HF.out]; try rfl, HB.out _⟩
  · have d1 : decide (0 ≤ a) = false := decide_eq_false h1
    have HF : Hid (spellB a b = false) := by show _ = _; rw [HS.out, d1]; rfl
    go_enter Tryz.func43, Tryz.ntmps43
    go_wp2
    go_ret
    exact ⟨by rw [HF.out]; try rfl, HB.out _⟩
theorem rspell_eq {a b : Int} {r : Bool} (h : spellB a b = r) (w : World) :
    Calls Tryz.prog 43 #[.agg #[.int .i64 a, .int .i64 b]] w fun e w' => e = .returned (.bool r) ∧ Below w.heap.size w w' := h ▸ rspell_any a b w
set_option maxRecDepth 100000 in
set_option maxHeartbeats 1000000 in
theorem rvalid_any (c : ICard) (w : World) : Calls Tryz.prog 9 #[cardV c] w fun e w' => e = .returned (.bool (validC c)) ∧ Below w.heap.size w w' := by
  have HV : Hid (validC c = (inC c.id 0 9999 && (inC c.unit 0 99 && (inC c.kind 0 9 && spellB c.beg c.fin)))) := rfl
  obtain ⟨V, hV⟩ : ∃ V, V = w.alloc (.cells (cardR c) 35) := ⟨_, rfl⟩
  have HB : Hid (Below w.heap.size w V) := by show Below _ _ _; rw [hV]; exact (Below.refl _ _).alloc (Nat.le_refl _) _
  obtain ⟨c0, c1, c2, c3, c4⟩ := CardN.cells (show CardN w.heap.size c V from by rw [hV]; exact box_new w _ _)
  have HVe := Lib.hid hV
  rw [hV] at c0 c1 c2 c3 c4
  clear hV
  cases h1 : inC c.id 0 9999
  · have HF : Hid (validC c = false) := by show _ = _; rw [HV.out, h1]; rfl
    have H1 := Lib.hid (fun W => rin_eq h1 W)
    clear h1
    go_enter Tryz.func9, Tryz.ntmps9
    go_wp2_with fail
    refine (H1.out _).mono ?_
    rintro e w' ⟨rfl, rfl⟩
    go_wp2
    rw [← HVe.out]
    go_ret
    exact ⟨by rw [HF.out]; try rfl, HB.out⟩
  have H1 := Lib.hid (fun W => rin_eq h1 W)
  cases h2 : inC c.unit 0 99
  · have HF : Hid (validC c = false) := by show _ = _; rw [HV.out, h1, h2]; rfl
    have H2 := Lib.hid (fun W => rin_eq h2 W)
    clear h1 h2
    go_enter Tryz.func9, Tryz.ntmps9
    go_wp2_with fail
    refine (H1.out _).mono ?_
    rintro e w' ⟨rfl, rfl⟩
    go_wp2_with fail
    refine (H2.out _).mono ?_
    rintro e w' ⟨rfl, rfl⟩
    go_wp2
    rw [← HVe.out]
    go_ret
    exact ⟨by rw [HF.out]; try rfl, HB.out⟩
  have H2 := Lib.hid (fun W => rin_eq h2 W)
  cases h3 : inC c.kind 0 9
  · have HF : Hid (validC c = false) := by show _ = _; rw [HV.out, h1, h2, h3]; rfl
    have H3 := Lib.hid (fun W => rin_eq h3 W)
    clear h1 h2 h3
    go_enter Tryz.func9, Tryz.ntmps9
    go_wp2_with fail
    refine (H1.out _).mono ?_
    rintro e w' ⟨rfl, rfl⟩
    go_wp2_with fail
    refine (H2.out _).mono ?_
    rintro e w' ⟨rfl, rfl⟩
    go_wp2_with fail
    refine (H3.out _).mono ?_
    rintro e w' ⟨rfl, rfl⟩
    go_wp2
    rw [← HVe.out]
    go_ret
    exact ⟨by rw [HF.out]; try rfl, HB.out⟩
  have H3 := Lib.hid (fun W => rin_eq h3 W)
  have HF : Hid (validC c = spellB c.beg c.fin) := by show _ = _; rw [HV.out, h1, h2, h3]; rfl
  have H4 := Lib.hid (fun W => rspell_any c.beg c.fin W)
  clear h1 h2 h3
  generalize spellB c.beg c.fin = sb at *
  go_enter Tryz.func9, Tryz.ntmps9
  go_wp2_with fail
  refine (H1.out _).mono ?_
  rintro e w' ⟨rfl, rfl⟩
  go_wp2_with fail
  refine (H2.out _).mono ?_
  rintro e w' ⟨rfl, rfl⟩
  go_wp2_with fail
  refine (H3.out _).mono ?_
  rintro e w' ⟨rfl, rfl⟩
  go_wp2_with fail
  rw [← HVe.out]
  refine (H4.out _).mono ?_
  rintro e w' ⟨rfl, hb⟩
  have HB2 := Lib.hid (HB.out.trans (hb.mono HB.out.size))
  clear hb c0 c1 c2 c3 c4
  go_wp2
  go_ret
  exact ⟨by rw [HF.out]; try rfl, HB2.out⟩
set_option maxRecDepth 100000 in
set_option maxHeartbeats 1000000 in
theorem before_any (a b : ICard) (w : World) : Calls Tryz.prog 39 #[cardV a, cardV b] w fun e w' => e = .returned (.bool (decide (befC a b))) ∧ Below w.heap.size w w' := by
  have HB : Hid (∀ x y, Below w.heap.size w ((w.alloc x).alloc y)) := fun x y => ((Below.refl _ _).alloc (Nat.le_refl _) _).alloc (by simp) _
  by_cases h1 : a.beg = b.beg
  · by_cases h2 : a.fin = b.fin
    · have HE : Hid (decide (befC a b) = decide (a.id < b.id)) := by show _ = _; rw [decide_eq_decide]; unfold befC; omega
      go_enter Tryz.func39, Tryz.ntmps39
      go_wp2
      go_ret
      exact ⟨by rw [HE.out]; rfl, HB.out _ _⟩
    · have HE : Hid (decide (befC a b) = decide (a.fin < b.fin)) := by show _ = _; rw [decide_eq_decide]; unfold befC; omega
      go_enter Tryz.func39, Tryz.ntmps39
      go_wp2
      go_ret
      exact ⟨by rw [HE.out]; rfl, HB.out _ _⟩
  · have HE : Hid (decide (befC a b) = decide (a.beg < b.beg)) := by show _ = _; rw [decide_eq_decide]; unfold befC; omega
    go_enter Tryz.func39, Tryz.ntmps39
    go_wp2
    go_ret
    exact ⟨by rw [HE.out]; rfl, HB.out _ _⟩
/-- Where the card with an ID stands; -1 if there is none. -/
def findI (l : List ICard) (id : Int) : Int := match l.findIdx? fun c => c.id == id with
  | some k => (k : Nat)
  | none => -1
theorem findI_none {l : List ICard} {id : Int} (h : ∀ j, j < l.length → (l.getD j default).id ≠ id) : findI l id = -1 := by
  unfold findI
  have : l.findIdx? (fun c => c.id == id) = none := by
    rw [List.findIdx?_eq_none_iff]
    intro x hx
    obtain ⟨j, hj, rfl⟩ := List.mem_iff_getElem.1 hx
    have := h j hj
    rw [List.getD_eq_getElem?_getD, List.getElem?_eq_getElem hj] at this
    simpa using this
  rw [this]
theorem findI_some {l : List ICard} {id : Int} {k : Nat} (hk : k < l.length) (h : ∀ j, j < k → (l.getD j default).id ≠ id) (he : (l.getD k default).id = id) : findI l id = (k : Nat) := by
  unfold findI
  have : l.findIdx? (fun c => c.id == id) = some k := by
    rw [List.findIdx?_eq_some_iff_getElem]
    refine ⟨hk, ?_, fun j hj => ?_⟩
    · rw [List.getD_eq_getElem?_getD, List.getElem?_eq_getElem hk] at he
      simpa using he
    · have := h j hj
      rw [List.getD_eq_getElem?_getD, List.getElem?_eq_getElem (by omega)] at this
      simpa using this
  rw [this]
set_option maxRecDepth 100000 in
set_option maxHeartbeats 1000000 in
theorem rfind_any (v : Value) (l : List ICard) (id : Int) (w : World) (h : RowsAt cardK w.heap.size w v l) (hl : l.length ≤ 1000000) :
    Calls Tryz.prog 38 #[v, .int .i64 id] w fun e w' => e = .returned (.int .i64 (findI l id)) ∧ w' = w := by
  obtain ⟨oa, oc, rfl, hlc, hcm⟩ := h.shape
  unfold maxLen at hcm
  have HL := Lib.hid h
  clear h
  generalize hn : l.length = n at *
  have HN := Lib.hid hn
  clear hn
  go_enter Tryz.func38, Tryz.ntmps38
  go_wp2
  go_loopw [5] (fun i wr => wr = w ∧ ∃ k : Nat, k ≤ n ∧ i = .int .i64 k ∧ Hid (∀ j, j < k → (l.getD j default).id ≠ id)) (fun i _ => n - (intOf i).toNat)
  case atStart => exact ⟨rfl, 0, Nat.zero_le _, rfl, Lib.hid (fun j hj => by omega)⟩
  case round =>
    obtain ⟨rfl, k, hk, rfl, HA⟩ := hrel
    by_cases hlt : k < n
    · have kk : (k : Int) < (n : Int) := by omega
      have k0 : 0 ≤ (k : Int) := by omega
      have wk : IntKind.i64.wrap ((k : Int) + 1) = (k : Int) + 1 := IntWalk.i64_in _ (by omega)
      obtain ⟨c, hc⟩ : ∃ c, c = l.getD k default := ⟨_, rfl⟩
      have hget : l[k]? = some c := by rw [hc, List.getD_eq_getElem?_getD, List.getElem?_eq_getElem (by rw [HN.out]; exact hlt)]; rfl
      obtain ⟨gb, off, hae, hgb, e0, e1, e2, e3, e4⟩ := cards_at HL.out k c hget
      subst hae
      have HC := Lib.hid hc
      clear hget hc e1 e2 e3 e4
      by_cases hid : c.id = id
      · have HF : Hid (findI l id = (k : Nat)) := findI_some (by rw [HN.out]; exact hlt) HA.out (by rw [← HC.out]; exact hid)
        obtain ⟨ci, hci⟩ : ∃ x, x = c.id := ⟨_, rfl⟩
        rw [← hci] at e0 hid
        clear hci
        subst hid
        go_wp2
        go_ret
        exact ⟨by rw [HF.out]; rfl, rfl⟩
      · have HA2 : Hid (∀ j, j < k + 1 → (l.getD j default).id ≠ id) := fun j hj => by
          by_cases e : j = k
          · subst e; rw [← HC.out]; exact hid
          · exact HA.out j (by omega)
        go_wp2
        go_roundw
        case rel => exact ⟨by first | rfl | trivial, k + 1, by omega, by go_num, HA2⟩
        case measure => simp [intOf]; omega
    · obtain rfl : k = n := by omega
      have kk : ¬ ((k : Int) < (k : Int)) := by omega
      have HF : Hid (findI l id = -1) := findI_none (by rw [HN.out]; exact HA.out)
      clear hlt hk HA
      go_wp2
      go_ret
      exact ⟨by rw [HF.out]; rfl, rfl⟩
end Go.Proofs.YtcgopilkajfghaaGreatDoor
