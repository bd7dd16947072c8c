/- index: isIn, isSpell, Valid, compare, and what they call of cmp. -/
import Derived.Test.YtcgopilkajfghaaGreatDoorIMem
import Derived.Laws.Cover1
set_option linter.unusedVariables false
set_option linter.unusedSimpArgs false
namespace Go.Proofs.YtcgopilkajfghaaGreatDoor
open Go.RowKit Go.Shelf

def sgnI (a b : Int) : Int := if a < b then -1 else if b < a then 1 else 0
theorem sgnI_cases (a b : Int) : (a < b ∧ sgnI a b = -1) ∨ (a = b ∧ sgnI a b = 0) ∨ (b < a ∧ sgnI a b = 1) := by
  unfold sgnI
  rcases Int.lt_trichotomy a b with h | h | h
  · exact .inl ⟨h, if_pos h⟩
  · refine .inr (.inl ⟨h, ?_⟩)
    rw [if_neg (by omega), if_neg (by omega)]
  · refine .inr (.inr ⟨h, ?_⟩)
    rw [if_neg (by omega), if_pos h]
/-- The first number that is not 0. -/
def orZ : List Int → Int
  | [] => 0
  | x :: t => if x ≠ 0 then x else orZ t
/-- The order of cards, as a number. -/
def cmpC (a b : ICard) : Int := orZ [sgnI a.beg b.beg, sgnI a.fin b.fin, sgnI a.id b.id]
theorem cmpC_lt {a b : ICard} : cmpC a b < 0 ↔ befC a b := by
  unfold cmpC befC
  simp only [orZ]
  rcases sgnI_cases a.beg b.beg with ⟨h1, e1⟩ | ⟨h1, e1⟩ | ⟨h1, e1⟩ <;> rcases sgnI_cases a.fin b.fin with ⟨h2, e2⟩ | ⟨h2, e2⟩ | ⟨h2, e2⟩ <;> rcases sgnI_cases a.id b.id with ⟨h3, e3⟩ | ⟨h3, e3⟩ | ⟨h3, e3⟩ <;> rw [e1, e2, e3] <;> simp <;> omega
set_option maxHeartbeats 400000 in
theorem iisIn_any (n lo hi : Int) (w : World) :
    Calls Tryz.prog 40 #[.int .i64 n, .int .i64 lo, .int .i64 hi] w fun e w' => e = .returned (.bool (inC n lo hi)) ∧ w = w' := by
  have HI : Hid (inC n lo hi = (decide (lo ≤ n) && decide (n ≤ hi))) := rfl
  by_cases h1 : lo ≤ n
  · by_cases h2 : n ≤ hi
    · have d1 : decide (lo ≤ n) = true := by simp [h1]
      have d2 : decide (n ≤ hi) = true := by simp [h2]
      have HF : Hid (inC n lo hi = true) := by show _ = _; rw [HI.out, d1, d2]; rfl
      go_enter Tryz.func40, Tryz.ntmps40
      go_wp2
      go_ret
      exact ⟨by rw [HF.out]; rfl, rfl⟩
    · have d1 : decide (lo ≤ n) = true := by simp [h1]
      have d2 : decide (n ≤ hi) = false := by simp; omega
      have HF : Hid (inC n lo hi = false) := by show _ = _; rw [HI.out, d1, d2]; rfl
      go_enter Tryz.func40, Tryz.ntmps40
      go_wp2
      go_ret
      exact ⟨by rw [HF.out]; rfl, rfl⟩
  · have d1 : decide (lo ≤ n) = false := by simp; omega
    have HF : Hid (inC n lo hi = false) := by show _ = _; rw [HI.out, d1]; rfl
    go_enter Tryz.func40, Tryz.ntmps40
    go_wp2
    go_ret
    exact ⟨by rw [HF.out]; rfl, rfl⟩
theorem iisIn_eq {n lo hi : Int} {b : Bool} (h : inC n lo hi = b) (w : World) :
    Calls Tryz.prog 40 #[.int .i64 n, .int .i64 lo, .int .i64 hi] w fun e w' => e = .returned (.bool b) ∧ w = w' := h ▸ iisIn_any n lo hi w
set_option maxRecDepth 100000 in
set_option maxHeartbeats 1000000 in
theorem isSpell_any (a b : Int) (w : World) :
    Calls Tryz.prog 41 #[.agg #[.int .i64 a, .int .i64 b]] w fun e w' => e = .returned (.bool (spellB a b)) ∧ Below w.heap.size w w' := by
  have HS : Hid (spellB a b = (decide (0 ≤ a) && (decide (a < b) && decide (b ≤ 2100)))) := rfl
  have HB : Hid (∀ o : Obj, Below w.heap.size w (w.alloc o)) := fun o => (Below.refl _ _).alloc (Nat.le_refl _) o
  have hx := box_new w 25 #[.int .i64 a, .int .i64 b]
  have c0 := BoxN.cell hx 0 _ rfl
  have c1 := BoxN.cell hx 1 _ rfl
  clear hx
  by_cases h1 : 0 ≤ a
  · have d1 : decide (0 ≤ a) = true := decide_eq_true h1
    by_cases h2 : a < b
    · have d2 : decide (a < b) = true := decide_eq_true h2
      by_cases h3 : b ≤ 2100
      · have d3 : decide (b ≤ 2100) = true := decide_eq_true h3
        have HF : Hid (spellB a b = true) := by show _ = _; rw [HS.out, d1, d2, d3]; rfl
        go_enter Tryz.func41, Tryz.ntmps41
        go_wp2
        go_ret
        exact ⟨by rw [HF.out]; try rfl, HB.out _⟩
      · have d3 : decide (b ≤ 2100) = false := decide_eq_false h3
        have HF : Hid (spellB a b = false) := by show _ = _; rw [HS.out, d1, d2, d3]; rfl
        go_enter Tryz.func41, Tryz.ntmps41
        go_wp2
        go_ret
        exact ⟨by rw [HF.out]; try rfl, HB.out _⟩
    · have d2 : decide (a < b) = false := decide_eq_false h2
      have HF : Hid (spellB a b = false) := by show _ = _; rw [HS.out, d1, d2]; rfl
      go_enter Tryz.func41, Tryz.ntmps41
      go_wp2
      go_ret
      exact ⟨by rw [HF.out]; try rfl, HB.out _⟩
  · have d1 : decide (0 ≤ a) = false := decide_eq_false h1
    have HF : Hid (spellB a b = false) := by show _ = _; rw [HS.out, d1]; rfl
    go_enter Tryz.func41, Tryz.ntmps41
    go_wp2
    go_ret
    exact ⟨by rw [HF.out]; try rfl, HB.out _⟩
theorem isSpell_eq {a b : Int} {r : Bool} (h : spellB a b = r) (w : World) :
    Calls Tryz.prog 41 #[.agg #[.int .i64 a, .int .i64 b]] w fun e w' => e = .returned (.bool r) ∧ Below w.heap.size w w' := h ▸ isSpell_any a b w
set_option maxRecDepth 100000 in
set_option maxHeartbeats 1000000 in
theorem valid_any (c : ICard) (w : World) : Calls Tryz.prog 8 #[cardV c] w fun e w' => e = .returned (.bool (validC c)) ∧ Below w.heap.size w w' := by
  have HV : Hid (validC c = (inC c.id 0 9999 && (inC c.unit 0 99 && (inC c.kind 0 9 && spellB c.beg c.fin)))) := rfl
  obtain ⟨V, hV⟩ : ∃ V, V = w.alloc (.cells (cardR c) 35) := ⟨_, rfl⟩
  have HB : Hid (Below w.heap.size w V) := by show Below _ _ _; rw [hV]; exact (Below.refl _ _).alloc (Nat.le_refl _) _
  obtain ⟨c0, c1, c2, c3, c4⟩ := CardN.cells (show CardN w.heap.size c V from by rw [hV]; exact box_new w _ _)
  have HVe := Lib.hid hV
  rw [hV] at c0 c1 c2 c3 c4
  clear hV
  cases h1 : inC c.id 0 9999
  · have HF : Hid (validC c = false) := by show _ = _; rw [HV.out, h1]; rfl
    have H1 := Lib.hid (fun W => iisIn_eq h1 W)
    clear h1
    go_enter Tryz.func8, Tryz.ntmps8
    go_wp2_with fail
    refine (H1.out _).mono ?_
    rintro e w' ⟨rfl, rfl⟩
    go_wp2
    rw [← HVe.out]
    go_ret
    exact ⟨by rw [HF.out]; try rfl, HB.out⟩
  have H1 := Lib.hid (fun W => iisIn_eq h1 W)
  cases h2 : inC c.unit 0 99
  · have HF : Hid (validC c = false) := by show _ = _; rw [HV.out, h1, h2]; rfl
    have H2 := Lib.hid (fun W => iisIn_eq h2 W)
    clear h1 h2
    go_enter Tryz.func8, Tryz.ntmps8
    go_wp2_with fail
    refine (H1.out _).mono ?_
    rintro e w' ⟨rfl, rfl⟩
    go_wp2_with fail
    refine (H2.out _).mono ?_
    rintro e w' ⟨rfl, rfl⟩
    go_wp2
    rw [← HVe.out]
    go_ret
    exact ⟨by rw [HF.out]; try rfl, HB.out⟩
  have H2 := Lib.hid (fun W => iisIn_eq h2 W)
  cases h3 : inC c.kind 0 9
  · have HF : Hid (validC c = false) := by show _ = _; rw [HV.out, h1, h2, h3]; rfl
    have H3 := Lib.hid (fun W => iisIn_eq h3 W)
    clear h1 h2 h3
    go_enter Tryz.func8, Tryz.ntmps8
    go_wp2_with fail
    refine (H1.out _).mono ?_
    rintro e w' ⟨rfl, rfl⟩
    go_wp2_with fail
    refine (H2.out _).mono ?_
    rintro e w' ⟨rfl, rfl⟩
    go_wp2_with fail
    refine (H3.out _).mono ?_
    rintro e w' ⟨rfl, rfl⟩
    go_wp2
    rw [← HVe.out]
    go_ret
    exact ⟨by rw [HF.out]; try rfl, HB.out⟩
  have H3 := Lib.hid (fun W => iisIn_eq h3 W)
  have HF : Hid (validC c = spellB c.beg c.fin) := by show _ = _; rw [HV.out, h1, h2, h3]; rfl
  have H4 := Lib.hid (fun W => isSpell_any c.beg c.fin W)
  clear h1 h2 h3
  generalize spellB c.beg c.fin = sb at *
  go_enter Tryz.func8, Tryz.ntmps8
  go_wp2_with fail
  refine (H1.out _).mono ?_
  rintro e w' ⟨rfl, rfl⟩
  go_wp2_with fail
  refine (H2.out _).mono ?_
  rintro e w' ⟨rfl, rfl⟩
  go_wp2_with fail
  refine (H3.out _).mono ?_
  rintro e w' ⟨rfl, rfl⟩
  go_wp2_with fail
  rw [← HVe.out]
  refine (H4.out _).mono ?_
  rintro e w' ⟨rfl, hb⟩
  have HB2 := Lib.hid (HB.out.trans (hb.mono HB.out.size))
  clear hb c0 c1 c2 c3 c4
  go_wp2
  go_ret
  exact ⟨by rw [HF.out]; try rfl, HB2.out⟩
theorem isNaNI_any (a : Int) (w : World) : Calls Tryz.prog 91 #[.int .i64 a] w fun e w' => e = .returned (.bool false) ∧ w = w' := by
  go_enter Tryz.func91, Tryz.ntmps91
  go_wp2
  go_ret
  exact ⟨by simp, rfl⟩
set_option maxHeartbeats 1000000 in
theorem cmpI_any (a b : Int) (w : World) : Calls Tryz.prog 79 #[.int .i64 a, .int .i64 b] w fun e w' => e = .returned (.int .i64 (sgnI a b)) ∧ w = w' := by
  have HNa := Lib.hid (fun W => isNaNI_any a W)
  have HNb := Lib.hid (fun W => isNaNI_any b W)
  rcases sgnI_cases a b with ⟨h, e⟩ | ⟨h, e⟩ | ⟨h, e⟩
  · have HE := Lib.hid e
    have d1 : decide (a < b) = true := decide_eq_true h
    clear e h
    go_enter Tryz.func79, Tryz.ntmps79
    go_wp2_with fail
    refine (HNa.out _).mono ?_
    rintro e w' ⟨rfl, rfl⟩
    go_wp2_with fail
    refine (HNb.out _).mono ?_
    rintro e w' ⟨rfl, rfl⟩
    go_wp2
    go_ret
    exact ⟨by rw [HE.out]; rfl, rfl⟩
  · have HE := Lib.hid e
    have d1 : decide (a < b) = false := decide_eq_false (by omega)
    have d2 : decide (b < a) = false := decide_eq_false (by omega)
    clear e h
    go_enter Tryz.func79, Tryz.ntmps79
    go_wp2_with fail
    refine (HNa.out _).mono ?_
    rintro e w' ⟨rfl, rfl⟩
    go_wp2_with fail
    refine (HNb.out _).mono ?_
    rintro e w' ⟨rfl, rfl⟩
    go_wp2
    go_ret
    exact ⟨by rw [HE.out]; rfl, rfl⟩
  · have HE := Lib.hid e
    have d1 : decide (a < b) = false := decide_eq_false (by omega)
    have d2 : decide (b < a) = true := decide_eq_true h
    clear e h
    go_enter Tryz.func79, Tryz.ntmps79
    go_wp2_with fail
    refine (HNa.out _).mono ?_
    rintro e w' ⟨rfl, rfl⟩
    go_wp2_with fail
    refine (HNb.out _).mono ?_
    rintro e w' ⟨rfl, rfl⟩
    go_wp2
    go_ret
    exact ⟨by rw [HE.out]; rfl, rfl⟩
theorem or3_zero {x : Nat → Int} (h : ∀ j, j < 3 → x j = 0) : orZ [x 0, x 1, x 2] = 0 := by simp [orZ, h]
theorem or3_at {x : Nat → Int} : ∀ {k : Nat}, k < 3 → (∀ j, j < k → x j = 0) → x k ≠ 0 → orZ [x 0, x 1, x 2] = x k
  | 0, _, _, hk => by simp [orZ, hk]
  | 1, _, h, hk => by simp [orZ, h, hk]
  | 2, _, h, hk => by simp [orZ, h, hk]
set_option maxHeartbeats 1000000 in
theorem or3_any (x : Nat → Int) (g : Nat) (w : World) (hc : ∀ k, k < 3 → w.cell? ⟨g, k, none⟩ = some (.int .i64 (x k))) :
    Calls Tryz.prog 78 #[.slice (some ⟨g, 0, none⟩) 3 3] w fun e w' => e = .returned (.int .i64 (orZ [x 0, x 1, x 2])) ∧ w = w' := by
  have HC := Lib.hid hc
  obtain ⟨Z, hZ⟩ : ∃ z, z = orZ [x 0, x 1, x 2] := ⟨_, rfl⟩
  rw [← hZ]
  have HZ := Lib.hid hZ
  clear hc hZ
  go_enter Tryz.func78, Tryz.ntmps78
  go_wp2
  go_loopw [8] (fun i wr => ∃ k : Nat, k ≤ 3 ∧ i = .int .i64 k ∧ wr = w ∧ Hid (∀ j, j < k → x j = 0)) (fun i _ => 3 - (intOf i).toNat)
  case atStart => exact ⟨0, by omega, rfl, rfl, Lib.hid (fun j hj => by omega)⟩
  case round =>
    obtain ⟨k, hk, rfl, rfl, HK⟩ := hrel
    by_cases h1 : k < 3
    · have ji : (k : Int) < 3 := by omega
      have j0 : 0 ≤ (k : Int) := by omega
      have c0 := HC.out k h1
      obtain ⟨z, hz⟩ : ∃ z, z = x k := ⟨_, rfl⟩
      rw [← hz] at c0
      by_cases h0 : z = 0
      · have d : (z != 0) = false := by simp [h0]
        have HK2 : Hid (∀ j, j < k + 1 → x j = 0) := fun j hj => by
          by_cases e : j = k
          · rw [e, ← hz]; exact h0
          · exact HK.out j (by omega)
        clear h0 hz HK
        go_wp2
        go_roundw
        case rel => exact ⟨k + 1, by omega, by go_num, by first | trivial | rfl, HK2⟩
        case measure => simp [intOf]; omega
      · have d : (z != 0) = true := by simp [h0]
        have HF : Hid (Z = z) := by show _ = _; rw [HZ.out, hz]; exact or3_at h1 HK.out (by rw [← hz]; exact h0)
        clear h0 hz HK
        go_wp2
        go_ret
        exact ⟨by rw [HF.out]; rfl, rfl⟩
    · have ji : ¬ ((k : Int) < 3) := by omega
      have HF : Hid (Z = 0) := by show _ = _; rw [HZ.out]; exact or3_zero (fun j hj => HK.out j (by omega))
      clear h1 hk HK
      go_wp2
      go_ret
      exact ⟨by rw [HF.out]; rfl, rfl⟩
/-- What the steps of compare leave. -/
def CmpF (B : Nat) (x : Nat → Int) : Nat → Value → World → Prop := fun k v W =>
  if k = 6 then v = .int .i64 (x 0) else if k = 13 then v = .int .i64 (x 1) else if k = 18 then v = .int .i64 (x 2)
  else if k = 19 then ∃ g, v = .slice (some ⟨g, 0, none⟩) 3 3 ∧ B ≤ g ∧ BoxN g 3 #[.int .i64 (x 0), .int .i64 (x 1), .int .i64 (x 2)] W else v = .int .i64 (orZ [x 0, x 1, x 2])
theorem cmpF_kept {B k : Nat} {x : Nat → Int} {v : Value} {W W' : World} (h : CmpF B x k v W) (hg : W.grownBy W' none) : CmpF B x k v W' := by
  unfold CmpF at h ⊢
  by_cases h1 : k = 6
  · simp only [h1, if_true] at h ⊢; exact h
  by_cases h2 : k = 13
  · simp only [h2] at h ⊢; exact h
  by_cases h3 : k = 18
  · simp only [h3] at h ⊢; exact h
  by_cases h4 : k = 19
  · simp only [h4] at h ⊢
    obtain ⟨g, rfl, hB, hb⟩ := h
    exact ⟨g, rfl, hB, BoxN.grown hb hg (by simp)⟩
  · simp only [h1, h2, h3, h4, if_false] at h ⊢; exact h
set_option maxHeartbeats 4000000 in
set_option maxRecDepth 100000 in
theorem compare_any (a b : ICard) (w : World) : Calls Tryz.prog 65 #[cardV a, cardV b] w fun e w' => e = .returned (.int .i64 (cmpC a b)) ∧ Below w.heap.size w w' := by
  obtain ⟨x, hx0⟩ : ∃ x : Nat → Int, x = fun k => [sgnI a.beg b.beg, sgnI a.fin b.fin, sgnI a.id b.id].getD k 0 := ⟨_, rfl⟩
  have HZ : Hid (cmpC a b = orZ [x 0, x 1, x 2]) := by show _ = _; rw [hx0]; rfl
  have HC0 : Hid (∀ W, Calls Tryz.prog 79 #[.int .i64 a.beg, .int .i64 b.beg] W fun e w' => e = .returned (.int .i64 (x 0)) ∧ W = w') := fun W => by rw [hx0]; exact cmpI_any _ _ W
  have HC1 : Hid (∀ W, Calls Tryz.prog 79 #[.int .i64 a.fin, .int .i64 b.fin] W fun e w' => e = .returned (.int .i64 (x 1)) ∧ W = w') := fun W => by rw [hx0]; exact cmpI_any _ _ W
  have HC2 : Hid (∀ W, Calls Tryz.prog 79 #[.int .i64 a.id, .int .i64 b.id] W fun e w' => e = .returned (.int .i64 (x 2)) ∧ W = w') := fun W => by rw [hx0]; exact cmpI_any _ _ W
  clear hx0
  obtain ⟨V, hV⟩ : ∃ V, V = (w.alloc (.cells (cardR a) 35)).alloc (.cells (cardR b) 35) := ⟨_, rfl⟩
  have hb0 : Below w.heap.size w V := by rw [hV]; exact ((Below.refl _ _).alloc (Nat.le_refl _) _).alloc (by simp) _
  have hx2 : CardN w.heap.size a V := by rw [hV]; exact (box_new w _ _).alloc _
  have hy : CardN (w.heap.size + 1) b V := by
    rw [hV]
    have := box_new (w.alloc (.cells (cardR a) 35)) 35 (cardR b)
    rw [World.size_alloc] at this
    exact this
  have HQ : Hid (∀ W, V.grownBy W none → (W.cell? ⟨w.heap.size, 0, none⟩ = some (.int .i64 a.id) ∧ W.cell? ⟨w.heap.size, 1, none⟩ = some (.int .i64 a.unit) ∧ W.cell? ⟨w.heap.size, 2, none⟩ = some (.int .i64 a.kind) ∧ W.cell? ⟨w.heap.size, 3, none⟩ = some (.int .i64 a.beg) ∧ W.cell? ⟨w.heap.size, 4, none⟩ = some (.int .i64 a.fin)) ∧ (W.cell? ⟨w.heap.size + 1, 0, none⟩ = some (.int .i64 b.id) ∧ W.cell? ⟨w.heap.size + 1, 1, none⟩ = some (.int .i64 b.unit) ∧ W.cell? ⟨w.heap.size + 1, 2, none⟩ = some (.int .i64 b.kind) ∧ W.cell? ⟨w.heap.size + 1, 3, none⟩ = some (.int .i64 b.beg) ∧ W.cell? ⟨w.heap.size + 1, 4, none⟩ = some (.int .i64 b.fin))) := fun W hW =>
    ⟨CardN.cells (BoxN.grown hx2 hW (by simp)), CardN.cells (BoxN.grown hy hW (by simp))⟩
  have HB := Lib.hid hb0
  have HVv := Lib.hid hV
  clear hV hb0 hx2 hy
  go_enter Tryz.func65, Tryz.ntmps65
  go_wp2
  rw [← HVv.out]
  refine wp_region_calm ⟨[6, 13, 18, 19, 20], CmpF V.heap.size x, fun _ => [], 99, none, 1000⟩ (by kernel_rfl) (by kernel_rfl) (by kernel_rfl) (fun g h => by cases h) (fun k hk v W W' c h hg hc => ?_) ?_
  · cases c with
    | some g => obtain ⟨_, _, i, j, u, hd, _⟩ := hc g rfl; simp at hd
    | none => exact cmpF_kept h hg
  iterate 6 (refine calm_quiet (v := ?_) (by rfl) (by rfl) (fun W hW hD => ?_) ?_; rotate_left; (· (obtain ⟨⟨z0, z1, z2, z3, z4⟩, ⟨y0, y1, y2, y3, y4⟩⟩ := HQ.out W hW; clear hD hW; go_simp; try with_reducible rfl)); simp only [Act.put, List.setIfInBounds_toArray, List.set_cons_zero, List.set_cons_succ, Nat.reduceAdd, Nat.zero_add])
  refine calm_makes (by rfl) (by rfl) (fun W hW hD Kc hK => ?_) (fun v11 => ?_)
  · refine wp_of_call (f := 79) ?_ ((HC0.out W).mono ?_)
    · clear hD hW hK
      go_simp
    · rintro e w5 ⟨rfl, rfl⟩
      exact ⟨_, rfl, hK _ _ (made_plain rfl (Below.refl _ _) rfl)⟩
  simp only [Act.put, List.setIfInBounds_toArray, List.set_cons_zero, List.set_cons_succ, Nat.reduceAdd, Nat.zero_add]
  iterate 6 (refine calm_quiet (v := ?_) (by rfl) (by rfl) (fun W hW hD => ?_) ?_; rotate_left; (· (obtain ⟨⟨z0, z1, z2, z3, z4⟩, ⟨y0, y1, y2, y3, y4⟩⟩ := HQ.out W hW; clear hD hW; go_simp; try with_reducible rfl)); simp only [Act.put, List.setIfInBounds_toArray, List.set_cons_zero, List.set_cons_succ, Nat.reduceAdd, Nat.zero_add])
  refine calm_makes (by rfl) (by rfl) (fun W hW hD Kc hK => ?_) (fun v18 => ?_)
  · refine wp_of_call (f := 79) ?_ ((HC1.out W).mono ?_)
    · clear hD hW hK
      go_simp
    · rintro e w5 ⟨rfl, rfl⟩
      exact ⟨_, rfl, hK _ _ (made_plain rfl (Below.refl _ _) rfl)⟩
  simp only [Act.put, List.setIfInBounds_toArray, List.set_cons_zero, List.set_cons_succ, Nat.reduceAdd, Nat.zero_add]
  iterate 4 (refine calm_quiet (v := ?_) (by rfl) (by rfl) (fun W hW hD => ?_) ?_; rotate_left; (· (obtain ⟨⟨z0, z1, z2, z3, z4⟩, ⟨y0, y1, y2, y3, y4⟩⟩ := HQ.out W hW; clear hD hW; go_simp; try with_reducible rfl)); simp only [Act.put, List.setIfInBounds_toArray, List.set_cons_zero, List.set_cons_succ, Nat.reduceAdd, Nat.zero_add])
  refine calm_makes (by rfl) (by rfl) (fun W hW hD Kc hK => ?_) (fun v23 => ?_)
  · refine wp_of_call (f := 79) ?_ ((HC2.out W).mono ?_)
    · clear hD hW hK
      go_simp
    · rintro e w5 ⟨rfl, rfl⟩
      exact ⟨_, rfl, hK _ _ (made_plain rfl (Below.refl _ _) rfl)⟩
  simp only [Act.put, List.setIfInBounds_toArray, List.set_cons_zero, List.set_cons_succ, Nat.reduceAdd, Nat.zero_add]
  refine calm_makes (by rfl) (by rfl) (fun W hW hD Kc hK => ?_) (fun v24 => ?_)
  · obtain rfl : v11 = .int .i64 (x 0) := hD [] 6 (by kernel_rfl) (by kernel_rfl) (by kernel_rfl)
    obtain rfl : v18 = .int .i64 (x 1) := hD [] 13 (by kernel_rfl) (by kernel_rfl) (by kernel_rfl)
    obtain rfl : v23 = .int .i64 (x 2) := hD [] 18 (by kernel_rfl) (by kernel_rfl) (by kernel_rfl)
    refine wp_of_run (v := .slice (some ⟨W.heap.size, 0, none⟩) 3 3) (w' := W.alloc (.cells #[.int .i64 (x 0), .int .i64 (x 1), .int .i64 (x 2)] 3)) ?_ (hK _ _ (made_below ⟨W.heap.size, rfl, hW.size, box_new W _ _⟩ ((Below.refl _ _).alloc (Nat.le_refl _) _) (fun g hg => ?_)))
    · clear hD hW hK
      go_simp
    · have hg' : some W.heap.size = some g := hg
      cases hg'
      exact ⟨Nat.le_refl _, by simp⟩
  simp only [Act.put, List.setIfInBounds_toArray, List.set_cons_zero, List.set_cons_succ, Nat.reduceAdd, Nat.zero_add]
  refine calm_makes (by rfl) (by rfl) (fun W hW hD Kc hK => ?_) (fun v25 => ?_)
  · obtain ⟨g, rfl, _, hbx⟩ : ∃ g, v24 = .slice (some ⟨g, 0, none⟩) 3 3 ∧ V.heap.size ≤ g ∧ BoxN g 3 #[.int .i64 (x 0), .int .i64 (x 1), .int .i64 (x 2)] W := hD [] 19 (by kernel_rfl) (by kernel_rfl) (by kernel_rfl)
    refine wp_of_call (f := 78) ?_ ((or3_any x g W (fun k hk => ?_)).mono ?_)
    · clear hD hW hK hbx
      go_simp
    · match k, hk with
      | 0, _ => exact hbx.cell 0 _ rfl
      | 1, _ => exact hbx.cell 1 _ rfl
      | 2, _ => exact hbx.cell 2 _ rfl
    · rintro e w5 ⟨rfl, rfl⟩
      exact ⟨_, rfl, hK _ _ (made_plain rfl (Below.refl _ _) rfl)⟩
  simp only [Act.put, List.setIfInBounds_toArray, List.set_cons_zero, List.set_cons_succ, Nat.reduceAdd, Nat.zero_add]
  iterate 1 (refine calm_quiet (v := ?_) (by rfl) (by rfl) (fun W hW hD => ?_) ?_; rotate_left; (· (clear hD hW; go_simp; try with_reducible rfl)); simp only [Act.put, List.setIfInBounds_toArray, List.set_cons_zero, List.set_cons_succ, Nat.reduceAdd, Nat.zero_add])
  refine calm_nil fun W hW hF => ?_
  obtain rfl : v25 = .int .i64 (orZ [x 0, x 1, x 2]) := hF 20 (by kernel_rfl) (by kernel_rfl)
  have HBf := Lib.hid (HB.out.trans ((grown_below hW).mono HB.out.size))
  clear hF hW HQ
  go_wp2
  go_ret
  exact ⟨by rw [HZ.out]; rfl, HBf.out⟩
end Go.Proofs.YtcgopilkajfghaaGreatDoor
