/- Plain: the levels of an index. -/
import Derived.Test.YtcgopilkajfghaaGreatDoorIPlain
set_option linter.unusedSimpArgs false
namespace Go.Proofs.YtcgopilkajfghaaGreatDoor

/-- From, to (not included), how many. -/
structure ILev where
  beg : Nat
  fin : Nat
  cnt : Int
deriving DecidableEq, Inhabited
/-- The levels of the years before one, as the reference goes. -/
def levsR (f : Nat → Int) : Nat → List ILev
  | 0 => []
  | y + 1 => match (levsR f y).getLast? with
    | some q => if q.cnt = f y then (levsR f y).dropLast ++ [⟨q.beg, y + 1, q.cnt⟩] else levsR f y ++ [⟨y, y + 1, f y⟩]
    | none => [⟨y, y + 1, f y⟩]
/-- Levels follow each other without a gap, with different counts, and each is right. -/
inductive LevOk (f : Nat → Int) : Nat → List ILev → Prop
  | nil : LevOk f 0 []
  | snoc {a m : Nat} {init : List ILev} {n : Int} : LevOk f a init → a < m → (∀ y, a ≤ y → y < m → f y = n) → (∀ q, init.getLast? = some q → q.cnt ≠ n) → LevOk f m (init ++ [⟨a, m, n⟩])
theorem levs_ok (f : Nat → Int) : ∀ m, LevOk f m (levsR f m)
  | 0 => .nil
  | y + 1 => by
    have ih := levs_ok f y
    rw [levsR]
    generalize hL : levsR f y = L at *
    cases ih with
    | nil => exact .snoc (init := []) .nil (by omega) (fun z h1 h2 => by rw [show z = 0 from by omega]) (fun q hq => by simp at hq)
    | @snoc a _ init n h1 h2 h3 h4 =>
      simp only [List.getLast?_append, List.getLast?_singleton, Option.some_or, List.dropLast_concat]
      by_cases e : n = f y
      · rw [if_pos e]
        refine .snoc h1 (by omega) (fun z hz1 hz2 => ?_) h4
        by_cases ez : z = y
        · subst ez; exact e.symm
        · exact h3 z hz1 (by omega)
      · rw [if_neg e]
        refine .snoc (.snoc h1 h2 h3 h4) (by omega) (fun z hz1 hz2 => by rw [show z = y from by omega]) (fun q hq => ?_)
        simp only [List.getLast?_append, List.getLast?_singleton, Option.some_or, Option.some.injEq] at hq
        subst hq
        exact e
def sumTo (f : Nat → Int) : Nat → Int
  | 0 => 0
  | y + 1 => sumTo f y + f y
theorem sumTo_const {f : Nat → Int} {a : Nat} {n : Int} : ∀ (d : Nat), (∀ y, a ≤ y → y < a + d → f y = n) → sumTo f (a + d) = sumTo f a + n * d
  | 0, _ => by simp
  | d + 1, h => by
    rw [← Nat.add_assoc, sumTo, sumTo_const d fun y h1 h2 => h y h1 (by omega), h (a + d) (by omega) (by omega)]
    push_cast
    rw [Int.mul_add]
    omega
/-- The years of the levels, times their counts. -/
theorem LevOk.sum {f : Nat → Int} {m : Nat} {L : List ILev} (h : LevOk f m L) : (L.map fun q => q.cnt * ((q.fin : Int) - q.beg)).sum = sumTo f m := by
  induction h with
  | nil => rfl
  | @snoc a m init n h1 h2 h3 _ ih =>
    rw [List.map_append, List.sum_append, ih]
    obtain ⟨d, rfl⟩ : ∃ d, m = a + d := ⟨m - a, by omega⟩
    rw [sumTo_const d h3]
    simp only [List.map_cons, List.map_nil, List.sum_cons, List.sum_nil]
    rw [show ((a + d : Nat) : Int) - (a : Int) = (d : Int) from by omega]
    omega
/-- Where a level begins. -/
theorem LevOk.chain {f : Nat → Int} {m : Nat} {L : List ILev} (h : LevOk f m L) : (∀ i (hi : i < L.length), L[i].beg < L[i].fin ∧ L[i].fin ≤ m ∧ (∀ y, L[i].beg ≤ y → y < L[i].fin → f y = L[i].cnt) ∧ (i = 0 → L[i].beg = 0) ∧ (∀ (_ : 0 < i), L[i].beg = (L[i - 1]'(by omega)).fin ∧ L[i].cnt ≠ (L[i - 1]'(by omega)).cnt)) ∧ (L = [] → m = 0) ∧ ∀ q, L.getLast? = some q → q.fin = m := by
  induction h with
  | nil => exact ⟨fun i hi => by simp at hi, fun _ => rfl, fun q hq => by simp at hq⟩
  | @snoc a m init n h1 h2 h3 h4 ih =>
    obtain ⟨i1, i2, i3⟩ := ih
    refine ⟨fun i hi => ?_, fun h => by simp at h, fun q hq => ?_⟩
    · by_cases hl : i < init.length
      · obtain ⟨g1, g2, g3, g4, g5⟩ := i1 i hl
        have e : (init ++ [(⟨a, m, n⟩ : ILev)])[i] = init[i] := List.getElem_append_left hl
        rw [e]
        refine ⟨g1, by omega, g3, g4, fun h0 => ?_⟩
        have e' : (init ++ [(⟨a, m, n⟩ : ILev)])[i - 1]'(by simp; omega) = init[i - 1]'(by omega) := List.getElem_append_left (by omega)
        rw [e']
        exact g5 h0
      · have hi' : i = init.length := by simp at hi; omega
        subst hi'
        have e : (init ++ [(⟨a, m, n⟩ : ILev)])[init.length] = ⟨a, m, n⟩ := by simp
        rw [e]
        refine ⟨h2, Nat.le_refl _, h3, fun h0 => i2 (List.eq_nil_of_length_eq_zero h0), fun h0 => ?_⟩
        have e' : (init ++ [(⟨a, m, n⟩ : ILev)])[init.length - 1]'(by simp; omega) = init[init.length - 1]'(by omega) := List.getElem_append_left (by omega)
        rw [e']
        have hg : init.getLast? = some (init[init.length - 1]'(by omega)) := by rw [List.getLast?_eq_getElem?, List.getElem?_eq_getElem (by omega)]
        exact ⟨(i3 _ hg).symm, fun e => h4 _ hg e.symm⟩
    · simp only [List.getLast?_append, List.getLast?_singleton, Option.some_or, Option.some.injEq] at hq
      subst hq
      rfl
/-- The years of all cards. -/
theorem cards_sum {l : List ICard} (hl : ∀ c ∈ l, 0 ≤ c.beg ∧ c.beg < c.fin ∧ c.fin ≤ 2100) : sumTo (fun y => (cntY l (y : Nat) : Int)) 2100 = (l.map fun c => c.fin - c.beg).sum := by
  have one : ∀ (c : ICard) (m : Nat), 0 ≤ c.beg → c.beg < c.fin → sumTo (fun y => if hasY (y : Nat) c then 1 else 0) m = min (m : Int) c.fin - min (m : Int) c.beg := fun c m h0 h1 => by
    induction m with
    | zero => simp [sumTo]; omega
    | succ m ih =>
      rw [sumTo, ih]
      unfold hasY
      by_cases e1 : c.beg ≤ (m : Int) <;> by_cases e2 : (m : Int) < c.fin <;> simp only [e1, e2, decide_true, decide_false, Bool.and_true, Bool.and_false, Bool.true_and, Bool.false_and, if_true, Bool.false_eq_true, if_false] <;> omega
  have add : ∀ (f g : Nat → Int) (m : Nat), sumTo (fun y => f y + g y) m = sumTo f m + sumTo g m := fun f g m => by
    induction m with
    | zero => rfl
    | succ m ih => simp only [sumTo, ih]; omega
  induction l with
  | nil =>
    have : ∀ m, sumTo (fun y => (cntY [] (y : Nat) : Int)) m = 0 := fun m => by
      induction m with
      | zero => rfl
      | succ m ih => rw [sumTo, ih]; rfl
    exact this _
  | cons c t ih =>
    have hc := hl c (by simp)
    have e : (fun y : Nat => (cntY (c :: t) (y : Nat) : Int)) = fun y => (cntY t (y : Nat) : Int) + (if hasY (y : Nat) c then 1 else 0) := by
      funext y
      unfold cntY
      rw [List.countP_cons]
      split <;> simp
    rw [e, add, ih fun d hd => hl d (by simp [hd]), one c 2100 hc.1 hc.2.1, List.map_cons, List.sum_cons]
    omega
end Go.Proofs.YtcgopilkajfghaaGreatDoor
