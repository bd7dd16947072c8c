import Derived.Orders
import Derived.Below
import Derived.Deep.RegionHeld3
import Derived.OrdersIn
import Derived.RangeFuncCalls
import Derived.TacticsIn
set_option linter.unusedVariables false
set_option linter.unusedSimpArgs false

section
/- A region that draws its order, walked once in the order of its text, where operations make memory: each such operation has a fact of its own about its value, which the other steps of the region keep. -/
namespace Go.Proofs.YtcgopilkajfghaaGreatDoor
open Go Go.RowKit

/-- What the walk of a region is told: the operations with a fact of their own, the facts, whose rows an operation uses up, the row from before the region that is written, with the operation that brings it in, and how many operations are walked so: those behind them come last in every order. -/
structure Plan where
  sp : List Nat
  F : Nat → Value → World → Prop
  dead : Nat → List Nat
  k0 : Nat
  c0 : Option Nat
  n0 : Nat

/-- Which row from before the region may have been written when operation k comes up. -/
def Plan.cAt (pl : Plan) (k : Nat) : Option Nat := if k = pl.k0 then none else if (pl.dead 1000).contains k then none else pl.c0

section
variable {P : Program} {ops : Array Oper} {w0 : World} {pl : Plan}

/-- What operation j has left in its temporary. -/
def valOf (ops : Array Oper) (a : Act) (j : Nat) : Value :=
  match (ops[j]?).bind (·.dst) with
  | some d => a.eval (.tmp d)
  | none => undef
/-- Operation k waits for operation j. -/
def onB (ops : Array Oper) (k j : Nat) : Bool :=
  match ops[k]? with
  | some o => o.after.any fun e => Region.binds .any e && e.on == j
  | none => false
def pathB (ops : Array Oper) : Nat → List Nat → Nat → Bool
  | k, [], j => onB ops k j && decide (j < k)
  | k, i :: p, j => onB ops k i && decide (i < k) && pathB ops i p j
/-- Operation i waits, at one or more steps, for operation k. -/
def reachB (ops : Array Oper) : Nat → Nat → Nat → Bool
  | 0, _, _ => false
  | n + 1, i, k => match ops[i]? with
    | some o => o.after.any fun e => Region.binds .any e && (e.on == k || reachB ops n e.on k)
    | none => false
/-- Whoever uses up the row of j comes behind k. -/
def useOk (ops : Array Oper) (dead : Nat → List Nat) (k j : Nat) : Bool := (List.range ops.size).all fun i => !(dead i).contains j || i == k || reachB ops 6 i k
/-- The facts of the operations that operation k waits for. -/
def Deps (ops : Array Oper) (pl : Plan) (k : Nat) (a : Act) (w : World) : Prop :=
  ∀ (p : List Nat) (j : Nat), pathB ops k p j = true → pl.sp.contains j = true → useOk ops pl.dead k j = true → pl.F j (valOf ops a j) w
/-- What an operation leaves in its temporary, if it has one. -/
def kept (o : Oper) (v : Value) : Value := if o.dst.isSome then v else undef
/-- What is known when operation k has left v. -/
def Made (ops : Array Oper) (pl : Plan) (k : Nat) (o : Oper) (a : Act) (w : World) (v : Value) (w' : World) : Prop :=
  pl.F k (kept o v) w' ∧ (∃ c, w.grownBy w' c ∧ (c = none ∨ ∃ j, (pl.dead k).contains j = true ∧ c = (valOf ops a j).ownBlock)) ∧
    ∀ g, (kept o v).ownBlock = some g → g < w'.heap.size ∧ (w.heap.size ≤ g ∨ (∃ j, (pl.dead k).contains j = true ∧ (valOf ops a j).ownBlock = some g) ∨ (k = pl.k0 ∧ pl.c0 = some g))

/-- The row c that another operation writes, once operation k has left v: none of v's own; and the operation that writes it has used up a row of which something is known. -/
def Far (ops : Array Oper) (pl : Plan) (w0 : World) (k : Nat) (v : Value) (w : World) (c : Option Nat) : Prop :=
  ∀ g, c = some g → v.ownBlock ≠ some g ∧ (w0.heap.size ≤ g ∨ pl.c0 = some g) ∧ ∃ i j u, (pl.dead i).contains j = true ∧ i ≠ k ∧ reachB ops 6 k i = false ∧ u.ownBlock = some g ∧ pl.F j u w

/-- What operation k may leave. -/
def Poss (pl : Plan) (o : Oper) (k : Nat) (v : Value) : Prop := o.dst = none ∨ (∃ w, pl.F k v w) ∨ ¬ ∃ v w, pl.F k v w
theorem poss_some (pl : Plan) (o : Oper) (k : Nat) : ∃ v, Poss pl o k v := by
  by_cases h : ∃ v w, pl.F k v w
  · obtain ⟨v, w, h⟩ := h
    exact ⟨v, .inr (.inl ⟨w, h⟩)⟩
  · exact ⟨undef, .inr (.inr h)⟩
theorem poss_made {ops : Array Oper} {pl : Plan} {k : Nat} {o : Oper} {a : Act} {w w' : World} {v : Value} (h : Made ops pl k o a w v w') : Poss pl o k v := by
  have h1 := h.1
  unfold kept at h1
  cases hd : o.dst with
  | none => exact .inl hd
  | some d =>
    rw [hd] at h1
    exact .inr (.inl ⟨w', h1⟩)
def wpCalm (P : Program) (ops : Array Oper) (w0 : World) (pl : Plan) (Q : Exit → Act → World → Prop) : List (Nat × Oper) → Act → Prop
  | [], a => ∀ w, w0.grownBy w pl.c0 → (∀ j, pl.sp.contains j = true → ((List.range ops.size).all fun i => !(pl.dead i).contains j) = true → pl.F j (valOf ops a j) w) → Q .normal a w
  | (k, o) :: rest, a =>
    if pl.n0 ≤ k then ∀ w, w0.grownBy w pl.c0 → (∀ j, pl.sp.contains j = true → ((List.range ops.size).all fun i => !(pl.dead i).contains j) = true → pl.F j (valOf ops a j) w) → wpList P ops Q (o :: rest.map (·.2)) a w
    else if Region.wanted o (yielded ops a.tmps) = true then
      if pl.sp.contains k = true then
        (∀ w, w0.grownBy w (pl.cAt k) → Deps ops pl k a w → o.wp P a w (fun a' w' => ∃ v, a' = a.put o.dst v ∧ Made ops pl k o a w v w') (fun _ _ _ => False)) ∧ ∀ v, Poss pl o k v → wpCalm P ops w0 pl Q rest (a.put o.dst v)
      else ∃ v, (∀ w, w0.grownBy w (pl.cAt k) → Deps ops pl k a w → (execOp a.eval o).run P w = .ok (.value v) w) ∧ wpCalm P ops w0 pl Q rest (a.put o.dst v)
    else (pl.sp.contains k = true → ∀ w, w0.grownBy w (pl.cAt k) → Deps ops pl k a w → pl.F k undef w) ∧ wpCalm P ops w0 pl Q rest (a.put o.dst undef)
def depsL (ops : Array Oper) (k : Nat) : List Nat :=
  match ops[k]? with
  | some o => o.after.toList.filterMap fun e => if Region.binds .any e then some e.on else none
  | none => []
def sweepL (ops : Array Oper) : Nat → List Nat → List Nat
  | 0, s => s
  | k + 1, s => sweepL ops k (if s.contains k then depsL ops k ++ s else s)
/-- Operation i waits, at last, for all that stand before it. -/
def coverB (ops : Array Oper) (i : Nat) : Bool := (List.range i).all fun j => (sweepL ops i (depsL ops i)).contains j

/-- The region is of the form that this walk wants. -/
def calmB (ops : Array Oper) (pl : Plan) : Bool :=
  Region.noSelect ops &&
  ((List.range ops.size).all fun i => match ops[i]? with
    | none => true
    | some oi => (oi.after.all fun e => !Region.binds .any e || decide (e.on < i)) &&
      ((pl.dead i).all fun j => onB ops i j && pl.sp.contains j) &&
      ((List.range i).all fun j => match ops[j]? with
        | none => true
        | some oj => (onB ops i j || (oj.apart ops oi && oi.apart ops oj)) && (!(pl.sp.contains i || pl.sp.contains j) || oi.dst == none || !(oi.dst == oj.dst)) && ((pl.dead i).all fun d => !(pl.dead j).contains d))) &&
  (pl.sp.all fun i => decide (i < ops.size) && decide (i < pl.n0)) &&
  ((List.range ops.size).all fun i => decide (i < pl.n0) || (coverB ops i && (pl.dead i).isEmpty)) &&
  ((pl.dead 1000).all fun k => (List.range ops.size).all fun i => (pl.dead i).isEmpty || i == k || reachB ops 6 i k)

structure CalmOk (ops : Array Oper) (pl : Plan) : Prop where
  noSel : ∀ (j : Nat) (o : Oper) (cs : Array SelectCase) (b : Bool), ops[j]? = some o → o.op ≠ .select cs b
  down : ∀ i o, ops[i]? = some o → ∀ e ∈ o.after, Region.binds .any e = true → e.on < i
  apart : ∀ i j oi oj, ops[i]? = some oi → ops[j]? = some oj → j < i → onB ops i j = false → oj.apart ops oi = true ∧ oi.apart ops oj = true
  dsts : ∀ i j oi oj, ops[i]? = some oi → ops[j]? = some oj → i ≠ j → (pl.sp.contains i = true ∨ pl.sp.contains j = true) → ∀ d, oi.dst = some d → oj.dst ≠ some d
  lt : ∀ i, pl.sp.contains i = true → i < ops.size
  dead : ∀ i j, i < ops.size → (pl.dead i).contains j = true → onB ops i j = true ∧ pl.sp.contains j = true ∧ j < i
  one : ∀ i i' j, i < ops.size → i' < ops.size → i ≠ i' → (pl.dead i).contains j = true → (pl.dead i').contains j = true → False
  cover : ∀ i, i < ops.size → pl.n0 ≤ i → coverB ops i = true
  spn : ∀ i, pl.sp.contains i = true → i < pl.n0
  early : ∀ k, (pl.dead 1000).contains k = true → ∀ i, i < ops.size → (pl.dead i).isEmpty = false → i = k ∨ reachB ops 6 i k = true

theorem onB_mem {i j : Nat} (h : onB ops i j = true) : ∃ o e, ops[i]? = some o ∧ e ∈ o.after ∧ Region.binds .any e = true ∧ e.on = j := by
  unfold onB at h
  cases hi : ops[i]? with
  | none => rw [hi] at h; cases h
  | some o =>
    rw [hi] at h
    obtain ⟨e, he, hb⟩ := Array.any_eq_true'.1 h
    rw [Bool.and_eq_true, beq_iff_eq] at hb
    exact ⟨o, e, rfl, he, hb.1, hb.2⟩
theorem onB_false {i j : Nat} {oi : Oper} (hi : ops[i]? = some oi) (h : ∀ e ∈ oi.after, Region.binds .any e = true → e.on ≠ j) : onB ops i j = false := by
  rw [Bool.eq_false_iff]
  intro h'
  obtain ⟨o, e, ho, he, hb, hj⟩ := onB_mem h'
  rw [hi] at ho; cases ho
  exact h e he hb hj

theorem calmOk_of (h : calmB ops pl = true) : CalmOk ops pl := by
  unfold calmB at h
  rw [Bool.and_eq_true, Bool.and_eq_true, Bool.and_eq_true, Bool.and_eq_true] at h
  obtain ⟨⟨⟨⟨h1, h2⟩, h3⟩, h4⟩, h5⟩ := h
  rw [List.all_eq_true] at h2 h3 h4 h5
  have key : ∀ i oi, ops[i]? = some oi → ((oi.after.all fun e => !Region.binds .any e || decide (e.on < i)) = true ∧ ∀ j, (pl.dead i).contains j = true → onB ops i j = true ∧ pl.sp.contains j = true) ∧ ∀ j oj, ops[j]? = some oj → j < i → ((onB ops i j || (oj.apart ops oi && oi.apart ops oj)) = true ∧ (!(pl.sp.contains i || pl.sp.contains j) || oi.dst == none || !(oi.dst == oj.dst)) = true) ∧ ∀ d, (pl.dead i).contains d = true → (pl.dead j).contains d = false := by
    intro i oi hi
    have hlt : i < ops.size := (Array.getElem?_eq_some_iff.1 hi).1
    have h := h2 i (List.mem_range.2 hlt)
    simp only [hi, Bool.and_eq_true] at h
    refine ⟨⟨h.1.1, fun j hj => ?_⟩, fun j oj hj hji => ?_⟩
    · have := List.all_eq_true.1 h.1.2 j (by simpa using hj)
      rwa [Bool.and_eq_true] at this
    · have h' := List.all_eq_true.1 h.2 j (List.mem_range.2 hji)
      simp only [hj, Bool.and_eq_true] at h'
      refine ⟨⟨by simpa [Bool.and_eq_true] using h'.1.1, h'.1.2⟩, fun d hd => ?_⟩
      have := List.all_eq_true.1 h'.2 d (by simpa using hd)
      simpa using this
  have down : ∀ i o, ops[i]? = some o → ∀ e ∈ o.after, Region.binds .any e = true → e.on < i := fun i o hi e he hb => by
    have h := Array.all_eq_true_iff_forall_mem.1 (key i o hi).1.1 e he
    rw [hb] at h
    simpa using h
  have dst1 : ∀ i j oi oj, ops[i]? = some oi → ops[j]? = some oj → j < i → (pl.sp.contains i = true ∨ pl.sp.contains j = true) → ∀ d, oi.dst = some d → oj.dst ≠ some d := by
    intro i j oi oj hi hj hji hs d hd hd2
    have h := ((key i oi hi).2 j oj hj hji).1.2
    have hs' : (pl.sp.contains i || pl.sp.contains j) = true := by rcases hs with hs | hs <;> rw [hs] <;> simp
    rw [hs', hd, hd2] at h
    simp at h
  refine ⟨Region.noSelect_spec h1, down, fun i j oi oj hi hj hji hno => ?_, fun i j oi oj hi hj hij hs d hd hd2 => ?_, fun i hi => ?_, fun i j hi hj => ?_, fun i i' j hi hi' hne hj hj' => ?_, fun i hi hn => ?_, fun i hi => ?_, fun k hk i hi hd => ?_⟩
  rotate_right
  · have h := List.all_eq_true.1 (h5 k (by simpa using hk)) i (List.mem_range.2 hi)
    rw [hd, Bool.false_or, Bool.or_eq_true, beq_iff_eq] at h
    exact h
  · have h := ((key i oi hi).2 j oj hj hji).1.1
    rw [hno] at h
    simpa using h
  · rcases Nat.lt_or_gt_of_ne hij with hl | hl
    · exact dst1 j i oj oi hj hi hl hs.symm d hd2 hd
    · exact dst1 i j oi oj hi hj hl hs d hd hd2
  · have h := h3 i (by simpa using hi)
    rw [Bool.and_eq_true] at h
    simpa using h.1
  · have hi' : ops[i]? = some ops[i] := by simp [hi]
    obtain ⟨h1, h2⟩ := (key i _ hi').1.2 j hj
    obtain ⟨o, e, ho, he, hb, rfl⟩ := onB_mem h1
    exact ⟨h1, h2, down i o ho e he hb⟩
  · have e1 : ops[i]? = some ops[i] := by simp [hi]
    have e2 : ops[i']? = some ops[i'] := by simp [hi']
    rcases Nat.lt_or_gt_of_ne hne with hl | hl
    · have := ((key i' _ e2).2 i _ e1 hl).2 j hj'
      rw [hj] at this; cases this
    · have := ((key i _ e1).2 i' _ e2 hl).2 j hj
      rw [hj'] at this; cases this
  · have := h4 i (List.mem_range.2 hi)
    rw [decide_eq_false (by omega), Bool.false_or, Bool.and_eq_true] at this
    exact this.1
  · have h := h3 i (by simpa using hi)
    rw [Bool.and_eq_true] at h
    simpa using h.2

theorem valOf_put {a : Act} {j : Nat} {oi : Oper} {v : Value} (h : ∀ d, oi.dst = some d → ∀ oj, ops[j]? = some oj → oj.dst ≠ some d) : valOf ops (a.put oi.dst v) j = valOf ops a j := by
  unfold valOf
  cases hj : ops[j]? with
  | none => rfl
  | some oj =>
    simp only [Option.bind_some]
    cases hd : oj.dst with
    | none => rfl
    | some t =>
      simp only []
      exact Act.eval_put fun d hd2 he => h d hd2 oj hj (by cases he; exact hd)
theorem pathB_lt : ∀ {p : List Nat} {k j : Nat}, pathB ops k p j = true → j < k
  | [], k, j, h => by
    unfold pathB at h
    rw [Bool.and_eq_true] at h
    simpa using h.2
  | i :: p, k, j, h => by
    unfold pathB at h
    rw [Bool.and_eq_true, Bool.and_eq_true] at h
    have h1 := pathB_lt h.2
    have h2 : i < k := by simpa using h.1.2
    omega

theorem act_put_cancel {a : Act} {x y : Option Tmp} {u s t : Value} (h : ∀ d, x = some d → y ≠ some d) (he : (a.put x u).put y s = (a.put x u).put y t) : a.put y s = a.put y t := by
  cases x with
  | none => exact he
  | some d =>
    cases y with
    | none => rfl
    | some e =>
      have hne : d ≠ e := fun hh => h d rfl (by rw [hh])
      simp only [Act.put, Act.mk.injEq, and_true] at he ⊢
      apply Array.ext_getElem?
      intro k
      have hk : ((a.tmps.setIfInBounds d u).setIfInBounds e s)[k]? = ((a.tmps.setIfInBounds d u).setIfInBounds e t)[k]? := by rw [he]
      by_cases hek : e = k
      · subst hek
        by_cases hs : e < a.tmps.size
        · simp [hs] at hk ⊢
          exact hk
        · rw [Array.getElem?_eq_none (by simpa using hs), Array.getElem?_eq_none (by simpa using hs)]
      · rw [Array.getElem?_setIfInBounds_ne hek, Array.getElem?_setIfInBounds_ne hek]

theorem oper_wp_conv {o : Oper} {a b : Act} {w : World} {G H : Value → World → Prop} (he : execOp b.eval o = execOp a.eval o) (hc : ∀ s v, a.put o.dst s = a.put o.dst v → b.put o.dst s = b.put o.dst v) (hG : ∀ v w', G v w' → H v w')
    (h : o.wp P a w (fun a' w' => ∃ v, a' = a.put o.dst v ∧ G v w') (fun _ _ _ => False)) : o.wp P b w (fun a' w' => ∃ v, a' = b.put o.dst v ∧ H v w') (fun _ _ _ => False) := by
  have conv : ∀ {s : Value} {w' : World}, (∃ v, a.put o.dst s = a.put o.dst v ∧ G v w') → ∃ v, b.put o.dst s = b.put o.dst v ∧ H v w' := fun ⟨v, h1, h2⟩ => ⟨v, hc _ _ h1, hG _ _ h2⟩
  unfold Oper.wp at *
  rw [he]
  generalize (execOp a.eval o).run P w = r at *
  cases r with
  | ok n w' =>
    cases n <;> simp only [Oper.upon] at h ⊢
    case value s => exact conv h
    case skip => exact conv h
    case defer d =>
      obtain ⟨v, h1, _⟩ := h
      have hdf := congrArg Act.defers h1
      have e1 : ∀ (b : Act) (y : Option Tmp) (z : Value), (b.put y z).defers = b.defers := fun b y z => by cases y <;> rfl
      rw [e1, e1] at hdf
      exact absurd (congrArg List.length hdf) (by simp)
    case enter f args =>
      refine Calls.mono h fun e w'' hh => ?_
      cases e with
      | returned s => exact conv hh
      | panicked c => exact hh
      | outgrown => exact hh
    case row row args => exact Rows.mono h fun s w'' hh => conv hh
  | halt x w' => cases x <;> simp only [Oper.upon] at h ⊢

theorem found_put {oi oj : Oper} {a : Act} {u : Value} (hsel : ∀ cs b, oi.op ≠ .select cs b) (hji : oj.apart ops oi = true) :
    execOp (a.put oj.dst u).eval oi = execOp a.eval oi ∧ Region.wanted oi (yielded ops (a.put oj.dst u).tmps) = Region.wanted oi (yielded ops a.tmps) := by
  obtain ⟨h1, _, _⟩ := Oper.apart_spec hji
  exact ⟨execOp_put oi hsel a oj.dst u h1, wanted_put oi a oj.dst u h1⟩

theorem valOf_sp {i d : Nat} {oi : Oper} {v : Value} {a : Act} (hok : CalmOk ops pl) (hi : ops[i]? = some oi) (hd : pl.sp.contains d = true) (hne : i ≠ d) : valOf ops (a.put oi.dst v) d = valOf ops a d :=
  valOf_put fun e he od hod => hok.dsts i d oi od hi hod hne (.inr hd) e he
theorem deps_put {i j : Nat} {oi : Oper} {v : Value} {a : Act} {w : World} (hok : CalmOk ops pl) (hi : ops[i]? = some oi) (hij : ∀ p, pathB ops j p i = true → False) : Deps ops pl j (a.put oi.dst v) w ↔ Deps ops pl j a w := by
  constructor
  · intro h p d hp hd hu
    have h1 := h p d hp hd hu
    rwa [valOf_sp hok hi hd (fun hh => hij p (hh ▸ hp))] at h1
  · intro h p d hp hd hu
    rw [valOf_sp hok hi hd (fun hh => hij p (hh ▸ hp))]
    exact h p d hp hd hu
theorem made_put {i j : Nat} {oi oj : Oper} {u v : Value} {a : Act} {w w' : World} (hok : CalmOk ops pl) (hi : ops[i]? = some oi) (hj : j < ops.size) (hij : (pl.dead j).contains i = false) : Made ops pl j oj (a.put oi.dst u) w v w' ↔ Made ops pl j oj a w v w' := by
  have e : ∀ d, (pl.dead j).contains d = true → valOf ops (a.put oi.dst u) d = valOf ops a d := fun d hd => valOf_sp hok hi (hok.dead j d hj hd).2.1 (fun hh => by rw [hh, hd] at hij; cases hij)
  unfold Made
  constructor
  · rintro ⟨h1, ⟨c, h2, h3⟩, h4⟩
    refine ⟨h1, ⟨c, h2, h3.imp id fun ⟨d, hd, hc⟩ => ⟨d, hd, by rw [hc, e d hd]⟩⟩, fun g hg => ⟨(h4 g hg).1, (h4 g hg).2.imp id (Or.imp (fun ⟨d, hd, hc⟩ => ⟨d, hd, by rw [← e d hd]; exact hc⟩) id)⟩⟩
  · rintro ⟨h1, ⟨c, h2, h3⟩, h4⟩
    refine ⟨h1, ⟨c, h2, h3.imp id fun ⟨d, hd, hc⟩ => ⟨d, hd, by rw [hc, e d hd]⟩⟩, fun g hg => ⟨(h4 g hg).1, (h4 g hg).2.imp id (Or.imp (fun ⟨d, hd, hc⟩ => ⟨d, hd, by rw [e d hd]; exact hc⟩) id)⟩⟩

/-- What is found at operation i, in the lexical walk, taken out of its place. -/
inductive Found (P : Program) (ops : Array Oper) (w0 : World) (pl : Plan) (Q : Exit → Act → World → Prop) (i : Nat) (oi : Oper) (rest : List (Nat × Oper)) (a : Act) (w : World) : Prop where
  | skip (hw : Region.wanted oi (yielded ops a.tmps) = false) (hF : pl.sp.contains i = true → pl.F i undef w) (h : wpCalm P ops w0 pl Q rest (a.put oi.dst undef))
  | quiet (hw : Region.wanted oi (yielded ops a.tmps) = true) (hs : pl.sp.contains i = false) (v : Value) (hr : (execOp a.eval oi).run P w = .ok (.value v) w) (h : wpCalm P ops w0 pl Q rest (a.put oi.dst v))
  | makes (hw : Region.wanted oi (yielded ops a.tmps) = true) (hs : pl.sp.contains i = true) (hr : oi.wp P a w (fun a' w' => ∃ v, a' = a.put oi.dst v ∧ Made ops pl i oi a w v w') (fun _ _ _ => False)) (h : ∀ v, Poss pl oi i v → wpCalm P ops w0 pl Q rest (a.put oi.dst v))

/-- An operation that waits for none of those before it may come first. -/
theorem calm_take {i : Nat} {oi : Oper} {post : List (Nat × Oper)} {Q : Exit → Act → World → Prop} {w : World} (hok : CalmOk ops pl) (hi : ops[i]? = some oi) (hin : i < pl.n0) (hC : w0.grownBy w (pl.cAt i)) :
    ∀ (pre : List (Nat × Oper)) (a : Act), (∀ x ∈ pre, ops[x.1]? = some x.2 ∧ x.1 < i ∧ onB ops i x.1 = false ∧ ∀ p, pathB ops i p x.1 = true → False) → Deps ops pl i a w →
      wpCalm P ops w0 pl Q (pre ++ (i, oi) :: post) a → Found P ops w0 pl Q i oi (pre ++ post) a w := by
  have hisz : i < ops.size := (Array.getElem?_eq_some_iff.1 hi).1
  intro pre
  induction pre with
  | nil =>
    intro a _ hD h
    simp only [List.nil_append, wpCalm] at h ⊢
    rw [if_neg (by omega)] at h
    by_cases hw : Region.wanted oi (yielded ops a.tmps) = true
    · rw [if_pos hw] at h
      by_cases hs : pl.sp.contains i = true
      · rw [if_pos hs] at h
        exact .makes hw hs (h.1 w hC hD) h.2
      · rw [if_neg hs] at h
        obtain ⟨v, h1, h2⟩ := h
        exact .quiet hw (by simpa using hs) v (h1 w hC hD) h2
    · rw [if_neg hw] at h
      exact .skip (by simpa using hw) (fun hs => h.1 hs w hC hD) h.2
  | cons x pre ih =>
    intro a hpre hD h
    obtain ⟨j, oj⟩ := x
    obtain ⟨hj, hlt, hno, hpath⟩ := hpre (j, oj) (.head _)
    simp only [] at hj hlt hno hpath
    have hjsz : j < ops.size := (Array.getElem?_eq_some_iff.1 hj).1
    have hpre' : ∀ x ∈ pre, ops[x.1]? = some x.2 ∧ x.1 < i ∧ onB ops i x.1 = false ∧ ∀ p, pathB ops i p x.1 = true → False := fun x hx => hpre x (.tail _ hx)
    obtain ⟨hap1, hap2⟩ := hok.apart i j oi oj hi hj hlt hno
    have fi := fun (a : Act) (u : Value) => found_put (ops := ops) (a := a) (u := u) (fun cs b => hok.noSel i oi cs b hi) hap1
    have fj := fun (a : Act) (u : Value) => found_put (ops := ops) (a := a) (u := u) (fun cs b => hok.noSel j oj cs b hj) hap2
    have comm : ∀ (a : Act) (u v : Value), (a.put oj.dst u).put oi.dst v = (a.put oi.dst v).put oj.dst u := fun a u v => Act.put_comm a u v (Oper.apart_spec hap1).2.1
    have nopath : ∀ p, pathB ops j p i = true → False := fun p hp => by have := pathB_lt hp; omega
    have ndi : (pl.dead i).contains j = false := by
      rw [Bool.eq_false_iff]; intro hh
      have := (hok.dead i j hisz hh).1
      rw [hno] at this; cases this
    have ndj : (pl.dead j).contains i = false := by
      rw [Bool.eq_false_iff]; intro hh
      have := (hok.dead j i hjsz hh).2.2
      omega
    have toA : ∀ u, oi.wp P (a.put oj.dst u) w (fun a' w' => ∃ v, a' = (a.put oj.dst u).put oi.dst v ∧ Made ops pl i oi (a.put oj.dst u) w v w') (fun _ _ _ => False) → oi.wp P a w (fun a' w' => ∃ v, a' = a.put oi.dst v ∧ Made ops pl i oi a w v w') (fun _ _ _ => False) :=
      fun u hr => oper_wp_conv (fi a u).1.symm (fun s t => act_put_cancel (Oper.apart_spec hap1).2.1) (fun v w' hm => (made_put hok hj hisz ndi).1 hm) hr
    simp only [List.cons_append, wpCalm] at h ⊢
    rw [if_neg (by omega)] at h
    have hDj : ∀ u, Deps ops pl i (a.put oj.dst u) w := fun u => (deps_put hok hj hpath).2 hD
    by_cases hwj : Region.wanted oj (yielded ops a.tmps) = true
    · rw [if_pos hwj] at h
      by_cases hsj : pl.sp.contains j = true
      · rw [if_pos hsj] at h
        obtain ⟨hob, hrest⟩ := h
        have hall := fun u (hu : Poss pl oj j u) => ih (a.put oj.dst u) hpre' (hDj u) (hrest u hu)
        obtain ⟨u0, hu0⟩ := poss_some pl oj j
        have again : ∀ v, (∀ u, Poss pl oj j u → wpCalm P ops w0 pl Q (pre ++ post) ((a.put oj.dst u).put oi.dst v)) → wpCalm P ops w0 pl Q ((j, oj) :: (pre ++ post)) (a.put oi.dst v) := by
          intro v hv
          simp only [wpCalm]
          rw [if_neg (by omega), if_pos (by rw [(fj a v).2]; exact hwj), if_pos hsj]
          refine ⟨fun w' hC' hD' => ?_, fun u hu => by rw [← comm]; exact hv u hu⟩
          exact oper_wp_conv (a := a) (b := a.put oi.dst v) (o := oj) (fj a v).1 (fun s t hst => by rw [← comm, ← comm, hst]) (fun v' w'' hm => (made_put hok hi hjsz ndj).2 hm) (hob w' hC' ((deps_put hok hi nopath).1 hD'))
        rcases hall u0 hu0 with ⟨hw, hF, h⟩ | ⟨hw, hs, v, hr, h⟩ | ⟨hw, hs, hr, h⟩
        · rw [(fi a u0).2] at hw
          refine .skip hw hF (again undef fun u hu => ?_)
          rcases hall u hu with ⟨_, _, h⟩ | ⟨hw2, _, _, _, _⟩ | ⟨hw2, _, _, _⟩
          · exact h
          · rw [(fi a u).2, hw] at hw2; cases hw2
          · rw [(fi a u).2, hw] at hw2; cases hw2
        · rw [(fi a u0).2] at hw
          rw [(fi a u0).1] at hr
          refine .quiet hw hs v hr (again v fun u hu => ?_)
          rcases hall u hu with ⟨hw2, _, _⟩ | ⟨_, _, v2, hr2, h⟩ | ⟨_, hs2, _, _⟩
          · rw [(fi a u).2, hw] at hw2; cases hw2
          · rw [(fi a u).1, hr] at hr2
            cases hr2
            exact h
          · rw [hs] at hs2; cases hs2
        · rw [(fi a u0).2] at hw
          refine .makes hw hs (toA u0 hr) (fun v hv => again v fun u hu => ?_)
          rcases hall u hu with ⟨hw2, _, _⟩ | ⟨_, hs2, _, _, _⟩ | ⟨_, _, _, h⟩
          · rw [(fi a u).2, hw] at hw2; cases hw2
          · rw [hs] at hs2; cases hs2
          · exact h v hv
      · rw [if_neg hsj] at h
        obtain ⟨u, hob, hrest⟩ := h
        have again : ∀ v, wpCalm P ops w0 pl Q (pre ++ post) ((a.put oj.dst u).put oi.dst v) → wpCalm P ops w0 pl Q ((j, oj) :: (pre ++ post)) (a.put oi.dst v) := by
          intro v hv
          simp only [wpCalm]
          rw [if_neg (by omega), if_pos (by rw [(fj a v).2]; exact hwj), if_neg hsj]
          exact ⟨u, fun w' hC' hD' => by rw [(fj a v).1]; exact hob w' hC' ((deps_put hok hi nopath).1 hD'), by rw [← comm]; exact hv⟩
        rcases ih (a.put oj.dst u) hpre' (hDj u) hrest with ⟨hw, hF, h⟩ | ⟨hw, hs, v, hr, h⟩ | ⟨hw, hs, hr, h⟩
        · exact .skip (by rwa [(fi a u).2] at hw) hF (again _ h)
        · exact .quiet (by rwa [(fi a u).2] at hw) hs v (by rwa [(fi a u).1] at hr) (again _ h)
        · exact .makes (by rwa [(fi a u).2] at hw) hs (toA u hr) (fun v hv => again _ (h v hv))
    · rw [if_neg hwj] at h
      obtain ⟨hob, hrest⟩ := h
      have again : ∀ v, wpCalm P ops w0 pl Q (pre ++ post) ((a.put oj.dst undef).put oi.dst v) → wpCalm P ops w0 pl Q ((j, oj) :: (pre ++ post)) (a.put oi.dst v) := by
        intro v hv
        simp only [wpCalm]
        rw [if_neg (by omega), if_neg (by rw [(fj a v).2]; exact hwj)]
        exact ⟨fun hs w' hC' hD' => hob hs w' hC' ((deps_put hok hi nopath).1 hD'), by rw [← comm]; exact hv⟩
      rcases ih (a.put oj.dst undef) hpre' (hDj undef) hrest with ⟨hw, hF, h⟩ | ⟨hw, hs, v, hr, h⟩ | ⟨hw, hs, hr, h⟩
      · exact .skip (by rwa [(fi a undef).2] at hw) hF (again _ h)
      · exact .quiet (by rwa [(fi a undef).2] at hw) hs v (by rwa [(fi a undef).1] at hr) (again _ h)
      · exact .makes (by rwa [(fi a undef).2] at hw) hs (toA undef hr) (fun v hv => again _ (h v hv))

/-- What must be listed for operation i. -/
theorem path_listed {listed : Array Bool} (hdown : ∀ k o, ops[k]? = some o → listed.getD k true = true → ∀ e ∈ o.after, Region.binds .any e = true → listed.getD e.on true = true) :
    ∀ (p : List Nat) (i j : Nat), (∀ o, ops[i]? = some o → ∀ e ∈ o.after, Region.binds .any e = true → listed.getD e.on true = true) → pathB ops i p j = true → listed.getD j true = true := by
  intro p
  induction p with
  | nil =>
    intro i j hd h
    unfold pathB at h
    rw [Bool.and_eq_true] at h
    obtain ⟨o, e, ho, he, hb, rfl⟩ := onB_mem h.1
    exact hd o ho e he hb
  | cons k p ih =>
    intro i j hd h
    unfold pathB at h
    rw [Bool.and_eq_true, Bool.and_eq_true] at h
    obtain ⟨o, e, ho, he, hb, rfl⟩ := onB_mem h.1.1
    have h1 := hd o ho e he hb
    exact ih e.on j (fun o' ho' => hdown e.on o' ho' h1) h.2
theorem reach_listed {listed : Array Bool} (hdown : ∀ k o, ops[k]? = some o → listed.getD k true = true → ∀ e ∈ o.after, Region.binds .any e = true → listed.getD e.on true = true) :
    ∀ (n i k : Nat), listed.getD i true = true → reachB ops n i k = true → listed.getD k true = true := by
  intro n
  induction n with
  | zero => intro i k _ h; cases h
  | succ n ih =>
    intro i k hi h
    unfold reachB at h
    cases ho : ops[i]? with
    | none => rw [ho] at h; cases h
    | some o =>
      rw [ho] at h
      obtain ⟨e, he, hb⟩ := Array.any_eq_true'.1 h
      rw [Bool.and_eq_true, Bool.or_eq_true, beq_iff_eq] at hb
      have h1 := hdown i o ho hi e he hb.1
      rcases hb.2 with rfl | h2
      · exact h1
      · exact ih e.on k h1 h2

theorem sweep_listed {listed : Array Bool} (hdown : ∀ k o, ops[k]? = some o → listed.getD k true = true → ∀ e ∈ o.after, Region.binds .any e = true → listed.getD e.on true = true) :
    ∀ (k : Nat) (s : List Nat), (∀ x ∈ s, listed.getD x true = true) → ∀ x ∈ sweepL ops k s, listed.getD x true = true := by
  intro k
  induction k with
  | zero => exact fun s h => h
  | succ k ih =>
    intro s h
    unfold sweepL
    refine ih _ fun x hx => ?_
    by_cases hk : s.contains k = true
    · rw [if_pos hk] at hx
      rcases List.mem_append.1 hx with hx | hx
      · unfold depsL at hx
        cases ho : ops[k]? with
        | none => rw [ho] at hx; cases hx
        | some o =>
          rw [ho] at hx
          obtain ⟨e, he, hb⟩ := List.mem_filterMap.1 hx
          by_cases hbb : Region.binds .any e = true
          · rw [if_pos hbb] at hb
            cases hb
            exact hdown k o ho (h k (by simpa using hk)) e (by simpa using he) hbb
          · rw [if_neg hbb] at hb; cases hb
      · exact h x hx
    · rw [if_neg hk] at hx
      exact h x hx
theorem cover_listed {listed : Array Bool} {i : Nat} (hdown : ∀ k o, ops[k]? = some o → listed.getD k true = true → ∀ e ∈ o.after, Region.binds .any e = true → listed.getD e.on true = true)
    (hd : ∀ o, ops[i]? = some o → ∀ e ∈ o.after, Region.binds .any e = true → listed.getD e.on true = true) (hc : coverB ops i = true) : ∀ j, j < i → listed.getD j true = true := by
  intro j hj
  have h1 := List.all_eq_true.1 hc j (List.mem_range.2 hj)
  refine sweep_listed hdown i (depsL ops i) (fun x hx => ?_) j (by simpa using h1)
  unfold depsL at hx
  cases ho : ops[i]? with
  | none => rw [ho] at hx; cases hx
  | some o =>
    rw [ho] at hx
    obtain ⟨e, he, hb⟩ := List.mem_filterMap.1 hx
    by_cases hbb : Region.binds .any e = true
    · rw [if_pos hbb] at hb
      cases hb
      exact hd o ho e (by simpa using he) hbb
    · rw [if_neg hbb] at hb; cases hb

theorem oper_wp_post {o : Oper} {a : Act} {w : World} {K : Act → World → Prop} {Q : Exit → Act → World → Prop} (h : o.wp P a w K (fun _ _ _ => False)) : o.wp P a w K Q := by
  unfold Oper.wp at *
  generalize (execOp a.eval o).run P w = r at *
  cases r with
  | ok n w' =>
    cases n <;> simp only [Oper.upon] at h ⊢ <;> try exact h
    case enter f args =>
      refine Calls.mono h fun e w'' hh => ?_
      cases e with
      | returned s => exact hh
      | panicked c => exact hh.elim
      | outgrown => obtain ⟨_, _, hh⟩ := hh; exact hh.elim
  | halt x w' => cases x <;> simp only [Oper.upon] at h ⊢

/-- No row of j has been used up. -/
def Alive (ops : Array Oper) (pl : Plan) (listed : Array Bool) (j : Nat) : Prop := ∀ i, i < ops.size → (pl.dead i).contains j = true → listed.getD i true = false

/-- What is kept while the region runs. -/
structure CalmAt (ops : Array Oper) (w0 : World) (pl : Plan) (rem : List (Nat × Oper)) (listed : Array Bool) (a : Act) (w : World) : Prop where
  size : listed.size = ops.size
  incr : rem.Pairwise fun x y => x.1 < y.1
  mem : ∀ k o, (k, o) ∈ rem ↔ ops[k]? = some o ∧ listed.getD k true = false
  down : ∀ k o, ops[k]? = some o → listed.getD k true = true → ∀ e ∈ o.after, Region.binds .any e = true → listed.getD e.on true = true
  facts : ∀ j, pl.sp.contains j = true → listed.getD j true = true → Alive ops pl listed j → pl.F j (valOf ops a j) w
  own : ∀ j, pl.sp.contains j = true → listed.getD j true = true → Alive ops pl listed j → ∀ g, (valOf ops a j).ownBlock = some g → g < w.heap.size ∧ (w0.heap.size ≤ g ∨ (pl.c0 = some g ∧ listed.getD pl.k0 true = true))
  sep : ∀ i j, pl.sp.contains i = true → pl.sp.contains j = true → listed.getD i true = true → listed.getD j true = true → Alive ops pl listed i → Alive ops pl listed j → i ≠ j → ∀ g, (valOf ops a i).ownBlock = some g → (valOf ops a j).ownBlock ≠ some g
  room : ∀ j o d, pl.sp.contains j = true → ops[j]? = some o → o.dst = some d → d < a.tmps.size
  world : w0.grownBy w pl.c0
  fresh : listed.getD pl.k0 true = false → w0.grownBy w none
  fresh2 : (∀ i, i < ops.size → (pl.dead i).isEmpty = false → listed.getD i true = false) → w0.grownBy w none

theorem act_put_size (a : Act) (y : Option Tmp) (v : Value) : (a.put y v).tmps.size = a.tmps.size := by
  cases y with
  | none => rfl
  | some d => simp [Act.put]
theorem listed_getD {listed : Array Bool} {k : Nat} (h : k < listed.size) (d e : Bool) : listed.getD k d = listed.getD k e := by
  simp [Array.getD, h]
theorem grownBy_trans {w w' w'' : World} {c0 c : Option Nat} (h : w.grownBy w' c0) (h' : w'.grownBy w'' c) (hc : ∀ g, c = some g → w.heap.size ≤ g ∨ c0 = some g) : w.grownBy w'' c0 :=
  ⟨h'.os.trans h.os, h'.tape.trans h.tape, h'.output.trans h.output, Nat.le_trans h.size h'.size, fun k hk hne => (h'.block k (Nat.lt_of_lt_of_le hk h.size) (fun e => by
    rcases hc k e.symm with h1 | h1
    · omega
    · exact hne h1.symm)).trans (h.block k hk hne)⟩

theorem CalmAt.next {pre post : List (Nat × Oper)} {i : Nat} {oi : Oper} {listed : Array Bool} {a : Act} {w w' : World} {v : Value} (hok : CalmOk ops pl)
    (hst : ∀ k, pl.sp.contains k = true → ∀ v w w' c, pl.F k v w → w.grownBy w' c → Far ops pl w0 k v w c → pl.F k v w') (hc0 : ∀ g, pl.c0 = some g → g < w0.heap.size)
    (h : CalmAt ops w0 pl (pre ++ (i, oi) :: post) listed a w) (hd : ∀ e ∈ oi.after, Region.binds .any e = true → listed.getD e.on true = true)
    (hw : (w' = w ∧ (pl.sp.contains i = true → pl.F i (kept oi v) w' ∧ (kept oi v).ownBlock = none)) ∨ (pl.sp.contains i = true ∧ Made ops pl i oi a w v w')) :
    CalmAt ops w0 pl (pre ++ post) (listed.setIfInBounds i true) (a.put oi.dst v) w' := by
  obtain ⟨hi, hun⟩ := (h.mem i oi).1 (by simp)
  have hisz : i < ops.size := (Array.getElem?_eq_some_iff.1 hi).1
  have hlt : i < listed.size := by rw [h.size]; exact hisz
  have hset : ∀ k, k ≠ i → ∀ d, (listed.setIfInBounds i true).getD k d = listed.getD k d := fun k hk d => getD_set_ne d (Ne.symm hk)
  have hseti : ∀ d, (listed.setIfInBounds i true).getD i d = true := fun d => by simp [hlt]
  have hl' : ∀ x, listed.getD x true = true → (listed.setIfInBounds i true).getD x true = true := fun x hx => by
    by_cases hxi : x = i
    · rw [hxi]; exact hseti true
    · rw [hset x hxi]; exact hx
  have hp := List.pairwise_append.1 h.incr
  have hp2 := List.pairwise_cons.1 hp.2.1
  -- what is alive behind the step was alive ahead of it, and is not used up by it
  have aliveOf : ∀ j, Alive ops pl (listed.setIfInBounds i true) j → Alive ops pl listed j ∧ (pl.dead i).contains j = false := fun j hj => by
    refine ⟨fun i' hi' hd' => ?_, ?_⟩
    · have h1 := hj i' hi' hd'
      by_cases hii : i' = i
      · rw [hii, hseti] at h1; cases h1
      · rwa [hset i' hii] at h1
    · rw [Bool.eq_false_iff]; intro hh
      have h1 := hj i hisz hh
      rw [hseti] at h1; cases h1
  have deadAlive : ∀ d, (pl.dead i).contains d = true → pl.sp.contains d = true ∧ listed.getD d true = true ∧ Alive ops pl listed d ∧ d ≠ i := fun d hdd => by
    obtain ⟨h1, h2, h3⟩ := hok.dead i d hisz hdd
    obtain ⟨o, e, ho, he, hb, rfl⟩ := onB_mem h1
    rw [hi] at ho; cases ho
    refine ⟨h2, hd e he hb, fun i' hi' hd' => ?_, by omega⟩
    by_cases hii : i' = i
    · rw [hii]; exact hun
    · exact (hok.one i' i e.on hi' hisz hii hd' hdd).elim
  have vk : pl.sp.contains i = true → valOf ops (a.put oi.dst v) i = kept oi v := fun hs => by
    unfold valOf kept
    rw [hi, Option.bind_some]
    cases hdd : oi.dst with
    | none => rfl
    | some d =>
      have := h.room i oi d hs hi hdd
      simp [Act.eval, Act.put, this]
  have vo : ∀ j, pl.sp.contains j = true → j ≠ i → valOf ops (a.put oi.dst v) j = valOf ops a j := fun j hj hji => valOf_sp hok hi hj (Ne.symm hji)
  -- the step's own
  have hgrow : ∃ c, w.grownBy w' c ∧ ∀ g, c = some g → ((w0.heap.size ≤ g ∨ pl.c0 = some g) ∧ (∃ d u, (pl.dead i).contains d = true ∧ u.ownBlock = some g ∧ pl.F d u w) ∧ (w0.heap.size ≤ g ∨ (pl.c0 = some g ∧ listed.getD pl.k0 true = true))) ∧ ∀ j, pl.sp.contains j = true → listed.getD j true = true → Alive ops pl listed j → (pl.dead i).contains j = false → (valOf ops a j).ownBlock ≠ some g := by
    rcases hw with ⟨rfl, _⟩ | ⟨_, _, ⟨c, hg, hc⟩, _⟩
    · exact ⟨none, ⟨rfl, rfl, rfl, Nat.le_refl _, fun _ _ _ => rfl⟩, fun g hg => by cases hg⟩
    · refine ⟨c, hg, fun g hcg => ?_⟩
      rcases hc with rfl | ⟨d, hdd, rfl⟩
      · cases hcg
      · obtain ⟨d1, d2, d3, d4⟩ := deadAlive d hdd
        refine ⟨⟨(h.own d d1 d2 d3 g hcg).2.imp id And.left, ⟨d, _, hdd, hcg, h.facts d d1 d2 d3⟩, (h.own d d1 d2 d3 g hcg).2⟩, fun j j1 j2 j3 j4 => h.sep d j d1 j1 d2 j2 d3 j3 (fun e => by rw [e, j4] at hdd; cases hdd) g hcg⟩
  obtain ⟨c, hgr, hcg⟩ := hgrow
  have hownI : pl.sp.contains i = true → pl.F i (kept oi v) w' ∧ ∀ g, (kept oi v).ownBlock = some g → g < w'.heap.size ∧ (w.heap.size ≤ g ∨ (∃ j, (pl.dead i).contains j = true ∧ (valOf ops a j).ownBlock = some g) ∨ (i = pl.k0 ∧ pl.c0 = some g)) := fun hs => by
    rcases hw with ⟨rfl, hF⟩ | ⟨_, hF, _, ho⟩
    · exact ⟨(hF hs).1, fun g hg => by rw [(hF hs).2] at hg; cases hg⟩
    · exact ⟨hF, ho⟩
  have sepI : pl.sp.contains i = true → ∀ j, pl.sp.contains j = true → listed.getD j true = true → Alive ops pl listed j → (pl.dead i).contains j = false → ∀ g, (kept oi v).ownBlock = some g → (valOf ops a j).ownBlock ≠ some g := fun hs j j1 j2 j3 j4 g hg hj => by
    have oj := h.own j j1 j2 j3 g hj
    rcases ((hownI hs).2 g hg).2 with h1 | ⟨d, hdd, h1⟩ | ⟨h1, h2⟩
    · omega
    · obtain ⟨d1, d2, d3, d4⟩ := deadAlive d hdd
      exact h.sep d j d1 j1 d2 j2 d3 j3 (fun e => by rw [e, j4] at hdd; cases hdd) g h1 hj
    · have := hc0 g h2
      rcases oj.2 with h3 | ⟨_, h3⟩
      · omega
      · rw [← h1, hun] at h3; cases h3
  refine ⟨by simp [h.size], ?_, fun k o => ?_, fun k o hk hl e he hb => ?_, fun j hj hl ha => ?_, fun j hj hl ha g hg => ?_, fun j j' hj hj' hl hl' ha ha' hne g hg => ?_, fun j o d hj ho hdd => ?_, ?_, ?_, ?_⟩
  · exact List.pairwise_append.2 ⟨hp.1, hp2.2, fun x hx y hy => hp.2.2 x hx y (.tail _ hy)⟩
  · have hm := h.mem k o
    constructor
    · intro hin
      have hin' : (k, o) ∈ pre ++ (i, oi) :: post := by
        rcases List.mem_append.1 hin with h1 | h1
        · exact List.mem_append.2 (.inl h1)
        · exact List.mem_append.2 (.inr (.tail _ h1))
      have hne : k ≠ i := by
        rcases List.mem_append.1 hin with h1 | h1
        · have := hp.2.2 _ h1 _ (.head _); simp only [] at this; omega
        · have := hp2.1 _ h1; simp only [] at this; omega
      exact ⟨(hm.1 hin').1, by rw [hset k hne]; exact (hm.1 hin').2⟩
    · rintro ⟨h1, h2⟩
      have hne : k ≠ i := fun e => by rw [e, hseti] at h2; cases h2
      rw [hset k hne] at h2
      rcases List.mem_append.1 (hm.2 ⟨h1, h2⟩) with h3 | h3
      · exact List.mem_append.2 (.inl h3)
      · rcases List.mem_cons.1 h3 with h3 | h3
        · cases h3; exact absurd rfl hne
        · exact List.mem_append.2 (.inr h3)
  · by_cases hki : k = i
    · subst hki
      rw [hi] at hk; cases hk
      exact hl' _ (hd e he hb)
    · rw [hset k hki] at hl
      exact hl' _ (h.down k o hk hl e he hb)
  · by_cases hji : j = i
    · subst hji; rw [vk hj]; exact (hownI hj).1
    · rw [hset j hji] at hl
      rw [vo j hj hji]
      obtain ⟨a1, a2⟩ := aliveOf j ha
      refine hst j hj _ _ _ c (h.facts j hj hl a1) hgr fun g hg => ?_
      obtain ⟨⟨h1, ⟨d, u, h2, h3, h4⟩, _⟩, h5⟩ := hcg g hg
      refine ⟨h5 j hj hl a1 a2, h1, i, d, u, h2, Ne.symm hji, ?_, h3, h4⟩
      rw [← Bool.not_eq_true]
      intro hr
      have := reach_listed h.down 6 j i hl hr
      rw [hun] at this; cases this
  · by_cases hji : j = i
    · subst hji
      rw [vk hj] at hg
      obtain ⟨h1, h2⟩ := (hownI hj).2 g hg
      refine ⟨h1, ?_⟩
      rcases h2 with h2 | ⟨d, hdd, h2⟩ | ⟨h2, h3⟩
      · exact .inl (Nat.le_trans h.world.size h2)
      · obtain ⟨d1, d2, d3, _⟩ := deadAlive d hdd
        exact (h.own d d1 d2 d3 g h2).2.imp id fun ⟨x, y⟩ => ⟨x, hl' _ y⟩
      · exact .inr ⟨h3, by rw [← h2]; exact hseti true⟩
    · rw [hset j hji] at hl
      rw [vo j hj hji] at hg
      obtain ⟨h1, h2⟩ := h.own j hj hl (aliveOf j ha).1 g hg
      exact ⟨Nat.lt_of_lt_of_le h1 hgr.size, h2.imp id fun ⟨x, y⟩ => ⟨x, hl' _ y⟩⟩
  · by_cases hji : j = i
    · subst hji
      rw [vk hj] at hg
      rw [vo j' hj' (Ne.symm hne)]
      rw [hset j' (Ne.symm hne)] at hl'
      exact sepI hj j' hj' hl' (aliveOf j' ha').1 (aliveOf j' ha').2 g hg
    · by_cases hji' : j' = i
      · subst hji'
        rw [vk hj']
        rw [vo j hj hne] at hg
        rw [hset j hne] at hl
        exact fun hh => sepI hj' j hj hl (aliveOf j ha).1 (aliveOf j ha).2 g hh hg
      · rw [vo j hj hji] at hg
        rw [vo j' hj' hji']
        rw [hset j hji] at hl
        rw [hset j' hji'] at hl'
        exact h.sep j j' hj hj' hl hl' (aliveOf j ha).1 (aliveOf j' ha').1 hne g hg
  · rw [act_put_size]; exact h.room j o d hj ho hdd
  · exact grownBy_trans h.world hgr fun g hg => (hcg g hg).1.1
  · intro hl
    have hne : pl.k0 ≠ i := fun e => by rw [e, hseti] at hl; cases hl
    rw [hset _ hne] at hl
    refine grownBy_trans (h.fresh hl) hgr fun g hg => ?_
    rcases (hcg g hg).1.2.2 with h1 | h1
    · exact .inl h1
    · rw [hl] at h1; cases h1.2
  · intro hall
    have hni : (pl.dead i).isEmpty = true := by
      cases hh : (pl.dead i).isEmpty
      · have := hall i hisz hh
        rw [hseti] at this; cases this
      · rfl
    refine grownBy_trans (h.fresh2 fun j hj hdj => ?_) hgr fun g hg => ?_
    · have hji : j ≠ i := fun e => by rw [e, hni] at hdj; cases hdj
      have := hall j hj hdj
      rwa [hset j hji] at this
    · obtain ⟨d, u, h1, _⟩ := (hcg g hg).1.2.1
      rw [List.isEmpty_iff.1 hni] at h1
      simp at h1

/-- What comes last in every order. -/
theorem wpAny_tail {Q : Exit → Act → World → Prop} (hok : CalmOk ops pl) :
    ∀ (n : Nat) (rem : List (Nat × Oper)) (listed : Array Bool) (a : Act) (w : World), rem.length = n → listed.size = ops.size → (rem.Pairwise fun x y => x.1 < y.1) → (∀ k o, (k, o) ∈ rem ↔ ops[k]? = some o ∧ listed.getD k true = false) →
      (∀ k o, ops[k]? = some o → listed.getD k true = true → ∀ e ∈ o.after, Region.binds .any e = true → listed.getD e.on true = true) → (∀ x ∈ rem, pl.n0 ≤ x.1) → wpList P ops Q (rem.map (·.2)) a w → wpAny P .any ops Q n listed a w := by
  intro n
  induction n with
  | zero =>
    intro rem listed a w hn hsz hp hm hdown hge h
    have : rem = [] := List.eq_nil_of_length_eq_zero hn
    subst this
    refine ⟨?_, h⟩
    rw [List.eq_nil_iff_forall_not_mem]
    intro j hj
    obtain ⟨h1, o, ho, _⟩ := mem_ready.1 hj
    exact absurd ((hm j o).2 ⟨ho, h1⟩) (by simp)
  | succ n ih =>
    intro rem listed a w hn hsz hp hm hdown hge h
    cases rem with
    | nil => simp at hn
    | cons x rem =>
      obtain ⟨k, o⟩ := x
      have hp' := List.pairwise_cons.1 hp
      obtain ⟨hk, hun⟩ := (hm k o).1 (.head _)
      have hks : k < listed.size := by rw [hsz]; exact (Array.getElem?_eq_some_iff.1 hk).1
      have hbelow : ∀ j, j < k → listed.getD j true = true := fun j hj => by
        by_cases hl : listed.getD j true = true
        · exact hl
        · have hj' : j < ops.size := by rw [← hsz]; omega
          rcases List.mem_cons.1 ((hm j ops[j]).2 ⟨by simp [hj'], by simpa using hl⟩) with h1 | h1
          · have := congrArg Prod.fst h1; simp only [] at this; omega
          · have := hp'.1 _ h1; simp only [] at this; omega
      have hdk : ∀ e ∈ o.after, Region.binds .any e = true → listed.getD e.on true = true := fun e he hb => hbelow _ (hok.down k o hk e he hb)
      have hready : k ∈ Region.ready .any ops listed := mem_ready.2 ⟨hun, o, hk, fun e he hb => by
        have := hok.down k o hk e he hb
        rw [listed_getD (by omega) false true]; exact hdk e he hb⟩
      refine ⟨fun h0 => absurd hready (by rw [h0]; simp), fun i hi => ?_⟩
      obtain ⟨hui, oi, hoi, hdi⟩ := mem_ready.1 hi
      have his : i < listed.size := by rw [hsz]; exact (Array.getElem?_eq_some_iff.1 hoi).1
      have hik : i = k := by
        rcases List.mem_cons.1 ((hm i oi).2 ⟨hoi, hui⟩) with h1 | h1
        · exact congrArg Prod.fst h1
        · have hlt := hp'.1 _ h1
          simp only [] at hlt
          have hcov := cover_listed hdown (i := i) (fun o' ho' e he hb => by
            rw [hoi] at ho'; cases ho'
            have := hok.down i oi hoi e he hb
            rw [listed_getD (by omega) true false]; exact hdi e he hb) (hok.cover i (by rw [← hsz]; exact his) (hge _ (.tail _ h1))) k hlt
          rw [hun] at hcov; cases hcov
      subst hik
      rw [hk] at hoi; cases hoi
      have next : ∀ (a : Act) (w : World), wpList P ops Q (rem.map (·.2)) a w → wpAny P .any ops Q n (listed.setIfInBounds i true) a w := fun a w h' => by
        have hset : ∀ j, j ≠ i → ∀ d, (listed.setIfInBounds i true).getD j d = listed.getD j d := fun j hj d => getD_set_ne d (Ne.symm hj)
        have hseti : ∀ d, (listed.setIfInBounds i true).getD i d = true := fun d => by simp [hks]
        refine ih rem _ a w (by simpa using hn) (by simp [hsz]) hp'.2 (fun j oj => ?_) (fun j oj hj hl e he hb => ?_) (fun x hx => hge x (.tail _ hx)) h'
        · constructor
          · intro hin
            have hlt := hp'.1 _ hin
            simp only [] at hlt
            have := (hm j oj).1 (.tail _ hin)
            exact ⟨this.1, by rw [hset j (by omega)]; exact this.2⟩
          · rintro ⟨h1, h2⟩
            have hne : j ≠ i := fun e => by rw [e, hseti] at h2; cases h2
            rw [hset j hne] at h2
            rcases List.mem_cons.1 ((hm j oj).2 ⟨h1, h2⟩) with h3 | h3
            · cases h3; exact absurd rfl hne
            · exact h3
        · have hl' : ∀ x, listed.getD x true = true → (listed.setIfInBounds i true).getD x true = true := fun x hx => by
            by_cases hxi : x = i
            · rw [hxi]; exact hseti true
            · rw [hset x hxi]; exact hx
          by_cases hji : j = i
          · subst hji
            rw [hk] at hj; cases hj
            exact hl' _ (hdk e he hb)
          · rw [hset j hji] at hl
            exact hl' _ (hdown j oj hj hl e he hb)
      unfold wpOp
      simp only [hk]
      rw [List.map_cons, wpList] at h
      by_cases hw : Region.wanted o (yielded ops a.tmps) = true
      · rw [if_pos hw] at h ⊢
        exact h.imp (Oper.wp_mono fun a w => next a w) id
      · rw [if_neg hw] at h ⊢
        exact next _ _ h

theorem wpAny_of_calm {Q : Exit → Act → World → Prop} (hok : CalmOk ops pl)
    (hst : ∀ k, pl.sp.contains k = true → ∀ v w w' c, pl.F k v w → w.grownBy w' c → Far ops pl w0 k v w c → pl.F k v w') (hc0 : ∀ g, pl.c0 = some g → g < w0.heap.size) :
    ∀ (n : Nat) (rem : List (Nat × Oper)) (listed : Array Bool) (a : Act) (w : World), rem.length = n → CalmAt ops w0 pl rem listed a w → wpCalm P ops w0 pl Q rem a → wpAny P .any ops Q n listed a w := by
  intro n
  induction n with
  | zero =>
    intro rem listed a w hn h hc
    have : rem = [] := List.eq_nil_of_length_eq_zero hn
    subst this
    have hall : ∀ j, j < ops.size → listed.getD j true = true := fun j hj => by
      by_cases hl : listed.getD j true = true
      · exact hl
      · exact absurd ((h.mem j ops[j]).2 ⟨by simp [hj], by simpa using hl⟩) (by simp)
    refine ⟨?_, (hc w h.world fun j hj hnd => h.facts j hj (hall j (hok.lt j hj)) fun i hi hdi => ?_)⟩
    · rw [List.eq_nil_iff_forall_not_mem]
      intro j hj
      obtain ⟨h1, o, ho, _⟩ := mem_ready.1 hj
      rw [hall j (Array.getElem?_eq_some_iff.1 ho).1] at h1
      cases h1
    · have := List.all_eq_true.1 hnd i (List.mem_range.2 hi)
      rw [hdi] at this
      cases this
  | succ n ih =>
    intro rem listed a w hn h hc
    have hlt : ∀ k o, ops[k]? = some o → k < listed.size := fun k o hk => by rw [h.size]; exact (Array.getElem?_eq_some_iff.1 hk).1
    obtain ⟨k, o, rem', rfl⟩ : ∃ k o rem', rem = (k, o) :: rem' := by
      cases rem with
      | nil => simp at hn
      | cons x rem => exact ⟨x.1, x.2, rem, rfl⟩
    obtain ⟨hk, hun⟩ := (h.mem k o).1 (.head _)
    have hp := List.pairwise_cons.1 h.incr
    by_cases hn0 : pl.n0 ≤ k
    · unfold wpCalm at hc
      rw [if_pos hn0] at hc
      have hge : ∀ x ∈ (k, o) :: rem', pl.n0 ≤ x.1 := fun x hx => by
        rcases List.mem_cons.1 hx with rfl | hx
        · exact hn0
        · have := hp.1 _ hx; simp only [] at this; omega
      have hks := hlt k o hk
      refine wpAny_tail hok _ _ listed a w hn h.size h.incr h.mem h.down hge (hc w h.world fun j hj hnd => h.facts j hj ?_ fun i hi hdi => ?_)
      · by_cases hl : listed.getD j true = true
        · exact hl
        · have hj' := hok.lt j hj
          have hin := (h.mem j ops[j]).2 ⟨by simp [hj'], by simpa using hl⟩
          have := hge _ hin
          simp only [] at this
          have := hok.spn j hj
          omega
      · have := List.all_eq_true.1 hnd i (List.mem_range.2 hi)
        rw [hdi] at this
        cases this
    refine ⟨fun h0 => ?_, fun i hi => ?_⟩
    · · have : k ∈ Region.ready .any ops listed := by
          refine mem_ready.2 ⟨hun, o, hk, fun e he hb => ?_⟩
          have hek := hok.down k o hk e he hb
          have hks := hlt k o hk
          rw [listed_getD (by omega) false true]
          by_cases hl : listed.getD e.on true = true
          · exact hl
          · have hlt' : e.on < ops.size := by rw [← h.size]; omega
            have hin : (e.on, ops[e.on]) ∈ (k, o) :: rem' := (h.mem _ _).2 ⟨by simp [hlt'], by simpa using hl⟩
            rcases List.mem_cons.1 hin with h1 | h1
            · have := congrArg Prod.fst h1; simp only [] at this; omega
            · have := hp.1 _ h1; simp only [] at this; omega
        rw [h0] at this
        cases this
    · obtain ⟨hun', oi, hoi, hdeps⟩ := mem_ready.1 hi
      have hmem := (h.mem i oi).2 ⟨hoi, hun'⟩
      have hd : ∀ e ∈ oi.after, Region.binds .any e = true → listed.getD e.on true = true := fun e he hb => by
        have h1 := hdeps e he hb
        have hek := hok.down i oi hoi e he hb
        have his := hlt i oi hoi
        rwa [listed_getD (by omega) true false]
      have hd' : ∀ o, ops[i]? = some o → ∀ e ∈ o.after, Region.binds .any e = true → listed.getD e.on true = true := fun o ho => by
        rw [hoi] at ho; cases ho; exact hd
      have hin : i < pl.n0 := by
        by_cases hh : i < pl.n0
        · exact hh
        · have := cover_listed h.down hd' (hok.cover i (by rw [← h.size]; exact hlt i oi hoi) (by omega)) k (by omega)
          rw [hun] at this; cases this
      obtain ⟨pre, post, hpp0⟩ := List.append_of_mem hmem
      rw [hpp0] at hn h hc
      have hp := List.pairwise_append.1 h.incr
      have hpre : ∀ x ∈ pre, ops[x.1]? = some x.2 ∧ x.1 < i ∧ onB ops i x.1 = false ∧ ∀ p, pathB ops i p x.1 = true → False := by
        intro x hx
        obtain ⟨h1, h2⟩ := (h.mem x.1 x.2).1 (List.mem_append.2 (.inl hx))
        refine ⟨h1, hp.2.2 x hx _ (.head _), onB_false hoi fun e he hb hex => ?_, fun p hpp => ?_⟩
        · have := hd e he hb
          rw [hex, h2] at this
          cases this
        · have := path_listed h.down p i x.1 hd' hpp
          rw [h2] at this
          cases this
      have hD : Deps ops pl i a w := fun p j hpp hj hu => h.facts j hj (path_listed h.down p i j hd' hpp) fun i' hi' hdi => by
        have := List.all_eq_true.1 hu i' (List.mem_range.2 hi')
        rw [hdi] at this
        rw [Bool.not_true, Bool.false_or, Bool.or_eq_true, beq_iff_eq] at this
        rcases this with rfl | h1
        · exact hun'
        · rw [← Bool.not_eq_true]
          intro hl
          have := reach_listed h.down 6 i' i hl h1
          rw [hun'] at this; cases this
      have hlen : (pre ++ post).length = n := by
        rw [List.length_append] at hn ⊢
        rw [List.length_cons] at hn
        omega
      unfold wpOp
      simp only [hoi]
      have hwi : w0.grownBy w (pl.cAt i) := by
        unfold Plan.cAt
        by_cases hik : i = pl.k0
        · rw [if_pos hik]; exact h.fresh (by rw [← hik]; exact hun')
        · rw [if_neg hik]
          by_cases hq : (pl.dead 1000).contains i = true
          · rw [if_pos hq]
            refine h.fresh2 fun j hj hdj => ?_
            rcases hok.early i hq j hj hdj with rfl | h1
            · exact hun'
            · rw [← Bool.not_eq_true]
              intro hl
              have := reach_listed h.down 6 j i hl h1
              rw [hun'] at this; cases this
          · rw [if_neg hq]; exact h.world
      rcases calm_take hok hoi hin hwi pre a hpre hD hc with ⟨hw, hF, hc'⟩ | ⟨hw, hs, v, hr, hc'⟩ | ⟨hw, hs, hr, hc'⟩
      · rw [if_neg (by rw [hw]; simp)]
        have ku : kept oi undef = undef := by unfold kept; split <;> rfl
        exact ih _ _ _ _ hlen (h.next hok hst hc0 hd (.inl ⟨rfl, fun hs => by rw [ku]; exact ⟨hF hs, rfl⟩⟩)) hc'
      · rw [if_pos hw]
        refine .inl ?_
        unfold Oper.wp
        rw [hr]
        exact ih _ _ _ _ hlen (h.next hok hst hc0 hd (.inl ⟨rfl, fun hs' => by rw [hs] at hs'; cases hs'⟩)) hc'
      · rw [if_pos hw]
        refine .inl (oper_wp_post (Oper.wp_mono ?_ hr))
        rintro a' w' ⟨v, rfl, hm⟩
        exact ih _ _ _ _ hlen (h.next hok hst hc0 hd (.inr ⟨hs, hm⟩)) (hc' v (poss_made hm))

/-- The same along a list of operations, the number of the first one given. -/
def wpCalmL (P : Program) (ops : Array Oper) (w0 : World) (pl : Plan) (Q : Exit → Act → World → Prop) : Nat → List Oper → Act → Prop
  | _, [], a => wpCalm P ops w0 pl Q [] a
  | k, o :: rest, a =>
    if pl.n0 ≤ k then ∀ w, w0.grownBy w pl.c0 → (∀ j, pl.sp.contains j = true → ((List.range ops.size).all fun i => !(pl.dead i).contains j) = true → pl.F j (valOf ops a j) w) → wpList P ops Q (o :: rest) a w
    else if Region.wanted o (yielded ops a.tmps) = true then
      if pl.sp.contains k = true then
        (∀ w, w0.grownBy w (pl.cAt k) → Deps ops pl k a w → o.wp P a w (fun a' w' => ∃ v, a' = a.put o.dst v ∧ Made ops pl k o a w v w') (fun _ _ _ => False)) ∧ ∀ v, Poss pl o k v → wpCalmL P ops w0 pl Q (k + 1) rest (a.put o.dst v)
      else ∃ v, (∀ w, w0.grownBy w (pl.cAt k) → Deps ops pl k a w → (execOp a.eval o).run P w = .ok (.value v) w) ∧ wpCalmL P ops w0 pl Q (k + 1) rest (a.put o.dst v)
    else (pl.sp.contains k = true → ∀ w, w0.grownBy w (pl.cAt k) → Deps ops pl k a w → pl.F k undef w) ∧ wpCalmL P ops w0 pl Q (k + 1) rest (a.put o.dst undef)
theorem wpCalm_of_list {Q : Exit → Act → World → Prop} : ∀ (l : List Oper) (k : Nat) (a : Act), wpCalmL P ops w0 pl Q k l a → wpCalm P ops w0 pl Q ((l.zipIdx k).map fun x => (x.2, x.1)) a
  | [], _, _, h => h
  | o :: l, k, a, h => by
    rw [List.zipIdx_cons, List.map_cons]
    unfold wpCalmL at h
    unfold wpCalm
    by_cases hn : pl.n0 ≤ k
    · rw [if_pos hn] at h
      rw [if_pos hn]
      have e : List.map (fun x => x.2) (List.map (fun x : Oper × Nat => (x.2, x.1)) (l.zipIdx (k + 1))) = l := by
        rw [List.map_map]
        exact List.zipIdx_map_fst (k + 1) l
      rw [e]
      exact h
    rw [if_neg hn] at h
    rw [if_neg hn]
    split at h
    · rename_i hw
      rw [if_pos hw]
      split at h
      · rename_i hs
        rw [if_pos hs]
        exact ⟨h.1, fun v hv => wpCalm_of_list l (k + 1) _ (h.2 v hv)⟩
      · rename_i hs
        rw [if_neg hs]
        obtain ⟨v, h1, h2⟩ := h
        exact ⟨v, h1, wpCalm_of_list l (k + 1) _ h2⟩
    · rename_i hw
      rw [if_neg hw]
      exact ⟨h.1, wpCalm_of_list l (k + 1) _ h.2⟩

theorem none_listed {n k : Nat} (h : k < n) : (Array.replicate n false).getD k true = false := by simp [h]
/-- ONE WALK FOR EVERY ORDER. -/
theorem wp_region_calm {id : Nat} {Q : Exit → Act → World → Prop} {a : Act} {w : World} {l : List Oper} (pl : Plan)
    (hm : P.follows .mixedOrders = true) (hB : calmB l.toArray pl = true) (hsz : (pl.sp.all fun j => match (l[j]?).bind (·.dst) with | some d => decide (d < a.tmps.size) | none => true) = true) (hc0 : ∀ g, pl.c0 = some g → g < w.heap.size)
    (hst : ∀ k, pl.sp.contains k = true → ∀ v W W' c, pl.F k v W → W.grownBy W' c → Far l.toArray pl w k v W c → pl.F k v W')
    (h : wpCalmL P l.toArray w pl Q 0 l a) : (Code.region id l.toArray true).wp P Q a w := by
  replace h := wpCalm_of_list l 0 a h
  have hok := calmOk_of hB
  refine wp_region_any hm ?_
  refine wpAny_of_calm (w0 := w) (pl := pl) (Q := Q) hok hst hc0 _ _ _ _ _ (by simp) ⟨by simp, ?_, fun k o => ?_, fun k o hk hl => ?_, fun j hj hl => ?_, fun j hj hl => ?_, fun j _ hj _ hl => ?_, fun j o d hj ho hd => ?_, ⟨rfl, rfl, rfl, Nat.le_refl _, fun _ _ _ => rfl⟩, fun _ => ⟨rfl, rfl, rfl, Nat.le_refl _, fun _ _ _ => rfl⟩, fun _ => ⟨rfl, rfl, rfl, Nat.le_refl _, fun _ _ _ => rfl⟩⟩ h
  · rw [List.pairwise_map]
    rw [List.pairwise_iff_getElem]
    intro i j hi hj hij
    simpa using hij
  · rw [List.mem_map]
    constructor
    · rintro ⟨⟨o', k'⟩, hx, he⟩
      simp only [Prod.mk.injEq] at he
      obtain ⟨rfl, rfl⟩ := he
      have hx' := List.mem_zipIdx_iff_getElem?.1 hx
      simp only [] at hx'
      have hlt : k' < l.length := (List.getElem?_eq_some_iff.1 hx').1
      exact ⟨by simpa using hx', by simp [hlt]⟩
    · rintro ⟨h1, _⟩
      exact ⟨(o, k), List.mem_zipIdx_iff_getElem?.2 (by simpa using h1), rfl⟩
  · have hlt : k < l.toArray.size := (Array.getElem?_eq_some_iff.1 hk).1
    rw [none_listed hlt] at hl
    cases hl
  · have hlt := hok.lt j hj
    rw [none_listed hlt] at hl
    cases hl
  · have hlt := hok.lt j hj
    rw [none_listed hlt] at hl
    cases hl
  · have hlt := hok.lt j hj
    rw [none_listed hlt] at hl
    cases hl
  · have := List.all_eq_true.1 hsz j (by simpa using hj)
    simp only [List.getElem?_toArray] at ho
    rw [ho, Option.bind_some, hd] at this
    simpa using this

theorem calm_nil {Q : Exit → Act → World → Prop} {a : Act} {n : Nat} (h : ∀ w, w0.grownBy w pl.c0 → (∀ j, pl.sp.contains j = true → ((List.range ops.size).all fun i => !(pl.dead i).contains j) = true → pl.F j (valOf ops a j) w) → Q .normal a w) : wpCalmL P ops w0 pl Q n [] a := h
/-- The operations that come last are left. -/
theorem calm_tail {Q : Exit → Act → World → Prop} {a : Act} {k : Nat} {o : Oper} {rest : List Oper} (hk : decide (pl.n0 ≤ k) = true) (h : ∀ w, w0.grownBy w pl.c0 → (∀ j, pl.sp.contains j = true → ((List.range ops.size).all fun i => !(pl.dead i).contains j) = true → pl.F j (valOf ops a j) w) → wpList P ops Q (o :: rest) a w) : wpCalmL P ops w0 pl Q k (o :: rest) a := by
  unfold wpCalmL
  rw [if_pos (by simpa using hk)]
  exact h
/-- An operation that leaves the world alone. -/
theorem calm_quiet {Q : Exit → Act → World → Prop} {a : Act} {k : Nat} {o : Oper} {rest : List Oper} {v : Value} (hw : Region.wanted o (yielded ops a.tmps) = true) (hs : (pl.sp.contains k || decide (pl.n0 ≤ k)) = false)
    (hr : ∀ w, w0.grownBy w (pl.cAt k) → Deps ops pl k a w → (execOp a.eval o).run P w = .ok (.value v) w) (h : wpCalmL P ops w0 pl Q (k + 1) rest (a.put o.dst v)) : wpCalmL P ops w0 pl Q k (o :: rest) a := by
  rw [Bool.or_eq_false_iff] at hs
  unfold wpCalmL
  rw [if_neg (by simpa using hs.2), if_pos hw, if_neg (by rw [hs.1]; simp)]
  exact ⟨v, hr, h⟩
/-- An operation that has a fact of its own. -/
theorem calm_makes {Q : Exit → Act → World → Prop} {a : Act} {k : Nat} {o : Oper} {rest : List Oper} (hw : Region.wanted o (yielded ops a.tmps) = true) (hs : (pl.sp.contains k && !decide (pl.n0 ≤ k)) = true)
    (hr : ∀ w, w0.grownBy w (pl.cAt k) → Deps ops pl k a w → ∀ K : Act → World → Prop, (∀ v w', Made ops pl k o a w v w' → K (a.put o.dst v) w') → o.wp P a w K (fun _ _ _ => False)) (h : ∀ v, wpCalmL P ops w0 pl Q (k + 1) rest (a.put o.dst v)) : wpCalmL P ops w0 pl Q k (o :: rest) a := by
  rw [Bool.and_eq_true] at hs
  unfold wpCalmL
  rw [if_neg (by simpa using hs.2), if_pos hw, if_pos hs.1]
  exact ⟨fun w hC hD => hr w hC hD _ fun v w' h1 => ⟨v, rfl, h1⟩, fun v _ => h v⟩
/-- An operation that has a fact of its own, and that one can leave nothing but this. -/
theorem calm_fixed {Q : Exit → Act → World → Prop} {a : Act} {k : Nat} {o : Oper} {rest : List Oper} (u : Value) (hin : ∃ w, pl.F k u w) (hfix : ∀ v w, pl.F k v w → v = u) (hdst : o.dst.isSome = true) (hw : Region.wanted o (yielded ops a.tmps) = true) (hs : (pl.sp.contains k && !decide (pl.n0 ≤ k)) = true)
    (hr : ∀ w, w0.grownBy w (pl.cAt k) → Deps ops pl k a w → ∀ K : Act → World → Prop, (∀ v w', Made ops pl k o a w v w' → K (a.put o.dst v) w') → o.wp P a w K (fun _ _ _ => False)) (h : wpCalmL P ops w0 pl Q (k + 1) rest (a.put o.dst u)) : wpCalmL P ops w0 pl Q k (o :: rest) a := by
  rw [Bool.and_eq_true] at hs
  unfold wpCalmL
  rw [if_neg (by simpa using hs.2), if_pos hw, if_pos hs.1]
  refine ⟨fun w hC hD => hr w hC hD _ fun v w' h1 => ⟨v, rfl, h1⟩, fun v hv => ?_⟩
  obtain ⟨w, hw'⟩ := hin
  rcases hv with hv | ⟨w2, hv⟩ | hv
  · rw [hv] at hdst; cases hdst
  · rw [hfix v w2 hv]; exact h
  · exact absurd ⟨u, w, hw'⟩ hv
/-- An operation whose guard is not met. -/
theorem calm_skip {Q : Exit → Act → World → Prop} {a : Act} {k : Nat} {o : Oper} {rest : List Oper} (hw : Region.wanted o (yielded ops a.tmps) = false) (hs : (pl.sp.contains k || decide (pl.n0 ≤ k)) = false) (h : wpCalmL P ops w0 pl Q (k + 1) rest (a.put o.dst undef)) : wpCalmL P ops w0 pl Q k (o :: rest) a := by
  rw [Bool.or_eq_false_iff] at hs
  unfold wpCalmL
  rw [if_neg (by simpa using hs.2), if_neg (by rw [hw]; simp)]
  exact ⟨fun h' => (by rw [hs.1] at h'; cases h'), h⟩
/-- What a step that writes nothing old has made. -/
theorem made_below {k : Nat} {o : Oper} {a : Act} {w w' : World} {v : Value} (hF : pl.F k (kept o v) w') (hb : Below w.heap.size w w') (ho : ∀ g, (kept o v).ownBlock = some g → w.heap.size ≤ g ∧ g < w'.heap.size) : Made ops pl k o a w v w' :=
  ⟨hF, ⟨none, ⟨hb.os, hb.tape, hb.output, hb.size, fun i hi _ => hb.block i hi⟩, .inl rfl⟩, fun g hg => ⟨(ho g hg).2, .inl (ho g hg).1⟩⟩
/-- A step that appends to the row of j. -/
theorem made_grown {k j : Nat} {o : Oper} {a : Act} {w w' : World} {v u : Value} (hj : (pl.dead k).contains j = true) (hu : valOf ops a j = u) (hF : pl.F k (kept o v) w') (hg : w.grownBy w' u.ownBlock) (ho : ∀ g, (kept o v).ownBlock = some g → g < w'.heap.size ∧ (w.heap.size ≤ g ∨ u.ownBlock = some g)) : Made ops pl k o a w v w' :=
  ⟨hF, ⟨_, hg, .inr ⟨j, hj, by rw [hu]⟩⟩, fun g h => ⟨(ho g h).1, (ho g h).2.imp id fun h2 => .inl ⟨j, hj, by rw [hu]; exact h2⟩⟩⟩
theorem kept_none {o : Oper} {v : Value} (h : v.ownBlock = none) : (kept o v).ownBlock = none := by
  unfold kept
  split
  · exact h
  · rfl
/-- A step that writes nothing old and leaves no row. -/
theorem made_plain {k : Nat} {o : Oper} {a : Act} {w w' : World} {v : Value} (hF : pl.F k (kept o v) w') (hb : Below w.heap.size w w') (hv : v.ownBlock = none) : Made ops pl k o a w v w' :=
  made_below hF hb fun g hg => by rw [kept_none hv] at hg; cases hg
theorem wpList_of_wp {ops : Array Oper} {o : Oper} {rest : List Oper} {a : Act} {w : World} {Q : Exit → Act → World → Prop} (hgd : o.guard = none) (h : o.wp P a w (wpList P ops Q rest) Q) : wpList P ops Q (o :: rest) a w := by
  unfold wpList
  rw [if_pos (by simp [Region.wanted, hgd])]
  exact .inl h
theorem wp_of_run {o : Oper} {a : Act} {w w' : World} {v : Value} {K : Act → World → Prop} {Q : Exit → Act → World → Prop} (h : (execOp a.eval o).run P w = .ok (.value v) w') (hk : K (a.put o.dst v) w') : o.wp P a w K Q := by
  unfold Oper.wp
  rw [h]
  exact hk
theorem wp_of_call {o : Oper} {a : Act} {w : World} {f : FuncId} {args : Array Value} {K : Act → World → Prop} {Q : Exit → Act → World → Prop} (h : (execOp a.eval o).run P w = .ok (.enter f args) w) (hk : Calls P f args w fun e w' => ∃ v, e = .returned v ∧ K (a.put o.dst v) w') : o.wp P a w K Q := by
  unfold Oper.wp
  rw [h]
  exact hk.mono fun e w' ⟨v, he, h⟩ => by subst he; exact h
theorem grown_own {w : World} {v u : Value} {g : Nat} (h : v.ownBlock = u.ownBlock ∨ v.ownBlock = some w.heap.size) (hg : v.ownBlock = some g) : w.heap.size ≤ g ∨ u.ownBlock = some g := by
  rcases h with h | h
  · exact .inr (by rw [← h]; exact hg)
  · rw [h] at hg
    injection hg with hg
    exact .inl (Nat.le_of_eq hg)
theorem grown_cell {w W : World} {c : Option Nat} {p : Addr} {v : Value} (h : w.grownBy W c) (hc : w.cell? p = some v) (hne : some p.block ≠ c) : W.cell? p = some v := h.cell hc hne
theorem grown_cell0 {w W : World} {p : Addr} {v : Value} (h : w.grownBy W none) (hc : w.cell? p = some v) : W.cell? p = some v := h.cell hc (by simp)
theorem grown_below {w W : World} (h : w.grownBy W none) : Below w.heap.size w W := ⟨h.os, h.tape, h.output, h.size, fun k hk => h.block k hk (by simp)⟩
end
end Go.Proofs.YtcgopilkajfghaaGreatDoor
end

section
/- A region that draws its order, walked within a round of a range over a function. -/
namespace Go.Proofs.YtcgopilkajfghaaGreatDoor
open Go Go.RowKit

section
variable {P : Program} {ops : Array Oper}

/-- No operation is a defer statement. -/
def noDefer (ops : Array Oper) : Bool := ops.all fun o => match o.op with | .defer _ => false | _ => true
theorem noDefer_at {i : Nat} {o : Oper} (h : noDefer ops = true) (hi : ops[i]? = some o) : ∀ c, o.op ≠ .defer c := by
  intro c hc
  obtain ⟨hlt, hk⟩ := Array.getElem?_eq_some_iff.1 hi
  unfold noDefer at h
  rw [Array.all_eq_true] at h
  have := h i hlt
  rw [hk, hc] at this
  cases this
theorem oper_wpIn_of_wp {l n : Nat} {o : Oper} {a : Act} {w : World} {K : Act → World → Prop} {Q : Exit → Act → World → Prop} (hd : ∀ c, o.op ≠ .defer c) (h : o.wp P a w K Q) : o.wpIn (Fence.wide.inRound l) n P a w K Q := by
  refine ⟨fun _ _ => trivial, ?_⟩
  show o.uponIn (Fence.wide.inRound l) n P a K Q ((o.semAt (some l) a.eval).run P w)
  rw [Oper.semAt_some l _ _ hd]
  unfold Oper.wp at h
  generalize (execOp a.eval o).run P w = r at h ⊢
  cases r with
  | ok x w' =>
    cases x with
    | value v => exact h
    | skip => exact h
    | defer d => exact h
    | enter f args => exact ⟨(fun hs : Fence.wide.depth.isSome = true => by cases hs), CallsIn.inRound l (callsIn_wide.2 h)⟩
    | row row args =>
      refine ⟨(fun hs : Fence.wide.depth.isSome = true => by cases hs), fun c cs _ => ?_⟩
      obtain ⟨v, w'', h1, h2⟩ := h c cs
      exact ⟨v, w'', h1, stepsIn_wide.2 h2⟩
    | _ => exact h.elim
  | halt x w' => cases x <;> first | exact h | exact h.elim
theorem wpOpIn_of_wpOp {l n i : Nat} {Q : Exit → Act → World → Prop} {K : Act → World → Prop} {a : Act} {w : World} (hd : noDefer ops = true) (hQ : ¬ LetsOut Q) (h : wpOp P ops Q i K a w) : wpOpIn (Fence.wide.inRound l) n P ops Q i K a w := by
  unfold wpOpIn
  unfold wpOp at h
  cases hi : ops[i]? with
  | none => rw [hi] at h; exact h
  | some o =>
    rw [hi] at h
    simp only at h ⊢
    split
    · rename_i hw
      rw [if_pos hw] at h
      exact oper_wpIn_of_wp (noDefer_at hd hi) (h.resolve_right fun hh => hQ hh.2)
    · rename_i hw
      rw [if_neg hw] at h
      exact ⟨fun _ _ => trivial, h⟩
theorem wpAnyIn_of_wpAny {l n : Nat} {md : Region.Mode} {Q : Exit → Act → World → Prop} (hd : noDefer ops = true) (hQ : ¬ LetsOut Q) : ∀ (fuel : Nat) (listed : Array Bool) (a : Act) (w : World), wpAny P md ops Q fuel listed a w → wpAnyIn (Fence.wide.inRound l) n P md ops Q fuel listed a w
  | 0, _, _, _, h => h
  | fuel + 1, listed, a, w, h => ⟨h.1, fun i hi => wpOpIn_mono (fun a w => wpAnyIn_of_wpAny hd hQ fuel _ a w) (wpOpIn_of_wpOp hd hQ (h.2 i hi))⟩
/-- One walk for every order, within a round. -/
theorem wpIn_region_calm {id r n : Nat} {Q : Exit → Act → World → Prop} {a : Act} {w : World} {l : List Oper} (pl : Plan)
    (hm : P.follows .mixedOrders = true) (hQ : ¬ LetsOut Q) (hd : noDefer l.toArray = true) (hB : calmB l.toArray pl = true) (hsz : (pl.sp.all fun j => match (l[j]?).bind (·.dst) with | some d => decide (d < a.tmps.size) | none => true) = true) (hc0 : ∀ g, pl.c0 = some g → g < w.heap.size)
    (hst : ∀ k, pl.sp.contains k = true → ∀ v W W' c, pl.F k v W → W.grownBy W' c → Far l.toArray pl w k v W c → pl.F k v W')
    (h : wpCalmL P l.toArray w pl Q 0 l a) : (Code.region id l.toArray true).wpIn (Fence.wide.inRound r) n P Q a w := by
  replace h := wpCalm_of_list l 0 a h
  have hok := calmOk_of hB
  refine wpIn_region_any hm (wpAnyIn_of_wpAny hd hQ _ _ _ _ ?_)
  refine wpAny_of_calm (w0 := w) (pl := pl) (Q := Q) hok hst hc0 _ _ _ _ _ (by simp) ⟨by simp, ?_, fun k o => ?_, fun k o hk hl => ?_, fun j hj hl => ?_, fun j hj hl => ?_, fun j _ hj _ hl => ?_, fun j o d hj ho hd => ?_, ⟨rfl, rfl, rfl, Nat.le_refl _, fun _ _ _ => rfl⟩, fun _ => ⟨rfl, rfl, rfl, Nat.le_refl _, fun _ _ _ => rfl⟩, fun _ => ⟨rfl, rfl, rfl, Nat.le_refl _, fun _ _ _ => rfl⟩⟩ h
  · rw [List.pairwise_map]
    rw [List.pairwise_iff_getElem]
    intro i j hi hj hij
    simpa using hij
  · rw [List.mem_map]
    constructor
    · rintro ⟨⟨o', k'⟩, hx, he⟩
      simp only [Prod.mk.injEq] at he
      obtain ⟨rfl, rfl⟩ := he
      have hx' := List.mem_zipIdx_iff_getElem?.1 hx
      simp only [] at hx'
      have hlt : k' < l.length := (List.getElem?_eq_some_iff.1 hx').1
      exact ⟨by simpa using hx', by simp [hlt]⟩
    · rintro ⟨h1, _⟩
      exact ⟨(o, k), List.mem_zipIdx_iff_getElem?.2 (by simpa using h1), rfl⟩
  · have hlt : k < l.toArray.size := (Array.getElem?_eq_some_iff.1 hk).1
    rw [none_listed hlt] at hl
    cases hl
  · have hlt := hok.lt j hj
    rw [none_listed hlt] at hl
    cases hl
  · have hlt := hok.lt j hj
    rw [none_listed hlt] at hl
    cases hl
  · have hlt := hok.lt j hj
    rw [none_listed hlt] at hl
    cases hl
  · have := List.all_eq_true.1 hsz j (by simpa using hj)
    simp only [List.getElem?_toArray] at ho
    rw [ho, Option.bind_some, hd] at this
    simpa using this
end
end Go.Proofs.YtcgopilkajfghaaGreatDoor
end
