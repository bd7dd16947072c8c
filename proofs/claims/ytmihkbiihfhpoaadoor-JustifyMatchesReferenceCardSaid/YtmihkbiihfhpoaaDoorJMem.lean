/- How slices of ints, slices of rules and theories lie in memory. -/
import Derived.Test.YtmihkbiihfhpoaaDoorProg
import Derived.WalkKit
import Derived.Shelf.Abstract
import Derived.Lib.Hide
namespace Go.Proofs.YtmihkbiihfhpoaaDoor
open Go.RowKit Go.Shelf

structure JRule where
  needs : List Int
  gives : Int
deriving Inhabited, DecidableEq
structure JTh where
  seen : Int
  drawn : Int
  rules : List JRule
deriving Inhabited, DecidableEq

/-- A value is a slice of these ints, in blocks before B. -/
def IntsAt (B : Nat) (w : World) (v : Value) (l : List Int) : Prop :=
  ∃ (a : Option Addr) (c : Nat), v = .slice a l.length c ∧ l.length ≤ c ∧ c ≤ maxLen ∧
    (0 < l.length → ∃ b off, a = some ⟨b, off, none⟩ ∧ b < B ∧ ∀ i, i < l.length → w.cell? ⟨b, off + i, none⟩ = some (.int .i64 (l.getD i 0)))
theorem IntsAt.below {B B' : Nat} {w w' : World} {v : Value} {l : List Int} (h : IntsAt B w v l) (hb : Below B' w w') (hB : B ≤ B') : IntsAt B w' v l := by
  obtain ⟨a, c, rfl, h1, h2, h3⟩ := h
  refine ⟨a, c, rfl, h1, h2, fun hp => ?_⟩
  obtain ⟨b, off, rfl, hlt, hc⟩ := h3 hp
  exact ⟨b, off, rfl, hlt, fun i hi => (hb.cell (p := ⟨b, off + i, none⟩) (Nat.lt_of_lt_of_le hlt hB)).trans (hc i hi)⟩
theorem IntsAt.mono {B B' : Nat} {w : World} {v : Value} {l : List Int} (h : IntsAt B w v l) (hB : B ≤ B') : IntsAt B' w v l := by
  obtain ⟨a, c, rfl, h1, h2, h3⟩ := h
  refine ⟨a, c, rfl, h1, h2, fun hp => ?_⟩
  obtain ⟨b, off, rfl, hlt, hc⟩ := h3 hp
  exact ⟨b, off, rfl, Nat.lt_of_lt_of_le hlt hB, hc⟩
theorem IntsAt.nil (B : Nat) (w : World) : IntsAt B w (.slice none 0 0) [] := ⟨none, 0, rfl, Nat.le_refl _, Nat.zero_le _, fun h => by simp at h⟩

/-- A value is a slice of these rules. -/
def RulesAt (B : Nat) (w : World) (v : Value) (rs : List JRule) : Prop :=
  ∃ (a : Option Addr) (c : Nat), v = .slice a rs.length c ∧ rs.length ≤ c ∧ c ≤ maxLen ∧
    (0 < rs.length → ∃ b off, a = some ⟨b, off, none⟩ ∧ b < B ∧ ∀ i, i < rs.length → ∃ nv, w.cell? ⟨b, off + i * 2, none⟩ = some nv ∧ w.cell? ⟨b, off + i * 2 + 1, none⟩ = some (.int .i64 (rs.getD i default).gives) ∧ IntsAt B w nv (rs.getD i default).needs)
theorem RulesAt.below {B B' : Nat} {w w' : World} {v : Value} {l : List JRule} (h : RulesAt B w v l) (hb : Below B' w w') (hB : B ≤ B') : RulesAt B w' v l := by
  obtain ⟨a, c, rfl, h1, h2, h3⟩ := h
  refine ⟨a, c, rfl, h1, h2, fun hp => ?_⟩
  obtain ⟨b, off, rfl, hlt, hc⟩ := h3 hp
  refine ⟨b, off, rfl, hlt, fun i hi => ?_⟩
  obtain ⟨nv, c1, c2, c3⟩ := hc i hi
  exact ⟨nv, (hb.cell (p := ⟨b, off + i * 2, none⟩) (Nat.lt_of_lt_of_le hlt hB)).trans c1, (hb.cell (p := ⟨b, off + i * 2 + 1, none⟩) (Nat.lt_of_lt_of_le hlt hB)).trans c2, c3.below hb hB⟩
theorem RulesAt.mono {B B' : Nat} {w : World} {v : Value} {l : List JRule} (h : RulesAt B w v l) (hB : B ≤ B') : RulesAt B' w v l := by
  obtain ⟨a, c, rfl, h1, h2, h3⟩ := h
  refine ⟨a, c, rfl, h1, h2, fun hp => ?_⟩
  obtain ⟨b, off, rfl, hlt, hc⟩ := h3 hp
  refine ⟨b, off, rfl, Nat.lt_of_lt_of_le hlt hB, fun i hi => ?_⟩
  obtain ⟨nv, c1, c2, c3⟩ := hc i hi
  exact ⟨nv, c1, c2, c3.mono hB⟩
theorem RulesAt.nil (B : Nat) (w : World) : RulesAt B w (.slice none 0 0) [] := ⟨none, 0, rfl, Nat.le_refl _, Nat.zero_le _, fun h => by simp at h⟩

/-- The first place that has a property. -/
def IsFst (q : Nat → Bool) (n : Nat) (r : Int) : Prop := (∃ i : Nat, i < n ∧ q i = true ∧ (∀ j, j < i → q j = false) ∧ r = i) ∨ ((∀ j, j < n → q j = false) ∧ r = -1)
theorem IsFst.any {q : Nat → Bool} {n : Nat} {r : Int} (h : IsFst q n r) : decide (0 ≤ r) = (List.range n).any q := by
  rcases h with ⟨i, h1, h2, _, rfl⟩ | ⟨h1, rfl⟩
  · rw [List.any_eq_true.2 ⟨i, List.mem_range.2 h1, h2⟩]
    simp
  · rw [show (List.range n).any q = false from List.any_eq_false.2 fun j hj => by simp [h1 j (List.mem_range.1 hj)]]
    simp
theorem any_getD {α : Type} (p : α → Bool) (d : α) (l : List α) : (List.range l.length).any (fun i => p (l.getD i d)) = l.any p := by
  rw [Bool.eq_iff_iff, List.any_eq_true, List.any_eq_true]
  constructor
  · rintro ⟨i, hi, h⟩
    have hi := List.mem_range.1 hi
    rw [List.getD_eq_getElem?_getD, List.getElem?_eq_getElem hi] at h
    exact ⟨_, List.getElem_mem hi, h⟩
  · rintro ⟨x, hx, h⟩
    obtain ⟨i, hi, rfl⟩ := List.getElem_of_mem hx
    exact ⟨i, List.mem_range.2 hi, by rw [List.getD_eq_getElem?_getD, List.getElem?_eq_getElem hi]; exact h⟩
theorem not_anyP (b : Bool) : (!b) = !b := rfl
end Go.Proofs.YtmihkbiihfhpoaaDoor
