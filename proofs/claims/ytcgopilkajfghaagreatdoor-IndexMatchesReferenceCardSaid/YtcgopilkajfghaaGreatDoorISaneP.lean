/- The cards of the chapter's examples. -/
import Derived.Test.YtcgopilkajfghaaGreatDoorIBase
set_option linter.unusedVariables false
set_option linter.unusedSimpArgs false
namespace Go.Proofs.YtcgopilkajfghaaGreatDoor
open Go.RowKit Go.Shelf

def ex5 : ICard := ⟨5, 1, 0, 1200, 1300⟩
def ex3 : ICard := ⟨3, 2, 0, 1250, 1400⟩
def ex9 : ICard := ⟨9, 1, 0, 1200, 1250⟩
def exF : Nat → List ICard
  | 0 => []
  | 1 => [ex5]
  | 2 => [ex5, ex3]
  | _ => [ex9, ex5, ex3]
def exL : List ICard := [ex9, ex5, ex3]
def exC : Nat → ICard
  | 0 => ex5
  | 1 => ex3
  | _ => ex9
theorem ex_put : ∀ k, k < 3 → putL (exF k) (exC k) = (exF (k + 1), 0)
  | 0, _ => by decide +kernel
  | 1, _ => by decide +kernel
  | 2, _ => by decide +kernel
def exV : List ILev := [⟨0, 1200, 0⟩, ⟨1200, 1300, 2⟩, ⟨1300, 1400, 1⟩, ⟨1400, 2100, 0⟩]
theorem levs_ext {f : Nat → Int} {I : List ILev} {b a : Nat} {n : Int} (h : levsR f a = I ++ [⟨b, a, n⟩]) : ∀ d, (∀ y, a ≤ y → y < a + d → f y = n) → levsR f (a + d) = I ++ [⟨b, a + d, n⟩]
  | 0, _ => h
  | d + 1, hf => by
    have ih := levs_ext h d fun y h1 h2 => hf y h1 (by omega)
    show levsR f (a + d + 1) = _
    rw [levsR, ih]
    simp only [List.getLast?_append, List.getLast?_singleton, Option.some_or, List.dropLast_concat]
    rw [if_pos (hf (a + d) (by omega) (by omega)).symm]
    rfl
theorem levs_new {f : Nat → Int} {I : List ILev} {b a : Nat} {n : Int} (h : levsR f a = I ++ [⟨b, a, n⟩]) (d : Nat) (m : Int) (hf : ∀ y, a ≤ y → y < a + (d + 1) → f y = m) (hn : n ≠ m) : levsR f (a + (d + 1)) = (I ++ [⟨b, a, n⟩]) ++ [⟨a, a + (d + 1), m⟩] := by
  have h1 : levsR f (a + 1) = (I ++ [⟨b, a, n⟩]) ++ [⟨a, a + 1, m⟩] := by
    rw [levsR, h]
    simp only [List.getLast?_append, List.getLast?_singleton, Option.some_or]
    rw [if_neg (by rw [hf a (Nat.le_refl _) (by omega)]; exact hn), hf a (Nat.le_refl _) (by omega)]
  have h2 := levs_ext h1 d fun y h3 h4 => hf y (by omega) (by omega)
  rw [show a + 1 + d = a + (d + 1) by omega] at h2
  exact h2
theorem ex_cnt (y : Nat) : (cntY exL (y : Int) : Int) = (if 1200 ≤ y ∧ y < 1250 then 1 else 0) + ((if 1200 ≤ y ∧ y < 1300 then 1 else 0) + (if 1250 ≤ y ∧ y < 1400 then 1 else 0)) := by
  unfold cntY exL ex9 ex5 ex3 hasY
  simp only [List.countP_cons, List.countP_nil, Bool.and_eq_true, decide_eq_true_eq]
  by_cases h1 : 1200 ≤ y <;> by_cases h2 : y < 1250 <;> by_cases h3 : y < 1300 <;> by_cases h4 : y < 1400
  all_goals
    repeat rw [if_neg (by omega)]
    repeat (first | rw [if_pos (by omega)] | rw [if_neg (by omega)])
    try omega
theorem ex_levs : levsR (fun y : Nat => (cntY exL (y : Int) : Int)) 2100 = exV := by
  suffices H : ∀ f : Nat → Int, (∀ y, f y = (if 1200 ≤ y ∧ y < 1250 then 1 else 0) + ((if 1200 ≤ y ∧ y < 1300 then 1 else 0) + (if 1250 ≤ y ∧ y < 1400 then 1 else 0))) → levsR f 2100 = exV from H _ ex_cnt
  intro f hc
  have h1 : levsR f 1 = [] ++ [⟨0, 1, 0⟩] := by rw [levs_one, hc]; rfl
  have h2 : levsR f 1200 = [] ++ [⟨0, 1200, 0⟩] := levs_ext h1 1199 fun y h1 h2 => by rw [hc]; (repeat' split) <;> omega
  have h3 : levsR f 1300 = ([] ++ [⟨0, 1200, 0⟩]) ++ [⟨1200, 1300, 2⟩] := levs_new h2 99 2 (fun y h1 h2 => by rw [hc]; (repeat' split) <;> omega) (by decide)
  have h4 : levsR f 1400 = (([] ++ [⟨0, 1200, 0⟩]) ++ [⟨1200, 1300, 2⟩]) ++ [⟨1300, 1400, 1⟩] := levs_new h3 99 1 (fun y h1 h2 => by rw [hc]; (repeat' split) <;> omega) (by decide)
  have h5 : levsR f 2100 = ((([] ++ [⟨0, 1200, 0⟩]) ++ [⟨1200, 1300, 2⟩]) ++ [⟨1300, 1400, 1⟩]) ++ [⟨1400, 2100, 0⟩] := levs_new h4 699 0 (fun y h1 h2 => by rw [hc]; (repeat' split) <;> omega) (by decide)
  rw [h5]
  rfl
theorem ex_busy : busE exV = ⟨1200, 1300, 2⟩ := by decide +kernel
theorem ex_all : rankE exL 5 = (1, 0) ∧ kthE exL 2 = (3, 0) ∧ rankE exL 4 = (0, 420) ∧ kthE exL 3 = (0, 420) ∧ putL exL ex5 = (exL, 420) ∧ dropL exL 4 = (exL, 420) ∧
    durE exL 1250 1260 = [5, 3] ∧ durE exL 1400 1500 = [] ∧ aboutE exL 1 1200 1201 = [9, 5] ∧ countE exL 1249 = 2 ∧ countE exL 1250 = 2 ∧ countE exL 1399 = 1 ∧ countE exL 1400 = 0 ∧ validC ex5 = true ∧ validC cardZ = false := by
  refine ⟨?_, ?_, ?_, ?_, ?_, ?_, ?_, ?_, ?_, ?_, ?_, ?_, ?_, ?_, ?_⟩ <;> decide +kernel
theorem ex_root : (rootL (codesC exL)).length = 32 := rootL_length _
end Go.Proofs.YtcgopilkajfghaaGreatDoor
