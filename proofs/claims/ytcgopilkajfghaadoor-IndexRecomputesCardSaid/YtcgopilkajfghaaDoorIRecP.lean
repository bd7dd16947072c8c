/- Plain: which cards are here, and how they lie in two arrays. -/
import Derived.Test.YtcgopilkajfghaaDoorIOrdP
set_option linter.unusedVariables false
set_option linter.unusedSimpArgs false
namespace Go.Proofs.YtcgopilkajfghaaDoor
open Go.RowKit Go.Shelf

/-- The cells of here. -/
def hereC (l : List ICard) : Array Value := ((List.range 20).map fun j : Nat => Value.bool (findC l (j : Int)).isSome).toArray
theorem hereC_get {l : List ICard} {d : Nat} (h : d < 20) : (hereC l)[d]? = some (.bool (findC l (d : Int)).isSome) := by
  unfold hereC
  rw [List.getElem?_toArray, List.getElem?_map, List.getElem?_range h]
  rfl
theorem hereC_set {l l' : List ICard} {d : Nat} {b : Bool} (h : d < 20) (hb : (findC l' (d : Int)).isSome = b) (ho : ∀ j : Nat, j ≠ d → (findC l' (j : Int)).isSome = (findC l (j : Int)).isSome) : (hereC l).setIfInBounds d (.bool b) = hereC l' := by
  unfold hereC
  rw [List.setIfInBounds_toArray]
  congr 1
  apply List.ext_getElem?
  intro i
  rw [List.getElem?_set, List.getElem?_map, List.getElem?_map]
  by_cases e : d = i
  · subst e
    rw [if_pos rfl, List.getElem?_range h, List.length_map, List.length_range, if_pos h, ← hb]
    rfl
  · rw [if_neg e]
    by_cases hi : i < 20
    · rw [List.getElem?_range hi, Option.map_some, Option.map_some, ho i (fun h => e h.symm)]
    · rw [List.getElem?_eq_none (by simp; omega)]
      rfl
theorem hereC_nil : hereC [] = #[.bool false, .bool false, .bool false, .bool false, .bool false, .bool false, .bool false, .bool false, .bool false, .bool false, .bool false, .bool false, .bool false, .bool false, .bool false, .bool false, .bool false, .bool false, .bool false, .bool false] := by kernel_rfl
/-- The cells of all. -/
def allC (A : List ICard) : Array Value := (cellsK cardK A).toArray
theorem allC_zero : allC (List.replicate 20 cardZ) = Tryd.zeroCells32 := by kernel_rfl
theorem allC_get {A : List ICard} {d f : Nat} {c : ICard} (h : A[d]? = some c) (hf : f < 5) : (allC A)[d * 5 + f]? = (cardK.enc c)[f]? := by
  unfold allC
  rw [List.getElem?_toArray]
  exact cellsK_get cardOk A d f c h hf
theorem allC_set1 {A : List ICard} {d f : Nat} {y : ICard} {u : Value} (hd : d < A.length) (hf : f < 5) (he : cardK.enc y = (cardK.enc (A.getD d default)).set f u) : (allC A).setIfInBounds (d * 5 + f) u = allC (A.set d y) := by
  unfold allC
  rw [List.setIfInBounds_toArray, cellsK_set cardOk A d f y u hd hf he]
  rfl
theorem getD_setC {A : List ICard} {d : Nat} (hd : d < A.length) (y : ICard) : (A.set d y).getD d default = y := by
  rw [List.getD_eq_getElem?_getD, List.getElem?_set_self hd]
  rfl
theorem box_card {g : Nat} {t : TypeId} {A : List ICard} {d : Nat} {c : ICard} {W : World} (h : BoxN g t (allC A) W) (hd : d < A.length) :
    BoxN g t (allC (A.set d c)) (((((W.setCell ⟨g, d * 5, none⟩ (.int .i64 c.id)).setCell ⟨g, d * 5 + 1, none⟩ (.int .i64 c.unit)).setCell ⟨g, d * 5 + 2, none⟩ (.int .i64 c.kind)).setCell ⟨g, d * 5 + 3, none⟩ (.int .i64 c.beg)).setCell ⟨g, d * 5 + 4, none⟩ (.int .i64 c.fin)) := by
  have h1 := h.set (d * 5 + 0) (.int .i64 c.id)
  rw [allC_set1 (y := ⟨c.id, (A.getD d default).unit, (A.getD d default).kind, (A.getD d default).beg, (A.getD d default).fin⟩) hd (by omega) rfl] at h1
  have h2 := h1.set (d * 5 + 1) (.int .i64 c.unit)
  rw [allC_set1 (y := ⟨c.id, c.unit, (A.getD d default).kind, (A.getD d default).beg, (A.getD d default).fin⟩) (by rw [List.length_set]; exact hd) (by omega) (by rw [getD_setC hd]; rfl), List.set_set] at h2
  have h3 := h2.set (d * 5 + 2) (.int .i64 c.kind)
  rw [allC_set1 (y := ⟨c.id, c.unit, c.kind, (A.getD d default).beg, (A.getD d default).fin⟩) (by rw [List.length_set]; exact hd) (by omega) (by rw [getD_setC hd]; rfl), List.set_set] at h3
  have h4 := h3.set (d * 5 + 3) (.int .i64 c.beg)
  rw [allC_set1 (y := ⟨c.id, c.unit, c.kind, c.beg, (A.getD d default).fin⟩) (by rw [List.length_set]; exact hd) (by omega) (by rw [getD_setC hd]; rfl), List.set_set] at h4
  have h5 := h4.set (d * 5 + 4) (.int .i64 c.fin)
  rw [allC_set1 (y := c) (by rw [List.length_set]; exact hd) (by omega) (by rw [getD_setC hd]; rfl), List.set_set] at h5
  exact h5
/-- What all knows of the cards that are here. -/
def AllOk (l A : List ICard) : Prop := A.length = 20 ∧ ∀ (j : Nat) (c : ICard), j < 20 → findC l (j : Int) = some c → A[j]? = some c
theorem allOk_zero : AllOk [] (List.replicate 20 cardZ) := ⟨by simp, fun j c _ h => by cases h⟩
theorem allOk_drop {l A : List ICard} (h : AllOk l A) (hl : IOk l) {c : ICard} (hc : c ∈ l) : AllOk (delC l c) A := ⟨h.1, fun j x hj hx => by
  rw [find_del hl hc] at hx
  split at hx
  · cases hx
  · exact h.2 j x hj hx⟩
theorem allOk_put {l A : List ICard} {c : ICard} {d : Nat} (h : AllOk l A) (hn : findC l c.id = none) (hd : c.id = (d : Int)) (hd2 : d < 20) : AllOk (insC l c) (A.set d c) := ⟨by rw [List.length_set]; exact h.1, fun j x hj hx => by
  rw [find_ins hn] at hx
  by_cases e : d = j
  · subst e
    rw [if_pos hd.symm] at hx
    cases hx
    exact List.getElem?_set_self (by rw [h.1]; exact hd2)
  · rw [if_neg (fun h => e (by omega))] at hx
    rw [List.getElem?_set_ne e]
    exact h.2 j x hj hx⟩
/-- How many of the first numbers are here. -/
def cntH (l : List ICard) : Nat → Nat
  | 0 => 0
  | k + 1 => cntH l k + if (findC l (k : Int)).isSome then 1 else 0
theorem cntH_le (l : List ICard) : ∀ k, cntH l k ≤ k
  | 0 => Nat.le_refl _
  | k + 1 => by
    have := cntH_le l k
    show cntH l k + _ ≤ _
    split <;> omega
theorem cntH_cons {c : ICard} {t : List ICard} {d : Nat} (hd : c.id = (d : Int)) (hn : findC t (d : Int) = none) : ∀ k, cntH (c :: t) k = cntH t k + if d < k then 1 else 0
  | 0 => rfl
  | k + 1 => by
    have ih := cntH_cons hd hn k
    have hf : findC (c :: t) (k : Int) = if d = k then some c else findC t (k : Int) := by
      unfold findC
      rw [List.find?_cons]
      by_cases e : d = k
      · rw [if_pos e, show (c.id == (k : Int)) = true by rw [beq_iff_eq, hd, e]]
      · rw [if_neg e, show (c.id == (k : Int)) = false by rw [beq_eq_false_iff_ne, hd]; omega]
    show cntH (c :: t) k + _ = cntH t k + _ + _
    rw [ih, hf]
    by_cases e : d = k
    · subst e
      rw [if_pos rfl, hn]
      simp
    · rw [if_neg e]
      by_cases h2 : d < k
      · have e1 : (if d < k then 1 else 0) = 1 := if_pos h2
        have e2 : (if d < k + 1 then 1 else 0) = 1 := if_pos (by omega)
        rw [e1, e2]; omega
      · have e1 : (if d < k then 1 else 0) = 0 := if_neg h2
        have e2 : (if d < k + 1 then 1 else 0) = 0 := if_neg (by omega)
        rw [e1, e2]; omega
theorem cntH_all : ∀ (l : List ICard), (∀ c ∈ l, 0 ≤ c.id ∧ c.id < 20) → l.Pairwise (fun a b => a.id ≠ b.id) → cntH l 20 = l.length
  | [], _, _ => by decide
  | c :: t, hb, hp => by
    rw [List.pairwise_cons] at hp
    have hc := hb c (by simp)
    have hd : c.id = ((c.id.toNat : Nat) : Int) := by omega
    rw [cntH_cons hd (findC_none.2 fun x hx e => hp.1 x hx (by rw [e]; exact hd)) 20, cntH_all t (fun x hx => hb x (by simp [hx])) hp.2, if_pos (by omega)]
    rfl
theorem place_idx {l : List ICard} (h : IOk l) {k : Nat} (hk : k < l.length) : placeC l l[k] = k := by
  obtain ⟨hp, he⟩ := place_at h (List.getElem_mem hk)
  rcases Nat.lt_trichotomy (placeC l l[k]) k with g | g | g
  · exact absurd (by have := List.pairwise_iff_getElem.1 h.sorted _ _ hp hk g; rwa [he] at this) (befC_irr _)
  · exact g
  · exact absurd (by have := List.pairwise_iff_getElem.1 h.sorted _ _ hk hp g; rwa [he] at this) (befC_irr _)
/-- What the walk through the cards needs of card k. -/
theorem at_facts {l : List ICard} (h : IOk l) {k : Nat} {c : ICard} (hc : l[k]? = some c) : rankE l c.id = (((k : Nat) : Int), 0) ∧ kthE l (k : Int) = (c.id, 0) ∧ findC l c.id = some c := by
  obtain ⟨hk, rfl⟩ := List.getElem?_eq_some_iff.1 hc
  refine ⟨?_, ?_, findC_mem h (List.getElem_mem hk)⟩
  · rw [rank_of h (List.getElem_mem hk), place_idx h hk]
  · unfold kthE inC
    rw [if_pos]
    · rw [show (k : Int).toNat = k from rfl, List.getD_eq_getElem?_getD, List.getElem?_eq_getElem hk]; rfl
    · simp; omega
theorem rank_ok (l : List ICard) (id : Int) : ((rankE l id).2 == 0) = (findC l id).isSome := by
  unfold rankE
  cases findC l id <;> rfl
theorem cntY_next (l : List ICard) (y : Int) {k : Nat} {c : ICard} (hc : l[k]? = some c) : cntY (l.take (k + 1)) y = cntY (l.take k) y + if hasY y c then 1 else 0 := by
  unfold cntY
  rw [List.take_add_one, hc, List.countP_append]
  simp [List.countP_cons]
end Go.Proofs.YtcgopilkajfghaaDoor
