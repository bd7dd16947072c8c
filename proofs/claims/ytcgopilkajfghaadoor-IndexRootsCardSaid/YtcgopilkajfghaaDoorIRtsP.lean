/- Plain: what the roots of two indices say. -/
import Derived.Test.YtcgopilkajfghaaDoorIOrdP
import Derived.Test.YtcgopilkajfghaaDoorICodes
import Derived.Test.YtcgopilkajfghaaDoorMDigR
set_option linter.unusedVariables false
set_option linter.unusedSimpArgs false
namespace Go.Proofs.YtcgopilkajfghaaDoor
open Go.RowKit Go.Shelf

theorem catC_cons (x : Int) (a : List Int) (h1 : -4611686018427387903 ≤ x) (h2 : x ≤ 4611686018427387903) : catC (x :: a) = enc (zz x) ++ catC a := by
  unfold catC
  rw [List.map_cons, List.flatten_cons, putInt_ok x h1 h2]
theorem catC_inj : ∀ (a b : List Int), a.length = b.length → (∀ n ∈ a, -4611686018427387903 ≤ n ∧ n ≤ 4611686018427387903) → (∀ n ∈ b, -4611686018427387903 ≤ n ∧ n ≤ 4611686018427387903) → catC a = catC b → a = b
  | [], [], _, _, _, _ => rfl
  | [], _ :: _, h, _, _, _ => by cases h
  | _ :: _, [], h, _, _, _ => by cases h
  | x :: a, y :: b, h, ha, hb, he => by
    have hx := ha x (by simp)
    have hy := hb y (by simp)
    rw [catC_cons x a hx.1 hx.2, catC_cons y b hy.1 hy.2] at he
    have d1 := dec_enc x hx.1 hx.2 (catC a)
    have d2 := dec_enc y hy.1 hy.2 (catC b)
    rw [he, d2] at d1
    have hxy : y = x := by injection d1 with d1; injection d1
    subst hxy
    rw [catC_inj a b (by simpa using h) (fun n hn => ha n (by simp [hn])) (fun n hn => hb n (by simp [hn])) (List.append_cancel_left he)]
theorem nums_bd {c : ICard} (h : validC c = true) : ∀ n ∈ numsC c, -4611686018427387903 ≤ n ∧ n ≤ 4611686018427387903 := fun n hn => by
  have hv := validC_ok h
  simp only [numsC, List.mem_cons, List.not_mem_nil, or_false] at hn
  rcases hn with rfl | rfl | rfl | rfl | rfl <;> omega
theorem codeC_inj {c d : ICard} (hc : validC c = true) (hd : validC d = true) (h : codeC c = codeC d) : c = d := by
  have h1 := catC_inj (numsC c) (numsC d) rfl (nums_bd hc) (nums_bd hd) h
  cases c
  cases d
  simp only [numsC, List.cons.injEq, and_true] at h1
  obtain ⟨rfl, rfl, rfl, rfl, rfl⟩ := h1
  rfl
theorem codesC_inj : ∀ (l m : List ICard), (∀ c ∈ l, validC c = true) → (∀ c ∈ m, validC c = true) → codesC l = codesC m → l = m
  | [], [], _, _, _ => rfl
  | [], _ :: _, _, _, h => by cases h
  | _ :: _, [], _, _, h => by cases h
  | c :: l, d :: m, hl, hm, h => by
    simp only [codesC, List.map_cons, List.cons.injEq] at h
    rw [codeC_inj (hl c (by simp)) (hm d (by simp)) h.1, codesC_inj l m (fun x hx => hl x (by simp [hx])) (fun x hx => hm x (by simp [hx])) h.2]
theorem roots_idx {l m : List ICard} (hl : IOk l) (hm : IOk m) (h : ((rootL (codesC l) == rootL (codesC m)) == (l == m)) = false) : (l == m) = false ∧ meetB (hashedL (codesC l)) (hashedL (codesC m)) = true := by
  by_cases e : l = m
  · subst e
    simp at h
  · refine ⟨beq_eq_false_iff_ne.2 e, ?_⟩
    have hr : rootL (codesC l) = rootL (codesC m) := by
      rw [beq_eq_false_iff_ne.2 e] at h
      simpa using h
    exact roots_bind _ _ _ (Nat.le_refl _) hr fun hc => e (codesC_inj l m hl.valid hm.valid hc)
/-- The cards that were put: as many as rounds, with the IDs of the list. -/
def PutOk (l M : List ICard) (k : Nat) : Prop := IOk M ∧ M.length = k ∧ ∀ x ∈ M, ∃ j, j < k ∧ x.id = (l.getD j default).id
theorem putOk_zero (l : List ICard) : PutOk l [] 0 := ⟨iok_nil, rfl, fun x hx => by cases hx⟩
theorem putOk_next {l M : List ICard} {k : Nat} (hl : IOk l) (hn : l.length ≤ 40) (h : PutOk l M k) (hk : k < l.length) {c : ICard} (hc : c.id = (l.getD k default).id) (hv : validC c = true) : putL M c = (insC M c, 0) ∧ PutOk l (insC M c) (k + 1) := by
  obtain ⟨h1, h2, h3⟩ := h
  have hno : findC M c.id = none := findC_none.2 fun x hx e => by
    obtain ⟨j, hj, hx2⟩ := h3 x hx
    rw [hx2, hc] at e
    rw [List.getD_eq_getElem?_getD, List.getElem?_eq_getElem (by omega), List.getD_eq_getElem?_getD, List.getElem?_eq_getElem hk] at e
    exact List.pairwise_iff_getElem.1 hl.ids j k (by omega) hk hj e
  refine ⟨putL_in hno hv (by omega), insC_ok h1 hv hno (by omega), by rw [insC_length, h2], fun x hx => ?_⟩
  rcases insC_mem.1 hx with rfl | hx
  · exact ⟨k, by omega, hc⟩
  · obtain ⟨j, hj, he⟩ := h3 x hx
    exact ⟨j, by omega, he⟩
/-- A card with another unit. -/
def unitC (c : ICard) (u : Int) : ICard := ⟨c.id, u, c.kind, c.beg, c.fin⟩
theorem unitC_ok {c : ICard} (h : validC c = true) {u : Int} (h1 : 0 ≤ u) (h2 : u < 100) : validC (unitC c u) = true := by
  have hv := validC_ok h
  unfold validC unitC inC spellB
  simp only [Bool.and_eq_true, decide_eq_true_eq]
  omega
theorem keepT_idx {F S : Nat → Prop} {X : Nat} {l : List ICard} {W : World} (h : IdxN S X l W) (hd : ∀ k, S k → ¬ F k) : ∀ W', Turn F W W' → IdxN S X l W' := fun W' ht => h.turn ht hd
end Go.Proofs.YtcgopilkajfghaaDoor
