/- Plain: what Why returns is a derivation of which nothing can be left out; the observations that it needs. -/
import Derived.Test.YtmihkbiihfhpoaaDoorJGood
namespace Go.Proofs.YtmihkbiihfhpoaaDoor
open Go

theorem hd_obs {n d : Nat} {rs : List JRule} (G : Good n d rs) (S : Nat) {i : Nat} (hi : i < n) : (hd rs S).testBit i = S.testBit i := hd_seen S i fun r hr e => by have := (G.gives r hr).1; omega
theorem steps_take {rs : List JRule} {S T : Nat} {l : List Int} (h : stepsL rs S l = some T) (k : Nat) : ∃ U, stepsL rs S (l.take k) = some U := by
  have e : l = l.take k ++ l.drop k := (List.take_append_drop k l).symm
  rw [e, steps_append] at h
  cases hu : stepsL rs S (l.take k) with
  | none => rw [hu] at h; cases h
  | some U => exact ⟨U, rfl⟩
structure WhyOk (n : Nat) (rs : List JRule) (S K : Nat) (l : List Int) : Prop where
  der : derivesB n rs S K l = true
  min : ∀ i, i < l.length → derivesB n rs S K (l.eraseIdx i) = false
  len : l.length ≤ 40
  mem : ∀ i ∈ l, 0 ≤ i ∧ i < rs.length
theorem why_ok {n d : Nat} {rs : List JRule} (G : Good n d rs) {S K : Nat} (hS : S < 2 ^ n) (hK : K < n + d) (hb : (hd rs S).testBit K = true) : WhyOk n rs S K (whyL ⟨n, d, rs⟩ S K) := by
  have hw : whyB ⟨n, d, rs⟩ S K = true := by rw [G.why hS hK]; exact hb
  have hdef : whyL ⟨n, d, rs⟩ S K = if (K : Int) < n then [] else trimmed n rs S K (cutAt rs K (heldF rs S).2) := by
    unfold whyL
    rw [hw, Int.toNat_natCast]
    rfl
  rw [hdef]
  by_cases hkn : (K : Int) < n
  · rw [if_pos hkn]
    have hSK : S.testBit K = true := by rw [← hd_obs G S (by omega : K < n)]; exact hb
    refine ⟨?_, fun i hi => by simp at hi, by simp, fun i hi => by simp at hi⟩
    rw [derives_nil]
    simp [hkn, bitB, hSK]
  · rw [if_neg hkn]
    have hbit : bitB (hd rs S) K = true := by simpa [bitB] using hb
    obtain ⟨x, hx, hgx⟩ := held_gives G.valid (by simpa using hS) (by show (n : Int) ≤ K; omega) hbit
    have hst := heldF_steps rs S
    have hlen := heldF_len rs S
    have hl40 := G.len
    generalize hl0 : (heldF rs S).2 = l0 at *
    obtain ⟨q, hq, hidx, hgi, hbefore⟩ : ∃ q, q = l0.findIdx (fun i => givesAt rs i == (K : Int)) ∧ q < l0.length ∧ givesAt rs (l0.getD q 0) = K ∧ ∀ j, j < q → givesAt rs (l0.getD j 0) ≠ K := by
      have hidx : l0.findIdx (fun i => givesAt rs i == (K : Int)) < l0.length := List.findIdx_lt_length.2 ⟨x, hx, by simpa using hgx⟩
      refine ⟨_, rfl, hidx, ?_, fun j hj e => ?_⟩
      · have := List.findIdx_getElem (w := hidx)
        rw [List.getD_eq_getElem?_getD, List.getElem?_eq_getElem hidx]
        simpa using this
      · have := List.not_of_lt_findIdx hj
        rw [List.getD_eq_getElem?_getD, List.getElem?_eq_getElem (by omega)] at e
        simp only [Option.getD_some] at e
        simp [e] at this
    unfold cutAt
    rw [← hq]
    clear hq
    obtain ⟨U, hU⟩ := steps_take hst (q + 1)
    have hl1 : (l0.take (q + 1)).length = q + 1 := by rw [List.length_take]; omega
    have hlast : (l0.take (q + 1)).getLast? = some l0[q] := by
      rw [List.take_succ_eq_append_getElem hidx, List.getLast?_append]
      simp
    have hends : endsIn rs S K (l0.take (q + 1)) := ⟨⟨U, hU⟩, l0[q], hlast, by rw [List.getD_eq_getElem?_getD, List.getElem?_eq_getElem hidx] at hgi; exact hgi⟩
    have hdl : (l0.take (q + 1)).dropLast = l0.take q := by
      rw [List.take_succ_eq_append_getElem hidx, List.dropLast_concat]
    generalize hl1' : l0.take (q + 1) = l1 at *
    unfold trimmed
    rw [hl1]
    obtain ⟨t1, t2, t3, t4, t5, t6⟩ := trim_facts (ok := derivesB n rs S K) (fun l hl h40 => by rw [derives_iff hl]; exact ⟨fun h => h.2, fun h => ⟨h40, h⟩⟩) (q + 1 - 1) l1 (by omega) (by omega) hends (fun j h1 h2 => by omega)
    generalize trimL (derivesB n rs S K) (q + 1 - 1) l1 = tl at *
    refine ⟨(derives_iff t6).2 ⟨t3, t1⟩, fun i hi => ?_, t3, ?_⟩
    · by_cases hil : i + 1 < tl.length
      · cases hd' : derivesB n rs S K (tl.eraseIdx i)
        · rfl
        · have hne : tl.eraseIdx i ≠ [] := fun e => by have := congrArg List.length e; rw [List.length_eraseIdx_of_lt hi] at this; simp at this; omega
          exact absurd ((derives_iff hne).1 hd').2 (t2 i hil)
      · have he : tl.eraseIdx i = tl.dropLast := by
          rw [show i = tl.length - 1 from by omega, List.eraseIdx_eq_take_drop_succ, List.dropLast_eq_take, show tl.length - 1 + 1 = tl.length from by omega, List.drop_length, List.append_nil]
        rw [he]
        cases hd' : derivesB n rs S K tl.dropLast
        · rfl
        · exfalso
          by_cases hne : tl.dropLast = []
          · rw [hne, derives_nil] at hd'
            simp [hkn] at hd'
          · obtain ⟨_, _, y, hy, hgy⟩ := (derives_iff hne).1 hd'
            have hym := t5.subset (List.mem_of_getLast? hy)
            rw [hdl] at hym
            obtain ⟨j, hj, rfl⟩ := List.getElem_of_mem hym
            rw [List.length_take] at hj
            rw [List.getElem_take] at hgy
            exact hbefore j (by omega) (by rw [List.getD_eq_getElem?_getD, List.getElem?_eq_getElem (by omega)]; exact hgy)
    · obtain ⟨⟨T, hT⟩, _⟩ := t1
      exact fun i hi => steps_in tl S T hT i hi
/-- The observations that a list of rules needs. -/
def usedNeed (n : Nat) (U : Nat) (z : Int) : Nat := if z < n then addB U z else U
def usedL (n : Nat) (rs : List JRule) (U : Nat) (l : List Int) : Nat := l.foldl (fun U i => (rs.getD i.toNat default).needs.foldl (usedNeed n) U) U
theorem used_sub (n : Nat) : ∀ (l : List Int) (U : Nat), SubS U (l.foldl (usedNeed n) U)
  | [], U => SubS.refl U
  | z :: t, U => by
    refine SubS.trans ?_ (used_sub n t _)
    unfold usedNeed
    split
    · exact sub_add U z
    · exact SubS.refl U
theorem used_has (n : Nat) : ∀ (l : List Int) (U : Nat) (z : Int), z ∈ l → z < n → bitB (l.foldl (usedNeed n) U) z = true
  | [], _, _, h, _ => by simp at h
  | y :: t, U, z, h, hz => by
    rcases List.mem_cons.1 h with rfl | h
    · refine (used_sub n t _).bit z ?_
      unfold usedNeed
      rw [if_pos hz]
      exact bit_addB U z
    · exact used_has n t _ z h hz
theorem used_least (n : Nat) {S : Nat} : ∀ (l : List Int) (U : Nat), SubS U S → (∀ z ∈ l, z < n → bitB S z = true) → SubS (l.foldl (usedNeed n) U) S
  | [], _, h, _ => h
  | z :: t, U, h, hn => by
    refine used_least n t _ ?_ fun y hy => hn y (by simp [hy])
    unfold usedNeed
    split
    · rename_i hz
      exact add_sub h (hn z (by simp) hz)
    · exact h
theorem usedL_sub (n : Nat) (rs : List JRule) : ∀ (l : List Int) (U : Nat), SubS U (usedL n rs U l)
  | [], U => SubS.refl U
  | i :: t, U => (used_sub n _ U).trans (usedL_sub n rs t _)
theorem usedL_has (n : Nat) (rs : List JRule) : ∀ (l : List Int) (U : Nat) (i z : Int), i ∈ l → z ∈ (rs.getD i.toNat default).needs → z < n → bitB (usedL n rs U l) z = true
  | [], _, _, _, h, _, _ => by simp at h
  | j :: t, U, i, z, h, hz, hn => by
    rcases List.mem_cons.1 h with rfl | h
    · exact (usedL_sub n rs t _).bit z (used_has n _ U z hz hn)
    · exact usedL_has n rs t _ i z h hz hn
theorem usedL_least (n : Nat) (rs : List JRule) {S : Nat} : ∀ (l : List Int) (U : Nat), SubS U S → (∀ i ∈ l, ∀ z ∈ (rs.getD i.toNat default).needs, z < n → bitB S z = true) → SubS (usedL n rs U l) S
  | [], _, h, _ => h
  | i :: t, U, h, hn => usedL_least n rs t _ (used_least n _ U h (hn i (by simp))) fun j hj => hn j (by simp [hj])
/-- Observations that rules of a run need are in its set. -/
theorem steps_obs {n d : Nat} {rs : List JRule} (G : Good n d rs) {X : Nat} : ∀ (l : List Int) (S T : Nat), (∀ i, i < n → S.testBit i = X.testBit i) → stepsL rs S l = some T → ∀ i ∈ l, ∀ z ∈ (rs.getD i.toNat default).needs, z < n → bitB X z = true
  | [], _, _, _, _, i, hi, _, _, _ => by simp at hi
  | j :: t, S, T, hX, h, i, hi, z, hz, hzn => by
    rw [stepsL] at h
    cases hc : (inB j 0 ((rs.length : Int) - 1) && meetsB (rs.getD j.toNat default).needs S)
    · rw [hc] at h; cases h
    · rw [hc, if_pos rfl] at h
      rw [Bool.and_eq_true] at hc
      have hj := hc.1
      simp only [inB, Bool.and_eq_true, decide_eq_true_eq] at hj
      have hmem := getD_mem rs default j.toNat (by omega)
      rcases List.mem_cons.1 hi with rfl | hi
      · have hzz := G.needs _ hmem z hz
        have := List.all_eq_true.1 hc.2 z hz
        unfold bitB at this ⊢
        rw [← hX z.toNat (by omega)]
        exact this
      · refine steps_obs G t _ T (fun k hk => ?_) h i hi z hz hzn
        have hg := G.gives _ hmem
        unfold addB
        rw [Nat.testBit_or, Nat.testBit_two_pow, hX k hk]
        have : (rs.getD j.toNat default).gives.toNat ≠ k := by omega
        rw [decide_eq_false this, Bool.or_false]
/-- A run goes through from the observations that its rules need. -/
theorem steps_used {n d : Nat} {rs : List JRule} (G : Good n d rs) {X : Nat} : ∀ (l : List Int) (S U T : Nat), (∀ i, n ≤ i → S.testBit i = true → U.testBit i = true) → SubS X U → (∀ i ∈ l, ∀ z ∈ (rs.getD i.toNat default).needs, z < n → bitB X z = true) → stepsL rs S l = some T → ∃ V, stepsL rs U l = some V
  | [], _, U, _, _, _, _, _ => ⟨U, rfl⟩
  | j :: t, S, U, T, hS, hU, hX, h => by
    rw [stepsL] at h
    cases hc : (inB j 0 ((rs.length : Int) - 1) && meetsB (rs.getD j.toNat default).needs S)
    · rw [hc] at h; cases h
    · rw [hc, if_pos rfl] at h
      rw [Bool.and_eq_true] at hc
      have hj := hc.1
      simp only [inB, Bool.and_eq_true, decide_eq_true_eq] at hj
      have hmem := getD_mem rs default j.toNat (by omega)
      have hm : meetsB (rs.getD j.toNat default).needs U = true := by
        unfold meetsB
        rw [List.all_eq_true]
        intro z hz
        by_cases hzn : z < n
        · exact hU.bit z (hX j (by simp) z hz hzn)
        · exact hS z.toNat (by omega) (List.all_eq_true.1 hc.2 z hz)
      rw [stepsL, hc.1, hm, Bool.and_self, if_pos rfl]
      refine steps_used G t _ _ T (fun k hk hb => ?_) (hU.trans (sub_add U _)) (fun i hi => hX i (by simp [hi])) h
      unfold addB at *
      rw [Nat.testBit_or, Bool.or_eq_true] at hb ⊢
      rcases hb with hb | hb
      · exact .inl (hS k hk hb)
      · exact .inr hb
/-- What JustifyWhy asks of the observations that are needed. -/
theorem used_ok {n d : Nat} {rs : List JRule} (G : Good n d rs) {S K : Nat} (hS : S < 2 ^ n) {l : List Int} (hd' : derivesB n rs S K l = true) :
    SubS (usedL n rs (if K < n then 2 ^ K else 0) l) S ∧ bitB (hd rs (usedL n rs (if K < n then 2 ^ K else 0) l)) K = true := by
  by_cases hl : l = []
  · subst hl
    rw [derives_nil, Bool.and_eq_true, decide_eq_true_eq] at hd'
    have hk : K < n := by omega
    have hb : S.testBit K = true := by simpa [bitB] using hd'.2
    rw [if_pos hk]
    have e : usedL n rs (2 ^ K) [] = 2 ^ K := rfl
    rw [e]
    refine ⟨fun i hi => ?_, ?_⟩
    · rw [Nat.testBit_two_pow] at hi
      have : K = i := by simpa using hi
      rw [← this]; exact hb
    · have : bitB (2 ^ K) K = true := by simp [bitB, Nat.testBit_two_pow]
      exact (hd_sub rs _).bit K this
  · obtain ⟨h40, ⟨T, hT⟩, x, hx, hgx⟩ := (derives_iff hl).1 hd'
    have hxm := List.mem_of_getLast? hx
    have hin := steps_in l S T hT x hxm
    have hmem := getD_mem rs default x.toNat (by omega)
    have hgv := G.gives _ hmem
    have hkn : ¬ K < n := by unfold givesAt at hgx; omega
    rw [if_neg hkn]
    have hobs := steps_obs G (X := S) l S T (fun _ _ => rfl) hT
    have h1 := usedL_least n rs l 0 (fun i hi => by simp at hi) hobs
    refine ⟨h1, ?_⟩
    obtain ⟨V, hV⟩ := steps_used G (X := usedL n rs 0 l) l S (usedL n rs 0 l) T (fun i hi hb => by
      rw [Nat.testBit_lt_two_pow (Nat.lt_of_lt_of_le hS (Nat.pow_le_pow_right (by omega) hi))] at hb
      cases hb) (SubS.refl _) (fun i hi z hz hzn => usedL_has n rs l 0 i z hi hz hzn) hT
    have : derivesB n rs (usedL n rs 0 l) K l = true := (derives_iff hl).2 ⟨h40, ⟨V, hV⟩, x, hx, hgx⟩
    exact derives_sound this
end Go.Proofs.YtmihkbiihfhpoaaDoor
