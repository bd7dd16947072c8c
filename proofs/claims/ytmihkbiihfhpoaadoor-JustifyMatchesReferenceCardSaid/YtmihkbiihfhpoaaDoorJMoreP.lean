/- More rules, other orders: plain facts. -/
import Derived.Test.YtmihkbiihfhpoaaDoorJWhyP
namespace Go.Proofs.YtmihkbiihfhpoaaDoor
open Go.RowKit Go.Shelf

theorem Good.of_mem {n d : Nat} {rs rs1 rs' : List JRule} (h : Good n d rs) (h1 : Good n d rs1) (hm : ∀ r ∈ rs', r ∈ rs ∨ r ∈ rs1) (hl : rs'.length ≤ 40) : Good n d rs' := by
  refine ⟨h.n1, h.n6, h.d1, h.d8, hl, ?_⟩
  have b0 := (valid_good h.valid).2.2.2
  have b1 := (valid_good h1.valid).2.2.2
  have v0 := h.valid
  unfold validB at v0 ⊢
  simp only [Bool.and_eq_true, Bool.not_eq_true', decide_eq_false_iff_not] at v0 ⊢
  refine ⟨⟨v0.1.1, by omega⟩, ?_⟩
  rw [List.any_eq_false]
  intro r hr
  rcases hm r hr with hr | hr
  · rw [b0 r hr]; simp
  · rw [b1 r hr]; simp
/-- Rules, turned by some places. -/
def rotL (rs : List JRule) (p k : Nat) : List JRule := (List.range k).map fun i => rs.getD ((i + p) % rs.length) default
theorem rotL_succ (rs : List JRule) (p k : Nat) : rotL rs p (k + 1) = rotL rs p k ++ [rs.getD ((k + p) % rs.length) default] := by
  unfold rotL
  rw [List.range_succ, List.map_append]
  rfl
theorem rotL_length (rs : List JRule) (p k : Nat) : (rotL rs p k).length = k := by unfold rotL; rw [List.length_map, List.length_range]
theorem rotL_mem (rs : List JRule) (p : Nat) (r : JRule) : r ∈ rotL rs p rs.length ↔ r ∈ rs := by
  unfold rotL
  rw [List.mem_map]
  constructor
  · rintro ⟨i, hi, rfl⟩
    have hlt := List.mem_range.1 hi
    exact getD_mem _ _ _ (Nat.mod_lt _ (by omega))
  · intro hr
    obtain ⟨q, hq, rfl⟩ := List.getElem_of_mem hr
    have hm := Nat.mod_lt p (show 0 < rs.length by omega)
    refine ⟨(q + (rs.length - p % rs.length)) % rs.length, List.mem_range.2 (Nat.mod_lt _ (by omega)), ?_⟩
    have e : ((q + (rs.length - p % rs.length)) % rs.length + p) % rs.length = q := by
      rw [Nat.add_mod, Nat.mod_mod, ← Nat.add_mod]
      have h2 : q + (rs.length - p % rs.length) + p = q + rs.length * (p / rs.length + 1) := by
        have := Nat.div_add_mod p rs.length
        rw [Nat.mul_add]
        omega
      rw [h2, Nat.add_mul_mod_self_left, Nat.mod_eq_of_lt hq]
    rw [e]
    simp [List.getD_eq_getElem?_getD, hq]
theorem hd_rot (rs : List JRule) (p S : Nat) : hd (rotL rs p rs.length) S = hd rs S := hd_same (rotL_mem rs p) S
theorem supp_rot (rs : List JRule) (p : Nat) (k : Int) : suppP (rotL rs p rs.length) k = suppP rs k := by funext S; unfold suppP; rw [hd_rot]
theorem cut_rot (rs : List JRule) (p n : Nat) (k : Int) : cutP (rotL rs p rs.length) n k = cutP rs n k := by funext S; unfold cutP; rw [hd_rot]
/-- A rule that gives nothing new. -/
theorem hd_add {rs : List JRule} {r : JRule} {S : Nat} (h : meetsB r.needs (hd rs S) = true → bitB (hd rs S) r.gives = true) : hd (rs ++ [r]) S = hd rs S := by
  refine ((hd_unique (hd_sub rs S) (fun x hx => ?_) fun X hX hS => hd_least (fun y hy => hX y (List.mem_append_left _ hy)) hS)).symm
  rcases List.mem_append.1 hx with hx | hx
  · exact hd_closed rs S x hx
  · rw [List.mem_singleton.1 hx]; exact h
theorem hasZ_sub {H K : Nat} (hH : H < 4294967296) (hK : K < 4294967296) (h : SubS H K) : ∀ z ∈ listB H, hasZ (listB K) z = true := by
  intro z hz
  have hz' := (hasZ_iff _ _).2 hz
  obtain ⟨k, hk⟩ : ∃ k : Nat, z = k := by
    unfold listB at hz
    obtain ⟨k, _, hk⟩ := List.mem_map.1 hz
    exact ⟨k, hk.symm⟩
  subst hk
  rw [hasZ_list H k hH] at hz'
  rw [hasZ_list K k hK]
  exact h k hz'
theorem or_lt2 {n S P : Nat} (hS : S < 2 ^ n) (hP : P < 2 ^ n) : S ||| P < 2 ^ n := Nat.or_lt_two_pow hS hP
theorem sub_or (S P : Nat) : SubS S (S ||| P) := fun i h => by rw [Nat.testBit_or, h]; rfl
/-- Whether all needs of a rule are in a list. -/
def allZ (l : List Int) (ns : List Int) : Bool := ns.all fun z => hasZ l z
theorem allZ_meets {H : Nat} (hH : H < 4294967296) {ns : List Int} (hn : ∀ z ∈ ns, 0 ≤ z) : allZ (listB H) ns = meetsB ns H := by
  unfold allZ meetsB
  rw [Bool.eq_iff_iff, List.all_eq_true, List.all_eq_true]
  constructor
  · intro h z hz
    obtain ⟨k, rfl⟩ := Int.eq_ofNat_of_zero_le (hn z hz)
    have := h _ hz
    rw [hasZ_list H k hH] at this
    simpa [bitB] using this
  · intro h z hz
    obtain ⟨k, rfl⟩ := Int.eq_ofNat_of_zero_le (hn z hz)
    have := h _ hz
    rw [hasZ_list H k hH]
    simpa [bitB] using this
end Go.Proofs.YtmihkbiihfhpoaaDoor
