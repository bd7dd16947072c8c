/- Plain: the cards during two spells that follow each other. -/
import Derived.Test.YtcgopilkajfghaaDoorILaw0
set_option linter.unusedVariables false
set_option linter.unusedSimpArgs false
namespace Go.Proofs.YtcgopilkajfghaaDoor
open Go.RowKit Go.Shelf

def duF (l : List ICard) (f t : Int) : List ICard := l.filter (meetC f t fun _ => true)
theorem durE_eq {l : List ICard} {f t : Int} (h0 : 0 ≤ f) (h1 : f < t) (h2 : t ≤ 2100) : durE l f t = (duF l f t).map (·.id) := by
  unfold durE findE duF
  rw [if_pos]
  unfold spellB
  simp
  omega
theorem mem_duF {l : List ICard} {f t : Int} {c : ICard} : c ∈ duF l f t ↔ c ∈ l ∧ c.beg < t ∧ f < c.fin := by
  unfold duF meetC
  simp
theorem placeC_lt {l : List ICard} (h : IOk l) {a b : ICard} (ha : a ∈ l) (hab : befC a b) : placeC l a < placeC l b := by
  obtain ⟨hp, he⟩ := place_at h ha
  exact (place_split h.sorted (placeC l a) hp).1 (by rw [he]; exact hab)
theorem rank_of {l : List ICard} (h : IOk l) {c : ICard} (hc : c ∈ l) : rankE l c.id = (((placeC l c : Nat) : Int), 0) := by
  unfold rankE
  rw [findC_mem h hc]
theorem iok_in {l : List ICard} (h : IOk l) {c : ICard} (hc : c ∈ l) : inI c.id := by
  have := validC_ok (h.valid c hc)
  unfold inI
  omega
theorem ord_facts {l : List ICard} (h : IOk l) {f m t : Int} (h0 : 0 ≤ f) (h1 : f < m) (h2 : m < t) (h3 : t ≤ 2100) : ∃ rk : Nat → Nat,
    (∀ k, k < (durE l f t).length → rankE l ((durE l f t).getD k default) = (((rk k : Nat) : Int), 0) ∧ inI ((durE l f t).getD k default) ∧ (∀ j, j < k → rk j < rk k) ∧ (hasI (durE l f m) ((durE l f t).getD k default) || hasI (durE l m t) ((durE l f t).getD k default)) = true) ∧
    (∀ z ∈ durE l f m, hasI (durE l f t) z = true) ∧ ∀ z ∈ durE l m t, hasI (durE l f t) z = true := by
  rw [durE_eq h0 (by omega) h3, durE_eq h0 h1 (by omega), durE_eq (by omega) h2 h3]
  have hs : (duF l f t).Pairwise befC := h.sorted.sublist List.filter_sublist
  refine ⟨fun k => placeC l ((duF l f t).getD k default), fun k hk => ?_, fun z hz => ?_, fun z hz => ?_⟩
  · rw [List.length_map] at hk
    have hget : ((duF l f t).map (·.id)).getD k default = ((duF l f t).getD k default).id := by
      rw [List.getD_eq_getElem?_getD, List.getElem?_map, List.getElem?_eq_getElem hk, List.getD_eq_getElem?_getD, List.getElem?_eq_getElem hk]
      rfl
    have hmem : (duF l f t).getD k default ∈ duF l f t := by
      rw [List.getD_eq_getElem?_getD, List.getElem?_eq_getElem hk]
      exact List.getElem_mem hk
    obtain ⟨m1, m2, m3⟩ := mem_duF.1 hmem
    rw [hget]
    refine ⟨rank_of h m1, iok_in h m1, fun j hj => ?_, ?_⟩
    · have hjk : j < (duF l f t).length := by omega
      have hb := List.pairwise_iff_getElem.1 hs j k hjk hk hj
      have hmj : (duF l f t)[j] ∈ l := (mem_duF.1 (List.getElem_mem hjk)).1
      show placeC l _ < placeC l _
      rw [List.getD_eq_getElem?_getD, List.getElem?_eq_getElem hjk, List.getD_eq_getElem?_getD, List.getElem?_eq_getElem hk]
      exact placeC_lt h hmj hb
    · rw [Bool.or_eq_true, hasI_iff, hasI_iff]
      have hp := h.pos _ m1
      by_cases hb : ((duF l f t).getD k default).beg < m
      · exact .inl (List.mem_map.2 ⟨_, mem_duF.2 ⟨m1, hb, m3⟩, rfl⟩)
      · exact .inr (List.mem_map.2 ⟨_, mem_duF.2 ⟨m1, m2, by omega⟩, rfl⟩)
  · obtain ⟨c, hc, rfl⟩ := List.mem_map.1 hz
    obtain ⟨m1, m2, m3⟩ := mem_duF.1 hc
    exact (hasI_iff _ _).2 (List.mem_map.2 ⟨c, mem_duF.2 ⟨m1, by omega, m3⟩, rfl⟩)
  · obtain ⟨c, hc, rfl⟩ := List.mem_map.1 hz
    obtain ⟨m1, m2, m3⟩ := mem_duF.1 hc
    exact (hasI_iff _ _).2 (List.mem_map.2 ⟨c, mem_duF.2 ⟨m1, m2, by omega⟩, rfl⟩)
theorem durE_length (l : List ICard) (f t : Int) : (durE l f t).length ≤ l.length := by
  unfold durE findE
  split
  · rw [List.length_map]; exact List.length_filter_le _ _
  · exact Nat.zero_le _
/-- What last holds when round k begins. -/
def lastZ (rk : Nat → Nat) : Nat → Int
  | 0 => -1
  | k + 1 => (rk k : Nat)
end Go.Proofs.YtcgopilkajfghaaDoor
