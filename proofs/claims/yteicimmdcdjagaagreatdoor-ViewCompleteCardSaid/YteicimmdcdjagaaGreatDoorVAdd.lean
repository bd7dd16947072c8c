import Derived.Test.YteicimmdcdjagaaGreatDoorVOrd
set_option linter.unusedVariables false
set_option linter.unusedSimpArgs false

/- Plain: a dossier with a further note; the dossiers that integers determine. -/
set_option linter.unusedVariables false
set_option linter.unusedSimpArgs false
namespace Go.Proofs.YteicimmdcdjagaaGreatDoor

theorem insN_nil (n : VNote) : insN n [] = [n] := rfl
theorem insN_cons (n x : VNote) (t : List VNote) : insN n (x :: t) = if ltN x n then x :: insN n t else n :: x :: t := by
  have e : placeN n (x :: t) = if ltN x n then placeN n t + 1 else 0 := rfl
  unfold insN
  rw [e]
  split
  · rfl
  · rfl
theorem insN_perm (n : VNote) (l : List VNote) : (insN n l).Perm (n :: l) := by
  unfold insN
  refine List.perm_middle.trans ?_
  rw [List.take_append_drop]
theorem insN_mem {n x : VNote} {l : List VNote} : x ∈ insN n l ↔ x = n ∨ x ∈ l := by rw [(insN_perm n l).mem_iff, List.mem_cons]
theorem insN_length (n : VNote) (l : List VNote) : (insN n l).length = l.length + 1 := by rw [(insN_perm n l).length_eq, List.length_cons]
theorem insN_sorted {n : VNote} : ∀ {l : List VNote}, l.Pairwise (fun a b => ltN a b = true) → n ∉ l → (insN n l).Pairwise (fun a b => ltN a b = true)
  | [], _, _ => by rw [insN_nil]; exact List.pairwise_singleton _ _
  | x :: t, h, hn => by
    have hx := (List.pairwise_cons.1 h).1
    have ht := (List.pairwise_cons.1 h).2
    rw [insN_cons]
    split
    · rename_i hlt
      refine List.pairwise_cons.2 ⟨fun y hy => ?_, insN_sorted ht (fun e => hn (List.mem_cons_of_mem _ e))⟩
      rcases insN_mem.1 hy with rfl | hy
      · exact hlt
      · exact hx y hy
    · rename_i hlt
      have hnx : ltN n x = true := by
        cases e : ltN n x
        · exact absurd (ltN_tri e (by simpa using hlt)) (fun e => hn (by rw [e]; exact List.mem_cons_self ..))
        · rfl
      refine List.pairwise_cons.2 ⟨fun y hy => ?_, h⟩
      rcases List.mem_cons.1 hy with rfl | hy
      · exact hnx
      · exact ltN_trans hnx (hx y hy)
theorem sorted_nodup {l : List VNote} (h : l.Pairwise (fun a b => ltN a b = true)) : l.Nodup := h.imp fun {a b} hab e => by rw [e, ltN_irr] at hab; cases hab
theorem insN_dup {n : VNote} {l : List VNote} (hn : n ∈ l) : ¬ (insN n l).Pairwise (fun a b => ltN a b = true) := fun h => by
  have := (insN_perm n l).nodup_iff.1 (sorted_nodup h)
  exact (List.nodup_cons.1 this).1 hn
theorem sorted_eq {l m : List VNote} (hl : l.Pairwise (fun a b => ltN a b = true)) (hm : m.Pairwise (fun a b => ltN a b = true)) (h : ∀ x, x ∈ l ↔ x ∈ m) : l = m :=
  sorted_ext (lt := fun a b => ltN a b = true) (fun a h => by rw [ltN_irr] at h; cases h) (fun a b h g => by rw [ltN_asym h] at g; cases g) l m hl hm h
/-- Notes can be put in either order. -/
theorem insN_comm {a b : VNote} {l : List VNote} (hl : l.Pairwise (fun a b => ltN a b = true)) (ha : a ∉ l) (hb : b ∉ l) (hab : a ≠ b) : insN b (insN a l) = insN a (insN b l) := by
  refine sorted_eq (insN_sorted (insN_sorted hl ha) (fun e => ?_)) (insN_sorted (insN_sorted hl hb) (fun e => ?_)) (fun x => ?_)
  · rcases insN_mem.1 e with e | e
    · exact hab e.symm
    · exact hb e
  · rcases insN_mem.1 e with e | e
    · exact hab e
    · exact ha e
  · rw [insN_mem, insN_mem, insN_mem, insN_mem]
    constructor
    · rintro (h | h | h)
      · exact .inr (.inl h)
      · exact .inl h
      · exact .inr (.inr h)
    · rintro (h | h | h)
      · exact .inr (.inl h)
      · exact .inl h
      · exact .inr (.inr h)
theorem dosB_ok {d : VDos} (h : dosB d = true) : d.key.length = 32 ∧ (∀ n ∈ d.notes, noteB n = true) ∧ d.notes.Pairwise (fun a b => ltN a b = true) ∧ d.notes.length ≤ 60 := by
  unfold dosB at h
  rw [Bool.and_eq_true, decide_eq_true_eq] at h
  exact ⟨h.1, notesB_ok h.2⟩
theorem dosB_of {k : List UInt8} {l : List VNote} (hk : k.length = 32) (h1 : ∀ n ∈ l, noteB n = true) (h2 : l.Pairwise (fun a b => ltN a b = true)) (h3 : l.length ≤ 60) : dosB ⟨k, l⟩ = true := by
  unfold dosB
  rw [notesB_of h1 h2 h3, Bool.and_true]
  exact decide_eq_true hk
theorem addN_new {d : VDos} {n : VNote} (hd : dosB d = true) (hn : noteB n = true) (hl : d.notes.length < 60) (h : n ∉ d.notes) : addN d n = (⟨d.key, insN n d.notes⟩, 0) ∧ dosB ⟨d.key, insN n d.notes⟩ = true := by
  obtain ⟨h1, h2, h3, h4⟩ := dosB_ok hd
  have h5 : dosB ⟨d.key, insN n d.notes⟩ = true := dosB_of h1 (fun x hx => by
    rcases insN_mem.1 hx with rfl | hx
    · exact hn
    · exact h2 x hx) (insN_sorted h3 h) (by rw [insN_length]; omega)
  exact ⟨by unfold addN; rw [hd, h5]; rfl, h5⟩
theorem addN_old {d : VDos} {n : VNote} (h : n ∈ d.notes) : addN d n = (⟨[], []⟩, 400) := by
  unfold addN
  have : dosB ⟨d.key, insN n d.notes⟩ = false := by
    cases e : dosB ⟨d.key, insN n d.notes⟩
    · rfl
    · exact absurd (dosB_ok e).2.2.1 (insN_dup h)
  rw [this, Bool.and_false]
  rfl
theorem addN_bad {d : VDos} {n : VNote} (h : dosB d = false) : addN d n = (⟨[], []⟩, 400) := by
  unfold addN
  rw [h]
  rfl
/-- The notes about a unit, of notes with a further one. -/
theorem filter_insN (p : VNote → Bool) (n : VNote) : ∀ l : List VNote, l.Pairwise (fun a b => ltN a b = true) → n ∉ l → (insN n l).filter p = if p n then insN n (l.filter p) else l.filter p := by
  intro l hl hn
  split
  · rename_i hp
    have hn' : n ∉ l.filter p := fun e => hn (List.mem_filter.1 e).1
    refine sorted_eq ((insN_sorted hl hn).filter _) (insN_sorted (hl.filter _) hn') (fun x => ?_)
    rw [List.mem_filter, insN_mem, insN_mem, List.mem_filter]
    constructor
    · rintro ⟨rfl | h, g⟩
      · exact .inl rfl
      · exact .inr ⟨h, g⟩
    · rintro (rfl | ⟨h, g⟩)
      · exact ⟨.inl rfl, hp⟩
      · exact ⟨.inr h, g⟩
  · rename_i hp
    refine sorted_eq ((insN_sorted hl hn).filter _) (hl.filter _) (fun x => ?_)
    rw [List.mem_filter, insN_mem, List.mem_filter]
    constructor
    · rintro ⟨rfl | h, g⟩
      · exact absurd g hp
      · exact ⟨h, g⟩
    · rintro ⟨h, g⟩
      exact ⟨.inr h, g⟩
theorem ofL_ins {d : VDos} {n : VNote} (hd : dosB d = true) (hn : n ∉ d.notes) (id : Int) : ofL ⟨d.key, insN n d.notes⟩ id = if n.unit = id then insN n (ofL d id) else ofL d id := by
  have := filter_insN (fun x => decide (x.unit = id)) n d.notes (dosB_ok hd).2.2.1 hn
  unfold ofL
  rw [this]
  by_cases h : n.unit = id
  · rw [if_pos h, if_pos (decide_eq_true h)]
  · rw [if_neg h, if_neg (by simpa using h)]
theorem ofL_sorted {d : VDos} (hd : dosB d = true) (id : Int) : (ofL d id).Pairwise (fun a b => ltN a b = true) := (dosB_ok hd).2.2.1.filter _
/-- What is left of notes with a further one, without that. -/
theorem insN_without {n : VNote} {l : List VNote} (hl : l.Pairwise (fun a b => ltN a b = true)) (hn : n ∉ l) : (insN n l).filter (fun x => x != n) = l := by
  rw [filter_insN (fun x => x != n) n l hl hn, if_neg (by simp), List.filter_eq_self]
  intro x hx
  simp only [bne_iff_ne]
  exact fun e => hn (e ▸ hx)
end Go.Proofs.YteicimmdcdjagaaGreatDoor
