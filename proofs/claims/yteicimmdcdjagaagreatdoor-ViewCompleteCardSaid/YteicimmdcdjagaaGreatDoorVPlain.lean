import Derived.Test.YteicimmdcdjagaaGreatDoorGSign
set_option linter.unusedVariables false
set_option linter.unusedSimpArgs false

/- Plain: notes, their content, seals and salts of a dossier; what its root binds. -/
namespace Go.Proofs.YteicimmdcdjagaaGreatDoor

structure VNote where
  unit : Int
  day : Int
  kind : Int
  text : List UInt8
deriving DecidableEq, Inhabited
structure VDos where
  key : List UInt8
  notes : List VNote
deriving DecidableEq, Inhabited
/-- The parts of a valid note, but for its order. -/
def noteB (n : VNote) : Bool := inZ n.unit 0 99 && inZ n.day 0 800000 && inZ n.kind 1 20 && decide (n.text.length ≤ 100)
/-- A note that can be encoded. -/
def NoteZ (n : VNote) : Prop := EncZ n.day ∧ EncZ n.kind ∧ n.text.length ≤ 65536
theorem encS_front {t u : List UInt8} (ht : t.length ≤ 65536) (hu : u.length ≤ 65536) {x y : List UInt8} (h : encS t ++ x = encS u ++ y) : t = u ∧ x = y := by
  have h1 := decS_encS t x ht
  have h2 := decS_encS u y hu
  rw [h, h2] at h1
  have h3 : u = t := congrArg Prod.fst (Option.some.inj h1)
  subst h3
  exact ⟨rfl, List.append_cancel_left h⟩
def noteC (n : VNote) : List UInt8 := enc (zz n.day) ++ (enc (zz n.kind) ++ encS n.text)
def notesC (l : List VNote) : List UInt8 := l.flatMap noteC
/-- The content of notes about one unit. -/
def contentN (l : List VNote) : List UInt8 := enc (zz (l.length : Int)) ++ notesC l
theorem notesC_inj : ∀ (a b : List VNote), a.length = b.length → (∀ n ∈ a, NoteZ n) → (∀ n ∈ b, NoteZ n) → ∀ x y, notesC a ++ x = notesC b ++ y → (a.map fun n => (n.day, n.kind, n.text)) = b.map fun n => (n.day, n.kind, n.text)
  | [], [], _, _, _, _, _, _ => rfl
  | [], _ :: _, h, _, _, _, _, _ => by simp at h
  | _ :: _, [], h, _, _, _, _, _ => by simp at h
  | n :: a, m :: b, h, ha, hb, x, y, he => by
    have hn := ha n (by simp)
    have hm := hb m (by simp)
    have e1 : notesC (n :: a) = noteC n ++ notesC a := rfl
    have e2 : notesC (m :: b) = noteC m ++ notesC b := rfl
    rw [e1, e2] at he
    simp only [noteC, List.append_assoc] at he
    obtain ⟨h1, he⟩ := enc_front hn.1 hm.1 he
    obtain ⟨h2, he⟩ := enc_front hn.2.1 hm.2.1 he
    obtain ⟨h3, he⟩ := encS_front hn.2.2 hm.2.2 he
    have ih := notesC_inj a b (by simpa using h) (fun z hz => ha z (by simp [hz])) (fun z hz => hb z (by simp [hz])) x y he
    rw [List.map_cons, List.map_cons, ih, h1, h2, h3]
theorem contentN_inj {a b : List VNote} {u : Int} (la : a.length ≤ 1000000) (lb : b.length ≤ 1000000) (ha : ∀ n ∈ a, NoteZ n ∧ n.unit = u) (hb : ∀ n ∈ b, NoteZ n ∧ n.unit = u) (h : contentN a = contentN b) : a = b := by
  unfold contentN at h
  obtain ⟨h1, h2⟩ := enc_front (a := (a.length : Int)) (b := (b.length : Int)) ⟨by omega, by omega⟩ ⟨by omega, by omega⟩ h
  have h3 := notesC_inj a b (by omega) (fun n hn => (ha n hn).1) (fun n hn => (hb n hn).1) [] [] (by rw [h2])
  apply List.ext_getElem (by omega)
  intro i hi hj
  have h4 := congrArg (fun l => l[i]?) h3
  simp only [List.getElem?_map, List.getElem?_eq_getElem hi, List.getElem?_eq_getElem hj, Option.map_some, Option.some.injEq, Prod.mk.injEq] at h4
  have h5 := (ha _ (List.getElem_mem hi)).2.trans (hb _ (List.getElem_mem hj)).2.symm
  generalize a[i] = p at *
  generalize b[i] = q at *
  obtain ⟨p1, p2, p3, p4⟩ := p
  obtain ⟨q1, q2, q3, q4⟩ := q
  simp only at h4 h5
  rw [h5, h4.1, h4.2.1, h4.2.2]
/-- The notes about a unit. -/
def ofL (d : VDos) (id : Int) : List VNote := d.notes.filter fun n => decide (n.unit = id)
def saltB (key : List UInt8) (id : Int) : Bytes := nodeB key (leafB (enc (zz id)))
def sealB (salt : Bytes) (l : List VNote) : Bytes := nodeB salt (leafB (contentN l))
def sealsL (d : VDos) : List Bytes := (List.range 100).map fun (i : Nat) => sealB (saltB d.key i) (ofL d i)
theorem sealsL_length (d : VDos) : (sealsL d).length = 100 := by simp [sealsL]
theorem sealsL_get (d : VDos) {i : Nat} (h : i < 100) : (sealsL d).getD i [] = sealB (saltB d.key i) (ofL d i) := by
  simp [sealsL, List.getD_eq_getElem?_getD, h]
/-- The strings that are hashed for the seal of a unit. -/
def sealH (salt : Bytes) (l : List VNote) : List Bytes := [0 :: contentN l, 1 :: (salt ++ leafB (contentN l))]
/-- The strings that are hashed for the root of a dossier, but for its salts. -/
def allH (d : VDos) : List Bytes := hashedL (sealsL d) ++ (List.range 100).flatMap fun (i : Nat) => sealH (saltB d.key i) (ofL d i)
theorem saltB_length (key : List UInt8) (id : Int) : (saltB key id).length = 32 := nodeB_length _ _
/-- Seals with the same digest: the same salt and content, or a collision. -/
theorem seal_bind {s t : Bytes} {a b : List VNote} (hs : s.length = t.length) (h : sealB s a = sealB t b) : (s = t ∧ contentN a = contentN b) ∨ meetB (sealH s a) (sealH t b) = true := by
  by_cases e : (1 : UInt8) :: (s ++ leafB (contentN a)) = 1 :: (t ++ leafB (contentN b))
  · injection e with _ e
    obtain ⟨e1, e2⟩ := List.append_inj e hs
    by_cases ec : contentN a = contentN b
    · exact .inl ⟨e1, ec⟩
    · exact .inr (meetB_of (x := 0 :: contentN a) (y := 0 :: contentN b) (by simp [sealH]) (by simp [sealH]) (fun e => ec (by injection e)) e2)
  · exact .inr (meetB_of (x := 1 :: (s ++ leafB (contentN a))) (y := 1 :: (t ++ leafB (contentN b))) (by simp [sealH]) (by simp [sealH]) e h)
theorem sorted_ext {α : Type} {lt : α → α → Prop} (irr : ∀ a, ¬ lt a a) (asym : ∀ a b, lt a b → ¬ lt b a) : ∀ (l m : List α), l.Pairwise lt → m.Pairwise lt → (∀ x, x ∈ l ↔ x ∈ m) → l = m
  | [], [], _, _, _ => rfl
  | [], b :: s, _, _, h => absurd ((h b).2 (by simp)) (by simp)
  | a :: t, [], _, _, h => absurd ((h a).1 (by simp)) (by simp)
  | a :: t, b :: s, hl, hm, h => by
    rw [List.pairwise_cons] at hl hm
    have hab : a = b := by
      apply Classical.byContradiction
      intro hne
      have h1 : a ∈ s := by
        rcases List.mem_cons.1 ((h a).1 (by simp)) with e | e
        · exact absurd e hne
        · exact e
      have h2 : b ∈ t := by
        rcases List.mem_cons.1 ((h b).2 (by simp)) with e | e
        · exact absurd e.symm hne
        · exact e
      exact asym _ _ (hl.1 b h2) (hm.1 a h1)
    subst hab
    rw [sorted_ext irr asym t s hl.2 hm.2 fun x => ⟨fun hx => ?_, fun hx => ?_⟩]
    · rcases List.mem_cons.1 ((h x).1 (by simp [hx])) with e | e
      · subst e; exact absurd (hl.1 _ hx) (irr _)
      · exact e
    · rcases List.mem_cons.1 ((h x).2 (by simp [hx])) with e | e
      · subst e; exact absurd (hm.1 _ hx) (irr _)
      · exact e
/-- What is asked of a dossier: its notes can be written, their units are from 0 to 99, and they ascend. -/
structure DosOk (lt : VNote → VNote → Prop) (d : VDos) : Prop where
  key : d.key.length = 32
  notes : ∀ n ∈ d.notes, NoteZ n ∧ 0 ≤ n.unit ∧ n.unit < 100
  sorted : d.notes.Pairwise lt
  few : d.notes.length ≤ 1000000
theorem mem_ofL {d : VDos} {id : Int} {n : VNote} : n ∈ ofL d id ↔ n ∈ d.notes ∧ n.unit = id := by simp [ofL]
theorem ofL_length (d : VDos) (id : Int) : (ofL d id).length ≤ d.notes.length := List.length_filter_le _ _
/-- Two dossiers with one root: the same notes and salts, or a collision. -/
theorem dos_bind {lt : VNote → VNote → Prop} (irr : ∀ a, ¬ lt a a) (asym : ∀ a b, lt a b → ¬ lt b a) {d e : VDos} (hd : DosOk lt d) (he : DosOk lt e) (h : rootL (sealsL d) = rootL (sealsL e)) :
    (d.notes = e.notes ∧ ∀ i : Nat, i < 100 → saltB d.key i = saltB e.key i) ∨ meetB (allH d) (allH e) = true := by
  by_cases hs : sealsL d = sealsL e
  · by_cases hc : ∃ i : Nat, i < 100 ∧ meetB (sealH (saltB d.key i) (ofL d i)) (sealH (saltB e.key i) (ofL e i)) = true
    · obtain ⟨i, hi, hm⟩ := hc
      obtain ⟨x, hx, y, hy, hxy⟩ := meetB_iff.1 hm
      exact .inr (meetB_iff.2 ⟨x, List.mem_append_right _ (List.mem_flatMap.2 ⟨i, List.mem_range.2 hi, hx⟩), y, List.mem_append_right _ (List.mem_flatMap.2 ⟨i, List.mem_range.2 hi, hy⟩), hxy⟩)
    · have key : ∀ i : Nat, i < 100 → saltB d.key i = saltB e.key i ∧ ofL d i = ofL e i := fun i hi => by
        have h1 : sealB (saltB d.key i) (ofL d i) = sealB (saltB e.key i) (ofL e i) := by rw [← sealsL_get d hi, ← sealsL_get e hi, hs]
        rcases seal_bind (by rw [saltB_length, saltB_length]) h1 with ⟨h2, h3⟩ | h2
        · refine ⟨h2, contentN_inj (u := i) (Nat.le_trans (ofL_length _ _) hd.few) (Nat.le_trans (ofL_length _ _) he.few) (fun n hn => ?_) (fun n hn => ?_) h3⟩
          · have := mem_ofL.1 hn; exact ⟨(hd.notes n this.1).1, this.2⟩
          · have := mem_ofL.1 hn; exact ⟨(he.notes n this.1).1, this.2⟩
        · exact absurd ⟨i, hi, h2⟩ hc
      refine .inl ⟨sorted_ext irr asym _ _ hd.sorted he.sorted fun n => ⟨fun hn => ?_, fun hn => ?_⟩, fun i hi => (key i hi).1⟩
      · have hu := (hd.notes n hn).2
        obtain ⟨i, hi⟩ := Int.eq_ofNat_of_zero_le hu.1
        have := (key i (by omega)).2
        have h1 : n ∈ ofL d i := mem_ofL.2 ⟨hn, hi⟩
        rw [this] at h1
        exact (mem_ofL.1 h1).1
      · have hu := (he.notes n hn).2
        obtain ⟨i, hi⟩ := Int.eq_ofNat_of_zero_le hu.1
        have := (key i (by omega)).2
        have h1 : n ∈ ofL e i := mem_ofL.2 ⟨hn, hi⟩
        rw [← this] at h1
        exact (mem_ofL.1 h1).1
  · obtain ⟨x, hx, y, hy, hxy⟩ := meetB_iff.1 (roots_bind _ _ _ (Nat.le_refl _) h hs)
    exact .inr (meetB_iff.2 ⟨x, List.mem_append_left _ hx, y, List.mem_append_left _ hy, hxy⟩)
end Go.Proofs.YteicimmdcdjagaaGreatDoor
