import Derived.Test.YteicimmdcdjagaaGreatDoorVAdd
import Derived.Test.YteicimmdcdjagaaGreatDoorVBind
import Derived.Test.YteicimmdcdjagaaGreatDoorMPlain
set_option linter.unusedVariables false
set_option linter.unusedSimpArgs false

/- Plain: the notes, dossiers and titles that integers determine; titles. -/
set_option linter.unusedVariables false
set_option linter.unusedSimpArgs false
namespace Go.Proofs.YteicimmdcdjagaaGreatDoor

def unitZ (z : Int) : Int := [0, 3, 7, 31, 64, 99].getD (pickZ z 6).toNat 0
theorem unitZ_bd (z : Int) : 0 ≤ unitZ z ∧ unitZ z ≤ 99 := by
  have h := pickZ_bd z 6 (by omega)
  unfold unitZ
  generalize pickZ z 6 = k at *
  obtain ⟨j, rfl⟩ := Int.eq_ofNat_of_zero_le h.1
  have hj : j < 6 := by omega
  rw [Int.toNat_natCast]
  match j, hj with
  | 0, _ => decide
  | 1, _ => decide
  | 2, _ => decide
  | 3, _ => decide
  | 4, _ => decide
  | 5, _ => decide
def txtZ (z : Int) : List UInt8 := (List.range (pickZ z 4).toNat).map fun (i : Nat) => UInt8.ofNat (97 + pickZ (z.tdiv (4 + (i : Int))) 3).toNat
theorem txtZ_length (z : Int) : (txtZ z).length ≤ 3 := by
  have := pickZ_bd z 4 (by omega)
  unfold txtZ
  rw [List.length_map, List.length_range]
  omega
/-- The note that four integers determine. -/
def oneZ (g : Nat → Int) : VNote := ⟨unitZ (g 0), pickZ (g 1) 40, 1 + pickZ (g 2) 3, txtZ (g 3)⟩
theorem one_note (g : Nat → Int) : noteB (oneZ g) = true := by
  have h0 := unitZ_bd (g 0)
  have h1 := pickZ_bd (g 1) 40 (by omega)
  have h2 := pickZ_bd (g 2) 3 (by omega)
  have h3 := txtZ_length (g 3)
  simp only [noteB, oneZ, Bool.and_eq_true, inZ_iff]
  exact ⟨⟨⟨by omega, by omega⟩, by omega⟩, decide_eq_true (p := (txtZ (g 3)).length ≤ 100) (by omega)⟩
/-- A dossier with a further note, if it can be added. -/
def stepD (d : VDos) (n : VNote) : VDos := if (addN d n).2 = 0 then (addN d n).1 else d
theorem stepD_ok {d : VDos} {n : VNote} (hd : dosB d = true) (hn : noteB n = true) (hl : d.notes.length < 60) : dosB (stepD d n) = true ∧ (stepD d n).key = d.key ∧ (stepD d n).notes.length ≤ d.notes.length + 1 ∧ ∀ x ∈ (stepD d n).notes, x = n ∨ x ∈ d.notes := by
  unfold stepD
  by_cases h : n ∈ d.notes
  · rw [addN_old h, if_neg (by decide)]
    exact ⟨hd, rfl, by omega, fun x hx => .inr hx⟩
  · obtain ⟨e, g⟩ := addN_new hd hn hl h
    rw [e, if_pos rfl]
    exact ⟨g, rfl, by show (insN n d.notes).length ≤ _; rw [insN_length]; exact Nat.le_refl _, fun x hx => insN_mem.1 hx⟩
def madeN (k : List UInt8) (f : Nat → Nat → Int) : Nat → VDos
  | 0 => ⟨k, []⟩
  | j + 1 => stepD (madeN k f j) (oneZ (f j))
theorem madeN_ok {k : List UInt8} (hk : k.length = 32) (f : Nat → Nat → Int) : ∀ j, j ≤ 12 → dosB (madeN k f j) = true ∧ (madeN k f j).key = k ∧ (madeN k f j).notes.length ≤ j ∧ ∀ x ∈ (madeN k f j).notes, ∃ g, x = oneZ g
  | 0, _ => ⟨dosB_of hk (fun n hn => by simp at hn) List.Pairwise.nil (by simp), rfl, Nat.le_refl _, fun x hx => by simp [madeN] at hx⟩
  | j + 1, h => by
    obtain ⟨h1, h2, h3, h4⟩ := madeN_ok hk f j (by omega)
    obtain ⟨g1, g2, g3, g4⟩ := stepD_ok h1 (one_note (f j)) (by omega)
    refine ⟨g1, g2.trans h2, by show (stepD _ _).notes.length ≤ j + 1; omega, fun x hx => ?_⟩
    rcases g4 x hx with h | h
    · exact ⟨_, h⟩
    · exact h4 x h
/-- The dossier that integers determine, with a key. -/
def madeD (k : List UInt8) (N : Nat) (f : Nat → Nat → Int) : VDos := madeN k f (min N 12)
theorem madeD_ok {k : List UInt8} (hk : k.length = 32) (N : Nat) (f : Nat → Nat → Int) : dosB (madeD k N f) = true ∧ (madeD k N f).key = k ∧ (madeD k N f).notes.length ≤ 12 ∧ ∀ x ∈ (madeD k N f).notes, ∃ g, x = oneZ g := by
  obtain ⟨h1, h2, h3, h4⟩ := madeN_ok hk f (min N 12) (by omega)
  exact ⟨h1, h2, Nat.le_trans h3 (by omega), h4⟩
theorem noteB_z {n : VNote} (h : noteB n = true) : NoteZ n ∧ 0 ≤ n.unit ∧ n.unit < 100 := by
  simp only [noteB, Bool.and_eq_true, inZ_iff, decide_eq_true_eq] at h
  unfold NoteZ EncZ
  omega
theorem dosB_dos {d : VDos} (h : dosB d = true) : DosOk (fun a b => ltN a b = true) d := by
  obtain ⟨h1, h2, h3, h4⟩ := dosB_ok h
  exact ⟨h1, fun n hn => noteB_z (h2 n hn), h3, by omega⟩
/-- A title. -/
structure VTitle where
  unit : Int
  owner : Int
  lo : Int
  hi : Int
deriving DecidableEq, Inhabited
def titleB (t : VTitle) : Bool := inZ t.unit 0 99 && inZ t.owner 0 50 && decide (0 ≤ t.lo) && decide (t.lo < t.hi) && decide (t.hi ≤ 800001)
def titledB (l : List VTitle) : Bool := l.all titleB && decide (l.length ≤ 40)
def givesB (o u d : Int) (t : VTitle) : Bool := decide (t.unit = u) && decide (t.owner = o) && decide (t.lo ≤ d) && decide (d < t.hi)
def mayB (l : List VTitle) (o u d : Int) : Bool := titledB l && l.any (givesB o u d)
/-- What is shown: the pages of the units that an owner may see, ascending. -/
def shownL (l : List VTitle) (o d : Int) : List Nat := (List.range 100).filter fun (u : Nat) => mayB l o u d
/-- More titles never take a page away. -/
theorem mayB_take {l : List VTitle} {k : Nat} {o u d : Int} (ht : titledB l = true) (h : mayB (l.take k) o u d = true) : mayB l o u d = true := by
  unfold mayB at h ⊢
  rw [Bool.and_eq_true] at h ⊢
  refine ⟨ht, ?_⟩
  obtain ⟨x, hx, hg⟩ := List.any_eq_true.1 h.2
  exact List.any_eq_true.2 ⟨x, List.mem_of_mem_take hx, hg⟩
theorem titledB_take {l : List VTitle} (k : Nat) (h : titledB l = true) : titledB (l.take k) = true := by
  unfold titledB at h ⊢
  rw [Bool.and_eq_true, decide_eq_true_eq, List.all_eq_true] at h ⊢
  exact ⟨fun x hx => h.1 x (List.mem_of_mem_take hx), by rw [List.length_take]; omega⟩
/-- The title that four integers determine. -/
def titleZ (g : Nat → Int) : VTitle := ⟨unitZ (g 0), pickZ (g 1) 4, pickZ (g 2) 30, pickZ (g 2) 30 + 1 + pickZ (g 3) 30⟩
theorem title_ok (g : Nat → Int) : titleB (titleZ g) = true := by
  have h0 := unitZ_bd (g 0)
  have h1 := pickZ_bd (g 1) 4 (by omega)
  have h2 := pickZ_bd (g 2) 30 (by omega)
  have h3 := pickZ_bd (g 3) 30 (by omega)
  simp only [titleB, titleZ, Bool.and_eq_true, inZ_iff]
  exact ⟨⟨⟨⟨by omega, by omega⟩, decide_eq_true (p := 0 ≤ pickZ (g 2) 30) (by omega)⟩, decide_eq_true (p := pickZ (g 2) 30 < pickZ (g 2) 30 + 1 + pickZ (g 3) 30) (by omega)⟩, decide_eq_true (p := pickZ (g 2) 30 + 1 + pickZ (g 3) 30 ≤ 800001) (by omega)⟩
def titlesZ (N : Nat) (f : Nat → Nat → Int) : List VTitle := (List.range (min N 8)).map fun j => titleZ (f j)
theorem titlesZ_ok (N : Nat) (f : Nat → Nat → Int) : titledB (titlesZ N f) = true ∧ (titlesZ N f).length ≤ 8 := by
  have hl : (titlesZ N f).length = min N 8 := by simp [titlesZ]
  refine ⟨?_, by omega⟩
  unfold titledB
  rw [Bool.and_eq_true, decide_eq_true_eq, List.all_eq_true]
  refine ⟨fun x hx => ?_, by omega⟩
  obtain ⟨j, _, rfl⟩ := List.mem_map.1 hx
  exact title_ok _
/-- The notes of a page in a spell. -/
def queryL (l : List VNote) (a b : Int) : List VNote := l.filter fun n => decide (a ≤ n.day) && decide (n.day < b)
theorem queryL_sorted {l : List VNote} (a b : Int) (h : l.Pairwise (fun a b => ltN a b = true)) : (queryL l a b).Pairwise (fun a b => ltN a b = true) := h.filter _
/-- Of notes about one unit: two spells that follow each other have the notes of both together. -/
theorem query_split : ∀ {l : List VNote} {u a m b : Int}, l.Pairwise (fun a b => ltN a b = true) → (∀ n ∈ l, n.unit = u) → a ≤ m → m ≤ b → queryL l a m ++ queryL l m b = queryL l a b
  | [], u, a, m, b, _, _, _, _ => rfl
  | x :: t, u, a, m, b, h, hu, h1, h2 => by
    have ht := (List.pairwise_cons.1 h).2
    have hx := (List.pairwise_cons.1 h).1
    have ih := query_split (u := u) (a := a) (m := m) (b := b) ht (fun n hn => hu n (List.mem_cons_of_mem _ hn)) h1 h2
    have e : ∀ p q : Int, queryL (x :: t) p q = if decide (p ≤ x.day) && decide (x.day < q) then x :: queryL t p q else queryL t p q := fun p q => by
      unfold queryL
      rw [List.filter_cons]
    rw [e, e, e]
    by_cases g1 : x.day < a
    · rw [decide_eq_false (by omega : ¬ a ≤ x.day), decide_eq_false (by omega : ¬ m ≤ x.day)]
      simp [ih]
    · by_cases g2 : x.day < m
      · rw [decide_eq_true (by omega : a ≤ x.day), decide_eq_true g2, decide_eq_false (by omega : ¬ m ≤ x.day), decide_eq_true (by omega : x.day < b)]
        simp [ih]
      · have hno : queryL t a m = [] := by
          unfold queryL
          rw [List.filter_eq_nil_iff]
          intro y hy
          have hlt := hx y hy
          rw [← lessN_eq, lessN_iff] at hlt
          have e1 := hu x (List.mem_cons_self ..)
          have e2 := hu y (List.mem_cons_of_mem _ hy)
          simp only [Bool.and_eq_true, decide_eq_true_eq]
          omega
        by_cases g3 : x.day < b
        · rw [decide_eq_true (by omega : a ≤ x.day), decide_eq_false g2, decide_eq_true (by omega : m ≤ x.day), decide_eq_true g3]
          rw [hno] at ih
          simp [hno, ← ih]
        · rw [decide_eq_true (by omega : a ≤ x.day), decide_eq_false g2, decide_eq_true (by omega : m ≤ x.day), decide_eq_false g3]
          simp [ih]
end Go.Proofs.YteicimmdcdjagaaGreatDoor
