import Derived.Test.YteicimmdcdjagaaGreatDoorLiveP
import Derived.Test.YteicimmdcdjagaaGreatDoorVMadeP
set_option linter.unusedVariables false
set_option linter.unusedSimpArgs false

/- How notes, dossiers, pages and titles lie in memory. -/
set_option linter.unusedVariables false
set_option linter.unusedSimpArgs false
namespace Go.Proofs.YteicimmdcdjagaaGreatDoor
open Go.RowKit Go.Shelf

def noteK : SK VNote := ⟨48, 24, 4, 40, .agg #[.int .i64 0, .int .i64 0, .int .i64 0, .string (⟨#[]⟩ : ByteArray)], fun n => [.int .i64 n.unit, .int .i64 n.day, .int .i64 n.kind, .string (bs n.text)]⟩
theorem noteOk : noteK.Ok where
  pos := by decide
  len := fun _ => rfl
  one := fun x u hu => by
    simp only [noteK, List.mem_cons, List.not_mem_nil, or_false] at hu
    rcases hu with rfl | rfl | rfl | rfl <;> rfl
  und := Tryz.underlying24
  info := by kernel_rfl
  zc := rfl
  small := by decide
abbrev noteV (n : VNote) : Value := .agg #[.int .i64 n.unit, .int .i64 n.day, .int .i64 n.kind, .string (bs n.text)]
abbrev noteR (n : VNote) : Array Value := #[.int .i64 n.unit, .int .i64 n.day, .int .i64 n.kind, .string (bs n.text)]
theorem ElAt.note {w : World} {b o : Nat} {n : VNote} (h : ElAt noteK w b o n) : w.cell? ⟨b, o, none⟩ = some (.int .i64 n.unit) ∧ w.cell? ⟨b, o + 1, none⟩ = some (.int .i64 n.day) ∧ w.cell? ⟨b, o + 2, none⟩ = some (.int .i64 n.kind) ∧ w.cell? ⟨b, o + 3, none⟩ = some (.string (bs n.text)) := ⟨h 0 _ rfl, h 1 _ rfl, h 2 _ rfl, h 3 _ rfl⟩
/-- The cells of the note at a place of a slice. -/
def NoteAt (w : World) (b o : Nat) (n : VNote) : Prop := w.cell? ⟨b, o, none⟩ = some (.int .i64 n.unit) ∧ w.cell? ⟨b, o + 1, none⟩ = some (.int .i64 n.day) ∧ w.cell? ⟨b, o + 2, none⟩ = some (.int .i64 n.kind) ∧ w.cell? ⟨b, o + 3, none⟩ = some (.string (bs n.text))
theorem notes_at {B : Nat} {w : World} {a : Option Addr} {n c : Nat} {l : List VNote} (h : RowsAt noteK B w (.slice a n c) l) (j : Nat) (x : VNote) (hj : l[j]? = some x) : ∃ b off, a = some ⟨b, off, none⟩ ∧ b < B ∧ NoteAt w b (off + j * 4) x := by
  obtain ⟨b, off, ha, hb, hc⟩ := h.at j x hj
  exact ⟨b, off, ha, hb, ElAt.note hc⟩
theorem notes_el {B : Nat} {w : World} {b off n c : Nat} {l : List VNote} (h : RowsAt noteK B w (.slice (some ⟨b, off, none⟩) n c) l) (j : Nat) (x : VNote) (hj : l[j]? = some x) : NoteAt w b (off + j * 4) x := ElAt.note (h.el j x hj)
abbrev dosV (key : List UInt8) (nv : Value) : Value := .agg #[.string (bs key), nv]
/-- A dossier's box. -/
def DosN (g : Nat) (key : List UInt8) (nv : Value) (W : World) : Prop := BoxN g 26 #[.string (bs key), nv] W
theorem keep_dos {W : World} {g : Nat} {key : List UInt8} {nv : Value} (h : BoxN g 26 #[.string (bs key), nv] W) : ∀ W', Below W.heap.size W W' → DosN g key nv W' := keep_box h
theorem DosN.c0 {W : World} {g : Nat} {key : List UInt8} {nv : Value} (h : DosN g key nv W) : W.cell? ⟨g, 0, none⟩ = some (.string (bs key)) := BoxN.cell h 0 _ rfl
theorem DosN.c1 {W : World} {g : Nat} {key : List UInt8} {nv : Value} (h : DosN g key nv W) : W.cell? ⟨g, 1, none⟩ = some nv := BoxN.cell h 1 _ rfl
def NoteN (g : Nat) (n : VNote) (W : World) : Prop := BoxN g 48 (noteR n) W
theorem keep_note {W : World} {g : Nat} {n : VNote} (h : BoxN g 48 (noteR n) W) : ∀ W', Below W.heap.size W W' → NoteN g n W' := keep_box h
theorem NoteN.cells {W : World} {g : Nat} {n : VNote} (h : NoteN g n W) : W.cell? ⟨g, 0, none⟩ = some (.int .i64 n.unit) ∧ W.cell? ⟨g, 1, none⟩ = some (.int .i64 n.day) ∧ W.cell? ⟨g, 2, none⟩ = some (.int .i64 n.kind) ∧ W.cell? ⟨g, 3, none⟩ = some (.string (bs n.text)) := ⟨BoxN.cell h 0 _ rfl, BoxN.cell h 1 _ rfl, BoxN.cell h 2 _ rfl, BoxN.cell h 3 _ rfl⟩
def titleK : SK VTitle := ⟨97, 59, 4, 32, .agg #[.int .i64 0, .int .i64 0, .int .i64 0, .int .i64 0], fun t => [.int .i64 t.unit, .int .i64 t.owner, .int .i64 t.lo, .int .i64 t.hi]⟩
theorem titleOk : titleK.Ok where
  pos := by decide
  len := fun _ => rfl
  one := fun x u hu => by
    simp only [titleK, List.mem_cons, List.not_mem_nil, or_false] at hu
    rcases hu with rfl | rfl | rfl | rfl <;> rfl
  und := Tryz.underlying59
  info := by kernel_rfl
  zc := rfl
  small := by decide
theorem ElAt.title {w : World} {b o : Nat} {t : VTitle} (h : ElAt titleK w b o t) : w.cell? ⟨b, o, none⟩ = some (.int .i64 t.unit) ∧ w.cell? ⟨b, o + 1, none⟩ = some (.int .i64 t.owner) ∧ w.cell? ⟨b, o + 2, none⟩ = some (.int .i64 t.lo) ∧ w.cell? ⟨b, o + 3, none⟩ = some (.int .i64 t.hi) := ⟨h 0 _ rfl, h 1 _ rfl, h 2 _ rfl, h 3 _ rfl⟩
abbrev titleV (t : VTitle) : Value := .agg #[.int .i64 t.unit, .int .i64 t.owner, .int .i64 t.lo, .int .i64 t.hi]
/-- A page, as it lies: its unit, where its notes lie, its salt, where its proof lies. -/
structure PageR where
  unit : Int
  na : Option Addr
  nn : Nat
  nc : Nat
  salt : List UInt8
  pa : Option Addr
  pn : Nat
  pc : Nat
def pageK : SK PageR := ⟨39, 54, 4, 72, .agg #[.int .i64 0, .slice none 0 0, .string (⟨#[]⟩ : ByteArray), .slice none 0 0], fun p => [.int .i64 p.unit, .slice p.na p.nn p.nc, .string (bs p.salt), .slice p.pa p.pn p.pc]⟩
theorem pageOk : pageK.Ok where
  pos := by decide
  len := fun _ => rfl
  one := fun x u hu => by
    simp only [pageK, List.mem_cons, List.not_mem_nil, or_false] at hu
    rcases hu with rfl | rfl | rfl | rfl <;> rfl
  und := Tryz.underlying54
  info := by kernel_rfl
  zc := rfl
  small := by decide
theorem ElAt.page {w : World} {b o : Nat} {p : PageR} (h : ElAt pageK w b o p) : w.cell? ⟨b, o, none⟩ = some (.int .i64 p.unit) ∧ w.cell? ⟨b, o + 1, none⟩ = some (.slice p.na p.nn p.nc) ∧ w.cell? ⟨b, o + 2, none⟩ = some (.string (bs p.salt)) ∧ w.cell? ⟨b, o + 3, none⟩ = some (.slice p.pa p.pn p.pc) := ⟨h 0 _ rfl, h 1 _ rfl, h 2 _ rfl, h 3 _ rfl⟩
abbrev pageV (u : Int) (nv : Value) (s : List UInt8) (pv : Value) : Value := .agg #[.int .i64 u, nv, .string (bs s), pv]
end Go.Proofs.YteicimmdcdjagaaGreatDoor
