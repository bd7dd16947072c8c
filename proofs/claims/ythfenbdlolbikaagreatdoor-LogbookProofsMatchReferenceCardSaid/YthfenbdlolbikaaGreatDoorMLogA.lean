import Derived.Test.YthfenbdlolbikaaGreatDoorMWire
import Derived.Test.YthfenbdlolbikaaGreatDoorMTreeA
import Derived.Test.YthfenbdlolbikaaGreatDoorMCalm
import Derived.Maps.AppendAt
import Derived.Test.YthfenbdlolbikaaGreatDoorMBuild
import Derived.Test.YthfenbdlolbikaaGreatDoorMPlain
set_option linter.unusedVariables false
set_option linter.unusedSimpArgs false

section
/- How records and logbooks lie in memory. -/
namespace Go.Proofs.YthfenbdlolbikaaGreatDoor
open Go.RowKit Go.Shelf

/-- The cells of a record. -/
def recC (x : LRec) : List Value := [.int .i64 x.sec, .int .i64 x.kind, .int .i64 x.a, .int .i64 x.b, .string (bs x.text)]
abbrev recV (x : LRec) : Value := .agg #[.int .i64 x.sec, .int .i64 x.kind, .int .i64 x.a, .int .i64 x.b, .string (bs x.text)]
abbrev bookV (office : Int) (rv : Value) : Value := .agg #[.int .i64 office, rv]
/-- A record lies in these cells. -/
def RecAt (w : World) (b o : Nat) (x : LRec) : Prop :=
  w.cell? ⟨b, o, none⟩ = some (.int .i64 x.sec) ∧ w.cell? ⟨b, o + 1, none⟩ = some (.int .i64 x.kind) ∧ w.cell? ⟨b, o + 2, none⟩ = some (.int .i64 x.a) ∧ w.cell? ⟨b, o + 3, none⟩ = some (.int .i64 x.b) ∧ w.cell? ⟨b, o + 4, none⟩ = some (.string (bs x.text))
theorem RecAt.below {B : Nat} {w w' : World} {b o : Nat} {x : LRec} (h : RecAt w b o x) (hb : Below B w w') (hB : b < B) : RecAt w' b o x := by
  obtain ⟨h0, h1, h2, h3, h4⟩ := h
  exact ⟨(hb.cell (p := ⟨b, _, none⟩) hB).trans h0, (hb.cell (p := ⟨b, _, none⟩) hB).trans h1, (hb.cell (p := ⟨b, _, none⟩) hB).trans h2, (hb.cell (p := ⟨b, _, none⟩) hB).trans h3, (hb.cell (p := ⟨b, _, none⟩) hB).trans h4⟩
/-- A value is a slice of these records, in blocks before B. -/
def RecsAt (B : Nat) (w : World) (v : Value) (rs : List LRec) : Prop :=
  ∃ (a : Option Addr) (c : Nat), v = .slice a rs.length c ∧ rs.length ≤ c ∧ c ≤ maxLen ∧ (0 < rs.length → ∃ b off, a = some ⟨b, off, none⟩ ∧ b < B ∧ ∀ i, i < rs.length → RecAt w b (off + i * 5) (rs.getD i default))
theorem RecsAt.below {B B' : Nat} {w w' : World} {v : Value} {l : List LRec} (h : RecsAt B w v l) (hb : Below B' w w') (hB : B ≤ B') : RecsAt B w' v l := by
  obtain ⟨a, c, rfl, h1, h2, h3⟩ := h
  refine ⟨a, c, rfl, h1, h2, fun hp => ?_⟩
  obtain ⟨b, off, rfl, hlt, hc⟩ := h3 hp
  exact ⟨b, off, rfl, hlt, fun i hi => (hc i hi).below hb (Nat.lt_of_lt_of_le hlt hB)⟩
theorem RecsAt.mono {B B' : Nat} {w : World} {v : Value} {l : List LRec} (h : RecsAt B w v l) (hB : B ≤ B') : RecsAt B' w v l := by
  obtain ⟨a, c, rfl, h1, h2, h3⟩ := h
  refine ⟨a, c, rfl, h1, h2, fun hp => ?_⟩
  obtain ⟨b, off, rfl, hlt, hc⟩ := h3 hp
  exact ⟨b, off, rfl, Nat.lt_of_lt_of_le hlt hB, hc⟩
theorem RecsAt.later {B : Nat} {w w' : World} {v : Value} {l : List LRec} (h : RecsAt w.heap.size w v l) (hb : Below B w w') (hB : w.heap.size ≤ B) : RecsAt w'.heap.size w' v l := (h.below hb hB).mono hb.size
theorem RecsAt.nil (B : Nat) (w : World) : RecsAt B w (.slice none 0 0) [] := ⟨none, 0, rfl, Nat.le_refl _, Nat.zero_le _, fun h => by simp at h⟩
theorem RecsAt.shape {B : Nat} {w : World} {v : Value} {l : List LRec} (h : RecsAt B w v l) : ∃ a c, v = .slice a l.length c ∧ l.length ≤ c ∧ c ≤ maxLen := by
  obtain ⟨a, c, h1, h2, h3, _⟩ := h
  exact ⟨a, c, h1, h2, h3⟩
theorem RecsAt.at {B : Nat} {w : World} {a : Option Addr} {n c : Nat} {l : List LRec} (h : RecsAt B w (.slice a n c) l) (j : Nat) (hj : j < l.length) : ∃ b off, a = some ⟨b, off, none⟩ ∧ b < B ∧ RecAt w b (off + j * 5) (l.getD j default) := by
  obtain ⟨a', c', he, _, _, hc⟩ := h
  obtain ⟨b, off, ha, hb, hcc⟩ := hc (by omega)
  injection he with e1 e2 e3
  exact ⟨b, off, e1.trans ha, hb, hcc j hj⟩
theorem RecsAt.take {B : Nat} {w : World} {a : Option Addr} {n c : Nat} {l : List LRec} (h : RecsAt B w (.slice a n c) l) (k c' : Nat) (hk : k ≤ l.length) (hc : k ≤ c') (hm : c' ≤ maxLen) : RecsAt B w (.slice a k c') (l.take k) := by
  obtain ⟨a', c0, he, h1, h2, h3⟩ := h
  injection he with e1 e2 e3
  subst e1
  have hl : (l.take k).length = k := by rw [List.length_take]; omega
  refine ⟨_, c', by rw [hl], by omega, hm, fun hp => ?_⟩
  rw [hl] at hp
  obtain ⟨b, off, ha, hb, hcc⟩ := h3 (by omega)
  refine ⟨b, off, ha, hb, fun i hi => ?_⟩
  rw [hl] at hi
  have := hcc i (by omega)
  rwa [show (l.take k).getD i default = l.getD i default from by rw [List.getD_eq_getElem?_getD, List.getD_eq_getElem?_getD, List.getElem?_take, if_pos hi]]
def cellsG (rs : List LRec) : List Value := rs.flatMap recC
theorem cellsG_length (rs : List LRec) : (cellsG rs).length = rs.length * 5 := by
  induction rs with
  | nil => rfl
  | cons x t ih => simp only [cellsG, recC, List.flatMap_cons, List.length_append, List.length_cons, List.length_nil] at *; omega
theorem cellsG_get : ∀ (rs : List LRec) (i k : Nat) (h : i < rs.length), k < 5 → (cellsG rs)[i * 5 + k]? = (recC rs[i])[k]?
  | x :: t, 0, k, _, hk => by
    have e : cellsG (x :: t) = recC x ++ cellsG t := rfl
    rw [e, List.getElem?_append_left (by simp [recC]; omega), Nat.zero_mul, Nat.zero_add]
    rfl
  | x :: t, i + 1, k, h, hk => by
    have e : cellsG (x :: t) = recC x ++ cellsG t := rfl
    have hl : (recC x).length = 5 := rfl
    rw [e, List.getElem?_append_right (by omega), hl, show (i + 1) * 5 + k - 5 = i * 5 + k from by omega]
    exact cellsG_get t i k (by simpa using h) hk
/-- A slice of records of the call's own. -/
def OwnG (base : Nat) (w : World) (v : Value) (rs : List LRec) : Prop := w.ownsRow base 48 5 v rs.length (cellsG rs)
theorem OwnG.nil (base : Nat) (w : World) : OwnG base w (.slice none 0 0) [] := World.ownsRow_nil _ _ _ _
theorem OwnG.recs {base : Nat} {w : World} {v : Value} {rs : List LRec} (h : OwnG base w v rs) : RecsAt w.heap.size w v rs := by
  rcases h.2 with ⟨rfl, h0⟩ | ⟨g, cap, cur, rfl, hg, hgg, h1, h2, h3, h4⟩
  · obtain rfl : rs = [] := List.eq_nil_of_length_eq_zero h0
    exact RecsAt.nil _ _
  · refine ⟨some ⟨g, 0, none⟩, cap, rfl, h1, h2, fun _ => ⟨g, 0, rfl, (Array.getElem?_eq_some_iff.1 hgg).1, fun i hi => ?_⟩⟩
    have hk : ∀ k u, k < 5 → (recC rs[i])[k]? = some u → w.cell? ⟨g, 0 + i * 5 + k, none⟩ = some u := fun k u hk hu => by
      have := World.ownsRow.cells h (g := g) rfl (i * 5 + k) u (by rw [cellsG_get rs i k hi hk]; exact hu)
      rwa [Addr.add_lit, ← Nat.add_assoc] at this
    have e : rs.getD i default = rs[i] := by rw [List.getD_eq_getElem?_getD, List.getElem?_eq_getElem hi]; rfl
    rw [e]
    exact ⟨hk 0 _ (by omega) rfl, hk 1 _ (by omega) rfl, hk 2 _ (by omega) rfl, hk 3 _ (by omega) rfl, hk 4 _ (by omega) rfl⟩
end Go.Proofs.YthfenbdlolbikaaGreatDoor
end

section
/- logbook: isIn, isRecord, numbers, Encode. -/
namespace Go.Proofs.YthfenbdlolbikaaGreatDoor
open Go.RowKit Go.Shelf

set_option maxHeartbeats 400000 in
theorem isIn_any (n lo hi : Int) (w : World) :
    Calls Tryz.prog 49 #[.int .i64 n, .int .i64 lo, .int .i64 hi] w fun e w' => e = .returned (.bool (inZ n lo hi)) ∧ w = w' := by
  have HI : Hid (inZ n lo hi = (decide (lo ≤ n) && decide (n ≤ hi))) := rfl
  by_cases h1 : lo ≤ n
  · by_cases h2 : n ≤ hi
    · have d1 : decide (lo ≤ n) = true := by simp [h1]
      have d2 : decide (n ≤ hi) = true := by simp [h2]
      have HF : Hid (inZ n lo hi = true) := by show _ = _; rw [HI.out, d1, d2]; rfl
      go_enter Tryz.func49, Tryz.ntmps49
      go_wp2
      go_ret
      exact ⟨by rw [HF.out]; rfl, rfl⟩
    · have d1 : decide (lo ≤ n) = true := by simp [h1]
      have d2 : decide (n ≤ hi) = false := by simp; omega
      have HF : Hid (inZ n lo hi = false) := by show _ = _; rw [HI.out, d1, d2]; rfl
      go_enter Tryz.func49, Tryz.ntmps49
      go_wp2
      go_ret
      exact ⟨by rw [HF.out]; rfl, rfl⟩
  · have d1 : decide (lo ≤ n) = false := by simp; omega
    have HF : Hid (inZ n lo hi = false) := by show _ = _; rw [HI.out, d1]; rfl
    go_enter Tryz.func49, Tryz.ntmps49
    go_wp2
    go_ret
    exact ⟨by rw [HF.out]; rfl, rfl⟩
theorem isIn_eq {n lo hi : Int} {b : Bool} (h : inZ n lo hi = b) (w : World) :
    Calls Tryz.prog 49 #[.int .i64 n, .int .i64 lo, .int .i64 hi] w fun e w' => e = .returned (.bool b) ∧ w = w' := h ▸ isIn_any n lo hi w
set_option maxHeartbeats 1000000 in
set_option maxRecDepth 100000 in
theorem isRecord_any (x : LRec) (w : World) :
    Calls Tryz.prog 64 #[recV x] w fun e w' => e = .returned (.bool (recB x)) ∧ Below w.heap.size w w' := by
  have HR : Hid (recB x = (inZ x.sec 0 10000000 && inZ x.kind 1 20 && inZ x.a (-1) 99999999 && inZ x.b (-1) 99999999 && decide (x.text.length ≤ 200))) := rfl
  have hsz := bs_size x.text
  have HB : Hid (∀ o : Obj, Below w.heap.size w (w.alloc o)) := fun o => (Below.refl _ _).alloc (Nat.le_refl _) o
  obtain ⟨s, k, a, b, t⟩ := x
  simp only at HR hsz ⊢
  cases h0 : inZ s 0 10000000
  · have HF : Hid (recB ⟨s, k, a, b, t⟩ = false) := by show _ = _; rw [HR.out, h0]; rfl
    clear HR
    go_enter Tryz.func64, Tryz.ntmps64
    go_wp2_with (go_at_call 49; refine (isIn_eq (by assumption) _).mono ?_; rintro e w' ⟨rfl, rfl⟩)
    go_ret
    exact ⟨by rw [HF.out]; rfl, HB.out _⟩
  cases h1 : inZ k 1 20
  · have HF : Hid (recB ⟨s, k, a, b, t⟩ = false) := by show _ = _; rw [HR.out, h0, h1]; rfl
    clear HR
    go_enter Tryz.func64, Tryz.ntmps64
    go_wp2_with (go_at_call 49; refine (isIn_eq (by assumption) _).mono ?_; rintro e w' ⟨rfl, rfl⟩)
    go_ret
    exact ⟨by rw [HF.out]; rfl, HB.out _⟩
  cases h2 : inZ a (-1) 99999999
  · have HF : Hid (recB ⟨s, k, a, b, t⟩ = false) := by show _ = _; rw [HR.out, h0, h1, h2]; rfl
    clear HR
    go_enter Tryz.func64, Tryz.ntmps64
    go_wp2_with (go_at_call 49; refine (isIn_eq (by assumption) _).mono ?_; rintro e w' ⟨rfl, rfl⟩)
    go_ret
    exact ⟨by rw [HF.out]; rfl, HB.out _⟩
  cases h3 : inZ b (-1) 99999999
  · have HF : Hid (recB ⟨s, k, a, b, t⟩ = false) := by show _ = _; rw [HR.out, h0, h1, h2, h3]; rfl
    clear HR
    go_enter Tryz.func64, Tryz.ntmps64
    go_wp2_with (go_at_call 49; refine (isIn_eq (by assumption) _).mono ?_; rintro e w' ⟨rfl, rfl⟩)
    go_ret
    exact ⟨by rw [HF.out]; rfl, HB.out _⟩
  have HF : Hid (recB ⟨s, k, a, b, t⟩ = decide (((bs t).size : Int) ≤ 200)) := by
    show _ = _
    rw [HR.out, h0, h1, h2, h3, ← hsz]
    simp only [Bool.true_and]
    exact decide_eq_decide.2 (by omega)
  clear HR hsz
  go_enter Tryz.func64, Tryz.ntmps64
  go_wp2_with (go_at_call 49; refine (isIn_eq (by assumption) _).mono ?_; rintro e w' ⟨rfl, rfl⟩)
  go_ret
  exact ⟨by rw [HF.out]; rfl, HB.out _⟩
end Go.Proofs.YthfenbdlolbikaaGreatDoor
end

section
/- Plain: what a tag of a logbook binds. -/
namespace Go.Proofs.YthfenbdlolbikaaGreatDoor

/-- A number that the encoding takes. -/
def EncZ (n : Int) : Prop := -4611686018427387903 ≤ n ∧ n ≤ 4611686018427387903
theorem enc_front {a b : Int} (ha : EncZ a) (hb : EncZ b) {x y : List UInt8} (h : enc (zz a) ++ x = enc (zz b) ++ y) : a = b ∧ x = y := by
  have h1 := dec_enc a ha.1 ha.2 x
  have h2 := dec_enc b hb.1 hb.2 y
  rw [h, h2] at h1
  have h3 : b = a := congrArg Prod.fst (Option.some.inj h1)
  subst h3
  exact ⟨rfl, List.append_cancel_left h⟩
/-- What is signed. -/
def contentB (office n : Int) (root : Bytes) : Bytes := enc (zz office) ++ (enc (zz n) ++ root)
def tagB (key : Bytes) (office n : Int) (root : Bytes) : Bytes := nodeB key (leafB (contentB office n root))
theorem tagB_length (key : Bytes) (office n : Int) (root : Bytes) : (tagB key office n root).length = 32 := nodeB_length _ _
/-- The strings that are hashed for a tag. -/
def tagsL (key : Bytes) (office n : Int) (root : Bytes) : List Bytes := [0 :: contentB office n root, 1 :: (key ++ leafB (contentB office n root))]
theorem signed_plain {k o : Bytes} {s t m n : Int} {r u : Bytes} (hk : k.length = 32) (ho : o.length = 32) (hs : EncZ s) (ht : EncZ t) (hm : EncZ m) (hn : EncZ n) (h : tagB k s m r = tagB o t n u) (hne : ¬ (o = k ∧ t = s ∧ n = m ∧ u = r)) : meetB (tagsL k s m r) (tagsL o t n u) = true := by
  by_cases e : (1 : UInt8) :: (k ++ leafB (contentB s m r)) = 1 :: (o ++ leafB (contentB t n u))
  · injection e with _ e
    obtain ⟨e1, e2⟩ := List.append_inj e (by rw [hk, ho])
    by_cases ec : contentB s m r = contentB t n u
    · exfalso
      obtain ⟨h1, h2⟩ := enc_front hs ht ec
      obtain ⟨h3, h4⟩ := enc_front hm hn h2
      exact hne ⟨e1.symm, h1.symm, h3.symm, h4.symm⟩
    · exact meetB_of (x := 0 :: contentB s m r) (y := 0 :: contentB t n u) (by simp [tagsL]) (by simp [tagsL]) (fun e => ec (by injection e)) e2
  · exact meetB_of (x := 1 :: (k ++ leafB (contentB s m r))) (y := 1 :: (o ++ leafB (contentB t n u))) (by simp [tagsL]) (by simp [tagsL]) e h
end Go.Proofs.YthfenbdlolbikaaGreatDoor
end

section
/- logbook: numbers, Encode. -/
namespace Go.Proofs.YthfenbdlolbikaaGreatDoor
open Go.RowKit Go.Shelf

theorem isWr_below {B b C : Nat} {cs : List Value} {w w' : World} (h : IsWr B b cs w) (hb : Below C w w') (hC : w.heap.size ≤ C) : IsWr B b cs w' := by
  have aux : ∀ p, WrAt B b p cs w → WrAt B b p cs w' := by
    rintro p ⟨h1, v, h2, h3, h4⟩
    exact ⟨h1, v, (hb.block b (Nat.lt_of_lt_of_le (Array.getElem?_eq_some_iff.1 h2).1 hC)).trans h2, row_below h3 hb hC, h4⟩
  rcases h with h | h
  · exact .inl (aux _ h)
  · exact .inr (aux _ h)
theorem strCells_bs (l : Bytes) : Lib.strCells (bs l) = Lib.byteCells l := rfl
theorem byteCells_app (a b : Bytes) : Lib.byteCells (a ++ b) = Lib.byteCells a ++ Lib.byteCells b := by simp [Lib.byteCells]
/-- What numbers writes. -/
def numsB (l : List Int) : Bytes := l.flatMap fun z => enc (zz z)
theorem numsB_length (l : List Int) : (numsB l).length ≤ 10 * l.length := by
  induction l with
  | nil => simp [numsB]
  | cons x t ih =>
    have := enc_length (zz x)
    simp only [numsB, List.flatMap_cons, List.length_append, List.length_cons] at ih ⊢
    omega
theorem numsB_succ (l : List Int) (k : Nat) (h : k < l.length) : numsB (l.take (k + 1)) = numsB (l.take k) ++ enc (zz (l.getD k 0)) := by
  rw [take_getD l 0 k h]
  simp [numsB]
set_option maxHeartbeats 1000000 in
set_option maxRecDepth 100000 in
theorem numbers_any (B b k : Nat) (c : Bytes) (l : List Int) (n : Nat) (hn : l.length = n) (w : World) (h : IsWr B b (Lib.byteCells c) w) (hk : w.heap[k]? = some (.cells (l.map (Value.int .i64)).toArray 3 (0, 0)))
    (hl : ∀ i, i < n → EncZ (l.getD i 0)) (hlen : n ≤ 100) (hc : c.length ≤ 1000000000) (hB : B ≤ w.heap.size) :
    Calls Tryz.prog 65 #[.pointer (some ⟨b, 0, none⟩), .slice (some ⟨k, 0, none⟩) n n] w fun e w' => e = .returned (.tuple #[]) ∧ IsWr B b (Lib.byteCells (c ++ numsB l)) w' ∧ Below B w w' ∧ KpT w w' := by
  have H := Lib.hid h
  have HK := Lib.hid hk
  have HL := Lib.hid hl
  have HN := Lib.hid hn
  clear h hk hl hn
  go_enter Tryz.func65, Tryz.ntmps65
  go_wp2
  go_loopw [10] (fun i wr => ∃ j : Nat, j ≤ n ∧ i = .int .i64 j ∧ Hid (IsWr B b (Lib.byteCells (c ++ numsB (l.take j))) wr) ∧ Below B w wr ∧ Hid (KpT w wr)) (fun i _ => n - (intOf i).toNat)
  case atStart => exact ⟨0, Nat.zero_le _, rfl, by show IsWr _ _ _ _; simpa [numsB] using H.out, Below.refl _ _, KpT.refl _⟩
  case round =>
    obtain ⟨j, hj, rfl, HW, hBr, HKp⟩ := hrel
    have hz := hBr.size
    by_cases h1 : j < n
    · have hjn : (j : Int) < (n : Int) := by omega
      have c1 : wr.cell? ⟨k, 0 + j, none⟩ = some (.int .i64 (l.getD j 0)) := by
        rw [HKp.out.cell HK.out (by decide) (by decide), Lib.cell_of_heap HK.out]
        simp [HN.out, h1, List.getD_eq_getElem?_getD, List.getElem?_eq_getElem (show j < l.length by rw [HN.out]; exact h1)]
      rw [Nat.zero_add] at c1
      have he := HL.out j h1
      have HS := Lib.hid (numsB_succ l j (by rw [HN.out]; exact h1))
      have hnl := numsB_length (l.take j)
      have hlt : (l.take j).length ≤ 100 := by rw [List.length_take]; omega
      have hcl : (Lib.byteCells (c ++ numsB (l.take j))).length ≤ 1000010000 := by rw [Lib.byteCells_length, List.length_append]; omega
      have hpe : Hid (putInt (l.getD j 0) = (enc (zz (l.getD j 0)), 0)) := if_pos he
      have hel := enc_length (zz (l.getD j 0))
      have hes : (bs (enc (zz (l.getD j 0)))).size ≤ 10 := by rw [bs_size]; exact hel
      generalize l.getD j 0 = z at *
      clear he hnl hlt hel
      go_wp2_with fail
      refine (putInt_any z wr).mono ?_
      rintro e w1 ⟨rfl, hb1⟩
      rw [hpe.out]
      have HW1 := Lib.hid (isWr_below HW.out hb1 (Nat.le_refl _))
      have HKp1 := Lib.hid (HKp.out.trans (kpT_below hb1))
      have hB1 := hBr.trans (hb1.mono (by omega))
      have hz1 := hB1.size
      rw [show strV (enc (zz z)) = .string (bs (enc (zz z))) from rfl]
      generalize hZ : enc (zz z) = Z at *
      clear hZ hb1 HW HKp hBr
      go_wp2_with fail
      refine (wr_write B b _ (bs Z) w1 HW1.out (by omega) (by omega)).mono ?_
      rintro e w2 ⟨rfl, hw2, hb2, hk2⟩
      rw [strCells_bs, ← byteCells_app, List.append_assoc, ← HS.out] at hw2
      have HW2 := Lib.hid hw2
      have HK2 := Lib.hid hk2
      have hB2 := hB1.trans hb2
      clear hw2 hb2 hk2
      go_wp2
      go_roundw
      case rel => exact ⟨j + 1, by omega, by go_num, .inr HW2.out, hB2, HKp1.out.trans HK2.out⟩
      case measure => simp [intOf]; omega
    · obtain rfl : j = n := by omega
      go_wp2
      go_end0
      have := HW.out
      rw [List.take_of_length_le (by rw [HN.out]; exact Nat.le_refl _)] at this
      exact ⟨rfl, this, hBr, HKp.out⟩
/-- What Encode returns. -/
def encE (x : LRec) : Bytes × Int := if recB x then (encR x, 0) else ([], 380)
theorem numsB_rec (x : LRec) : numsB [x.sec, x.kind, x.a, x.b] = encN x := by simp [numsB, encN]
/-- A record lies in a block of its own. -/
def RecBox (W : World) (n : Nat) (x : LRec) : Prop := W.heap[n]? = some (.cells #[.int .i64 x.sec, .int .i64 x.kind, .int .i64 x.a, .int .i64 x.b, .string (bs x.text)] 48 (0, 0))
theorem RecBox.below {W W' : World} {n : Nat} {x : LRec} {B : Nat} (h : RecBox W n x) (hb : Below B W W') (hn : n < B) : RecBox W' n x := (hb.block n hn).trans h
theorem RecBox.lt {W : World} {n : Nat} {x : LRec} (h : RecBox W n x) : n < W.heap.size := (Array.getElem?_eq_some_iff.1 h).1
theorem RecBox.cells {W : World} {n : Nat} {x : LRec} (h : RecBox W n x) :
    W.cell? ⟨n, 0, none⟩ = some (.int .i64 x.sec) ∧ W.cell? ⟨n, 1, none⟩ = some (.int .i64 x.kind) ∧ W.cell? ⟨n, 2, none⟩ = some (.int .i64 x.a) ∧ W.cell? ⟨n, 3, none⟩ = some (.int .i64 x.b) ∧ W.cell? ⟨n, 4, none⟩ = some (.string (bs x.text)) := by
  refine ⟨?_, ?_, ?_, ?_, ?_⟩ <;> (rw [Lib.cell_of_heap h]; rfl)
theorem recBox_new (W : World) (x : LRec) : RecBox (W.alloc (.cells #[.int .i64 x.sec, .int .i64 x.kind, .int .i64 x.a, .int .i64 x.b, .string (bs x.text)] 48)) W.heap.size x := heap_alloc_new W _
theorem isWr_new (W : World) : IsWr W.heap.size W.heap.size (Lib.byteCells []) (W.alloc (.cells #[.pointer none, .slice none 0 0] 88)) := Lib.fresh_isBuilder _ _ W
set_option maxHeartbeats 1000000 in
set_option maxRecDepth 100000 in
theorem encode_any (x : LRec) (w : World) :
    Calls Tryz.prog 33 #[recV x] w fun e w' => e = .returned (.tuple #[.string (bs (encE x).1), .int .i64 (encE x).2]) ∧ Below w.heap.size w w' := by
  cases hr : recB x
  · have HE : Hid (encE x = ([], 380)) := by show _ = _; rw [encE, hr]; rfl
    have HR := Lib.hid (fun W => hr ▸ isRecord_any x W)
    have HB : Hid (∀ o : Obj, Below w.heap.size w (w.alloc o)) := fun o => (Below.refl _ _).alloc (Nat.le_refl _) o
    clear hr
    go_enter Tryz.func33, Tryz.ntmps33
    go_wp2_with (go_at_call 64; refine (HR.out _).mono ?_; rintro e w' ⟨rfl, hb⟩)
    go_ret2
    exact ⟨by rw [HE.out]; rfl, (HB.out _).trans (hb.mono (by simp))⟩
  · have HE : Hid (encE x = (encR x, 0)) := by show _ = _; rw [encE, hr]; rfl
    have HR := Lib.hid (fun W => hr ▸ isRecord_any x W)
    have HB : Hid (∀ o : Obj, Below w.heap.size w (w.alloc o)) := fun o => (Below.refl _ _).alloc (Nat.le_refl _) o
    have hfit := recB_fits hr
    have ht : x.text.length ≤ 200 := by simp only [recB, Bool.and_eq_true, decide_eq_true_eq] at hr; exact hr.2
    have HF := Lib.hid hfit
    have HX := Lib.hid (show encR x = encN x ++ encS x.text from rfl)
    have HP : Hid (putStr x.text = (encS x.text, 0)) := if_pos (by omega)
    have HNil : Hid (encR x ≠ []) := fun e => by have := encR_pos x; rw [e] at this; simp at this
    have hsl : (bs x.text).size ≤ 200 := by rw [bs_size]; exact ht
    have hel := encR_length hr
    have hel2 : (encN x).length ≤ 250 := by rw [HX.out, List.length_append] at hel; omega
    have hel3 : (encS x.text).length ≤ 250 := by rw [HX.out, List.length_append] at hel; omega
    have HNR := Lib.hid (numsB_rec x)
    obtain ⟨s, k, a, b, t⟩ := x
    simp only at *
    clear hr hfit hel
    go_enter Tryz.func33, Tryz.ntmps33
    go_wp2_with fail
    refine (HR.out _).mono ?_
    rintro e w1 ⟨rfl, hb1⟩
    have hz1 := hb1.size
    rw [World.size_alloc] at hz1
    have hB1 := (HB.out _).trans (hb1.mono (by simp))
    have HB1 := Lib.hid hB1
    have hbox1 : RecBox w1 w.heap.size ⟨s, k, a, b, t⟩ := (recBox_new w ⟨s, k, a, b, t⟩).below hb1 (by simp)
    have hbox2 : RecBox (w1.alloc (.cells #[.pointer none, .slice none 0 0] 88)) w.heap.size ⟨s, k, a, b, t⟩ := hbox1.below ((Below.refl _ _).alloc (Nat.le_refl _) _) (by omega)
    obtain ⟨q0, q1, q2, q3, q4⟩ := hbox2.cells
    simp only at q0 q1 q2 q3 q4
    have HBox2 := Lib.hid hbox2
    clear hbox1 hbox2 hb1 hB1
    go_wp2_with fail
    have hb3 : Below (w1.heap.size + 1) (w1.alloc (.cells #[.pointer none, .slice none 0 0] 88)) ((w1.alloc (.cells #[.pointer none, .slice none 0 0] 88)).alloc (.cells #[.int .i64 s, .int .i64 k, .int .i64 a, .int .i64 b] 3)) := (Below.refl _ _).alloc (by simp) _
    refine (numbers_any w1.heap.size w1.heap.size (w1.heap.size + 1) [] [s, k, a, b] 4 rfl _ (isWr_below (isWr_new w1) hb3 (by simp)) (by have := heap_alloc_new (w1.alloc (.cells #[.pointer none, .slice none 0 0] 88)) (.cells #[.int .i64 s, .int .i64 k, .int .i64 a, .int .i64 b] 3); rw [World.size_alloc] at this; exact this) ?_ (by omega) (by simp) (by simp; omega)).mono ?_
    · intro i hi
      match i, hi with
      | 0, _ => exact HF.out.1
      | 1, _ => exact HF.out.2.1
      | 2, _ => exact HF.out.2.2.1
      | 3, _ => exact HF.out.2.2.2.1
    rintro e w2 ⟨rfl, hw2, hb2, _⟩
    rw [List.nil_append, HNR.out] at hw2
    have hbox3 : RecBox w2 w.heap.size ⟨s, k, a, b, t⟩ := (HBox2.out.below hb3 (by omega)).below hb2 (by omega)
    have hz2 := hb2.size
    simp only [World.size_alloc] at hz2
    have hB2 : Below w.heap.size w w2 := (((HB1.out.alloc (by omega) _).alloc (by simp; omega) _).trans (hb2.mono (by omega)))
    obtain ⟨r0, r1, r2, r3, r4⟩ := hbox3.cells
    simp only at r0 r1 r2 r3 r4
    have HW2 := Lib.hid hw2
    have HB2 := Lib.hid hB2
    clear hw2 hb2 hb3 hbox3 hB2 HBox2 q0 q1 q2 q3 q4
    go_wp2_with fail
    refine (putString_any (bs t) w2 (by unfold maxLen; omega)).mono ?_
    rintro e w3 ⟨rfl, hb3⟩
    rw [bs_list, HP.out, show strV (encS t) = .string (bs (encS t)) from rfl]
    have HW3 := Lib.hid (isWr_below HW2.out hb3 (Nat.le_refl _))
    have hz3 := hb3.size
    have HB3 := Lib.hid (HB2.out.trans (hb3.mono HB2.out.size))
    have hss : (bs (encS t)).size ≤ 250 := by rw [bs_size]; exact hel3
    clear hb3
    go_wp2_with fail
    refine (wr_write w1.heap.size w1.heap.size _ (bs (encS t)) w3 HW3.out (by rw [Lib.byteCells_length]; omega) (by omega)).mono ?_
    rintro e w4 ⟨rfl, hw4, hb4, _⟩
    rw [strCells_bs, ← byteCells_app, ← HX.out] at hw4
    have HW4 := Lib.hid hw4
    have HB4 := Lib.hid (HB3.out.trans (hb4.mono (by omega)))
    clear hw4 hb4
    go_wp2_with fail
    refine (wr_string w1.heap.size w1.heap.size _ w4 (.inr HW4.out) HNil.out).mono ?_
    rintro e w5 ⟨rfl, hb5⟩
    have HB5 := Lib.hid (HB4.out.trans (hb5.mono (by omega)))
    clear hb5
    go_wp2
    go_ret2
    exact ⟨by rw [HE.out]; rfl, HB5.out⟩
end Go.Proofs.YthfenbdlolbikaaGreatDoor
end

section
/- logbook.Valid. -/
namespace Go.Proofs.YthfenbdlolbikaaGreatDoor
open Go.RowKit Go.Shelf

theorem secsB_take {s : Int} {l : List LRec} (k : Nat) (h : secsB s (l.take k) = false) : secsB s l = false := by
  induction l generalizing s k with
  | nil => simp [secsB] at h
  | cons y t ih =>
    cases k with
    | zero => simp [secsB] at h
    | succ k =>
      simp only [List.take_succ_cons, secsB] at h ⊢
      cases h1 : (recB y && decide (s ≤ y.sec))
      · simp
      · rw [h1, Bool.true_and] at h
        rw [Bool.true_and]
        exact ih k h
theorem lastSec_succ (s : Int) (l : List LRec) (k : Nat) (h : k < l.length) : lastSec s (l.take (k + 1)) = (l.getD k default).sec := by
  rw [take_getD l default k h]
  unfold lastSec
  rw [List.getLast?_concat]
theorem secsB_succ (l : List LRec) (k : Nat) (h : k < l.length) : secsB 0 (l.take (k + 1)) = (secsB 0 (l.take k) && recB (l.getD k default) && decide (lastSec 0 (l.take k) ≤ (l.getD k default).sec)) := by
  rw [take_getD l default k h, secsB_add]
set_option maxHeartbeats 1000000 in
set_option maxRecDepth 100000 in
theorem valid_any (o : Int) (rv : Value) (l : List LRec) (w : World) (h : RecsAt w.heap.size w rv l) :
    Calls Tryz.prog 37 #[bookV o rv] w fun e w' => e = .returned (.bool (bookB ⟨o, l⟩)) ∧ Below w.heap.size w w' := by
  obtain ⟨a, c, rfl, hlc, hcm⟩ := h.shape
  unfold maxLen at hcm
  have HL := Lib.hid h
  have HV : Hid (bookB ⟨o, l⟩ = (secsB 0 l && inZ o 0 99 && decide (l.length ≤ 60))) := rfl
  clear h
  generalize hn : l.length = n at *
  have HN := Lib.hid hn
  clear hn
  have HB : Hid (∀ o : Obj, Below w.heap.size w (w.alloc o)) := fun o => (Below.refl _ _).alloc (Nat.le_refl _) o
  go_enter Tryz.func37, Tryz.ntmps37
  go_wp2
  go_loopw [3, 9] (fun at_ i wr => ∃ k : Nat, k ≤ n ∧ i = .int .i64 k ∧ at_ = .int .i64 (lastSec 0 (l.take k)) ∧ Hid (secsB 0 (l.take k) = true) ∧ Below w.heap.size w wr ∧ wr.heap[w.heap.size]? = some (.cells #[.int .i64 o, .slice a n c] 25 (0, 0))) (fun _ i _ => n - (intOf i).toNat)
  case atStart => exact ⟨0, Nat.zero_le _, rfl, rfl, rfl, HB.out _, heap_alloc_new _ _⟩
  case round =>
    obtain ⟨k, hk, rfl, rfl, HS, hW, hbox⟩ := hrel
    have hz := hW.size
    by_cases h1 : k < n
    · have hkn : (k : Int) < (n : Int) := by omega
      obtain ⟨b, off, rfl, hb, hat⟩ := HL.out.at k (by rw [HN.out]; exact h1)
      have hat2 := hat.below hW hb
      obtain ⟨c0, c1, c2, c3, c4⟩ := hat2
      have HS2 := Lib.hid (secsB_succ l k (by rw [HN.out]; exact h1))
      rw [HS.out, Bool.true_and] at HS2
      have HLs := Lib.hid (lastSec_succ 0 l k (by rw [HN.out]; exact h1))
      generalize l.getD k default = x at *
      obtain ⟨s, kd, p, q, t⟩ := x
      simp only at c0 c1 c2 c3 c4
      go_wp2_with fail
      refine (isRecord_any ⟨s, kd, p, q, t⟩ _).mono ?_
      rintro e w1 ⟨rfl, hb1⟩
      have hbox1 : RecBox w1 wr.heap.size ⟨s, kd, p, q, t⟩ := (recBox_new wr ⟨s, kd, p, q, t⟩).below hb1 (by simp)
      obtain ⟨d0, d1, d2, d3, d4⟩ := hbox1.cells
      simp only at d0 d1 d2 d3 d4
      have hB1 : Below w.heap.size w w1 := (hW.alloc hz _).trans (hb1.mono (by simp; omega))
      have hlb : w1.heap[w.heap.size]? = some (.cells #[.int .i64 o, .slice (some ⟨b, off, none⟩) n c] 25 (0, 0)) := by
        rw [hb1.block _ (by have := (Array.getElem?_eq_some_iff.1 hbox).1; simp; omega), Below.heap_alloc _ _ _ (Array.getElem?_eq_some_iff.1 hbox).1]
        exact hbox
      clear hbox1 c0 c1 c2 c3 c4 hat hb1
      cases hr : recB ⟨s, kd, p, q, t⟩
      · have HF : Hid (bookB ⟨o, l⟩ = false) := by
          show _ = _
          rw [HV.out, secsB_take (k + 1) (by rw [HS2.out, hr]; rfl)]
          rfl
        go_wp2
        go_ret
        exact ⟨by rw [HF.out]; rfl, hB1⟩
      · rw [hr, Bool.true_and] at HS2
        generalize lastSec 0 (l.take k) = u at *
        by_cases hlt : s < u
        · have dl : decide (s < u) = true := by simp [hlt]
          have HF : Hid (bookB ⟨o, l⟩ = false) := by
            show _ = _
            rw [HV.out, secsB_take (k + 1) (by rw [HS2.out]; exact decide_eq_false (by omega))]
            rfl
          go_wp2
          go_ret
          exact ⟨by rw [HF.out]; rfl, hB1⟩
        · have dl : decide (s < u) = false := by simp; omega
          have HS3 : Hid (secsB 0 (l.take (k + 1)) = true) := by
            show _ = _
            rw [HS2.out]
            exact decide_eq_true (by omega)
          go_wp2
          go_roundw
          case rel => exact ⟨k + 1, by omega, by go_num, by rw [HLs.out], HS3, hB1, hlb⟩
          case measure => simp [intOf]; omega
    · obtain rfl : k = n := by omega
      have hS := HS.out
      rw [List.take_of_length_le (by rw [HN.out]; exact Nat.le_refl _)] at hS
      have q0 : wr.cell? ⟨w.heap.size, 0, none⟩ = some (.int .i64 o) := by rw [Lib.cell_of_heap hbox]; rfl
      have q1 : wr.cell? ⟨w.heap.size, 1, none⟩ = some (.slice a k c) := by rw [Lib.cell_of_heap hbox]; rfl
      clear hbox
      cases ho : inZ o 0 99
      · have HF : Hid (bookB ⟨o, l⟩ = false) := by
          show _ = _
          rw [HV.out, ho, Bool.and_false]
          rfl
        clear hS
        go_wp2_with (go_at_call 49; refine (isIn_eq (by assumption) _).mono ?_; rintro e w' ⟨rfl, rfl⟩)
        go_ret
        exact ⟨by rw [HF.out]; rfl, hW⟩
      · have HF : Hid (bookB ⟨o, l⟩ = decide ((k : Int) ≤ 60)) := by
          show _ = _
          rw [HV.out, ho, hS, Bool.true_and, Bool.true_and]
          exact decide_eq_decide.2 (by omega)
        clear hS
        go_wp2_with (go_at_call 49; refine (isIn_eq (by assumption) _).mono ?_; rintro e w' ⟨rfl, rfl⟩)
        go_ret
        exact ⟨by rw [HF.out]; rfl, hW⟩
end Go.Proofs.YthfenbdlolbikaaGreatDoor
end
