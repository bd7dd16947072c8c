/- justify.Valid. -/
import Derived.Test.YtmihkbiihfhpoaaDoorJIdx
import Derived.RangeFuncBox
namespace Go.Proofs.YtmihkbiihfhpoaaDoor
open Go.RowKit Go.Shelf

def inB (n lo hi : Int) : Bool := decide (lo ≤ n) && decide (n ≤ hi)
/-- isIn. -/
theorem isIn_any (n lo hi : Int) (w : World) :
    Calls Tryd.prog 39 #[.int .i64 n, .int .i64 lo, .int .i64 hi] w fun e w' => e = .returned (.bool (inB n lo hi)) ∧ w = w' := by
  by_cases h : lo ≤ n
  all_goals
    go_enter Tryd.func39, Tryd.ntmps39
    go_wp2
    go_ret
    exact ⟨by first | (simp [inB, h]; done) | (simp [inB]; omega), rfl⟩
theorem refIn_any (n lo hi : Int) (w : World) :
    Calls Tryd.prog 45 #[.int .i64 n, .int .i64 lo, .int .i64 hi] w fun e w' => e = .returned (.bool (inB n lo hi)) ∧ w = w' := by
  by_cases h : lo ≤ n
  all_goals
    go_enter Tryd.func45, Tryd.ntmps45
    go_wp2
    go_ret
    exact ⟨by first | (simp [inB, h]; done) | (simp [inB]; omega), rfl⟩
/-- A theory's value. -/
abbrev thV (s d : Int) (rv : Value) : Value := .agg #[.int .i64 s, .int .i64 d, rv]
/-- A theory's box. -/
def ThBox (W : World) (T : Nat) (s d : Int) (rv : Value) : Prop := W.heap[T]? = some (.cells #[.int .i64 s, .int .i64 d, rv] 25 (0, 0))
theorem ThBox.lt {W : World} {T : Nat} {s d : Int} {rv : Value} (h : ThBox W T s d rv) : T < W.heap.size := (Array.getElem?_eq_some_iff.1 h).1
theorem ThBox.c0 {W : World} {T : Nat} {s d : Int} {rv : Value} (h : ThBox W T s d rv) : W.cell? ⟨T, 0, none⟩ = some (.int .i64 s) := by simp [World.cell?, show W.heap[T]? = _ from h]
theorem ThBox.c1 {W : World} {T : Nat} {s d : Int} {rv : Value} (h : ThBox W T s d rv) : W.cell? ⟨T, 1, none⟩ = some (.int .i64 d) := by simp [World.cell?, show W.heap[T]? = _ from h]
theorem ThBox.c2 {W : World} {T : Nat} {s d : Int} {rv : Value} (h : ThBox W T s d rv) : W.cell? ⟨T, 2, none⟩ = some rv := by simp [World.cell?, show W.heap[T]? = _ from h]
theorem ThBox.new (W : World) (s d : Int) (rv : Value) : ThBox (W.alloc (.cells #[.int .i64 s, .int .i64 d, rv] 25)) W.heap.size s d rv := World.alloc_heap_new W _
theorem ThBox.below {W W' : World} {B T : Nat} {s d : Int} {rv : Value} (h : ThBox W T s d rv) (hb : Below B W W') (hT : T < B) : ThBox W' T s d rv := (hb.block T hT).trans h
theorem boxed_below {W W' : World} {B T : Nat} {t : TypeId} {v : Value} (h : Boxed W T t v) (hb : Below B W W') (hT : T < B) : Boxed W' T t v := (hb.block T hT).trans h

set_option maxRecDepth 100000 in
theorem isThing_any (s d n : Int) (rv : Value) (w : World) (hs : 0 ≤ s ∧ s ≤ 12) (hd : 0 ≤ d ∧ d ≤ 20) :
    Calls Tryd.prog 43 #[thV s d rv, .int .i64 n] w fun e w' => e = .returned (.bool (inB n 0 (s + d - 1))) ∧ Below w.heap.size w w' := by
  go_enter Tryd.func43, Tryd.ntmps43
  go_wp2_with (go_at_call 39; refine (isIn_any _ _ _ _).mono ?_; rintro e w' ⟨rfl, rfl⟩)
  go_ret
  exact ⟨rfl, (Below.refl _ _).alloc (Nat.le_refl _) _⟩

/-- Are needs bad, after a last one? -/
def badN (s d last n : Int) : Bool := decide (n ≤ last) || !inB n 0 (s + d - 1)
set_option maxRecDepth 100000 in
theorem valid11_any (s d last n : Int) (rv : Value) (L T : Nat) (w : World) (hs : 0 ≤ s ∧ s ≤ 12) (hd : 0 ≤ d ∧ d ≤ 20) (hL : Boxed w L 3 (.int .i64 last)) (hT : ThBox w T s d rv) (hLT : L ≠ T) :
    Calls Tryd.prog 42 #[.int .i64 n, .pointer (some ⟨L, 0, none⟩), .pointer (some ⟨T, 0, none⟩)] w fun e w' => e = .returned (.bool (badN s d last n)) ∧ Boxed w' L 3 (.int .i64 n) ∧ ThBox w' T s d rv ∧ ∀ B w0, B ≤ L → Below B w0 w → Below B w0 w' := by
  have cL := hL.cell
  have fL := hL.frozen
  have hT' : ThBox (w.setCell ⟨L, 0, none⟩ (.int .i64 n)) T s d rv := (Below.heap_setCell w ⟨L, 0, none⟩ _ T (Ne.symm hLT)).trans hT
  have hL' := hL.set (.int .i64 n)
  have c0 := hT'.c0
  have c1 := hT'.c1
  have c2 := hT'.c2
  have lT := hT'.lt
  have lL := hL'.lt
  have HT := Lib.hid hT'
  have HL := Lib.hid hL'
  have HL0 := Lib.hid hL
  clear hL hT hT' hL'
  by_cases h : n ≤ last
  · have HBd : Hid (badN s d last n = true) := by show _ = _; simp [badN, h]
    go_enter Tryd.func42, Tryd.ntmps42
    go_wp2
    go_ret
    exact ⟨by rw [HBd.out]; rfl, HL.out, HT.out, fun B w0 hB hb => hb.setCell hB _⟩
  · have HBd : Hid (badN s d last n = !inB n 0 (s + d - 1)) := by show _ = _; simp [badN, h]
    go_enter Tryd.func42, Tryd.ntmps42
    go_wp2_with (go_at_call 43; refine (isThing_any _ _ _ _ _ hs hd).mono ?_; rintro e w' ⟨rfl, hb'⟩)
    go_ret
    exact ⟨by rw [HBd.out]; rfl, boxed_below HL.out hb' lL, HT.out.below hb' lT, fun B w0 hB hb => (hb.setCell hB _).trans (hb'.mono (by have := HL0.out.lt; simp; omega))⟩

def lastOf (l : List Int) (i : Nat) : Int := if i = 0 then -1 else l.getD (i - 1) 0
def badNs (s d : Int) (l : List Int) : Bool := (List.range l.length).any fun i => badN s d (lastOf l i) (l.getD i 0)
def badRule (s d : Int) (r : JRule) : Bool := decide (6 < r.needs.length) || badNs s d r.needs || decide (r.gives < s) || !inB r.gives 0 (s + d - 1)
theorem eg11 : ∀ args w, (callFunc 42 args).run Tryd.prog w = .ok (.enter 42 args) w := enters_of Tryd.func42 (by kernel_rfl) rfl
theorem eg1 : ∀ args w, (callFunc 41 args).run Tryd.prog w = .ok (.enter 41 args) w := enters_of Tryd.func41 (by kernel_rfl) rfl

set_option maxRecDepth 100000 in
set_option maxHeartbeats 1000000 in
theorem valid1_any (s d : Int) (rv nv : Value) (r : JRule) (T : Nat) (w : World) (hs : 0 ≤ s ∧ s ≤ 12) (hd : 0 ≤ d ∧ d ≤ 20) (hT : ThBox w T s d rv) (hN : IntsAt w.heap.size w nv r.needs) :
    Calls Tryd.prog 41 #[ruleV nv r.gives, .pointer (some ⟨T, 0, none⟩)] w fun e w' => e = .returned (.bool (badRule s d r)) ∧ Below w.heap.size w w' := by
  have hlT := hT.lt
  -- the world in which the needs are looked through
  obtain ⟨W, hW⟩ : ∃ W, W = ((w.alloc (.cells #[nv, .int .i64 r.gives] 48)).alloc (.cells #[.int .i64 (-1)] 3)) := ⟨_, rfl⟩
  have hbW : Below w.heap.size w W := by rw [hW]; exact ((Below.refl _ _).alloc (Nat.le_refl _) _).alloc (by simp) _
  have hszW : W.heap.size = w.heap.size + 2 := by rw [hW]; simp
  have hbox : Boxed W (w.heap.size + 1) 3 (.int .i64 (-1)) := by rw [hW]; have := Boxed.new (w.alloc (.cells #[nv, .int .i64 r.gives] 48)) 3 (.int .i64 (-1)); rwa [World.size_alloc] at this
  have hcon := contains_int 42 #[.pointer (some ⟨w.heap.size + 1, 0, none⟩), .pointer (some ⟨T, 0, none⟩)] eg11 nv r.needs W
    (fun i W' => Boxed W' (w.heap.size + 1) 3 (.int .i64 (lastOf r.needs i)) ∧ ThBox W' T s d rv ∧ Below (w.heap.size + 1) W W') (fun i => badN s d (lastOf r.needs i) (r.needs.getD i 0)) w.heap.size (hN.below hbW (Nat.le_refl _))
    ⟨hbox, hT.below hbW hlT, Below.refl _ _⟩ (fun i W' h => h.2.2.mono (by omega)) (fun i W' hi ⟨h1, h2, h3⟩ => by
      refine (valid11_any s d _ _ rv (w.heap.size + 1) T W' hs hd h1 h2 (by omega)).mono ?_
      rintro e w' ⟨rfl, g1, g2, g3⟩
      exact ⟨rfl, by simpa [lastOf] using g1, g2, g3 _ _ (Nat.le_refl _) h3⟩)
  obtain ⟨a, c, rfl, hlc, hcm, hcells⟩ := hN
  unfold maxLen at hcm
  clear hcells hbox
  have HCon := Lib.hid hcon
  clear hcon
  have hRule : badRule s d r = (decide (6 < r.needs.length) || badNs s d r.needs || decide (r.gives < s) || !inB r.gives 0 (s + d - 1)) := rfl
  have hB2 : (List.range r.needs.length).any (fun i => badN s d (lastOf r.needs i) (r.needs.getD i 0)) = badNs s d r.needs := rfl
  rw [hRule]
  rw [hB2] at HCon
  clear hRule hB2
  generalize badNs s d r.needs = b2 at *
  generalize r.needs.length = n at *
  generalize r.gives = g at *
  unfold ruleV
  have HW := Lib.hid hW
  have HbW := Lib.hid hbW
  have HT := Lib.hid hT
  have hTW := hT.below hbW hlT
  rw [hW] at hTW
  have c0 := hTW.c0
  have c1 := hTW.c1
  have c2 := hTW.c2
  have HTW := Lib.hid hTW
  clear hW hbW hT hTW
  by_cases h6 : 6 < n
  · have h6' : (6 : Int) < (n : Int) := by omega
    go_enter Tryd.func41, Tryd.ntmps41
    go_wp2
    go_ret
    exact ⟨by simp [h6], by have := HbW.out; rw [HW.out] at this; exact this⟩
  · have h6' : (n : Int) ≤ 6 := by omega
    have d6 : decide (6 < n) = false := by simp; omega
    rw [HW.out] at HCon
    have hRc : ∀ w' : World, Below (w.heap.size + 1) ((w.alloc (.cells #[.slice a n c, .int .i64 g] 48)).alloc (.cells #[.int .i64 (-1)] 3)) w' → w'.cell? ⟨w.heap.size, 1, none⟩ = some (.int .i64 g) := fun w' hb => (hb.cell (p := ⟨w.heap.size, 1, none⟩) (by simp)).trans (by simp)
    have HRc := Lib.hid hRc
    have HFin : Hid (∀ w' : World, Below (w.heap.size + 1) ((w.alloc (.cells #[.slice a n c, .int .i64 g] 48)).alloc (.cells #[.int .i64 (-1)] 3)) w' → Below w.heap.size w w') := fun w' hb => by
      have := HbW.out
      rw [HW.out] at this
      exact this.trans (hb.mono (by omega))
    clear hRc
    rw [d6, Bool.false_or]
    clear d6
    cases b2
    · rw [Bool.false_or]
      by_cases hg : g < s
      · go_enter Tryd.func41, Tryd.ntmps41
        go_wp2_with (go_at_call 44; refine HCon.out.mono ?_; rintro e w' ⟨rfl, i, hi1, hi2, hi3⟩; have cr := HRc.out w' hi3; have c0' := hi2.c0)
        go_ret
        exact ⟨by simp [hg], HFin.out _ hi3⟩
      · go_enter Tryd.func41, Tryd.ntmps41
        go_wp2_with (first | (go_at_call 44; refine HCon.out.mono ?_; rintro e w' ⟨rfl, i, hi1, hi2, hi3⟩; have cr := HRc.out w' hi3; have c0' := hi2.c0; have c1' := hi2.c1; have c2' := hi2.c2) | (go_at_call 43; refine (isThing_any _ _ _ _ _ hs hd).mono ?_; rintro e w2 ⟨rfl, hb'⟩))
        go_ret
        exact ⟨by simp [show ¬ (6 : Int) < (n : Int) from by omega], (HFin.out _ hi3).trans (hb'.mono (by have := hi3.size; simp at this; omega))⟩
    · go_enter Tryd.func41, Tryd.ntmps41
      go_wp2_with (go_at_call 44; refine HCon.out.mono ?_; rintro e w' ⟨rfl, i, hi1, hi2, hi3⟩)
      go_ret
      exact ⟨by simp, HFin.out _ hi3⟩

/-- Valid. -/
def validB (t : JTh) : Bool := inB t.seen 0 12 && inB t.drawn 0 20 && !decide (40 < t.rules.length) && !t.rules.any (badRule t.seen t.drawn)
set_option maxRecDepth 100000 in
set_option maxHeartbeats 1000000 in
theorem valid_any (t : JTh) (rv : Value) (w : World) (hR : RulesAt w.heap.size w rv t.rules) :
    Calls Tryd.prog 14 #[thV t.seen t.drawn rv] w fun e w' => e = .returned (.bool (validB t)) ∧ Below w.heap.size w w' := by
  obtain ⟨s, d, rs⟩ := t
  dsimp only at hR ⊢
  have hval : validB ⟨s, d, rs⟩ = (inB s 0 12 && inB d 0 20 && !decide (40 < rs.length) && !rs.any (badRule s d)) := rfl
  rw [hval]
  clear hval
  have hlen : ∃ a c, rv = .slice a rs.length c ∧ rs.length ≤ 9223372036854775807 := by
    obtain ⟨a, c, rfl, h1, h2, _⟩ := hR
    unfold maxLen at h2
    exact ⟨a, c, rfl, by omega⟩
  cases h1 : inB s 0 12
  · clear hR
    go_enter Tryd.func14, Tryd.ntmps14
    go_wp2_with (go_at_call 39; refine (isIn_any _ _ _ _).mono ?_; rintro e w' ⟨rfl, rfl⟩; rw [h1])
    go_ret
    exact ⟨rfl, (Below.refl _ _).alloc (Nat.le_refl _) _⟩
  have hs : 0 ≤ s ∧ s ≤ 12 := by simpa [inB] using h1
  cases h2 : inB d 0 20
  · clear hR
    go_enter Tryd.func14, Tryd.ntmps14
    go_wp2_with (first | (go_at_call 39; refine (isIn_any _ _ _ _).mono ?_; rintro e w' ⟨rfl, rfl⟩; first | rw [h1] | rw [h2]))
    go_ret
    exact ⟨rfl, (Below.refl _ _).alloc (Nat.le_refl _) _⟩
  have hd : 0 ≤ d ∧ d ≤ 20 := by simpa [inB] using h2
  obtain ⟨a, c, rfl, hl⟩ := hlen
  by_cases h3 : 40 < rs.length
  · clear hR
    have h3' : (40 : Int) < (rs.length : Int) := by omega
    go_enter Tryd.func14, Tryd.ntmps14
    go_wp2_with (first | (go_at_call 39; refine (isIn_any _ _ _ _).mono ?_; rintro e w' ⟨rfl, rfl⟩; first | rw [h1] | rw [h2]))
    go_ret
    exact ⟨by simp [h3], (Below.refl _ _).alloc (Nat.le_refl _) _⟩
  · have h3' : (rs.length : Int) ≤ 40 := by omega
    obtain ⟨W, hW⟩ : ∃ W, W = w.alloc (.cells #[.int .i64 s, .int .i64 d, .slice a rs.length c] 25) := ⟨_, rfl⟩
    have hbW : Below w.heap.size w W := by rw [hW]; exact (Below.refl _ _).alloc (Nat.le_refl _) _
    have hTb : ThBox W w.heap.size s d (.slice a rs.length c) := by rw [hW]; exact ThBox.new _ _ _ _
    have hcon := contains_rule 41 #[.pointer (some ⟨w.heap.size, 0, none⟩)] eg1 (.slice a rs.length c) rs W
      (fun _ W' => Below W.heap.size W W') (fun i => badRule s d (rs.getD i default)) w.heap.size (hR.below hbW (Nat.le_refl _))
      (Below.refl _ _) (fun i W' h => h.mono hbW.size) (fun i W' nv hi h1 h2 => by
        refine (valid1_any s d (.slice a rs.length c) nv (rs.getD i default) w.heap.size W' hs hd (hTb.below h1 hTb.lt) (h2.mono (Nat.le_trans hbW.size h1.size))).mono ?_
        rintro e w' ⟨rfl, g⟩
        exact ⟨rfl, h1.trans (g.mono h1.size)⟩)
    rw [any_getD (badRule s d) default rs] at hcon
    have HCon := Lib.hid hcon
    rw [hW] at HCon
    have HFin : Hid (∀ w' : World, Below W.heap.size W w' → Below w.heap.size w w') := fun w' hb => hbW.trans (hb.mono hbW.size)
    rw [hW] at HFin
    clear hcon hR hTb hbW hW
    rw [show decide (40 < rs.length) = false from by simp; omega]
    generalize rs.any (badRule s d) = b at *
    generalize rs.length = n at *
    go_enter Tryd.func14, Tryd.ntmps14
    go_wp2_with (first | (go_at_call 39; refine (isIn_any _ _ _ _).mono ?_; rintro e w' ⟨rfl, rfl⟩; first | rw [h1] | rw [h2]) | (go_at_call 40; refine HCon.out.mono ?_; rintro e w' ⟨rfl, i, hi⟩))
    go_ret
    exact ⟨by simp, HFin.out _ hi⟩
end Go.Proofs.YtmihkbiihfhpoaaDoor
