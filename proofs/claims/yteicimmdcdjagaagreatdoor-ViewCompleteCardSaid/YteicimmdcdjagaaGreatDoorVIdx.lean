import Derived.Test.YteicimmdcdjagaaGreatDoorVPage
set_option linter.unusedVariables false
set_option linter.unusedSimpArgs false

/- slices.IndexFunc and ContainsFunc at notes and titles; view.Titled, May. -/
set_option linter.unusedVariables false
set_option linter.unusedSimpArgs false
namespace Go.Proofs.YteicimmdcdjagaaGreatDoor
open Go.RowKit Go.Shelf

/-- The cells of the title at a place of a slice. -/
def TitleAt (w : World) (b o : Nat) (t : VTitle) : Prop := w.cell? ⟨b, o, none⟩ = some (.int .i64 t.unit) ∧ w.cell? ⟨b, o + 1, none⟩ = some (.int .i64 t.owner) ∧ w.cell? ⟨b, o + 2, none⟩ = some (.int .i64 t.lo) ∧ w.cell? ⟨b, o + 3, none⟩ = some (.int .i64 t.hi)
theorem titles_at {B : Nat} {w : World} {a : Option Addr} {n c : Nat} {l : List VTitle} (h : RowsAt titleK B w (.slice a n c) l) (j : Nat) (x : VTitle) (hj : l[j]? = some x) : ∃ b off, a = some ⟨b, off, none⟩ ∧ b < B ∧ TitleAt w b (off + j * 4) x := by
  obtain ⟨b, off, ha, hb, hc⟩ := h.at j x hj
  exact ⟨b, off, ha, hb, ElAt.title hc⟩
abbrev titleR (t : VTitle) : Array Value := #[.int .i64 t.unit, .int .i64 t.owner, .int .i64 t.lo, .int .i64 t.hi]
theorem any_take_succ {α : Type} [Inhabited α] (l : List α) (q : α → Bool) (k : Nat) (h : k < l.length) : (l.take (k + 1)).any q = ((l.take k).any q || q (l.getD k default)) := by
  rw [take_getD l default k h, List.any_append]
  simp
theorem any_of_take {α : Type} {l : List α} {q : α → Bool} {k : Nat} (h : (l.take k).any q = true) : l.any q = true := by
  rw [List.any_eq_true] at h ⊢
  obtain ⟨x, hx, hq⟩ := h
  exact ⟨x, List.mem_of_mem_take hx, hq⟩
set_option maxRecDepth 100000 in
set_option maxHeartbeats 1000000 in
theorem idx_note (g : Nat) (lb : Array Value) (eg : ∀ args w, (callFunc g args).run Tryz.prog w = .ok (.enter g args) w) (v : Value) (l : List VNote) (w : World) (q : VNote → Bool) (hl : RowsAt noteK w.heap.size w v l) (hln : l.length ≤ 1000000)
    (hcall : ∀ W x, Below w.heap.size w W → Calls Tryz.prog g (#[noteV x] ++ lb) W fun e w' => e = .returned (.bool (q x)) ∧ Below W.heap.size W w') :
    Calls Tryz.prog 81 #[v, .func (.func g) #[] lb] w fun e w' => (∃ r : Int, e = .returned (.int .i64 r) ∧ l.any q = decide (0 ≤ r)) ∧ Below w.heap.size w w' := by
  obtain ⟨a, c, rfl, hlc, hcm⟩ := hl.shape
  unfold maxLen at hcm
  have HL := Lib.hid hl
  have HA := Lib.hid hcall
  clear hl hcall
  generalize hlen : l.length = n at *
  have HN := Lib.hid hlen
  clear hlen
  go_enter Tryz.func81, Tryz.ntmps81
  go_wp2
  go_loopw [8] (fun s wr => ∃ k : Nat, k ≤ n ∧ s = .int .i64 k ∧ Hid (Below w.heap.size w wr) ∧ Hid ((l.take k).any q = false)) (fun s _ => n - (intOf s).toNat)
  case atStart => exact ⟨0, Nat.zero_le _, rfl, Lib.hid (Below.refl _ _), Lib.hid (by simp)⟩
  case round =>
    obtain ⟨k, hk, rfl, HB, HQ⟩ := hrel
    by_cases hlt : k < n
    · have kk : (k : Int) < (n : Int) := by omega
      have k0 : 0 ≤ (k : Int) := by omega
      obtain ⟨x, hx⟩ : ∃ x, x = l.getD k default := ⟨_, rfl⟩
      have hget : l[k]? = some x := by rw [hx, List.getD_eq_getElem?_getD, List.getElem?_eq_getElem (by rw [HN.out]; exact hlt)]; rfl
      obtain ⟨b, off, hae, hb, hat⟩ := notes_at (HL.out.later HB.out (Nat.le_refl _)) k x hget
      subst hae
      obtain ⟨p0, p1, p2, p3⟩ := hat
      have HS := Lib.hid (any_take_succ l q k (by rw [HN.out]; exact hlt))
      rw [← hx, HQ.out, Bool.false_or] at HS
      have hc := HA.out wr x HB.out
      clear hx hget
      cases hq : q x
      all_goals
        rw [hq] at hc HS
        clear hq
        have HC := Lib.hid hc
        clear hc
        go_wp2_with (go_at_fn g; refine HC.out.mono ?_; rintro e w' ⟨rfl, hb'⟩)
      · have HB2 := Lib.hid (HB.out.trans (hb'.mono HB.out.size))
        go_roundw
        case rel => exact ⟨k + 1, by omega, by go_num, HB2, HS⟩
        case measure => simp [intOf]; omega
      · have HB2 := Lib.hid (HB.out.trans (hb'.mono HB.out.size))
        go_ret
        exact ⟨⟨k, rfl, by rw [any_of_take HS.out]; simp⟩, HB2.out⟩
    · obtain rfl : k = n := by omega
      have kk : ¬ ((k : Int) < (k : Int)) := by omega
      have HF : Hid (l.any q = false) := by
        have := HQ.out
        rwa [List.take_of_length_le (by rw [HN.out]; exact Nat.le_refl _)] at this
      clear hlt hk HQ
      go_wp2
      go_ret
      exact ⟨⟨-1, rfl, by rw [HF.out]; rfl⟩, HB.out⟩
set_option maxRecDepth 100000 in
theorem has_note (g : Nat) (lb : Array Value) (eg : ∀ args w, (callFunc g args).run Tryz.prog w = .ok (.enter g args) w) (v : Value) (l : List VNote) (w : World) (q : VNote → Bool) (hl : RowsAt noteK w.heap.size w v l) (hln : l.length ≤ 1000000)
    (hcall : ∀ W x, Below w.heap.size w W → Calls Tryz.prog g (#[noteV x] ++ lb) W fun e w' => e = .returned (.bool (q x)) ∧ Below W.heap.size W w') :
    Calls Tryz.prog 51 #[v, .func (.func g) #[] lb] w fun e w' => e = .returned (.bool (l.any q)) ∧ Below w.heap.size w w' := by
  have HI := Lib.hid (idx_note g lb eg v l w q hl hln hcall)
  clear hl hln hcall
  go_enter Tryz.func51, Tryz.ntmps51
  go_wp2_with fail
  refine HI.out.mono ?_
  rintro e w' ⟨⟨r, rfl, hr⟩, hb⟩
  have HR := Lib.hid hr
  have HB := Lib.hid hb
  clear hr hb
  go_wp2
  go_ret
  exact ⟨by rw [HR.out]; try rfl, HB.out⟩
set_option maxRecDepth 100000 in
set_option maxHeartbeats 1000000 in
theorem idx_title (g : Nat) (lb : Array Value) (eg : ∀ args w, (callFunc g args).run Tryz.prog w = .ok (.enter g args) w) (v : Value) (l : List VTitle) (w : World) (q : VTitle → Bool) (hl : RowsAt titleK w.heap.size w v l) (hln : l.length ≤ 1000000)
    (hcall : ∀ W x, Below w.heap.size w W → Calls Tryz.prog g (#[titleV x] ++ lb) W fun e w' => e = .returned (.bool (q x)) ∧ Below W.heap.size W w') :
    Calls Tryz.prog 96 #[v, .func (.func g) #[] lb] w fun e w' => (∃ r : Int, e = .returned (.int .i64 r) ∧ l.any q = decide (0 ≤ r)) ∧ Below w.heap.size w w' := by
  obtain ⟨a, c, rfl, hlc, hcm⟩ := hl.shape
  unfold maxLen at hcm
  have HL := Lib.hid hl
  have HA := Lib.hid hcall
  clear hl hcall
  generalize hlen : l.length = n at *
  have HN := Lib.hid hlen
  clear hlen
  go_enter Tryz.func96, Tryz.ntmps96
  go_wp2
  go_loopw [8] (fun s wr => ∃ k : Nat, k ≤ n ∧ s = .int .i64 k ∧ Hid (Below w.heap.size w wr) ∧ Hid ((l.take k).any q = false)) (fun s _ => n - (intOf s).toNat)
  case atStart => exact ⟨0, Nat.zero_le _, rfl, Lib.hid (Below.refl _ _), Lib.hid (by simp)⟩
  case round =>
    obtain ⟨k, hk, rfl, HB, HQ⟩ := hrel
    by_cases hlt : k < n
    · have kk : (k : Int) < (n : Int) := by omega
      have k0 : 0 ≤ (k : Int) := by omega
      obtain ⟨x, hx⟩ : ∃ x, x = l.getD k default := ⟨_, rfl⟩
      have hget : l[k]? = some x := by rw [hx, List.getD_eq_getElem?_getD, List.getElem?_eq_getElem (by rw [HN.out]; exact hlt)]; rfl
      obtain ⟨b, off, hae, hb, hat⟩ := titles_at (HL.out.later HB.out (Nat.le_refl _)) k x hget
      subst hae
      obtain ⟨p0, p1, p2, p3⟩ := hat
      have HS := Lib.hid (any_take_succ l q k (by rw [HN.out]; exact hlt))
      rw [← hx, HQ.out, Bool.false_or] at HS
      have hc := HA.out wr x HB.out
      clear hx hget
      cases hq : q x
      all_goals
        rw [hq] at hc HS
        clear hq
        have HC := Lib.hid hc
        clear hc
        go_wp2_with (go_at_fn g; refine HC.out.mono ?_; rintro e w' ⟨rfl, hb'⟩)
      · have HB2 := Lib.hid (HB.out.trans (hb'.mono HB.out.size))
        go_roundw
        case rel => exact ⟨k + 1, by omega, by go_num, HB2, HS⟩
        case measure => simp [intOf]; omega
      · have HB2 := Lib.hid (HB.out.trans (hb'.mono HB.out.size))
        go_ret
        exact ⟨⟨k, rfl, by rw [any_of_take HS.out]; simp⟩, HB2.out⟩
    · obtain rfl : k = n := by omega
      have kk : ¬ ((k : Int) < (k : Int)) := by omega
      have HF : Hid (l.any q = false) := by
        have := HQ.out
        rwa [List.take_of_length_le (by rw [HN.out]; exact Nat.le_refl _)] at this
      clear hlt hk HQ
      go_wp2
      go_ret
      exact ⟨⟨-1, rfl, by rw [HF.out]; rfl⟩, HB.out⟩
set_option maxRecDepth 100000 in
theorem has_title (g : Nat) (lb : Array Value) (eg : ∀ args w, (callFunc g args).run Tryz.prog w = .ok (.enter g args) w) (v : Value) (l : List VTitle) (w : World) (q : VTitle → Bool) (hl : RowsAt titleK w.heap.size w v l) (hln : l.length ≤ 1000000)
    (hcall : ∀ W x, Below w.heap.size w W → Calls Tryz.prog g (#[titleV x] ++ lb) W fun e w' => e = .returned (.bool (q x)) ∧ Below W.heap.size W w') :
    Calls Tryz.prog 61 #[v, .func (.func g) #[] lb] w fun e w' => e = .returned (.bool (l.any q)) ∧ Below w.heap.size w w' := by
  have HI := Lib.hid (idx_title g lb eg v l w q hl hln hcall)
  clear hl hln hcall
  go_enter Tryz.func61, Tryz.ntmps61
  go_wp2_with fail
  refine HI.out.mono ?_
  rintro e w' ⟨⟨r, rfl, hr⟩, hb⟩
  have HR := Lib.hid hr
  have HB := Lib.hid hb
  clear hr hb
  go_wp2
  go_ret
  exact ⟨by rw [HR.out]; try rfl, HB.out⟩
set_option maxHeartbeats 4000000 in
set_option maxRecDepth 100000 in
theorem wrong_any (t : VTitle) (w : World) : Calls Tryz.prog 62 #[titleV t] w fun e w' => e = .returned (.bool (!titleB t)) ∧ Below w.heap.size w w' := by
  have HN : Hid (titleB t = (inZ t.unit 0 99 && inZ t.owner 0 50 && decide (0 ≤ t.lo) && decide (t.lo < t.hi) && decide (t.hi ≤ 800001))) := rfl
  have HB : Hid (∀ o : Obj, Below w.heap.size w (w.alloc o)) := fun o => (Below.refl _ _).alloc (Nat.le_refl _) o
  cases hu : inZ t.unit 0 99
  · have HU := Lib.hid (fun W => visIn_eq hu W)
    have HF : Hid (titleB t = false) := by show _ = _; rw [HN.out, hu]; rfl
    clear hu HN
    go_enter Tryz.func62, Tryz.ntmps62
    go_wp2_with fail
    refine (HU.out _).mono ?_
    rintro e w' ⟨rfl, rfl⟩
    go_wp2
    go_ret
    exact ⟨by rw [HF.out]; try rfl, HB.out _⟩
  have HU := Lib.hid (fun W => visIn_eq hu W)
  cases ho : inZ t.owner 0 50
  · have HO := Lib.hid (fun W => visIn_eq ho W)
    have HF : Hid (titleB t = false) := by show _ = _; rw [HN.out, ho, Bool.and_false]; rfl
    clear hu ho HN
    go_enter Tryz.func62, Tryz.ntmps62
    go_wp2_with fail
    refine (HU.out _).mono ?_
    rintro e w' ⟨rfl, rfl⟩
    go_wp2_with fail
    refine (HO.out _).mono ?_
    rintro e w' ⟨rfl, rfl⟩
    go_wp2
    go_ret
    exact ⟨by rw [HF.out]; try rfl, HB.out _⟩
  have HO := Lib.hid (fun W => visIn_eq ho W)
  have HN2 : Hid (titleB t = (decide (0 ≤ t.lo) && decide (t.lo < t.hi) && decide (t.hi ≤ 800001))) := by show _ = _; rw [HN.out, hu, ho]; rfl
  clear hu ho HN
  by_cases l0 : 0 ≤ t.lo
  rotate_left
  · have d0 : decide (t.lo < 0) = true := decide_eq_true (by omega)
    have HF : Hid (titleB t = false) := by show _ = _; rw [HN2.out, decide_eq_false l0]; rfl
    clear l0 HN2
    go_enter Tryz.func62, Tryz.ntmps62
    go_wp2_with fail
    refine (HU.out _).mono ?_
    rintro e w' ⟨rfl, rfl⟩
    go_wp2_with fail
    refine (HO.out _).mono ?_
    rintro e w' ⟨rfl, rfl⟩
    go_wp2
    go_ret
    exact ⟨by rw [HF.out]; try rfl, HB.out _⟩
  have d0 : decide (t.lo < 0) = false := decide_eq_false (by omega)
  by_cases l1 : t.lo < t.hi
  rotate_left
  · have d1 : decide (t.hi ≤ t.lo) = true := decide_eq_true (by omega)
    have HF : Hid (titleB t = false) := by show _ = _; rw [HN2.out, decide_eq_false l1, Bool.and_false]; rfl
    clear l0 l1 HN2
    go_enter Tryz.func62, Tryz.ntmps62
    go_wp2_with fail
    refine (HU.out _).mono ?_
    rintro e w' ⟨rfl, rfl⟩
    go_wp2_with fail
    refine (HO.out _).mono ?_
    rintro e w' ⟨rfl, rfl⟩
    go_wp2
    go_ret
    exact ⟨by rw [HF.out]; try rfl, HB.out _⟩
  have d1 : decide (t.hi ≤ t.lo) = false := decide_eq_false (by omega)
  by_cases l2 : t.hi ≤ 800001
  rotate_left
  · have d2 : decide (800001 < t.hi) = true := decide_eq_true (by omega)
    have HF : Hid (titleB t = false) := by show _ = _; rw [HN2.out, decide_eq_false l2, Bool.and_false]
    clear l0 l1 l2 HN2
    go_enter Tryz.func62, Tryz.ntmps62
    go_wp2_with fail
    refine (HU.out _).mono ?_
    rintro e w' ⟨rfl, rfl⟩
    go_wp2_with fail
    refine (HO.out _).mono ?_
    rintro e w' ⟨rfl, rfl⟩
    go_wp2
    go_ret
    exact ⟨by rw [HF.out]; try rfl, HB.out _⟩
  have d2 : decide (800001 < t.hi) = false := decide_eq_false (by omega)
  have HF : Hid (titleB t = true) := by show _ = _; rw [HN2.out, decide_eq_true l0, decide_eq_true l1, decide_eq_true l2]; rfl
  clear l0 l1 l2 HN2
  go_enter Tryz.func62, Tryz.ntmps62
  go_wp2_with fail
  refine (HU.out _).mono ?_
  rintro e w' ⟨rfl, rfl⟩
  go_wp2_with fail
  refine (HO.out _).mono ?_
  rintro e w' ⟨rfl, rfl⟩
  go_wp2
  go_ret
  exact ⟨by rw [HF.out]; try rfl, HB.out _⟩
theorem any_wrong (l : List VTitle) : l.any (fun t => !titleB t) = !l.all titleB := by
  induction l with
  | nil => rfl
  | cons x t ih => rw [List.any_cons, List.all_cons, ih]; cases titleB x <;> rfl
set_option maxRecDepth 100000 in
set_option maxHeartbeats 1000000 in
theorem titled_any (tv : Value) (l : List VTitle) (w : World) (h : RowsAt titleK w.heap.size w tv l) (hl : l.length ≤ 1000000) :
    Calls Tryz.prog 33 #[tv] w fun e w' => e = .returned (.bool (titledB l)) ∧ Below w.heap.size w w' := by
  have HC := Lib.hid (has_title 62 #[] (enters_of Tryz.func62 (by kernel_rfl) rfl) tv l w (fun t => !titleB t) h hl (fun W x hb => by simpa using wrong_any x W))
  obtain ⟨a, c, rfl, hlc, hcm⟩ := h.shape
  have hE : titledB l = (l.all titleB && decide (l.length ≤ 40)) := rfl
  clear h
  by_cases h4 : l.length ≤ 40
  · have d : decide ((l.length : Int) ≤ 40) = true := decide_eq_true (by omega)
    have HF : Hid (titledB l = !(l.any (fun t => !titleB t))) := by show _ = _; rw [hE, any_wrong, decide_eq_true h4, Bool.and_true, Bool.not_not]
    clear h4 hE
    go_enter Tryz.func33, Tryz.ntmps33
    go_wp2_with fail
    refine HC.out.mono ?_
    rintro e w1 ⟨rfl, hb⟩
    have HB := Lib.hid hb
    clear hb
    go_wp2
    go_ret
    exact ⟨by rw [HF.out]; try rfl, HB.out⟩
  · have d : decide ((l.length : Int) ≤ 40) = false := decide_eq_false (by omega)
    have HF : Hid (titledB l = false) := by show _ = _; rw [hE, decide_eq_false h4, Bool.and_false]
    clear h4 hE HC
    go_enter Tryz.func33, Tryz.ntmps33
    go_wp2
    go_ret
    exact ⟨by rw [HF.out]; try rfl, Below.refl _ _⟩
set_option maxRecDepth 100000 in
set_option maxHeartbeats 2000000 in
theorem gives_any (t : VTitle) (o u d : Int) (b1 b2 b3 : Nat) (w : World) (h1 : Boxed w b1 3 (.int .i64 u)) (h2 : Boxed w b2 3 (.int .i64 o)) (h3 : Boxed w b3 3 (.int .i64 d)) :
    Calls Tryz.prog 60 #[titleV t, .pointer (some ⟨b1, 0, none⟩), .pointer (some ⟨b2, 0, none⟩), .pointer (some ⟨b3, 0, none⟩)] w fun e w' => e = .returned (.bool (givesB o u d t)) ∧ Below w.heap.size w w' := by
  have HG : Hid (givesB o u d t = (decide (t.unit = u) && decide (t.owner = o) && decide (t.lo ≤ d) && decide (d < t.hi))) := rfl
  have c1 := (h1.alloc (.cells (titleR t) 97)).cell
  have c2 := (h2.alloc (.cells (titleR t) 97)).cell
  have c3 := (h3.alloc (.cells (titleR t) 97)).cell
  have HB : Hid (∀ o : Obj, Below w.heap.size w (w.alloc o)) := fun o => (Below.refl _ _).alloc (Nat.le_refl _) o
  clear h1 h2 h3
  by_cases e1 : t.unit = u
  rotate_left
  · have e1' : (t.unit == u) = false := beq_eq_false_iff_ne.2 e1
    have HF : Hid (givesB o u d t = false) := by show _ = _; rw [HG.out, decide_eq_false e1]; simp
    clear HG e1
    go_enter Tryz.func60, Tryz.ntmps60
    go_wp2
    go_ret
    exact ⟨by rw [HF.out]; try rfl, HB.out _⟩
  have e1' : (t.unit == u) = true := beq_iff_eq.2 e1
  have He1 := Lib.hid e1
  clear e1
  by_cases e2 : t.owner = o
  rotate_left
  · have e2' : (t.owner == o) = false := beq_eq_false_iff_ne.2 e2
    have HF : Hid (givesB o u d t = false) := by show _ = _; rw [HG.out, decide_eq_false e2]; simp
    clear HG e2
    go_enter Tryz.func60, Tryz.ntmps60
    go_wp2
    go_ret
    exact ⟨by rw [HF.out]; try rfl, HB.out _⟩
  have e2' : (t.owner == o) = true := beq_iff_eq.2 e2
  have He2 := Lib.hid e2
  clear e2
  by_cases e3 : t.lo ≤ d
  rotate_left
  · have e3' : decide (t.lo ≤ d) = false := decide_eq_false e3
    have HF : Hid (givesB o u d t = false) := by show _ = _; rw [HG.out, decide_eq_false e3]; simp
    clear HG e3
    go_enter Tryz.func60, Tryz.ntmps60
    go_wp2
    go_ret
    exact ⟨by rw [HF.out]; try rfl, HB.out _⟩
  have e3' : decide (t.lo ≤ d) = true := decide_eq_true e3
  have He3 := Lib.hid e3
  clear e3
  by_cases e4 : d < t.hi
  rotate_left
  · have e4' : decide (d < t.hi) = false := decide_eq_false e4
    have HF : Hid (givesB o u d t = false) := by show _ = _; rw [HG.out, decide_eq_false e4]; simp
    clear HG e4
    go_enter Tryz.func60, Tryz.ntmps60
    go_wp2
    go_ret
    exact ⟨by rw [HF.out]; try rfl, HB.out _⟩
  have e4' : decide (d < t.hi) = true := decide_eq_true e4
  have He4 := Lib.hid e4
  clear e4
  have HF : Hid (givesB o u d t = true) := by show _ = _; rw [HG.out, decide_eq_true He1.out, decide_eq_true He2.out, decide_eq_true He3.out, decide_eq_true He4.out]; rfl
  clear HG
  go_enter Tryz.func60, Tryz.ntmps60
  go_wp2
  go_ret
  exact ⟨by rw [HF.out]; try rfl, HB.out _⟩
set_option maxRecDepth 100000 in
set_option maxHeartbeats 1000000 in
theorem may_any (tv : Value) (l : List VTitle) (o u d : Int) (w : World) (h : RowsAt titleK w.heap.size w tv l) (hl : l.length ≤ 1000000) :
    Calls Tryz.prog 29 #[tv, .int .i64 o, .int .i64 u, .int .i64 d] w fun e w' => e = .returned (.bool (mayB l o u d)) ∧ Below w.heap.size w w' := by
  obtain ⟨W0, hW0⟩ : ∃ W0, W0 = ((w.alloc (.cells #[.int .i64 o] 3)).alloc (.cells #[.int .i64 u] 3)).alloc (.cells #[.int .i64 d] 3) := ⟨_, rfl⟩
  have hb0 : Below w.heap.size w W0 := by rw [hW0]; exact (((Below.refl _ _).alloc (Nat.le_refl _) _).alloc (by simp) _).alloc (by simp; omega) _
  have k1 : Boxed W0 w.heap.size 3 (.int .i64 o) := by rw [hW0]; exact ((Boxed.new w _ _).alloc _).alloc _
  have k2 : Boxed W0 (w.heap.size + 1) 3 (.int .i64 u) := by
    have := Boxed.new (w.alloc (.cells #[.int .i64 o] 3)) 3 (.int .i64 u)
    rw [World.size_alloc] at this
    rw [hW0]; exact this.alloc _
  have k3 : Boxed W0 (w.heap.size + 2) 3 (.int .i64 d) := by
    have := Boxed.new ((w.alloc (.cells #[.int .i64 o] 3)).alloc (.cells #[.int .i64 u] 3)) 3 (.int .i64 d)
    rw [World.size_alloc, World.size_alloc] at this
    rw [hW0]; exact this
  have HB0 := Lib.hid hb0
  have hT := titled_any tv l W0 (h.later hb0 (Nat.le_refl _)) hl
  have HH := Lib.hid (fun W (hb : Below W0.heap.size W0 W) => has_title 60 #[.pointer (some ⟨w.heap.size + 1, 0, none⟩), .pointer (some ⟨w.heap.size, 0, none⟩), .pointer (some ⟨w.heap.size + 2, 0, none⟩)] (enters_of Tryz.func60 (by kernel_rfl) rfl) tv l W (givesB o u d)
    (h.later (hb0.trans (hb.mono hb0.size)) (Nat.le_refl _)) hl (fun W2 x hb2 => gives_any x o u d _ _ _ W2 (((hb2.block _ (Nat.lt_of_lt_of_le k2.lt hb.size)).trans (hb.block _ k2.lt)).trans k2) (((hb2.block _ (Nat.lt_of_lt_of_le k1.lt hb.size)).trans (hb.block _ k1.lt)).trans k1) (((hb2.block _ (Nat.lt_of_lt_of_le k3.lt hb.size)).trans (hb.block _ k3.lt)).trans k3)))
  have hE : mayB l o u d = (titledB l && l.any (givesB o u d)) := rfl
  obtain ⟨a, c, rfl, hlc, hcm⟩ := h.shape
  have HW0 := Lib.hid hW0
  clear h hb0 k1 k2 k3 hW0
  cases ht : titledB l
  · rw [ht] at hT hE
    have HT := Lib.hid hT
    have HF : Hid (mayB l o u d = false) := by show _ = _; rw [hE]; rfl
    clear ht hT hE HH
    go_enter Tryz.func29, Tryz.ntmps29
    go_wp2_with fail
    rw [← HW0.out]
    refine HT.out.mono ?_
    rintro e w1 ⟨rfl, hb⟩
    have HB := Lib.hid (HB0.out.trans (hb.mono HB0.out.size))
    clear hb HW0
    go_wp2
    go_ret
    exact ⟨by rw [HF.out]; try rfl, HB.out⟩
  · rw [ht] at hT hE
    have HT := Lib.hid hT
    have HF : Hid (mayB l o u d = l.any (givesB o u d)) := by show _ = _; rw [hE]; rfl
    clear ht hT hE
    go_enter Tryz.func29, Tryz.ntmps29
    go_wp2_with fail
    rw [← HW0.out]
    refine HT.out.mono ?_
    rintro e w1 ⟨rfl, hb⟩
    have HB1 := Lib.hid hb
    clear hb HW0
    go_wp2_with fail
    refine (HH.out w1 HB1.out).mono ?_
    rintro e w2 ⟨rfl, hb⟩
    have HB := Lib.hid (HB0.out.trans ((HB1.out.trans (hb.mono HB1.out.size)).mono HB0.out.size))
    clear hb HH
    go_wp2
    go_ret
    exact ⟨by rw [HF.out]; try rfl, HB.out⟩
end Go.Proofs.YteicimmdcdjagaaGreatDoor
