/- The walk of sane. -/
import Derived.Test.YtmihkbiihfhpoaaDoorJSane
namespace Go.Proofs.YtmihkbiihfhpoaaDoor
open Go.RowKit Go.Shelf

theorem ev1 : setB exT 3 = true ∧ holdsL exT 3 = [0, 1, 3, 4, 5] := by decide +kernel
theorem ev2 : setB exT 4 = true ∧ holdsL exT 4 = [2, 3, 4] := by decide +kernel
theorem ev3 : whyB exT 3 5 = true ∧ whyL exT 3 5 = [0, 2, 3] := by decide +kernel
theorem ev4 : whyB exT 4 5 = false ∧ whyL exT 4 5 = [] := by decide +kernel
theorem ev5 : suppB exT 4 = true ∧ suppL exT 4 = [3, 4] ∧ cutL exT 4 = [5, 6] := by decide +kernel
theorem ev6 : suppB exT 5 = true ∧ suppL exT 5 = [3, 5] ∧ cutL exT 5 = [1, 6] := by decide +kernel
theorem ev7 : retB exT 7 0 = true ∧ retractL exT 7 0 = [0, 5] := by decide +kernel
theorem ev8 : coreV exT 7 4 = 4 := by decide +kernel
theorem ev9 : setB exT 8 = false := by decide +kernel
theorem ev10 : checkB exT 3 5 [0, 2, 3] = true ∧ checkB exT 1 0 [] = true ∧ checkB exT 3 5 [2, 0, 3] = false ∧ checkB exT 4 5 [1, 2, 3] = false := by decide +kernel
theorem ev11 : validB exT = true ∧ validB ⟨13, 0, []⟩ = false := by decide +kernel

/-- What a world of the examples bears. -/
def SaneI (w0 : World) (T : Nat) (rv : Value) (W : World) : Prop := ThBox W T 3 3 rv ∧ RulesAt W.heap.size W rv exRules ∧ Tabs W ∧ Below w0.heap.size w0 W
theorem SaneI.below {w0 : World} {T : Nat} {rv : Value} {W W' : World} (h : SaneI w0 T rv W) (hb : Below W.heap.size W W') : SaneI w0 T rv W' :=
  ⟨h.1.below hb h.1.lt, h.2.1.later hb (Nat.le_refl _), h.2.2.1.below hb h.2.2.1.2, h.2.2.2.trans (hb.mono h.2.2.2.size)⟩
theorem SaneI.alloc {w0 : World} {T : Nat} {rv : Value} {W : World} (h : SaneI w0 T rv W) (o : Obj) : SaneI w0 T rv (W.alloc o) := h.below ((Below.refl _ _).alloc (Nat.le_refl _) o)
/-- A result that is a list, and an errno or a bool beside it. -/
def RetL (W : World) (x : Value) (l : List Int) (e : Ending) (w' : World) : Prop := ∃ v, e = .returned (.tuple #[v, x]) ∧ IntsAt w'.heap.size w' v l ∧ Below W.heap.size W w'
def RetB (W : World) (b : Bool) (e : Ending) (w' : World) : Prop := e = .returned (.bool b) ∧ Below W.heap.size W w'
section
variable {w0 W : World} {T : Nat} {rv : Value}
theorem ex_holds (h : SaneI w0 T rv W) (z : Int) (b : Bool) (l : List Int) (hb : setB exT z = b) (hl : holdsL exT z = l) : Calls Tryd.prog 17 #[thV 3 3 rv, .int .i64 z] W (RetL W (.int .i64 (errOf b)) l) := by
  subst hb hl
  refine (holds_any exT rv z W h.2.1 h.2.2.1).mono ?_
  rintro e w' ⟨v, rfl, ho, hb⟩
  exact ⟨v, rfl, ho.ints, hb⟩
theorem ex_why (h : SaneI w0 T rv W) (z k : Int) (b : Bool) (l : List Int) (hb : whyB exT z k = b) (hl : whyL exT z k = l) : Calls Tryd.prog 24 #[thV 3 3 rv, .int .i64 z, .int .i64 k] W (RetL W (.bool b) l) := by
  subst hb hl
  exact why_any exT rv z k W h.2.1
theorem ex_supp (h : SaneI w0 T rv W) (k : Int) (l : List Int) (hb : suppB exT k = true) (hl : suppL exT k = l) : Calls Tryd.prog 28 #[thV 3 3 rv, .int .i64 k] W (RetL W (.int .i64 0) l) := by
  subst hl
  refine (supports_any exT rv k W h.2.1).mono ?_
  rintro e w' ⟨v, rfl, ho, hb'⟩
  exact ⟨v, by rw [hb]; rfl, ho.ints, hb'⟩
theorem ex_cuts (h : SaneI w0 T rv W) (k : Int) (l : List Int) (hb : suppB exT k = true) (hl : cutL exT k = l) : Calls Tryd.prog 30 #[thV 3 3 rv, .int .i64 k] W (RetL W (.int .i64 0) l) := by
  subst hl
  refine (cuts_any exT rv k W h.2.1).mono ?_
  rintro e w' ⟨v, rfl, ho, hb'⟩
  exact ⟨v, by rw [hb]; rfl, ho.ints, hb'⟩
theorem ex_ret (h : SaneI w0 T rv W) (z k : Int) (l : List Int) (hb : retB exT z k = true) (hl : retractL exT z k = l) : Calls Tryd.prog 22 #[thV 3 3 rv, .int .i64 z, .int .i64 k] W (RetL W (.int .i64 0) l) := by
  subst hl
  refine (retract_any exT rv z k W h.2.1 h.2.2.1).mono ?_
  rintro e w' ⟨v, rfl, ho, hb'⟩
  exact ⟨v, by rw [hb]; rfl, ho.ints, hb'⟩
theorem ex_core (h : SaneI w0 T rv W) : Calls Tryd.prog 20 #[thV 3 3 rv, .int .i64 7, .int .i64 4] W fun e w' => e = .returned (.tuple #[.int .i64 4, .bool true]) ∧ Below W.heap.size W w' := by
  refine (core_any exT rv 7 4 W h.2.1).mono ?_
  rintro e w' ⟨rfl, hb'⟩
  exact ⟨by rw [ev8]; rfl, hb'⟩
theorem ex_check (h : SaneI w0 T rv W) (z k : Int) (v : Value) (l : List Int) (b : Bool) (hv : IntsAt W.heap.size W v l) (hb : checkB exT z k l = b) : Calls Tryd.prog 26 #[thV 3 3 rv, .int .i64 z, .int .i64 k, v] W (RetB W b) := by
  subst hb
  exact check_any exT rv v z k l W h.2.1 hv
theorem ex_valid (h : SaneI w0 T rv W) : Calls Tryd.prog 14 #[thV 3 3 rv] W (RetB W true) := by
  refine (valid_any exT rv W h.2.1).mono ?_
  rintro e w' ⟨rfl, hb'⟩
  exact ⟨by rw [ev11.1], hb'⟩
theorem ex_not : Calls Tryd.prog 14 #[thV 13 0 (.slice none 0 0)] W (RetB W false) := by
  refine (valid_any ⟨13, 0, []⟩ (.slice none 0 0) W (RulesAt.nil _ _)).mono ?_
  rintro e w' ⟨rfl, hb'⟩
  exact ⟨by rw [ev11.2], hb'⟩
theorem ex_ints (v u : Value) (l k : List Int) (hl : IntsAt W.heap.size W v l) (hk : IntsAt W.heap.size W u k) (h : (l == k) = true) : Calls Tryd.prog 19 #[v, u] W (RetB W true) := by
  have := ints_any v u l k W hl hk
  rw [h] at this
  exact this
end

set_option maxRecDepth 100000 in
set_option maxHeartbeats 8000000 in
theorem sane_any (w : World) (hT : Tabs w) :
    Calls Tryd.prog 10 #[] w fun e w' => e = .returned (.bool true) ∧ Below w.heap.size w w' := by
  have HT := Lib.hid hT
  clear hT
  go_enter Tryd.func10, Tryd.ntmps10
  go_wp2_with fail
  refine (example_any _).mono ?_
  rintro e w1 ⟨rv, rfl, hR1, hb1⟩
  obtain ⟨ra, rc, hrv, _, _⟩ := hR1.shape
  have HS : Hid (SaneI w w1.heap.size rv (w1.alloc (.cells #[.int .i64 3, .int .i64 3, rv] 25))) := ⟨ThBox.new _ _ _ _, hR1.later ((Below.refl _ _).alloc (Nat.le_refl _) _) (Nat.le_refl _), (HT.out.below hb1 HT.out.2).below ((Below.refl w1.heap.size w1).alloc (Nat.le_refl _) _) (by have := HT.out.2; have := hb1.size; omega), hb1.alloc hb1.size _⟩
  subst hrv
  clear hR1 hb1
  have c0 := HS.out.1.c0
  have c1 := HS.out.1.c1
  have c2 := HS.out.1.c2
  go_wp2_with fail
  clear c0 c1 c2
  refine (ex_holds HS.out 3 true [0, 1, 3, 4, 5] ev1.1 ev1.2).mono ?_
  rintro e w2 ⟨v2, rfl, hi2, hb2⟩
  replace HS := Lib.hid (HS.out.below hb2)
  have Ha := Lib.hid hi2
  clear hi2
  obtain ⟨aaa, qqa, ssa, _, _⟩ := Ha.out.shape
  subst ssa
  clear hb2
  have c0 := HS.out.1.c0
  have c1 := HS.out.1.c1
  have c2 := HS.out.1.c2
  go_wp2_with fail
  clear c0 c1 c2
  refine (ex_holds HS.out 4 true [2, 3, 4] ev2.1 ev2.2).mono ?_
  rintro e w3 ⟨v3, rfl, hi3, hb3⟩
  replace HS := Lib.hid (HS.out.below hb3)
  replace Ha := Lib.hid (Ha.out.later hb3 (Nat.le_refl _))
  have Hb := Lib.hid hi3
  clear hi3
  obtain ⟨aab, qqb, ssb, _, _⟩ := Hb.out.shape
  subst ssb
  clear hb3
  have c0 := HS.out.1.c0
  have c1 := HS.out.1.c1
  have c2 := HS.out.1.c2
  go_wp2_with fail
  clear c0 c1 c2
  refine (ex_why HS.out 3 5 true [0, 2, 3] ev3.1 ev3.2).mono ?_
  rintro e w4 ⟨v4, rfl, hi4, hb4⟩
  replace HS := Lib.hid (HS.out.below hb4)
  replace Ha := Lib.hid (Ha.out.later hb4 (Nat.le_refl _))
  replace Hb := Lib.hid (Hb.out.later hb4 (Nat.le_refl _))
  have Hl := Lib.hid hi4
  clear hi4
  obtain ⟨aal, qql, ssl, _, _⟩ := Hl.out.shape
  subst ssl
  clear hb4
  have c0 := HS.out.1.c0
  have c1 := HS.out.1.c1
  have c2 := HS.out.1.c2
  go_wp2_with fail
  clear c0 c1 c2
  refine (ex_why HS.out 4 5 false [] ev4.1 ev4.2).mono ?_
  rintro e w5 ⟨v5, rfl, hi5, hb5⟩
  replace HS := Lib.hid (HS.out.below hb5)
  replace Ha := Lib.hid (Ha.out.later hb5 (Nat.le_refl _))
  replace Hb := Lib.hid (Hb.out.later hb5 (Nat.le_refl _))
  replace Hl := Lib.hid (Hl.out.later hb5 (Nat.le_refl _))
  obtain ⟨az5, qz5, sz5, _, _⟩ := hi5.shape
  subst sz5
  clear hi5
  clear hb5
  have c0 := HS.out.1.c0
  have c1 := HS.out.1.c1
  have c2 := HS.out.1.c2
  go_wp2_with fail
  clear c0 c1 c2
  refine (ex_supp HS.out 4 [3, 4] ev5.1 ev5.2.1).mono ?_
  rintro e w6 ⟨v6, rfl, hi6, hb6⟩
  replace HS := Lib.hid (HS.out.below hb6)
  replace Ha := Lib.hid (Ha.out.later hb6 (Nat.le_refl _))
  replace Hb := Lib.hid (Hb.out.later hb6 (Nat.le_refl _))
  replace Hl := Lib.hid (Hl.out.later hb6 (Nat.le_refl _))
  have Hs := Lib.hid hi6
  clear hi6
  obtain ⟨aas, qqs, sss, _, _⟩ := Hs.out.shape
  subst sss
  clear hb6
  have c0 := HS.out.1.c0
  have c1 := HS.out.1.c1
  have c2 := HS.out.1.c2
  go_wp2_with fail
  clear c0 c1 c2
  refine (ex_supp HS.out 5 [3, 5] ev6.1 ev6.2.1).mono ?_
  rintro e w7 ⟨v7, rfl, hi7, hb7⟩
  replace HS := Lib.hid (HS.out.below hb7)
  replace Ha := Lib.hid (Ha.out.later hb7 (Nat.le_refl _))
  replace Hb := Lib.hid (Hb.out.later hb7 (Nat.le_refl _))
  replace Hl := Lib.hid (Hl.out.later hb7 (Nat.le_refl _))
  replace Hs := Lib.hid (Hs.out.later hb7 (Nat.le_refl _))
  have Hu := Lib.hid hi7
  clear hi7
  obtain ⟨aau, qqu, ssu, _, _⟩ := Hu.out.shape
  subst ssu
  clear hb7
  have c0 := HS.out.1.c0
  have c1 := HS.out.1.c1
  have c2 := HS.out.1.c2
  go_wp2_with fail
  clear c0 c1 c2
  refine (ex_cuts HS.out 4 [5, 6] ev5.1 ev5.2.2).mono ?_
  rintro e w8 ⟨v8, rfl, hi8, hb8⟩
  replace HS := Lib.hid (HS.out.below hb8)
  replace Ha := Lib.hid (Ha.out.later hb8 (Nat.le_refl _))
  replace Hb := Lib.hid (Hb.out.later hb8 (Nat.le_refl _))
  replace Hl := Lib.hid (Hl.out.later hb8 (Nat.le_refl _))
  replace Hs := Lib.hid (Hs.out.later hb8 (Nat.le_refl _))
  replace Hu := Lib.hid (Hu.out.later hb8 (Nat.le_refl _))
  have Hc := Lib.hid hi8
  clear hi8
  obtain ⟨aac, qqc, ssc, _, _⟩ := Hc.out.shape
  subst ssc
  clear hb8
  have c0 := HS.out.1.c0
  have c1 := HS.out.1.c1
  have c2 := HS.out.1.c2
  go_wp2_with fail
  clear c0 c1 c2
  refine (ex_cuts HS.out 5 [1, 6] ev6.1 ev6.2.2).mono ?_
  rintro e w9 ⟨v9, rfl, hi9, hb9⟩
  replace HS := Lib.hid (HS.out.below hb9)
  replace Ha := Lib.hid (Ha.out.later hb9 (Nat.le_refl _))
  replace Hb := Lib.hid (Hb.out.later hb9 (Nat.le_refl _))
  replace Hl := Lib.hid (Hl.out.later hb9 (Nat.le_refl _))
  replace Hs := Lib.hid (Hs.out.later hb9 (Nat.le_refl _))
  replace Hu := Lib.hid (Hu.out.later hb9 (Nat.le_refl _))
  replace Hc := Lib.hid (Hc.out.later hb9 (Nat.le_refl _))
  have Hd := Lib.hid hi9
  clear hi9
  obtain ⟨aad, qqd, ssd, _, _⟩ := Hd.out.shape
  subst ssd
  clear hb9
  have c0 := HS.out.1.c0
  have c1 := HS.out.1.c1
  have c2 := HS.out.1.c2
  go_wp2_with fail
  clear c0 c1 c2
  refine (ex_ret HS.out 7 0 [0, 5] ev7.1 ev7.2).mono ?_
  rintro e w10 ⟨v10, rfl, hi10, hb10⟩
  replace HS := Lib.hid (HS.out.below hb10)
  replace Ha := Lib.hid (Ha.out.later hb10 (Nat.le_refl _))
  replace Hb := Lib.hid (Hb.out.later hb10 (Nat.le_refl _))
  replace Hl := Lib.hid (Hl.out.later hb10 (Nat.le_refl _))
  replace Hs := Lib.hid (Hs.out.later hb10 (Nat.le_refl _))
  replace Hu := Lib.hid (Hu.out.later hb10 (Nat.le_refl _))
  replace Hc := Lib.hid (Hc.out.later hb10 (Nat.le_refl _))
  replace Hd := Lib.hid (Hd.out.later hb10 (Nat.le_refl _))
  have Hr := Lib.hid hi10
  clear hi10
  obtain ⟨aar, qqr, ssr, _, _⟩ := Hr.out.shape
  subst ssr
  clear hb10
  have c0 := HS.out.1.c0
  have c1 := HS.out.1.c1
  have c2 := HS.out.1.c2
  go_wp2_with fail
  clear c0 c1 c2
  refine (ex_core HS.out).mono ?_
  rintro e w11 ⟨rfl, hb11⟩
  replace HS := Lib.hid (HS.out.below hb11)
  replace Ha := Lib.hid (Ha.out.later hb11 (Nat.le_refl _))
  replace Hb := Lib.hid (Hb.out.later hb11 (Nat.le_refl _))
  replace Hl := Lib.hid (Hl.out.later hb11 (Nat.le_refl _))
  replace Hs := Lib.hid (Hs.out.later hb11 (Nat.le_refl _))
  replace Hu := Lib.hid (Hu.out.later hb11 (Nat.le_refl _))
  replace Hc := Lib.hid (Hc.out.later hb11 (Nat.le_refl _))
  replace Hd := Lib.hid (Hd.out.later hb11 (Nat.le_refl _))
  replace Hr := Lib.hid (Hr.out.later hb11 (Nat.le_refl _))
  clear hb11
  have c0 := HS.out.1.c0
  have c1 := HS.out.1.c1
  have c2 := HS.out.1.c2
  go_wp2_with fail
  clear c0 c1 c2
  refine (ex_holds HS.out 8 false [] ev9 (by unfold holdsL; rw [ev9]; rfl)).mono ?_
  rintro e w12 ⟨v12, rfl, hi12, hb12⟩
  replace HS := Lib.hid (HS.out.below hb12)
  replace Ha := Lib.hid (Ha.out.later hb12 (Nat.le_refl _))
  replace Hb := Lib.hid (Hb.out.later hb12 (Nat.le_refl _))
  replace Hl := Lib.hid (Hl.out.later hb12 (Nat.le_refl _))
  replace Hs := Lib.hid (Hs.out.later hb12 (Nat.le_refl _))
  replace Hu := Lib.hid (Hu.out.later hb12 (Nat.le_refl _))
  replace Hc := Lib.hid (Hc.out.later hb12 (Nat.le_refl _))
  replace Hd := Lib.hid (Hd.out.later hb12 (Nat.le_refl _))
  replace Hr := Lib.hid (Hr.out.later hb12 (Nat.le_refl _))
  obtain ⟨az12, qz12, sz12, _, _⟩ := hi12.shape
  subst sz12
  clear hi12
  clear hb12
  have e0 : errOf true = 0 := rfl
  have e1 : errOf false = 230 := rfl
  have c0 := HS.out.1.c0
  have c1 := HS.out.1.c1
  have c2 := HS.out.1.c2
  go_wp2_with fail
  clear c0 c1 c2
  replace HS := Lib.hid (HS.out.alloc (.cells (List.map (Value.int .i64) [0, 1, 3, 4, 5]).toArray 3))
  replace Ha := Lib.hid (Ha.out.alloc (.cells (List.map (Value.int .i64) [0, 1, 3, 4, 5]).toArray 3))
  replace Hb := Lib.hid (Hb.out.alloc (.cells (List.map (Value.int .i64) [0, 1, 3, 4, 5]).toArray 3))
  replace Hl := Lib.hid (Hl.out.alloc (.cells (List.map (Value.int .i64) [0, 1, 3, 4, 5]).toArray 3))
  replace Hs := Lib.hid (Hs.out.alloc (.cells (List.map (Value.int .i64) [0, 1, 3, 4, 5]).toArray 3))
  replace Hu := Lib.hid (Hu.out.alloc (.cells (List.map (Value.int .i64) [0, 1, 3, 4, 5]).toArray 3))
  replace Hc := Lib.hid (Hc.out.alloc (.cells (List.map (Value.int .i64) [0, 1, 3, 4, 5]).toArray 3))
  replace Hd := Lib.hid (Hd.out.alloc (.cells (List.map (Value.int .i64) [0, 1, 3, 4, 5]).toArray 3))
  replace Hr := Lib.hid (Hr.out.alloc (.cells (List.map (Value.int .i64) [0, 1, 3, 4, 5]).toArray 3))
  refine (ex_ints _ _ _ [0, 1, 3, 4, 5] Ha.out (ints_lit _ [0, 1, 3, 4, 5] (by decide)) (by decide)).mono ?_
  rintro e w13 ⟨rfl, hb13⟩
  replace HS := Lib.hid (HS.out.below hb13)
  replace Hb := Lib.hid (Hb.out.later hb13 (Nat.le_refl _))
  replace Hl := Lib.hid (Hl.out.later hb13 (Nat.le_refl _))
  replace Hs := Lib.hid (Hs.out.later hb13 (Nat.le_refl _))
  replace Hu := Lib.hid (Hu.out.later hb13 (Nat.le_refl _))
  replace Hc := Lib.hid (Hc.out.later hb13 (Nat.le_refl _))
  replace Hd := Lib.hid (Hd.out.later hb13 (Nat.le_refl _))
  replace Hr := Lib.hid (Hr.out.later hb13 (Nat.le_refl _))
  clear hb13
  have c0 := HS.out.1.c0
  have c1 := HS.out.1.c1
  have c2 := HS.out.1.c2
  go_wp2_with fail
  clear c0 c1 c2
  replace HS := Lib.hid (HS.out.alloc (.cells (List.map (Value.int .i64) [2, 3, 4]).toArray 3))
  replace Hb := Lib.hid (Hb.out.alloc (.cells (List.map (Value.int .i64) [2, 3, 4]).toArray 3))
  replace Hl := Lib.hid (Hl.out.alloc (.cells (List.map (Value.int .i64) [2, 3, 4]).toArray 3))
  replace Hs := Lib.hid (Hs.out.alloc (.cells (List.map (Value.int .i64) [2, 3, 4]).toArray 3))
  replace Hu := Lib.hid (Hu.out.alloc (.cells (List.map (Value.int .i64) [2, 3, 4]).toArray 3))
  replace Hc := Lib.hid (Hc.out.alloc (.cells (List.map (Value.int .i64) [2, 3, 4]).toArray 3))
  replace Hd := Lib.hid (Hd.out.alloc (.cells (List.map (Value.int .i64) [2, 3, 4]).toArray 3))
  replace Hr := Lib.hid (Hr.out.alloc (.cells (List.map (Value.int .i64) [2, 3, 4]).toArray 3))
  refine (ex_ints _ _ _ [2, 3, 4] Hb.out (ints_lit _ [2, 3, 4] (by decide)) (by decide)).mono ?_
  rintro e w14 ⟨rfl, hb14⟩
  replace HS := Lib.hid (HS.out.below hb14)
  replace Hl := Lib.hid (Hl.out.later hb14 (Nat.le_refl _))
  replace Hs := Lib.hid (Hs.out.later hb14 (Nat.le_refl _))
  replace Hu := Lib.hid (Hu.out.later hb14 (Nat.le_refl _))
  replace Hc := Lib.hid (Hc.out.later hb14 (Nat.le_refl _))
  replace Hd := Lib.hid (Hd.out.later hb14 (Nat.le_refl _))
  replace Hr := Lib.hid (Hr.out.later hb14 (Nat.le_refl _))
  clear hb14
  have c0 := HS.out.1.c0
  have c1 := HS.out.1.c1
  have c2 := HS.out.1.c2
  go_wp2_with fail
  clear c0 c1 c2
  replace HS := Lib.hid (HS.out.alloc (.cells (List.map (Value.int .i64) [0, 2, 3]).toArray 3))
  replace Hl := Lib.hid (Hl.out.alloc (.cells (List.map (Value.int .i64) [0, 2, 3]).toArray 3))
  replace Hs := Lib.hid (Hs.out.alloc (.cells (List.map (Value.int .i64) [0, 2, 3]).toArray 3))
  replace Hu := Lib.hid (Hu.out.alloc (.cells (List.map (Value.int .i64) [0, 2, 3]).toArray 3))
  replace Hc := Lib.hid (Hc.out.alloc (.cells (List.map (Value.int .i64) [0, 2, 3]).toArray 3))
  replace Hd := Lib.hid (Hd.out.alloc (.cells (List.map (Value.int .i64) [0, 2, 3]).toArray 3))
  replace Hr := Lib.hid (Hr.out.alloc (.cells (List.map (Value.int .i64) [0, 2, 3]).toArray 3))
  refine (ex_ints _ _ _ [0, 2, 3] Hl.out (ints_lit _ [0, 2, 3] (by decide)) (by decide)).mono ?_
  rintro e w15 ⟨rfl, hb15⟩
  replace HS := Lib.hid (HS.out.below hb15)
  replace Hs := Lib.hid (Hs.out.later hb15 (Nat.le_refl _))
  replace Hu := Lib.hid (Hu.out.later hb15 (Nat.le_refl _))
  replace Hc := Lib.hid (Hc.out.later hb15 (Nat.le_refl _))
  replace Hd := Lib.hid (Hd.out.later hb15 (Nat.le_refl _))
  replace Hr := Lib.hid (Hr.out.later hb15 (Nat.le_refl _))
  clear hb15
  have c0 := HS.out.1.c0
  have c1 := HS.out.1.c1
  have c2 := HS.out.1.c2
  go_wp2_with fail
  clear c0 c1 c2
  replace HS := Lib.hid (HS.out.alloc (.cells (List.map (Value.int .i64) [3, 4]).toArray 3))
  replace Hs := Lib.hid (Hs.out.alloc (.cells (List.map (Value.int .i64) [3, 4]).toArray 3))
  replace Hu := Lib.hid (Hu.out.alloc (.cells (List.map (Value.int .i64) [3, 4]).toArray 3))
  replace Hc := Lib.hid (Hc.out.alloc (.cells (List.map (Value.int .i64) [3, 4]).toArray 3))
  replace Hd := Lib.hid (Hd.out.alloc (.cells (List.map (Value.int .i64) [3, 4]).toArray 3))
  replace Hr := Lib.hid (Hr.out.alloc (.cells (List.map (Value.int .i64) [3, 4]).toArray 3))
  refine (ex_ints _ _ _ [3, 4] Hs.out (ints_lit _ [3, 4] (by decide)) (by decide)).mono ?_
  rintro e w16 ⟨rfl, hb16⟩
  replace HS := Lib.hid (HS.out.below hb16)
  replace Hu := Lib.hid (Hu.out.later hb16 (Nat.le_refl _))
  replace Hc := Lib.hid (Hc.out.later hb16 (Nat.le_refl _))
  replace Hd := Lib.hid (Hd.out.later hb16 (Nat.le_refl _))
  replace Hr := Lib.hid (Hr.out.later hb16 (Nat.le_refl _))
  clear hb16
  have c0 := HS.out.1.c0
  have c1 := HS.out.1.c1
  have c2 := HS.out.1.c2
  go_wp2_with fail
  clear c0 c1 c2
  replace HS := Lib.hid (HS.out.alloc (.cells (List.map (Value.int .i64) [3, 5]).toArray 3))
  replace Hu := Lib.hid (Hu.out.alloc (.cells (List.map (Value.int .i64) [3, 5]).toArray 3))
  replace Hc := Lib.hid (Hc.out.alloc (.cells (List.map (Value.int .i64) [3, 5]).toArray 3))
  replace Hd := Lib.hid (Hd.out.alloc (.cells (List.map (Value.int .i64) [3, 5]).toArray 3))
  replace Hr := Lib.hid (Hr.out.alloc (.cells (List.map (Value.int .i64) [3, 5]).toArray 3))
  refine (ex_ints _ _ _ [3, 5] Hu.out (ints_lit _ [3, 5] (by decide)) (by decide)).mono ?_
  rintro e w17 ⟨rfl, hb17⟩
  replace HS := Lib.hid (HS.out.below hb17)
  replace Hc := Lib.hid (Hc.out.later hb17 (Nat.le_refl _))
  replace Hd := Lib.hid (Hd.out.later hb17 (Nat.le_refl _))
  replace Hr := Lib.hid (Hr.out.later hb17 (Nat.le_refl _))
  clear hb17
  have c0 := HS.out.1.c0
  have c1 := HS.out.1.c1
  have c2 := HS.out.1.c2
  go_wp2_with fail
  clear c0 c1 c2
  replace HS := Lib.hid (HS.out.alloc (.cells (List.map (Value.int .i64) [5, 6]).toArray 3))
  replace Hc := Lib.hid (Hc.out.alloc (.cells (List.map (Value.int .i64) [5, 6]).toArray 3))
  replace Hd := Lib.hid (Hd.out.alloc (.cells (List.map (Value.int .i64) [5, 6]).toArray 3))
  replace Hr := Lib.hid (Hr.out.alloc (.cells (List.map (Value.int .i64) [5, 6]).toArray 3))
  refine (ex_ints _ _ _ [5, 6] Hc.out (ints_lit _ [5, 6] (by decide)) (by decide)).mono ?_
  rintro e w18 ⟨rfl, hb18⟩
  replace HS := Lib.hid (HS.out.below hb18)
  replace Hd := Lib.hid (Hd.out.later hb18 (Nat.le_refl _))
  replace Hr := Lib.hid (Hr.out.later hb18 (Nat.le_refl _))
  clear hb18
  have c0 := HS.out.1.c0
  have c1 := HS.out.1.c1
  have c2 := HS.out.1.c2
  go_wp2_with fail
  clear c0 c1 c2
  replace HS := Lib.hid (HS.out.alloc (.cells (List.map (Value.int .i64) [1, 6]).toArray 3))
  replace Hd := Lib.hid (Hd.out.alloc (.cells (List.map (Value.int .i64) [1, 6]).toArray 3))
  replace Hr := Lib.hid (Hr.out.alloc (.cells (List.map (Value.int .i64) [1, 6]).toArray 3))
  refine (ex_ints _ _ _ [1, 6] Hd.out (ints_lit _ [1, 6] (by decide)) (by decide)).mono ?_
  rintro e w19 ⟨rfl, hb19⟩
  replace HS := Lib.hid (HS.out.below hb19)
  replace Hr := Lib.hid (Hr.out.later hb19 (Nat.le_refl _))
  clear hb19
  have c0 := HS.out.1.c0
  have c1 := HS.out.1.c1
  have c2 := HS.out.1.c2
  go_wp2_with fail
  clear c0 c1 c2
  replace HS := Lib.hid (HS.out.alloc (.cells (List.map (Value.int .i64) [0, 5]).toArray 3))
  replace Hr := Lib.hid (Hr.out.alloc (.cells (List.map (Value.int .i64) [0, 5]).toArray 3))
  refine (ex_ints _ _ _ [0, 5] Hr.out (ints_lit _ [0, 5] (by decide)) (by decide)).mono ?_
  rintro e w20 ⟨rfl, hb20⟩
  replace HS := Lib.hid (HS.out.below hb20)
  clear hb20
  have c0 := HS.out.1.c0
  have c1 := HS.out.1.c1
  have c2 := HS.out.1.c2
  go_wp2_with fail
  clear c0 c1 c2
  replace HS := Lib.hid (HS.out.alloc (.cells (List.map (Value.int .i64) [0, 2, 3]).toArray 3))
  refine (ex_check HS.out 3 5 _ [0, 2, 3] true (ints_lit _ [0, 2, 3] (by decide)) ev10.1).mono ?_
  rintro e w21 ⟨rfl, hb21⟩
  replace HS := Lib.hid (HS.out.below hb21)
  clear hb21
  have c0 := HS.out.1.c0
  have c1 := HS.out.1.c1
  have c2 := HS.out.1.c2
  go_wp2_with fail
  clear c0 c1 c2
  refine (ex_check HS.out 1 0 _ [] true (IntsAt.nil _ _) ev10.2.1).mono ?_
  rintro e w22 ⟨rfl, hb22⟩
  replace HS := Lib.hid (HS.out.below hb22)
  clear hb22
  have c0 := HS.out.1.c0
  have c1 := HS.out.1.c1
  have c2 := HS.out.1.c2
  go_wp2_with fail
  clear c0 c1 c2
  replace HS := Lib.hid (HS.out.alloc (.cells (List.map (Value.int .i64) [2, 0, 3]).toArray 3))
  refine (ex_check HS.out 3 5 _ [2, 0, 3] false (ints_lit _ [2, 0, 3] (by decide)) ev10.2.2.1).mono ?_
  rintro e w23 ⟨rfl, hb23⟩
  replace HS := Lib.hid (HS.out.below hb23)
  clear hb23
  have c0 := HS.out.1.c0
  have c1 := HS.out.1.c1
  have c2 := HS.out.1.c2
  go_wp2_with fail
  clear c0 c1 c2
  replace HS := Lib.hid (HS.out.alloc (.cells (List.map (Value.int .i64) [1, 2, 3]).toArray 3))
  refine (ex_check HS.out 4 5 _ [1, 2, 3] false (ints_lit _ [1, 2, 3] (by decide)) ev10.2.2.2).mono ?_
  rintro e w24 ⟨rfl, hb24⟩
  replace HS := Lib.hid (HS.out.below hb24)
  clear hb24
  have c0 := HS.out.1.c0
  have c1 := HS.out.1.c1
  have c2 := HS.out.1.c2
  go_wp2_with fail
  clear c0 c1 c2
  refine (ex_valid HS.out).mono ?_
  rintro e w25 ⟨rfl, hb25⟩
  replace HS := Lib.hid (HS.out.below hb25)
  clear hb25
  have c0 := HS.out.1.c0
  have c1 := HS.out.1.c1
  have c2 := HS.out.1.c2
  go_wp2_with fail
  clear c0 c1 c2
  refine (ex_not).mono ?_
  rintro e w26 ⟨rfl, hb26⟩
  replace HS := Lib.hid (HS.out.below hb26)
  clear hb26
  go_wp2
  go_ret
  exact ⟨rfl, HS.out.2.2.2⟩
end Go.Proofs.YtmihkbiihfhpoaaDoor
