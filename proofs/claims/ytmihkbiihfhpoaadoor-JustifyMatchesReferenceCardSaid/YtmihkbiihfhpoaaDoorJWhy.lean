/- justify.Why. -/
import Derived.Test.YtmihkbiihfhpoaaDoorJDel
import Derived.Deep.QuietTactic
import Derived.BigQuiet
namespace Go.Proofs.YtmihkbiihfhpoaaDoor
open Go.RowKit Go.Shelf
attribute [local go_sem] i64_and1

theorem egw : ∀ args w, (callFunc 56 args).run Tryd.prog w = .ok (.enter 56 args) w := enters_of Tryd.func56 (by kernel_rfl) rfl
set_option maxRecDepth 100000 in
theorem why1_any (s d : Int) (rs : List JRule) (rv : Value) (k : Int) (j T K : Nat) (w : World) (hT : ThBox w T s d rv) (hK : w.cell? ⟨K, 0, none⟩ = some (.int .i64 k)) (hR : RulesAt w.heap.size w rv rs) (hj : j < rs.length) :
    Calls Tryd.prog 56 #[.int .i64 j, .pointer (some ⟨T, 0, none⟩), .pointer (some ⟨K, 0, none⟩)] w fun e w' => e = .returned (.bool ((rs.getD j default).gives == k)) ∧ Below w.heap.size w w' := by
  obtain ⟨a, c, rfl, hlc, hcm⟩ := hR.shape
  obtain ⟨b, off, nv, rfl, _, _, c2, _⟩ := hR.at j hj
  have c0 := hT.c2
  have hjj : (j : Int) < (rs.length : Int) := by omega
  clear hR hT
  unfold maxLen at hcm
  generalize (rs.getD j default).gives = g at *
  generalize rs.length = n at *
  go_enter Tryd.func56, Tryd.ntmps56
  go_wp2
  go_quiet (fail)
  go_wp2
  go_ret
  exact ⟨rfl, below_drewN (Below.refl _ _) _⟩

/-- A list up to the first rule that gives a thing. -/
def cutAt (rs : List JRule) (k : Int) (l : List Int) : List Int := l.take (l.findIdx (fun i => givesAt rs i == k) + 1)
def whyB (t : JTh) (z k : Int) : Bool := setB t z && thingB t k && bitB (hd t.rules z.toNat) k
def trimmed (s : Int) (rs : List JRule) (S : Nat) (k : Int) (l : List Int) : List Int := trimL (derivesB s rs S k) (l.length - 1) l
def whyL (t : JTh) (z k : Int) : List Int := if whyB t z k then if k < t.seen then [] else trimmed t.seen t.rules z.toNat k (cutAt t.rules k (heldF t.rules z.toNat).2) else []
theorem IntsAt.take {B : Nat} {w : World} {a : Option Addr} {n c : Nat} {l : List Int} (h : IntsAt B w (.slice a n c) l) (m : Nat) (hm : m ≤ l.length) : IntsAt B w (.slice a m c) (l.take m) := by
  obtain ⟨a', c', he, h1, h2, h3⟩ := h
  injection he with e1 e2 e3
  subst e1 e3
  have hl : (l.take m).length = m := by rw [List.length_take]; omega
  refine ⟨a, c, by rw [hl], by omega, h2, fun hp => ?_⟩
  obtain ⟨b, off, ha, hb, hc⟩ := h3 (by omega)
  refine ⟨b, off, ha, hb, fun i hi => ?_⟩
  rw [hc i (by omega), List.getD_eq_getElem?_getD, List.getD_eq_getElem?_getD, List.getElem?_take, if_pos (by omega)]
theorem findIdx_fst {α : Type} (p : α → Bool) (d : α) (l : List α) (i : Nat) (hi : i < l.length) (h : p (l.getD i d) = true) (hj : ∀ j, j < i → p (l.getD j d) = false) : l.findIdx p = i := by
  rw [List.findIdx_eq hi]
  constructor
  · rw [List.getD_eq_getElem?_getD, List.getElem?_eq_getElem hi] at h; exact h
  · intro j hj'
    have := hj j hj'
    rw [List.getD_eq_getElem?_getD, List.getElem?_eq_getElem (by omega)] at this
    exact this
/-- The thing is given by one of the rules that were found. -/
theorem held_gives {t : JTh} (hv : validB t = true) {S : Nat} (hS : S < 2 ^ t.seen.toNat) {k : Int} (hk : t.seen ≤ k) (hb : bitB (hd t.rules S) k = true) : ∃ i ∈ (heldF t.rules S).2, givesAt t.rules i = k := by
  have hg := valid_good hv
  have hst := heldF_steps t.rules S
  refine steps_new (by omega) _ S _ (fun i hi => ?_) hst ?_ hb
  · have := steps_in _ S _ hst i hi
    exact (hg.2.2.1.2 _ (getD_mem _ _ _ (by omega))).2.1
  · unfold bitB
    apply Nat.testBit_lt_two_pow
    exact Nat.lt_of_lt_of_le hS (Nat.pow_le_pow_right (by omega) (by omega))
theorem trimL_go (ok : List Int → Bool) (k : Nat) (l : List Int) : trimL ok (k + 1) l = if ok (l.eraseIdx k) then trimL ok k (l.eraseIdx k) else trimL ok k l := rfl
theorem why_fst {rs : List JRule} {k r : Int} {l : List Int} (hf : IsFst (fun i => givesAt rs (l.getD i 0) == k) l.length r) (hex : ∃ i ∈ l, givesAt rs i = k) : ∃ i : Nat, r = (i : Int) ∧ i < l.length ∧ cutAt rs k l = l.take (i + 1) := by
  rcases hf with ⟨i, h1, h2, h3, rfl⟩ | ⟨h1, _⟩
  · exact ⟨i, rfl, h1, by rw [cutAt, findIdx_fst _ 0 l i h1 h2 h3]⟩
  · obtain ⟨x, hx, hg⟩ := hex
    obtain ⟨j, hj, rfl⟩ := List.getElem_of_mem hx
    have := h1 j hj
    dsimp only at this
    rw [List.getD_eq_getElem?_getD, List.getElem?_eq_getElem hj] at this
    simp [hg] at this
/-- Why's search for the first rule that gives the thing. -/
theorem why_index (t : JTh) (rv vv : Value) (m n T K base : Nat) (w : World) (hR : RulesAt w.heap.size w rv t.rules) (hT : ThBox w T t.seen t.drawn rv) (hK : w.cell? ⟨K, 0, none⟩ = some (.int .i64 m)) (hKb : K < w.heap.size) (hown : OwnI base w vv (heldF t.rules n).2) :
    Calls Tryd.prog 55 #[vv, .func (.func 56) #[] #[.pointer (some ⟨T, 0, none⟩), .pointer (some ⟨K, 0, none⟩)]] w fun e w' => ∃ r, e = .returned (.int .i64 r) ∧ IsFst (fun i => givesAt t.rules ((heldF t.rules n).2.getD i 0) == (m : Int)) (heldF t.rules n).2.length r ∧ Below w.heap.size w w' := by
  have hst := heldF_steps t.rules n
  refine (indexFunc_int 56 #[.pointer (some ⟨T, 0, none⟩), .pointer (some ⟨K, 0, none⟩)] egw vv (heldF t.rules n).2 w (fun _ W' => Below w.heap.size w W') (fun i => givesAt t.rules ((heldF t.rules n).2.getD i 0) == (m : Int)) w.heap.size hown.ints (Below.refl _ _) (fun _ _ h => h) ?_).mono ?_
  · intro i W' hi hb
    have hin := steps_in _ n _ hst ((heldF t.rules n).2.getD i 0) (getD_mem _ _ _ hi)
    obtain ⟨j, hj⟩ := Int.eq_ofNat_of_zero_le hin.1
    show Calls _ _ (#[.int .i64 ((heldF t.rules n).2.getD i 0), .pointer (some ⟨T, 0, none⟩), .pointer (some ⟨K, 0, none⟩)]) _ _
    unfold givesAt
    rw [hj] at hin ⊢
    rw [Int.toNat_natCast]
    refine (why1_any t.seen t.drawn t.rules rv m j T K W' (hT.below hb hT.lt) ((hb.cell (p := ⟨K, 0, none⟩) hKb).trans hK) (hR.later hb (Nat.le_refl _)) (by omega)).mono ?_
    rintro e w' ⟨rfl, hb'⟩
    exact ⟨rfl, hb.trans (hb'.mono hb.size)⟩
  · rintro e w' ⟨r, rfl, hf, _, hb⟩
    exact ⟨r, rfl, hf, hb⟩

set_option maxRecDepth 100000 in
set_option maxHeartbeats 2000000 in
theorem why_any (t : JTh) (rv : Value) (z k : Int) (w : World) (hR : RulesAt w.heap.size w rv t.rules) :
    Calls Tryd.prog 24 #[thV t.seen t.drawn rv, .int .i64 z, .int .i64 k] w fun e w' => ∃ v, e = .returned (.tuple #[v, .bool (whyB t z k)]) ∧ IntsAt w'.heap.size w' v (whyL t z k) ∧ Below w.heap.size w w' := by
  obtain ⟨ra, rc, rfl, _, _⟩ := hR.shape
  obtain ⟨W, hW⟩ : ∃ W, W = (w.alloc (.cells #[.int .i64 t.seen, .int .i64 t.drawn, .slice ra t.rules.length rc] 25)).alloc (.cells #[.int .i64 k] 3) := ⟨_, rfl⟩
  have hb0 : Below w.heap.size w W := by rw [hW]; exact ((Below.refl _ _).alloc (Nat.le_refl _) _).alloc (by simp) _
  have hsz : W.heap.size = w.heap.size + 2 := by rw [hW]; simp
  have hTb : ThBox W w.heap.size t.seen t.drawn (.slice ra t.rules.length rc) := by
    rw [hW]
    exact (ThBox.new w t.seen t.drawn (.slice ra t.rules.length rc)).below ((Below.refl (w.heap.size + 1) _).alloc (by simp) _) (by omega)
  have hKb : W.cell? ⟨w.heap.size + 1, 0, none⟩ = some (.int .i64 k) := by rw [hW]; simp
  have HR := Lib.hid (hR.later hb0 (Nat.le_refl _))
  have HB0 := Lib.hid hb0
  have HTb := Lib.hid hTb
  have HKb := Lib.hid hKb
  have HW := Lib.hid hW
  have Hsz := Lib.hid hsz
  have HL : Hid (whyL t z k = if whyB t z k then if k < t.seen then [] else trimmed t.seen t.rules z.toNat k (cutAt t.rules k (heldF t.rules z.toNat).2) else []) := rfl
  have HE : Hid (whyB t z k = (setB t z && thingB t k && bitB (hd t.rules z.toNat) k)) := rfl
  have hK1 : w.heap.size + 1 < W.heap.size := by omega
  clear hR hb0 hTb hKb hsz hW
  cases hv : setB t z
  · rw [hv, Bool.false_and, Bool.false_and] at HE
    rw [HE.out] at HL ⊢
    go_enter Tryd.func24, Tryd.ntmps24
    go_wp2_with (go_at_call 47; rw [← HW.out]; refine (isSet_any t _ _ _ HR.out).mono ?_; rintro e w2 ⟨rfl, hb2⟩; rw [hv])
    go_ret2
    exact ⟨_, rfl, by rw [HL.out]; exact IntsAt.nil _ _, HB0.out.trans (hb2.mono HB0.out.size)⟩
  · rw [hv, Bool.true_and] at HE
    obtain ⟨hval, hz0, hz1, hz2⟩ := set_facts hv
    obtain ⟨n, rfl⟩ := Int.eq_ofNat_of_zero_le hz0
    have hvg := valid_good hval
    have HG := Lib.hid hvg.2.2.1
    have hs := hvg.1
    have hd' := hvg.2.1
    have HV := Lib.hid hval
    have HZ : Hid (n < 2 ^ t.seen.toNat) := by
      have : ((2 : Int) ^ t.seen.toNat) = ((2 ^ t.seen.toNat : Nat) : Int) := by push_cast; rfl
      rw [this] at hz1
      show _ < _
      omega
    clear hz1 hvg hval
    have hn32 : n < 4294967296 := by omega
    rw [Int.toNat_natCast] at HE HL
    cases hk : thingB t k
    · rw [hk, Bool.false_and] at HE
      rw [HE.out] at HL ⊢
      have HK : Hid (inB k 0 (t.seen + t.drawn - 1) = false) := hk
      clear hk
      go_enter Tryd.func24, Tryd.ntmps24
      go_wp2_with (first | (go_at_call 47; rw [← HW.out]; refine (isSet_any t _ _ _ HR.out).mono ?_; rintro e w2 ⟨rfl, hb2⟩; rw [hv]; have hTb2 := HTb.out.below hb2 HTb.out.lt; have c0 := hTb2.c0; have c1 := hTb2.c1; have c2 := hTb2.c2; have ck := (hb2.cell (p := ⟨w.heap.size + 1, 0, none⟩) hK1).trans HKb.out) | (go_at_call 43; refine (isThing_any _ _ _ _ _ hs hd').mono ?_; rintro e w3 ⟨rfl, hb3⟩; rw [HK.out]))
      go_ret2
      exact ⟨_, rfl, by rw [HL.out]; exact IntsAt.nil _ _, HB0.out.trans ((hb2.mono HB0.out.size).trans (hb3.mono (by have := HB0.out.size; have := hb2.size; omega)))⟩
    · rw [hk, Bool.true_and] at HE
      have HK : Hid (inB k 0 (t.seen + t.drawn - 1) = true) := hk
      have hk2 := HK.out
      simp only [inB, Bool.and_eq_true, decide_eq_true_eq] at hk2
      obtain ⟨m, rfl⟩ := Int.eq_ofNat_of_zero_le hk2.1
      have hm : m < 32 := by omega
      clear hk
      have hbit := bit_eq0 (heldF t.rules n).1 m
      have hbitB : bitB (hd t.rules n) (m : Int) = (heldF t.rules n).1.testBit m := by simp [bitB, hd]
      rw [hbitB] at HE
      have hlt := held_lt HG.out hn32
      cases hb : (heldF t.rules n).1.testBit m
      · rw [hb] at HE hbit
        rw [HE.out] at HL ⊢
        clear hbitB hb
        generalize hH : (heldF t.rules n).1 = H at *
        have HH := Lib.hid hH
        clear hH
        go_enter Tryd.func24, Tryd.ntmps24
        go_wp2_with (first | (go_at_call 47; rw [← HW.out]; refine (isSet_any t _ _ _ HR.out).mono ?_; rintro e w2 ⟨rfl, hb2⟩; rw [hv]; have hTb2 := HTb.out.below hb2 HTb.out.lt; have c0 := hTb2.c0; have c1 := hTb2.c1; have c2 := hTb2.c2; have ck := (hb2.cell (p := ⟨w.heap.size + 1, 0, none⟩) hK1).trans HKb.out) | (go_at_call 43; refine (isThing_any _ _ _ _ _ hs hd').mono ?_; rintro e w3 ⟨rfl, hb3⟩; rw [HK.out]; have hTb3 := hTb2.below hb3 hTb2.lt; have c3 := hTb3.c0; have c4 := hTb3.c1; have c5 := hTb3.c2; have hb23 := hb2.trans (hb3.mono hb2.size); have ck3 := (hb23.cell (p := ⟨w.heap.size + 1, 0, none⟩) hK1).trans HKb.out) | (go_at_call 48; refine (held_any _ _ t.rules _ n _ (HR.out.later hb23 (Nat.le_refl _)) HG.out hn32).mono ?_; rintro e w4 ⟨vv, rfl, hown, hb4⟩; rw [HH.out]; have hb24 := hb23.trans (hb4.mono hb23.size); have ck4 := (hb24.cell (p := ⟨w.heap.size + 1, 0, none⟩) hK1).trans HKb.out))
        go_ret2
        exact ⟨_, rfl, by rw [HL.out]; exact IntsAt.nil _ _, HB0.out.trans (hb24.mono HB0.out.size)⟩
      · rw [hb] at HE hbit
        rw [HE.out] at HL ⊢
        have HBt : Hid (bitB (hd t.rules n) (m : Int) = true) := by show _ = _; rw [hbitB, hb]
        clear hbitB hb
        generalize hH : (heldF t.rules n).1 = H at *
        have HH := Lib.hid hH
        clear hH
        by_cases hms : (m : Int) < t.seen
        · rw [if_pos rfl, if_pos hms] at HL
          go_enter Tryd.func24, Tryd.ntmps24
          go_wp2_with (first | (go_at_call 47; rw [← HW.out]; refine (isSet_any t _ _ _ HR.out).mono ?_; rintro e w2 ⟨rfl, hb2⟩; rw [hv]; have hTb2 := HTb.out.below hb2 HTb.out.lt; have c0 := hTb2.c0; have c1 := hTb2.c1; have c2 := hTb2.c2; have ck := (hb2.cell (p := ⟨w.heap.size + 1, 0, none⟩) hK1).trans HKb.out) | (go_at_call 43; refine (isThing_any _ _ _ _ _ hs hd').mono ?_; rintro e w3 ⟨rfl, hb3⟩; rw [HK.out]; have hTb3 := hTb2.below hb3 hTb2.lt; have c3 := hTb3.c0; have c4 := hTb3.c1; have c5 := hTb3.c2; have hb23 := hb2.trans (hb3.mono hb2.size); have ck3 := (hb23.cell (p := ⟨w.heap.size + 1, 0, none⟩) hK1).trans HKb.out) | (go_at_call 48; refine (held_any _ _ t.rules _ n _ (HR.out.later hb23 (Nat.le_refl _)) HG.out hn32).mono ?_; rintro e w4 ⟨vv, rfl, hown, hb4⟩; rw [HH.out]; have hb24 := hb23.trans (hb4.mono hb23.size); have ck4 := (hb24.cell (p := ⟨w.heap.size + 1, 0, none⟩) hK1).trans HKb.out; have hTb4 := HTb.out.below hb24 HTb.out.lt; have c6 := hTb4.c0))
          go_ret2
          exact ⟨_, rfl, by rw [HL.out]; exact IntsAt.nil _ _, HB0.out.trans (hb24.mono HB0.out.size)⟩
        · rw [if_pos rfl, if_neg hms] at HL
          have hms' : t.seen ≤ (m : Int) := by omega
          have HX := Lib.hid (held_gives HV.out HZ.out hms' HBt.out)
          have h40 := heldF_len t.rules n
          have h41 := HG.out.1
          go_enter Tryd.func24, Tryd.ntmps24
          go_wp2_with (first | (go_at_call 47; rw [← HW.out]; refine (isSet_any t _ _ _ HR.out).mono ?_; rintro e w2 ⟨rfl, hb2⟩; rw [hv]; have hTb2 := HTb.out.below hb2 HTb.out.lt; have c0 := hTb2.c0; have c1 := hTb2.c1; have c2 := hTb2.c2; have ck := (hb2.cell (p := ⟨w.heap.size + 1, 0, none⟩) hK1).trans HKb.out) | (go_at_call 43; refine (isThing_any _ _ _ _ _ hs hd').mono ?_; rintro e w3 ⟨rfl, hb3⟩; rw [HK.out]; have hTb3 := hTb2.below hb3 hTb2.lt; have c3 := hTb3.c0; have c4 := hTb3.c1; have c5 := hTb3.c2; have hb23 := hb2.trans (hb3.mono hb2.size); have ck3 := (hb23.cell (p := ⟨w.heap.size + 1, 0, none⟩) hK1).trans HKb.out) | (go_at_call 48; refine (held_any _ _ t.rules _ n _ (HR.out.later hb23 (Nat.le_refl _)) HG.out hn32).mono ?_; rintro e w4 ⟨vv, rfl, hown, hb4⟩; rw [HH.out]; have hb24 := hb23.trans (hb4.mono hb23.size); have ck4 := (hb24.cell (p := ⟨w.heap.size + 1, 0, none⟩) hK1).trans HKb.out; have hTb4 := HTb.out.below hb24 HTb.out.lt; have c6 := hTb4.c0; obtain ⟨av, cv, hvv, hcv1, hcv2⟩ := hown.ints.shape; subst hvv) | (go_at_call 55; refine (why_index t _ _ m n w.heap.size (w.heap.size + 1) _ _ (HR.out.later hb24 (Nat.le_refl _)) hTb4 ck4 (Nat.lt_of_lt_of_le hK1 hb24.size) hown).mono ?_; rintro e w5 ⟨r, rfl, hf, hb5⟩; obtain ⟨i, hri, hil, hcut⟩ := why_fst hf HX.out; subst hri; have HCut := Lib.hid hcut; clear hcut hf))
          have z5 := hb5.size
          have hB5 : Below W.heap.size W w5 := hb24.trans (hb5.mono hb24.size)
          have HI5 : Hid (IntsAt w5.heap.size w5 (.slice av (i + 1) cv) ((heldF t.rules n).2.take (i + 1))) := (hown.ints.take (i + 1) (by omega)).later hb5 (Nat.le_refl _)
          have HT : Hid (whyL t (n : Int) (m : Int) = trimL (derivesB t.seen t.rules n m) i ((heldF t.rules n).2.take (i + 1))) := by
            show _ = _
            rw [HL.out, HCut.out, trimmed, List.length_take, show min (i + 1) (heldF t.rules n).2.length - 1 = i from by omega]
          have hlen : ((heldF t.rules n).2.take (i + 1)).length = i + 1 := by rw [List.length_take]; omega
          have Hlen := Lib.hid hlen
          have hi39 : i < 40 := by omega
          generalize (heldF t.rules n).2.take (i + 1) = l1 at *
          clear hown hcv1 hTb2 hTb3 hTb4 hlen HCut c0 c1 c2 c3 c4 c5 c6 ck ck3 ck4 HX hil h40
          have hi1 : (i : Int) + 1 - 2 = (i : Int) - 1 := by omega
          rw [hi1]
          clear hi1
          generalize hsl : Value.slice av (i + 1) cv = sv at *
          clear hsl
          go_loopg [9, 11, 12] i (fun gg lv kv less wr => ∃ (lc : List Int), kv = .int .i64 ((gg : Int) - 1) ∧ gg + 1 ≤ lc.length ∧ lc.length ≤ 40 ∧ IntsAt wr.heap.size wr lv lc ∧ Hid (whyL t (n : Int) (m : Int) = trimL (derivesB t.seen t.rules n m) gg lc) ∧ Below W.heap.size W wr)
          case atStart => exact ⟨l1, rfl, by have := Hlen.out; omega, by have := Hlen.out; omega, HI5.out, HT.out, hB5⟩
          case round =>
            obtain ⟨lc, rfl, h1, h2, hIl, HT', hBr⟩ := hrel
            have HIl := Lib.hid hIl
            clear hIl
            by_cases hg0 : gk = 0
            · subst hg0
              go_wp2
              go_ret2
              exact ⟨u9, rfl, by rw [HT'.out]; exact HIl.out, HB0.out.trans (hBr.mono HB0.out.size)⟩
            · obtain ⟨q, rfl⟩ : ∃ q, gk = q + 1 := ⟨gk - 1, by omega⟩
              have hq1 : (((q + 1 : Nat) : Int) - 1) = (q : Int) := by omega
              rw [hq1]
              clear hq1 hg0
              rw [trimL_go] at HT'
              have hle : (lc.eraseIdx q).length = lc.length - 1 := List.length_eraseIdx_of_lt (by omega)
              have hlt : q < lc.length := by omega
              have h0l : 0 < lc.length := by omega
              have hml : lc.length < 1000000 := by omega
              have hTr := HTb.out.below hBr HTb.out.lt
              have hszr := hBr.size
              have HTr := Lib.hid hTr
              have Hle := Lib.hid hle
              clear hTr hle
              cases hdv : derivesB t.seen t.rules n m (lc.eraseIdx q)
              · rw [hdv, if_neg (by simp)] at HT'
                have HDv := Lib.hid hdv
                clear hdv
                go_wp2_with (first | (go_at_call 58; refine (clone_any _ lc _ HIl.out h0l hml).mono ?_; rintro e w6 ⟨v6, rfl, hown6, hb6⟩) | (go_at_call 57; refine (delete_any _ lc _ q _ hown6 hlt hml).mono ?_; rintro e w7 ⟨v7, rfl, hI7, hbb⟩; have hb7 := hbb _ _ (Nat.le_refl _) hb6; have hTb7 := HTr.out.below hb7 HTr.out.lt; have k0 := hTb7.c0; have k1 := hTb7.c1; have k2 := hTb7.c2; have hB7 := hBr.trans (hb7.mono hszr); have kk := (hB7.cell (p := ⟨w.heap.size + 1, 0, none⟩) hK1).trans HKb.out) | (go_at_call 59; refine (derives_any _ _ t.rules _ _ n m (lc.eraseIdx q) _ (HR.out.later hB7 (Nat.le_refl _)) hI7 HG.out hn32 hm).mono ?_; rintro e w8 ⟨rfl, hb8⟩; rw [HDv.out]))
                go_roundg q
                case measure => omega
                case rel => exact ⟨lc, rfl, by omega, h2, (HIl.out.later hb7 (Nat.le_refl _)).later hb8 (Nat.le_refl _), HT'.out, hB7.trans (hb8.mono hB7.size)⟩
              · rw [hdv, if_pos rfl] at HT'
                have HDv := Lib.hid hdv
                clear hdv
                go_wp2_with (first | (go_at_call 58; refine (clone_any _ lc _ HIl.out h0l hml).mono ?_; rintro e w6 ⟨v6, rfl, hown6, hb6⟩) | (go_at_call 57; refine (delete_any _ lc _ q _ hown6 hlt hml).mono ?_; rintro e w7 ⟨v7, rfl, hI7, hbb⟩; have hb7 := hbb _ _ (Nat.le_refl _) hb6; have hTb7 := HTr.out.below hb7 HTr.out.lt; have k0 := hTb7.c0; have k1 := hTb7.c1; have k2 := hTb7.c2; have hB7 := hBr.trans (hb7.mono hszr); have kk := (hB7.cell (p := ⟨w.heap.size + 1, 0, none⟩) hK1).trans HKb.out) | (go_at_call 59; refine (derives_any _ _ t.rules _ _ n m (lc.eraseIdx q) _ (HR.out.later hB7 (Nat.le_refl _)) hI7 HG.out hn32 hm).mono ?_; rintro e w8 ⟨rfl, hb8⟩; rw [HDv.out]))
                go_roundg q
                case measure => omega
                case rel => exact ⟨lc.eraseIdx q, rfl, by have := Hle.out; omega, by have := Hle.out; omega, hI7.later hb8 (Nat.le_refl _), HT'.out, hB7.trans (hb8.mono hB7.size)⟩
end Go.Proofs.YtmihkbiihfhpoaaDoor
