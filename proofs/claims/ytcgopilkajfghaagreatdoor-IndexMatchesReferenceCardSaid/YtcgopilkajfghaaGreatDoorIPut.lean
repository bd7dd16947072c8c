/- Put of an index. -/
import Derived.Test.YtcgopilkajfghaaGreatDoorINew
import Derived.Test.YtcgopilkajfghaaGreatDoorCalmLate
set_option linter.unusedVariables false
set_option linter.unusedSimpArgs false
namespace Go.Proofs.YtcgopilkajfghaaGreatDoor
open Go.RowKit Go.Shelf
open Go.Maps (Keyed IsMap Tidy)

/-- The block that a map's reader has made. -/
def NewC (B : Nat) (W : World) (v : Value) : Prop := ∃ g, v = .pointer (some ⟨g, 0, none⟩) ∧ B ≤ g ∧ CardN g cardZ W
theorem card_set5 {g : Nat} {c : ICard} {W : World} (h : CardN g cardZ W) : CardN g c (((((W.setCell ⟨g, 0, none⟩ (.int .i64 c.id)).setCell ⟨g, 1, none⟩ (.int .i64 c.unit)).setCell ⟨g, 2, none⟩ (.int .i64 c.kind)).setCell ⟨g, 3, none⟩ (.int .i64 c.beg)).setCell ⟨g, 4, none⟩ (.int .i64 c.fin)) :=
  (((((BoxN.set h 0 _).set 1 _).set 2 _).set 3 _).set 4 _ : BoxN _ _ _ _)
theorem below_set5 {B g : Nat} {c : ICard} {w W : World} (h : Below B w W) (hg : B ≤ g) : Below B w (((((W.setCell ⟨g, 0, none⟩ (.int .i64 c.id)).setCell ⟨g, 1, none⟩ (.int .i64 c.unit)).setCell ⟨g, 2, none⟩ (.int .i64 c.kind)).setCell ⟨g, 3, none⟩ (.int .i64 c.beg)).setCell ⟨g, 4, none⟩ (.int .i64 c.fin)) :=
  ((((h.setCell (p := ⟨g, 0, none⟩) hg _).setCell (p := ⟨g, 1, none⟩) hg _).setCell (p := ⟨g, 2, none⟩) hg _).setCell (p := ⟨g, 3, none⟩) hg _).setCell (p := ⟨g, 4, none⟩) hg _
/-- What the operations of Put's region leave. -/
def PutF (B : Nat) (ov : Value) (l : List ICard) (c : ICard) (pl : Nat) (k : Nat) (v : Value) (W : World) : Prop :=
  if k = 5 then v = ov ∧ OwnK cardK 0 W ov l else if k = 10 then v = .int .i64 pl else if k = 12 then ∃ g, v = .slice (some ⟨g, 0, none⟩) 1 1 ∧ B ≤ g ∧ CardN g c W
  else OwnK cardK 0 W v (l.take pl ++ c :: l.drop pl) ∧ ∀ g, v.ownBlock = some g → ov.ownBlock = some g ∨ B ≤ g
theorem putF_kept {B : Nat} {ov : Value} {l : List ICard} {c : ICard} {pl k : Nat} {v : Value} {W W' : World} {r : Option Nat} (h : PutF B ov l c pl k v W) (hg : W.grownBy W' r) (hr : ∀ g, r = some g → v.ownBlock ≠ some g) : PutF B ov l c pl k v W' := by
  unfold PutF at *
  split
  · rename_i e
    rw [if_pos e] at h
    obtain ⟨rfl, h⟩ := h
    exact ⟨rfl, h.kept hg hr⟩
  · rename_i e
    rw [if_neg e] at h
    split
    · rename_i e2
      rwa [if_pos e2] at h
    · rename_i e2
      rw [if_neg e2] at h
      split
      · rename_i e3
        rw [if_pos e3] at h
        obtain ⟨g, rfl, h1, h2⟩ := h
        exact ⟨g, rfl, h1, BoxN.grown h2 hg (fun e => hr g e rfl)⟩
      · rename_i e3
        rw [if_neg e3] at h
        exact ⟨h.1.kept hg hr, h.2⟩
theorem addT_bdS {B : Int} (n : Int) (size : Nat) (hn : -1 ≤ n ∧ n ≤ 1) : ∀ (f : Nat) (T : Nat → Int) (i : Nat), 0 < i → (∀ k, i ≤ k → k < size → -B ≤ T k ∧ T k ≤ B) → (∀ k, k < i → k < size → -(B + 1) ≤ T k ∧ T k ≤ B + 1) → ∀ k, k < size → -(B + 1) ≤ addT T n size f i k ∧ addT T n size f i k ≤ B + 1
  | 0, T, i, hi, h1, h2, k, hk => by
    show _ ≤ T k ∧ T k ≤ _
    by_cases hki : k < i
    · exact h2 k hki hk
    · have := h1 k (by omega) hk; omega
  | f + 1, T, i, hi, h1, h2, k, hk => by
    rw [addT]
    split
    · have hl := lowN_pos hi
      refine addT_bdS n size hn f _ _ (by omega) (fun j hj hjs => ?_) (fun j hj hjs => ?_) k hk
      · rw [if_neg (by omega)]; exact h1 j (by omega) hjs
      · split
        · rename_i e; subst e; have := h1 j (Nat.le_refl _) hjs; omega
        · by_cases hji : j < i
          · exact h2 j hji hjs
          · have := h1 j (by omega) hjs; omega
    · by_cases hki : k < i
      · exact h2 k hki hk
      · have := h1 k (by omega) hk; omega
theorem tree_small {T : Nat → Int} {l : List ICard} (h : TreeOk T l) (hl : l.length ≤ 500) {k : Nat} (hk : k < 2101) : -1000 ≤ T k ∧ T k ≤ 1000 := by
  have := tree_bd h hk
  omega
theorem tree_small1 {T : Nat → Int} {l : List ICard} (h : TreeOk T l) (hl : l.length ≤ 500) (n : Int) (hn : -1 ≤ n ∧ n ≤ 1) (i : Nat) (hi : 0 < i) {k : Nat} (hk : k < 2101) : -1001 ≤ addT T n 2101 2101 i k ∧ addT T n 2101 2101 i k ≤ 1001 :=
  addT_bdS (B := 1000) n 2101 hn 2101 T i hi (fun k _ hk => tree_small h hl hk) (fun k _ hk => by have := tree_small h hl hk; omega) k hk
/-- What a call of add leaves, at a year that is an Int. -/
theorem sumAdd_int (X m : Nat) (ov : Value) (T : Nat → Int) (y n : Int) (w : World) (hy : 0 ≤ y ∧ y ≤ 2100) (hn : -1 ≤ n ∧ n ≤ 1) (hT : ∀ k, k < 2101 → -10000 ≤ T k ∧ T k ≤ 10000) (hX : BoxN X 81 (idxC m ov T) w) :
    Calls Tryz.prog 46 #[.pointer (some ⟨X, 2, none⟩), .int .i64 y, .int .i64 n] w fun e w' => e = .returned (.tuple #[]) ∧ BoxN X 81 (idxC m ov (addT T n 2101 2101 (y.toNat + 1))) w' ∧ w.grownBy w' (some X) := by
  have h := sumAdd_any X m ov T y.toNat n w (by omega) hn hT hX
  rwa [Int.toNat_of_nonneg hy.1] at h
set_option maxRecDepth 100000 in
set_option maxHeartbeats 4000000 in
theorem put_any {S : Nat → Prop} {X : Nat} {l : List ICard} (c : ICard) (w : World) (hN : IdxN S X l w) (hi : inI c.id) :
    Calls Tryz.prog 10 #[.pointer (some ⟨X, 0, none⟩), cardV c] w fun e w' => e = .returned (.int .i64 (putL l c).2) ∧ ∃ S', IdxN S' X (putL l c).1 w' ∧ Turn S w w' ∧ ∀ k, S' k → S k ∨ w.heap.size ≤ k := by
  obtain ⟨m, ov, T, D, h⟩ := hN
  have hb0 : Below w.heap.size w (w.alloc (.cells (cardR c) 35)) := (Below.refl _ _).alloc (Nat.le_refl _) _
  have HI : Hid (IdxAt S X l m ov T D (w.alloc (.cells (cardR c) 35))) := h.grown (World.grownBy_alloc _ _ none)
  have HX0 : Hid (CardN w.heap.size c (w.alloc (.cells (cardR c) 35))) := box_new w 35 (cardR c)
  have HB0 := Lib.hid hb0
  have HIw := Lib.hid h
  have HInI := Lib.hid hi
  have h0c := h.c0
  obtain ⟨oa, oc, hov, _, _⟩ := h.order.shape
  subst hov
  obtain ⟨d, hd⟩ : ∃ d, d = (findC l c.id).getD cardZ := ⟨_, rfl⟩
  obtain ⟨b, hb⟩ : ∃ b, b = (findC l c.id).isSome := ⟨_, rfl⟩
  have HLk : Hid (∀ W, (w.alloc (.cells (cardR c) 35)).grownBy W none → (Instr.lookup 74 (.map (some m)) (.int .i64 c.id) true).run Tryz.prog W = .ok (.tuple #[cardV d, .bool b]) W) := fun W hW => by
    rw [hd, hb]
    exact (HI.out.grown hW).look hi
  have HBb := Lib.hid hb
  clear h hb0 hi h0c hd hb
  generalize hn : l.length = n at *
  have HN := Lib.hid hn
  clear hn
  go_enter Tryz.func10, Tryz.ntmps10
  go_wp2
  generalize w.alloc (.cells (cardR c) 35) = W0 at *
  have HQ : Hid (∀ W, W0.grownBy W none → W.cell? ⟨X, 0, none⟩ = some (.map (some m)) ∧ W.cell? ⟨w.heap.size, 0, none⟩ = some (.int .i64 c.id) ∧ W.cell? ⟨w.heap.size, 1, none⟩ = some (.int .i64 c.unit) ∧ W.cell? ⟨w.heap.size, 2, none⟩ = some (.int .i64 c.kind) ∧ W.cell? ⟨w.heap.size, 3, none⟩ = some (.int .i64 c.beg) ∧ W.cell? ⟨w.heap.size, 4, none⟩ = some (.int .i64 c.fin)) := fun W hW =>
    ⟨(HI.out.grown hW).c0, CardN.cells (BoxN.grown HX0.out hW (by simp))⟩
  refine wp_region_calm_late 12 10 ⟨[11], fun _ v W => NewC W0.heap.size W v, fun _ => [], 99, none, 12⟩ (by kernel_rfl) (by kernel_rfl) (by kernel_rfl) (by kernel_rfl) (fun g h => by cases h) (fun k hk v W W' r h hg hc => ?_) ?_
  · obtain ⟨g, rfl, h1, h2⟩ := h
    refine ⟨g, rfl, h1, BoxN.grown h2 hg fun e => ?_⟩
    subst e
    obtain ⟨_, _, i, j, u, hd, _⟩ := hc g rfl
    simp at hd
  iterate 7 (refine calm_quiet (v := ?_) (by rfl) (by rfl) (fun W hW hD => ?_) ?_; rotate_left; (· (obtain ⟨z, z0, z1, z2, z3, z4⟩ := HQ.out W hW; clear hD hW; go_simp; try with_reducible rfl)); simp only [Act.put, List.setIfInBounds_toArray, List.set_cons_zero, List.set_cons_succ, Nat.reduceAdd, Nat.zero_add])
  refine calm_quiet (v := .tuple #[cardV d, .bool b]) (by rfl) (by rfl) (fun W hW hD => ?_) ?_
  · have hlk := HLk.out W hW
    clear hD hW
    go_simp
  simp only [Act.put, List.setIfInBounds_toArray, List.set_cons_zero, List.set_cons_succ, Nat.reduceAdd, Nat.zero_add]
  iterate 3 (refine calm_quiet (v := ?_) (by rfl) (by rfl) (fun W hW hD => ?_) ?_; rotate_left; (· (skip; clear hD hW; go_simp; try with_reducible rfl)); simp only [Act.put, List.setIfInBounds_toArray, List.set_cons_zero, List.set_cons_succ, Nat.reduceAdd, Nat.zero_add])
  refine calm_makes (by rfl) (by rfl) (fun W hW hD Kc hK => ?_) (fun v5 => ?_)
  · refine wp_of_run (v := .pointer (some ⟨W.heap.size, 0, none⟩)) (w' := W.alloc (.cells (cardR cardZ) 35)) ?_ (hK _ _ (made_plain ⟨W.heap.size, rfl, hW.size, box_new W _ _⟩ ((Below.refl _ _).alloc (Nat.le_refl _) _) rfl))
    clear hD hW hK
    go_simp
  simp only [Act.put, List.setIfInBounds_toArray, List.set_cons_zero, List.set_cons_succ, Nat.reduceAdd, Nat.zero_add]
  refine calm_tail (by rfl) fun W hW hF => ?_
  obtain ⟨g, hv5, hgB, hgc⟩ : NewC W0.heap.size W v5 := hF 11 (by kernel_rfl) (by kernel_rfl)
  subst hv5
  have hbW := grown_below hW
  clear hF hW
  have HS : Hid (Below W0.heap.size W0 (((((W.setCell ⟨g, 0, none⟩ (.int .i64 d.id)).setCell ⟨g, 1, none⟩ (.int .i64 d.unit)).setCell ⟨g, 2, none⟩ (.int .i64 d.kind)).setCell ⟨g, 3, none⟩ (.int .i64 d.beg)).setCell ⟨g, 4, none⟩ (.int .i64 d.fin))) := below_set5 hbW hgB
  obtain ⟨y0, y1, y2, y3, y4⟩ := CardN.cells hgc
  have yf := BoxN.frozen hgc
  clear hbW hgc HQ HLk HI
  go_wp2
  refine NoPanic.normal ?_
  clear y0 y1 y2 y3 y4 yf
  generalize (((((W.setCell ⟨g, 0, none⟩ (.int .i64 d.id)).setCell ⟨g, 1, none⟩ (.int .i64 d.unit)).setCell ⟨g, 2, none⟩ (.int .i64 d.kind)).setCell ⟨g, 3, none⟩ (.int .i64 d.beg)).setCell ⟨g, 4, none⟩ (.int .i64 d.fin)) = V at *
  have HBV := Lib.hid (HB0.out.trans (HS.out.mono HB0.out.size))
  have HIV : Hid (IdxAt S X l m (.slice oa n oc) T D V) := HIw.out.turn (R := fun _ => False) (Turn.of_below HBV.out) (fun _ _ h => h)
  have HCV : Hid (CardN w.heap.size c V) := BoxN.below HX0.out HS.out HX0.out.lt
  clear HS HX0 HB0 hgB
  cases b with
  | true =>
    have HP := Lib.hid (putL_out (l := l) (c := c) (.inl HBb.out.symm))
    go_wp2
    go_ret
    rw [HP.out]
    exact ⟨rfl, S, ⟨_, _, _, _, HIV.out⟩, Turn.of_below HBV.out, fun k hk => .inl hk⟩
  | false =>
    obtain ⟨vc, hvc⟩ : ∃ v, v = validC c := ⟨_, rfl⟩
    have HVc := Lib.hid hvc
    have HCall : Hid (Calls Tryz.prog 8 #[cardV c] V fun e w' => e = .returned (.bool vc) ∧ Below V.heap.size V w') := by rw [hvc]; exact valid_any c V
    clear hvc
    obtain ⟨x0, x1, x2, x3, x4⟩ := CardN.cells HCV.out
    go_wp2_with fail
    refine HCall.out.mono ?_
    rintro e w5 ⟨rfl, hb5⟩
    clear x0 x1 x2 x3 x4 HCall
    have HI5 := Lib.hid (HIV.out.turn (R := fun _ => False) (Turn.of_below hb5) (fun _ _ h => h))
    have HC5 : Hid (CardN w.heap.size c w5) := BoxN.below HCV.out hb5 HCV.out.lt
    have HB5 := Lib.hid (HBV.out.trans (hb5.mono HBV.out.size))
    clear hb5 HIV HCV HBV
    cases vc with
    | false =>
      have HP := Lib.hid (putL_out (l := l) (c := c) (.inr (.inl HVc.out.symm)))
      go_wp2
      go_ret
      rw [HP.out]
      exact ⟨rfl, S, ⟨_, _, _, _, HI5.out⟩, Turn.of_below HB5.out, fun k hk => .inl hk⟩
    | true =>
      have c1 := HI5.out.c1
      by_cases h500 : 500 ≤ n
      · have h5 : (n : Int) ≥ 500 := by omega
        have h5' : (500 : Int) ≤ (n : Int) := by omega
        have HP := Lib.hid (putL_out (l := l) (c := c) (.inr (.inr (by rw [HN.out]; exact h500))))
        clear h500
        go_wp2
        go_ret
        rw [HP.out]
        exact ⟨rfl, S, ⟨_, _, _, _, HI5.out⟩, Turn.of_below HB5.out, fun k hk => .inl hk⟩
      have h5 : ¬ ((500 : Int) ≤ (n : Int)) := by omega
      have HP : Hid (putL l c = (insC l c, 0)) := putL_in (by have := HBb.out; cases hf : findC l c.id with | none => rfl | some z => rw [hf] at this; cases this) HVc.out.symm (by rw [HN.out]; omega)
      have HQ : Hid (∀ W, w5.grownBy W none → W.cell? ⟨X, 0, none⟩ = some (.map (some m)) ∧ W.cell? ⟨w.heap.size, 0, none⟩ = some (.int .i64 c.id) ∧ W.cell? ⟨w.heap.size, 1, none⟩ = some (.int .i64 c.unit) ∧ W.cell? ⟨w.heap.size, 2, none⟩ = some (.int .i64 c.kind) ∧ W.cell? ⟨w.heap.size, 3, none⟩ = some (.int .i64 c.beg) ∧ W.cell? ⟨w.heap.size, 4, none⟩ = some (.int .i64 c.fin)) := fun W hW =>
        ⟨(HI5.out.grown hW).c0, CardN.cells (BoxN.grown HC5.out hW (by simp))⟩
      have HF : Hid (findC l c.id = none) := by show _ = _; have := HBb.out; cases hf : findC l c.id with | none => rfl | some z => rw [hf] at this; cases this
      go_wp2_with fail
      clear c1
      refine wp_region_calm ⟨[], fun _ _ _ => True, fun _ => [], 99, none, 8⟩ (by kernel_rfl) (by kernel_rfl) (by kernel_rfl) (fun g h => by cases h) (fun k hk v W W' r h hg hc => trivial) ?_
      iterate 8 (refine calm_quiet (v := ?_) (by rfl) (by rfl) (fun W hW hD => ?_) ?_; rotate_left; (· (obtain ⟨z, z0, z1, z2, z3, z4⟩ := HQ.out W hW; clear hD hW; go_simp; try with_reducible rfl)); simp only [Act.put, List.setIfInBounds_toArray, List.set_cons_zero, List.set_cons_succ, Nat.reduceAdd, Nat.zero_add])
      refine calm_tail (by rfl) fun W hW hF => ?_
      have hIW := HI5.out.grown hW
      obtain ⟨Wm, hrun, hown, hturn⟩ := hIW.map.store keyed_int Tryz.underlying74 (by have := hIW.ok.few; unfold maxLen; omega) (keyOf_int HInI.out) (cardElem_mk c)
      have hgm : W.grownBy Wm (some m) := hturn.grown
      have hmX : some m ≠ some X := fun e => map_ne_box hIW.map hIW.box (Option.some.inj e)
      have HX6 := Lib.hid (BoxN.grown hIW.box hgm hmX)
      have HO6 := Lib.hid (hIW.order.kept hgm (fun g' e he => by cases e; exact map_ne_row hIW.map hIW.order he))
      have hdat := mapOk_put hIW.dat HInI.out HF.out
      have HM6 : Hid (Wm.ownsMap Tryz.prog 3 cardElem m (insC l c).length (D.put (.int .i64 c.id) (cardD c))) := by show World.ownsMap _ _ _ _ _ _ _; rw [← hdat.size]; exact ownsMap_size hown
      have HD6 := Lib.hid hdat
      have hmw := HIw.out.lt m hIW.sm
      have HC6 : Hid (CardN w.heap.size c Wm) := BoxN.grown (BoxN.grown HC5.out hW (by simp)) hgm (fun e => by have := Option.some.inj e; omega)
      have HT6 : Hid (Turn S w Wm) := ((Turn.of_below HB5.out : Turn S w w5).trans (Turn.of_grown (S := fun _ => False) hW (fun _ e => by cases e)) (fun _ h => h.elim)).trans (Turn.of_grown (S := fun k => k = m) hgm (fun g e => (Option.some.inj e).symm)) (fun k hk => by cases hk; exact .inl hIW.sm)
      clear hF hW hIW hown hturn hgm hmX hdat hmw HQ HI5 HC5 HB5
      go_wp2_with fail
      clear hrun
      have HIo : Hid (IOk l) := HIw.out.ok
      obtain ⟨pl, hpl⟩ : ∃ p, p = placeC l c := ⟨_, rfl⟩
      have HPl := Lib.hid hpl
      have hpn : pl ≤ n := by rw [hpl, ← HN.out]; exact placeC_le l c
      clear hpl
      have hcX : (Value.slice oa n oc).ownBlock ≠ some X := row_ne_box HO6.out HX6.out (by decide)
      have hcb : (Value.slice oa n oc).ownBlock ≠ some w.heap.size := fun e => by have := HIw.out.lt _ (HIw.out.so _ e); omega
      have hcm : (Value.slice oa n oc).ownBlock ≠ some m := map_ne_row HM6.out HO6.out
      have HLt : Hid (∀ g, (Value.slice oa n oc).ownBlock = some g → g < Wm.heap.size) := fun g hg => (World.ownsRow.lt HO6.out g hg).2
      have HQ : Hid (∀ W, Wm.grownBy W (Value.slice oa n oc).ownBlock → W.cell? ⟨X, 1, none⟩ = some (.slice oa n oc) ∧ W.cell? ⟨w.heap.size, 0, none⟩ = some (.int .i64 c.id) ∧ W.cell? ⟨w.heap.size, 1, none⟩ = some (.int .i64 c.unit) ∧ W.cell? ⟨w.heap.size, 2, none⟩ = some (.int .i64 c.kind) ∧ W.cell? ⟨w.heap.size, 3, none⟩ = some (.int .i64 c.beg) ∧ W.cell? ⟨w.heap.size, 4, none⟩ = some (.int .i64 c.fin)) := fun W hW =>
        ⟨BoxN.cell (BoxN.grown HX6.out hW hcX) 1 _ idxC_1, CardN.cells (BoxN.grown HC6.out hW hcb)⟩
      have HcX := Lib.hid hcX
      have Hcb := Lib.hid hcb
      have Hcm := Lib.hid hcm
      clear hcX hcb hcm
      refine wp_region_calm ⟨[5, 10, 12, 13], PutF Wm.heap.size (.slice oa n oc) l c pl, fun i => if i = 13 then [5] else if i = 1000 then [10] else [], 5, (Value.slice oa n oc).ownBlock, 17⟩ (by kernel_rfl) (by kernel_rfl) (by kernel_rfl) (fun g h => HLt.out g h) (fun i hi v W W' r h hg hc => putF_kept h hg fun g hh => (hc g hh).1) ?_
      iterate 5 (refine calm_quiet (v := ?_) (by rfl) (by rfl) (fun W hW hD => ?_) ?_; rotate_left; (· (obtain ⟨z, z0, z1, z2, z3, z4⟩ := HQ.out W hW; clear hD hW; go_simp; try with_reducible rfl)); simp only [Act.put, List.setIfInBounds_toArray, List.set_cons_zero, List.set_cons_succ, Nat.reduceAdd, Nat.zero_add])
      refine calm_makes (by rfl) (by rfl) (fun W hW hD Kc hK => ?_) (fun v48 => ?_)
      · have hWn : Wm.grownBy W none := hW
        have z := BoxN.cell (BoxN.grown HX6.out hWn (by simp)) 1 _ idxC_1
        refine wp_of_run (v := .slice oa n oc) (w' := W) ?_ (hK _ _ ⟨show PutF Wm.heap.size (.slice oa n oc) l c pl 5 (.slice oa n oc) W from by unfold PutF; rw [if_pos rfl]; exact ⟨rfl, HO6.out.kept hWn (fun g hg => by cases hg)⟩, ⟨none, ⟨rfl, rfl, rfl, Nat.le_refl _, fun _ _ _ => rfl⟩, .inl rfl⟩, fun g hg => ⟨Nat.lt_of_lt_of_le (HLt.out g hg) hWn.size, .inr (.inr ⟨rfl, hg⟩)⟩⟩)
        clear hD hW hK hWn
        go_simp
      simp only [Act.put, List.setIfInBounds_toArray, List.set_cons_zero, List.set_cons_succ, Nat.reduceAdd, Nat.zero_add]
      iterate 4 (refine calm_quiet (v := ?_) (by rfl) (by rfl) (fun W hW hD => ?_) ?_; rotate_left; (· (obtain ⟨z, z0, z1, z2, z3, z4⟩ := HQ.out W hW; clear hD hW; go_simp; try with_reducible rfl)); simp only [Act.put, List.setIfInBounds_toArray, List.set_cons_zero, List.set_cons_succ, Nat.reduceAdd, Nat.zero_add])
      refine calm_makes (by rfl) (by rfl) (fun W hW hD Kc hK => ?_) (fun v53 => ?_)
      · have hWn : Wm.grownBy W none := hW
        refine wp_of_call (f := 45) ?_ ((place_any c W (BoxN.grown HX6.out hWn (by simp)) (HO6.out.kept hWn (fun g h => by cases h)) HIo.out).mono ?_)
        · clear hD hW hK hWn
          go_simp
        · rintro e w7 ⟨rfl, hb7⟩
          exact ⟨_, rfl, hK _ _ (made_plain (show PutF Wm.heap.size (.slice oa n oc) l c pl 10 (.int .i64 (placeC l c : Nat)) w7 from by unfold PutF; rw [if_neg (by decide), if_pos rfl, HPl.out]) hb7 rfl)⟩
      simp only [Act.put, List.setIfInBounds_toArray, List.set_cons_zero, List.set_cons_succ, Nat.reduceAdd, Nat.zero_add]
      iterate 1 (refine calm_quiet (v := ?_) (by rfl) (by rfl) (fun W hW hD => ?_) ?_; rotate_left; (· (obtain ⟨z, z0, z1, z2, z3, z4⟩ := HQ.out W hW; clear hD hW; go_simp; try with_reducible rfl)); simp only [Act.put, List.setIfInBounds_toArray, List.set_cons_zero, List.set_cons_succ, Nat.reduceAdd, Nat.zero_add])
      refine calm_makes (by rfl) (by rfl) (fun W hW hD Kc hK => ?_) (fun v55 => ?_)
      · refine wp_of_run (v := .slice (some ⟨W.heap.size, 0, none⟩) 1 1) (w' := W.alloc (.cells (cardR c) 35)) ?_ (hK _ _ (made_below (show PutF Wm.heap.size (.slice oa n oc) l c pl 12 (.slice (some ⟨W.heap.size, 0, none⟩) 1 1) (W.alloc (.cells (cardR c) 35)) from by unfold PutF; rw [if_neg (by decide), if_neg (by decide), if_pos rfl]; exact ⟨_, rfl, hW.size, box_new W _ _⟩) ((Below.refl _ _).alloc (Nat.le_refl _) _) (fun g hg => ?_)))
        · clear hD hW hK
          go_simp
        · have hg' : some W.heap.size = some g := hg
          injection hg' with hg'
          subst hg'
          exact ⟨Nat.le_refl _, by simp⟩
      simp only [Act.put, List.setIfInBounds_toArray, List.set_cons_zero, List.set_cons_succ, Nat.reduceAdd, Nat.zero_add]
      refine calm_makes (by rfl) (by rfl) (fun W hW hD Kc hK => ?_) (fun v56 => ?_)
      · have h5 : PutF Wm.heap.size (.slice oa n oc) l c pl 5 v48 W := hD [] 5 (by kernel_rfl) (by kernel_rfl) (by kernel_rfl)
        have h10 : PutF Wm.heap.size (.slice oa n oc) l c pl 10 v53 W := hD [] 10 (by kernel_rfl) (by kernel_rfl) (by kernel_rfl)
        have h12 : PutF Wm.heap.size (.slice oa n oc) l c pl 12 v55 W := hD [] 12 (by kernel_rfl) (by kernel_rfl) (by kernel_rfl)
        unfold PutF at h5 h10 h12
        rw [if_pos rfl] at h5
        rw [if_neg (by decide), if_pos rfl] at h10
        rw [if_neg (by decide), if_neg (by decide), if_pos rfl] at h12
        obtain ⟨e48, h5⟩ := h5
        obtain ⟨vb, e55, hvb, hcv⟩ := h12
        subst e48 h10 e55
        have hws := hW.size
        refine wp_of_call (f := 44) ?_ ((insert_any (.slice oa n oc) l c pl vb 0 W h5 hcv (by rw [HN.out]; omega) (Nat.zero_le _) (by rw [HN.out]; exact hpn)).mono ?_)
        · clear hD hW hK
          go_simp
        · rintro e w7 ⟨v', rfl, ho7, hg7, hb7⟩
          exact ⟨_, rfl, hK _ _ (made_grown (j := 5) (u := .slice oa n oc) (by kernel_rfl) rfl (show PutF Wm.heap.size (.slice oa n oc) l c pl 13 v' w7 from by unfold PutF; rw [if_neg (by decide), if_neg (by decide), if_neg (by decide)]; exact ⟨ho7, fun g hg => by rcases hb7 with h | h; exact .inl (h ▸ hg); exact .inr (by rw [h] at hg; cases hg; exact hws)⟩) hg7 (fun g hg => ⟨(World.ownsRow.lt ho7 g hg).2, grown_own hb7 hg⟩))⟩
      simp only [Act.put, List.setIfInBounds_toArray, List.set_cons_zero, List.set_cons_succ, Nat.reduceAdd, Nat.zero_add]
      iterate 3 (refine calm_quiet (v := ?_) (by rfl) (by rfl) (fun W hW hD => ?_) ?_; rotate_left; (· (skip; clear hD hW; go_simp; try with_reducible rfl)); simp only [Act.put, List.setIfInBounds_toArray, List.set_cons_zero, List.set_cons_succ, Nat.reduceAdd, Nat.zero_add])
      refine calm_tail (by rfl) fun W hW hF => ?_
      have h13 : PutF Wm.heap.size (.slice oa n oc) l c pl 13 v56 W := hF 13 (by kernel_rfl) (by kernel_rfl)
      unfold PutF at h13
      rw [if_neg (by decide), if_neg (by decide), if_neg (by decide), HPl.out] at h13
      obtain ⟨ho7, hb7⟩ := h13
      have ho7 : OwnK cardK 0 W v56 (insC l c) := ho7
      obtain ⟨xa, xc, hv56, _, _⟩ := ho7.shape
      subst hv56
      generalize hn7 : (insC l c).length = n7 at *
      have HN7 := Lib.hid hn7
      clear hn7
      have hWn : Wm.grownBy W (Value.slice oa n oc).ownBlock := hW
      have hX := BoxN.grown HX6.out hWn HcX.out
      have hXlt := HX6.out.lt
      have hwm := HT6.out.size
      obtain ⟨V7, hV7⟩ : ∃ V7, V7 = W.setCell ⟨X, 1, none⟩ (.slice xa n7 xc) := ⟨_, rfl⟩
      have HX7 : Hid (BoxN X 81 (idxC m (.slice xa n7 xc) T) V7) := by show BoxN _ _ _ _; rw [hV7, ← idxC_set1 (ov := .slice oa n oc)]; exact hX.set 1 _
      have hne : (Value.slice xa n7 xc).ownBlock ≠ some X := fun e => by rcases hb7 X e with h | h; exact HcX.out h; omega
      have HO7 : Hid (OwnK cardK 0 V7 (.slice xa n7 xc) (insC l c)) := by show OwnK _ _ _ _ _; rw [hV7]; exact ho7.setOther hne 1 _
      have hmX : m ≠ X := map_ne_box HM6.out HX6.out
      have HM7 : Hid (V7.ownsMap Tryz.prog 3 cardElem m n7 (D.put (.int .i64 c.id) (cardD c))) := by show World.ownsMap _ _ _ _ _ _ _; rw [hV7]; exact (HM6.out.kept hWn (fun e => Hcm.out e.symm)).setCell (a := ⟨X, 1, none⟩) hmX _
      have hcw := HC6.out.lt
      have hXw : X < w.heap.size := HIw.out.lt X HIw.out.sx
      have HC7 : Hid (CardN w.heap.size c V7) := by show CardN _ _ _; rw [hV7]; exact BoxN.other (BoxN.grown HC6.out hWn Hcb.out) (by omega)
      have HT7 : Hid (Turn S w V7) := by show Turn _ _ _; rw [hV7]; exact (HT6.out.trans (Turn.of_grown (S := fun k => (Value.slice oa n oc).ownBlock = some k) hWn (fun g e => e)) (fun k hk => .inl (HIw.out.so k hk))).setCell (.inl HIw.out.sx) 1 _
      have HS7 : Hid (∀ g, (Value.slice xa n7 xc).ownBlock = some g → S g ∨ w.heap.size ≤ g) := fun g hg => by rcases hb7 g hg with h | h; exact .inl (HIw.out.so g h); exact .inr (by omega)
      have HnX := Lib.hid hne
      have HmX := Lib.hid hmX
      have HcbX : Hid (w.heap.size ≠ X) := by show _ ≠ _; omega
      have c1 := BoxN.cell hX 1 _ idxC_1
      have cf := BoxN.frozen hX
      have HVe := Lib.hid hV7
      clear hF hW hWn hX hXlt hwm hV7 hne hmX hcw hXw ho7 hb7 HQ HX6 HO6 HM6 HC6 HT6 HcX Hcb Hcm HLt
      go_wp2_with fail
      rw [← HVe.out]
      clear c1 cf HVe
      have hval := validC_ok HVc.out.symm
      obtain ⟨T1, hT1⟩ : ∃ T1, T1 = addT T 1 2101 2101 (c.beg.toNat + 1) := ⟨_, rfl⟩
      obtain ⟨T2, hT2⟩ : ∃ T2, T2 = addT T1 (-1) 2101 2101 (c.fin.toNat + 1) := ⟨_, rfl⟩
      have HA1 : Hid (∀ W, BoxN X 81 (idxC m (.slice xa n7 xc) T) W → Calls Tryz.prog 46 #[.pointer (some ⟨X, 2, none⟩), .int .i64 c.beg, .int .i64 1] W fun e w' => e = .returned (.tuple #[]) ∧ BoxN X 81 (idxC m (.slice xa n7 xc) T1) w' ∧ W.grownBy w' (some X)) := fun W hX => by
        rw [hT1]
        exact sumAdd_int X m _ T c.beg 1 W (by omega) (by omega) (fun k hk => by have := tree_small HIw.out.tree HIo.out.few hk; omega) hX
      have HA2 : Hid (∀ W, BoxN X 81 (idxC m (.slice xa n7 xc) T1) W → Calls Tryz.prog 46 #[.pointer (some ⟨X, 2, none⟩), .int .i64 c.fin, .int .i64 (-1)] W fun e w' => e = .returned (.tuple #[]) ∧ BoxN X 81 (idxC m (.slice xa n7 xc) T2) w' ∧ W.grownBy w' (some X)) := fun W hX => by
        rw [hT2]
        exact sumAdd_int X m _ T1 c.fin (-1) W (by omega) (by omega) (fun k hk => by rw [hT1]; have := tree_small1 HIw.out.tree HIo.out.few 1 (by omega) (c.beg.toNat + 1) (by omega) hk; omega) hX
      have HTr : Hid (TreeOk T2 (insC l c)) := by
        show TreeOk _ _
        rw [hT2, hT1]
        exact tree_put (a := l.take (placeC l c)) (b := l.drop (placeC l c)) (by omega) (by omega) (by rw [List.take_append_drop]; exact HIw.out.tree) 2101 2101 (by omega) (by omega)
      clear hT1 hT2 hval ho7
      have HQ : Hid (∀ W, V7.grownBy W none → W.cell? ⟨w.heap.size, 0, none⟩ = some (.int .i64 c.id) ∧ W.cell? ⟨w.heap.size, 1, none⟩ = some (.int .i64 c.unit) ∧ W.cell? ⟨w.heap.size, 2, none⟩ = some (.int .i64 c.kind) ∧ W.cell? ⟨w.heap.size, 3, none⟩ = some (.int .i64 c.beg) ∧ W.cell? ⟨w.heap.size, 4, none⟩ = some (.int .i64 c.fin)) := fun W hW =>
        CardN.cells (BoxN.grown HC7.out hW (by simp))
      refine wp_region_calm ⟨[], fun _ _ _ => True, fun _ => [], 99, none, 6⟩ (by kernel_rfl) (by kernel_rfl) (by kernel_rfl) (fun g h => by cases h) (fun k hk v W W' r h hg hc => trivial) ?_
      iterate 6 (refine calm_quiet (v := ?_) (by rfl) (by rfl) (fun W hW hD => ?_) ?_; rotate_left; (· (obtain ⟨z0, z1, z2, z3, z4⟩ := HQ.out W hW; clear hD hW; go_simp; try with_reducible rfl)); simp only [Act.put, List.setIfInBounds_toArray, List.set_cons_zero, List.set_cons_succ, Nat.reduceAdd, Nat.zero_add])
      refine calm_tail (by rfl) fun W hW hF => ?_
      clear hF
      go_wp2_with fail
      refine (HA1.out W (BoxN.grown HX7.out hW (by simp))).mono ?_
      rintro e w8 ⟨rfl, hbx, hgx⟩
      have HX8 := Lib.hid hbx
      have HO8 := Lib.hid ((HO7.out.kept hW (fun g h => by cases h)).kept hgx (fun g h e => by cases h; exact HnX.out e))
      have HM8 := Lib.hid ((HM7.out.kept hW (by simp)).kept hgx (fun e => HmX.out (Option.some.inj e)))
      have HC8 : Hid (CardN w.heap.size c w8) := BoxN.grown (BoxN.grown HC7.out hW (by simp)) hgx (fun e => HcbX.out (Option.some.inj e).symm)
      have HT8 : Hid (Turn S w w8) := (HT7.out.trans (Turn.of_grown (S := fun _ => False) hW (fun _ e => by cases e)) (fun _ h => h.elim)).trans (Turn.of_grown (S := fun k => k = X) hgx (fun g e => (Option.some.inj e).symm)) (fun k hk => by cases hk; exact .inl HIw.out.sx)
      clear hW hbx hgx HQ HX7 HO7 HM7 HC7 HT7 HA1
      go_wp2
      have HQ : Hid (∀ W, w8.grownBy W none → W.cell? ⟨w.heap.size, 0, none⟩ = some (.int .i64 c.id) ∧ W.cell? ⟨w.heap.size, 1, none⟩ = some (.int .i64 c.unit) ∧ W.cell? ⟨w.heap.size, 2, none⟩ = some (.int .i64 c.kind) ∧ W.cell? ⟨w.heap.size, 3, none⟩ = some (.int .i64 c.beg) ∧ W.cell? ⟨w.heap.size, 4, none⟩ = some (.int .i64 c.fin)) := fun W hW =>
        CardN.cells (BoxN.grown HC8.out hW (by simp))
      refine wp_region_calm ⟨[], fun _ _ _ => True, fun _ => [], 99, none, 6⟩ (by kernel_rfl) (by kernel_rfl) (by kernel_rfl) (fun g h => by cases h) (fun k hk v W W' r h hg hc => trivial) ?_
      iterate 6 (refine calm_quiet (v := ?_) (by rfl) (by rfl) (fun W hW hD => ?_) ?_; rotate_left; (· (obtain ⟨z0, z1, z2, z3, z4⟩ := HQ.out W hW; clear hD hW; go_simp; try with_reducible rfl)); simp only [Act.put, List.setIfInBounds_toArray, List.set_cons_zero, List.set_cons_succ, Nat.reduceAdd, Nat.zero_add])
      refine calm_tail (by rfl) fun W hW hF => ?_
      clear hF
      go_wp2_with fail
      refine (HA2.out W (BoxN.grown HX8.out hW (by simp))).mono ?_
      rintro e w9 ⟨rfl, hbx, hgx⟩
      have HX9 := Lib.hid hbx
      have HO9 := Lib.hid ((HO8.out.kept hW (fun g h => by cases h)).kept hgx (fun g h e => by cases h; exact HnX.out e))
      have HM9 := Lib.hid ((HM8.out.kept hW (by simp)).kept hgx (fun e => HmX.out (Option.some.inj e)))
      have HC9 : Hid (CardN w.heap.size c w9) := BoxN.grown (BoxN.grown HC8.out hW (by simp)) hgx (fun e => HcbX.out (Option.some.inj e).symm)
      have HT9 : Hid (Turn S w w9) := (HT8.out.trans (Turn.of_grown (S := fun _ => False) hW (fun _ e => by cases e)) (fun _ h => h.elim)).trans (Turn.of_grown (S := fun k => k = X) hgx (fun g e => (Option.some.inj e).symm)) (fun k hk => by cases hk; exact .inl HIw.out.sx)
      clear hW hbx hgx HQ HX8 HO8 HM8 HC8 HT8 HA2
      go_wp2
      go_ret
      rw [HP.out]
      have hid := HN7.out
      subst hid
      refine ⟨rfl, fun k => S k ∨ (Value.slice xa (insC l c).length xc).ownBlock = some k, ⟨m, _, T2, _, ⟨HX9.out, HM9.out, HO9.out, HD6.out, HTr.out, insC_ok HIo.out HVc.out.symm HF.out (by rw [HN.out]; omega), .inl HIw.out.sx, .inl HIw.out.sm, fun g hg => .inr hg, fun k hk => ?_⟩⟩, HT9.out, fun k hk => ?_⟩
      · rcases hk with h | h
        · exact Nat.lt_of_lt_of_le (HIw.out.lt k h) HT9.out.size
        · exact (World.ownsRow.lt HO9.out k h).2
      · rcases hk with h | h
        · exact .inl h
        · exact HS7.out k h
end Go.Proofs.YtcgopilkajfghaaGreatDoor
