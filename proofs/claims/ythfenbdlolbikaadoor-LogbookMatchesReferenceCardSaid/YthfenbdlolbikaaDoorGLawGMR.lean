/- LogbookMatchesReference: the walk. -/
import Derived.Test.YthfenbdlolbikaaDoorGBent
import Derived.Test.YthfenbdlolbikaaDoorGCut
import Derived.Test.YthfenbdlolbikaaDoorGRefDec
import Derived.Test.YthfenbdlolbikaaDoorGProvedP
set_option linter.unusedVariables false
set_option linter.unusedSimpArgs false
namespace Go.Proofs.YthfenbdlolbikaaDoor
open Go.RowKit Go.Shelf

/-- The books that are compared are small. -/
def SmallB (b : LBook) : Prop := b.recs.length ≤ 60 ∧ ∀ x ∈ b.recs, x.text.length ≤ 1000
theorem small_made (o : Int) (N : Nat) (f : Nat → Nat → Int) : SmallB (madeBook o N f) := by
  refine ⟨by have := madeB_len o N f; omega, fun x hx => ?_⟩
  have h := book_recs (made_ok o N f) x hx
  unfold recB at h
  simp only [Bool.and_eq_true, decide_eq_true_eq] at h
  omega
theorem small_bent {b : LBook} (h : SmallB b) (how n at_ : Int) : SmallB (bentB b how n at_) := by
  have hr : (bentRecs b n).length ≤ 60 ∧ ∀ x ∈ bentRecs b n, x.text.length ≤ 1000 := by
    unfold bentRecs
    split
    · exact ⟨by simp, fun x hx => by rw [List.mem_singleton.1 hx]; simp⟩
    · exact h
  have hd : ((bentRecs b n).getD (bentAt b at_) default).text.length ≤ 1000 := by
    rw [List.getD_eq_getElem?_getD]
    cases he : (bentRecs b n)[bentAt b at_]? with
    | none => show ([] : List UInt8).length ≤ 1000; simp
    | some x => exact hr.2 x (List.mem_of_getElem? he)
  have hp := pickZ_bd n 100 (by omega)
  unfold bentB
  split
  · exact hr
  · split
    · refine ⟨by rw [List.length_set]; exact hr.1, fun x hx => ?_⟩
      rcases List.mem_or_eq_of_mem_set hx with hx | rfl
      · exact hr.2 x hx
      · generalize (pickZ how 6).toNat - 1 = f
        match f with
        | 0 => exact hd
        | 1 => exact hd
        | 2 => exact hd
        | _ + 3 => exact hd
    · refine ⟨by rw [List.length_set]; exact hr.1, fun x hx => ?_⟩
      rcases List.mem_or_eq_of_mem_set hx with hx | rfl
      · exact hr.2 x hx
      · show (List.replicate (150 + pickZ n 100).toNat (0 : UInt8)).length ≤ 1000
        rw [List.length_replicate]
        omega
theorem small_cut (b : LBook) : SmallB (cutB b) := by
  refine ⟨by show ((b.recs.take 3).map cutR).length ≤ 60; rw [List.length_map, List.length_take]; omega, fun x hx => ?_⟩
  obtain ⟨y, _, rfl⟩ := List.mem_map.1 (show x ∈ (b.recs.take 3).map cutR from hx)
  show (y.text.take 201).length ≤ 1000
  rw [List.length_take]
  omega
/-- A row of three books. -/
def ThreeB (g : Nat) (o0 : Int) (v0 : Value) (o1 : Int) (v1 : Value) (o2 : Int) (v2 : Value) (W : World) : Prop := W.heap[g]? = some (.cells #[.int .i64 o0, v0, .int .i64 o1, v1, .int .i64 o2, v2] 25 (0, 0))
theorem keep_threeB {W : World} {g : Nat} {o0 o1 o2 : Int} {v0 v1 v2 : Value} (h : ThreeB g o0 v0 o1 v1 o2 v2 W) : ∀ W', Below W.heap.size W W' → ThreeB g o0 v0 o1 v1 o2 v2 W' := fun _ hb => (hb.block g (Array.getElem?_eq_some_iff.1 h).1).trans h
theorem ThreeB.cell {W : World} {g : Nat} {o0 o1 o2 : Int} {v0 v1 v2 : Value} (h : ThreeB g o0 v0 o1 v1 o2 v2 W) (k : Nat) (hk : k < 3) : W.cell? ⟨g, k * 2, none⟩ = some (.int .i64 (one3 o0 o1 o2 k)) ∧ W.cell? ⟨g, k * 2 + 1, none⟩ = some (one3 v0 v1 v2 k) := by
  refine ⟨?_, ?_⟩ <;> (rw [Lib.cell_of_heap (show W.heap[g]? = _ from h)]; match k, hk with | 0, _ => rfl | 1, _ => rfl | 2, _ => rfl)
/-- What the steps of the first region leave. -/
def GmF (B : Nat) (O : Int) (v0 : Value) (b1 b2 : LBook) : Nat → Value → World → Prop := fun k v W =>
  if k = 5 then ∃ rv, v = bookV b1.office rv ∧ OwnG B W rv b1.recs
  else if k = 7 then ∃ rv, v = bookV b2.office rv ∧ OwnG B W rv b2.recs
  else ∃ g r1 r2, v = .slice (some ⟨g, 0, none⟩) 3 3 ∧ B ≤ g ∧ ThreeB g O v0 b1.office r1 b2.office r2 W ∧ OwnG B W r1 b1.recs ∧ OwnG B W r2 b2.recs
theorem gmF_kept {B k : Nat} {O : Int} {v0 : Value} {b1 b2 : LBook} {v : Value} {W W' : World} {cc : Option Nat} (h : GmF B O v0 b1 b2 k v W) (hg : W.grownBy W' cc) (hc : ∀ g, cc = some g → False) : GmF B O v0 b1 b2 k v W' := by
  have hcn : cc = none := by
    cases cc with
    | none => rfl
    | some g => exact absurd rfl (fun e => hc g e)
  subst hcn
  have hb := grown_below hg
  unfold GmF at h ⊢
  split at h
  · rename_i hk; rw [if_pos hk]
    obtain ⟨rv, h1, h2⟩ := h
    exact ⟨rv, h1, h2.below hb (Nat.le_refl _)⟩
  · rename_i hk; rw [if_neg hk]; split at h
    · rename_i hk; rw [if_pos hk]
      obtain ⟨rv, h1, h2⟩ := h
      exact ⟨rv, h1, h2.below hb (Nat.le_refl _)⟩
    · rename_i hk; rw [if_neg hk]
      obtain ⟨g, r1, r2, h1, h2, h3, h4, h5⟩ := h
      exact ⟨g, r1, r2, h1, h2, keep_threeB h3 _ hb, h4.below hb (Nat.le_refl _), h5.below hb (Nat.le_refl _)⟩
theorem recs3 {W : World} {x y z : Value} {lx ly lz : List LRec} (hx : RecsN x lx W) (hy : RecsN y ly W) (hz : RecsN z lz W) (k : Nat) : RecsN (one3 x y z k) (one3 lx ly lz k) W := by
  unfold one3
  split
  · exact hx
  · split
    · exact hy
    · exact hz
/-- A row of three strings. -/
def ThreeS (g : Nat) (x y z : ByteArray) (W : World) : Prop := W.heap[g]? = some (.cells #[.string x, .string y, .string z] 9 (0, 0))
theorem keep_threeS {W : World} {g : Nat} {x y z : ByteArray} (h : ThreeS g x y z W) : ∀ W', Below W.heap.size W W' → ThreeS g x y z W' := fun _ hb => (hb.block g (Array.getElem?_eq_some_iff.1 h).1).trans h
theorem ThreeS.cell {W : World} {g : Nat} {x y z : ByteArray} (h : ThreeS g x y z W) (k : Nat) (hk : k < 3) : W.cell? ⟨g, k, none⟩ = some (.string (one3 x y z k)) := by
  rw [Lib.cell_of_heap (show W.heap[g]? = _ from h)]
  match k, hk with
  | 0, _ => rfl
  | 1, _ => rfl
  | 2, _ => rfl
def gfour (a b c d : Int) : Nat → Int := fun k => [a, b, c, d].getD k 0
set_option maxRecDepth 100000 in
set_option maxHeartbeats 40000000 in
theorem lawGMR (o : Int) (xv : Value) (N : Nat) (f : Nat → Nat → Int) (ro : Int) (rrv : Value) (rl : List LRec) (ox : LRec) (how n at_ : Int) (txt : ByteArray) (kd : Int) (w : World) (ho : I64 o) (hX : FiveAt w.heap.size w xv N f) (hRl : RecsAt w.heap.size w rrv rl) (hh : I64 how) (hn : I64 n) (ha : I64 at_) (hkd : I64 kd) (hT : Rounds w) :
    Calls Tryd.prog 3 #[.int .i64 o, xv, bookV ro rrv, recV ox, .int .i64 how, .int .i64 n, .int .i64 at_, .string txt, .int .i64 kd] w fun e w' => e = .returned (.bool true) ∧ Below w.heap.size w w' := by
  obtain ⟨⟨xa, xc, rfl, hx1, hx2, hx3⟩, hx4⟩ := id hX
  obtain ⟨rra, rrc, rfl, _, _⟩ := hRl.shape
  obtain ⟨mo, emo, hmo1, hmo2⟩ := cut_min (bs ox.text) 201 (by omega)
  obtain ⟨mt, emt, hmt1, hmt2⟩ := cut_min txt 60 (by omega)
  have hmt3 := cut_size txt mt hmt2
  obtain ⟨od, hod⟩ : ∃ x, x = cutR ox := ⟨_, rfl⟩
  have hex : (bs ox.text).extract 0 mo = bs od.text := by
    rw [extract_bs, hod]
    rw [bs_size] at emo hmo1
    show bs (ox.text.take mo) = bs (ox.text.take 201)
    congr 1
    rw [List.take_eq_take_iff]
    omega
  have hodt : od.text.length ≤ 1000 := by rw [hod]; show (ox.text.take 201).length ≤ 1000; rw [List.length_take]; omega
  have mo1 : (mo : Int) ≤ ((bs ox.text).size : Int) := by omega
  have mo0 : 0 ≤ (mo : Int) := by omega
  have mt1 : (mt : Int) ≤ (txt.size : Int) := by omega
  have mt0 : 0 ≤ (mt : Int) := by omega
  obtain ⟨TX, hTX⟩ : ∃ x, x = txt.extract 0 mt := ⟨_, rfl⟩
  have hTs : TX.size ≤ 60 := by rw [hTX]; exact hmt3
  have HMa := Lib.hid (fun (W : World) (h : FiveN (.slice xa N xc) N f W) => made_any o _ N f W ho h)
  have HBt := Lib.hid (fun (O : Int) (v : Value) (l : List LRec) (W : World) (h : RecsAt W.heap.size W v l) (hl : l.length ≤ 100000) => bent_any O v l how n at_ W h hl hh hn ha)
  have HCt := Lib.hid (fun (W : World) (h : RecsAt W.heap.size W (.slice rra rl.length rrc) rl) => cut_any ro _ rl W h)
  have HPk3 := Lib.hid (fun W => gpick_any kd 3 W hkd.1 hkd.2 (by omega) (by omega))
  have HPa := Lib.hid (fun W => gpick_any at_ 300 W ha.1 ha.2 (by omega) (by omega))
  have hp3 := pickZ_bd kd 3 (by omega)
  have HEn : Hid (∀ W, Calls Tryd.prog 15 #[.int .i64 at_, .agg #[.int .i64 kd, .int .i64 n, .int .i64 how, .int .i64 at_]] W fun e w' => e = .returned (recV (entryZ at_ (gfour kd n how at_))) ∧ Below W.heap.size W w') := fun W => entry_any at_ (gfour kd n how at_) W ha (fun i hi => by
    match i, hi with
    | 0, _ => exact hkd
    | 1, _ => exact hn
    | 2, _ => exact hh
    | 3, _ => exact ha)
  have hla := entry_rec at_ (gfour kd n how at_)
  generalize entryZ at_ (gfour kd n how at_) = la at *
  have hb0 : Below w.heap.size w ((w.alloc (.cells #[.int .i64 ro, .slice rra rl.length rrc] 25)).alloc (.cells #[.int .i64 ox.sec, .int .i64 ox.kind, .int .i64 ox.a, .int .i64 ox.b, .string (bs ox.text)] 27)) := ((Below.refl _ _).alloc (Nat.le_refl _) _).alloc (by simp) _
  have hx0 := logBox_new w ro (.slice rra rl.length rrc)
  have hx0' := hx0.below ((Below.refl (w.heap.size + 1) (w.alloc (.cells #[.int .i64 ro, .slice rra rl.length rrc] 25))).alloc (by simp) (.cells #[.int .i64 ox.sec, .int .i64 ox.kind, .int .i64 ox.a, .int .i64 ox.b, .string (bs ox.text)] 27)) (by omega)
  have hy0 := recBox_new (w.alloc (.cells #[.int .i64 ro, .slice rra rl.length rrc] 25)) ox
  rw [World.size_alloc] at hy0
  have HB0 := Lib.hid hb0
  have HX0 := Lib.hid hx0'
  have HY0 := Lib.hid hy0
  have HT := Lib.hid hT
  have HFv := Lib.hid hX
  have HRl := Lib.hid hRl
  have HEx := Lib.hid hex
  have HTX := Lib.hid hTX
  have HOd := Lib.hid hod
  clear hb0 hx0 hx0' hy0 hT hRl hex hTX hmt1 hmt2 hmt3 hmo1 hmo2 hX hx3 hx4 hod hh hn ha hkd
  generalize pickZ kd 3 = K3 at *
  generalize pickZ at_ 300 = A3 at *
  go_enter Tryd.func3, Tryd.ntmps3
  go_wp2_with fail
  refine (gsane_any _ (HT.out.below HB0.out (Nat.le_refl _))).mono ?_
  rintro e w1 ⟨rfl, hb⟩
  have hB1 := HB0.out.trans (hb.mono HB0.out.size)
  have hX1 := HX0.out.below hb HX0.out.lt
  have hY1 := HY0.out.below hb HY0.out.lt
  obtain ⟨y0, y1, y2, y3, y4⟩ := hY1.cells
  have yf : ∀ j, w1.frozen? ⟨w.heap.size + 1, j, none⟩ = false := Lib.frozen_of_heap hY1
  obtain ⟨W2, hW2⟩ : ∃ W, W = w1.setCell ⟨w.heap.size + 1, 4, none⟩ (.string ((bs ox.text).extract 0 mo)) := ⟨_, rfl⟩
  have hB2 : Below w.heap.size w W2 := by rw [hW2]; exact hB1.setCell (p := ⟨w.heap.size + 1, 4, none⟩) (by show w.heap.size ≤ w.heap.size + 1; omega) _
  have hX2 : LogBox W2 w.heap.size ro (.slice rra rl.length rrc) := by rw [hW2]; exact (heap_set_ne w1 (show w.heap.size ≠ w.heap.size + 1 by omega) 4 _).trans hX1
  have hY2 : RecBox W2 (w.heap.size + 1) od := by
    rw [hW2, HEx.out, HOd.out]
    exact heap_set hY1 4 _
  have hL : LiveP w [] W2 := ⟨hB2, HT.out.below hB2 (Nat.le_refl _), fun P hP => by cases hP⟩
  have HL2 := Lib.hid ((((hL.add (P := FiveN (.slice xa N xc) N f) (keep_five (HFv.out.later hB2))).add (keep_recs (HRl.out.later hB2 (Nat.le_refl _)))).add (keep_book hX2)).add (keep_rec hY2))
  have HW2 := Lib.hid hW2
  clear hb hB1 hX1 hY1 hB2 hX2 hY2 hL hW2 HB0 HX0 HY0 HFv HRl HT
  go_wp2_with fail
  rw [← HW2.out, ← HTX.out]
  clear y0 y1 y2 y3 y4 yf emo emt
  refine (HMa.out _ (HL2.out.get (by simp))).mono ?_
  rintro e w3 ⟨rv, rfl, hO, hb⟩
  have hs0 := small_made o N f
  have hs1 := small_bent hs0 how n at_
  have hs2 := small_cut ⟨ro, rl⟩
  generalize madeBook o N f = bk at *
  obtain ⟨O, l⟩ := bk
  simp only at hO ⊢
  obtain ⟨ra, rc, hrv, hrc1, hrc2⟩ := hO.shape
  subst hrv
  have hL := (((HL2.out.step hb).add (keep_recs hO.recs)).alloc (.cells #[.int .i64 O, .slice ra l.length rc] 25)).add (keep_book (logBox_new w3 O (.slice ra l.length rc)))
  have HL3 := Lib.hid hL
  clear hb hL hO HL2 HW2 HTX
  have HQ : Hid (∀ W, (w3.alloc (.cells #[.int .i64 O, .slice ra l.length rc] 25)).grownBy W none → W.cell? ⟨w3.heap.size, 0, none⟩ = some (.int .i64 O) ∧ W.cell? ⟨w3.heap.size, 1, none⟩ = some (.slice ra l.length rc) ∧ W.cell? ⟨w.heap.size, 0, none⟩ = some (.int .i64 ro) ∧ W.cell? ⟨w.heap.size, 1, none⟩ = some (.slice rra rl.length rrc)) := fun W hW => by
    have hL := HL3.out.step (grown_below hW)
    have h1 := show BookN w3.heap.size O (.slice ra l.length rc) W from hL.get (by simp)
    have h2 := show BookN w.heap.size ro (.slice rra rl.length rrc) W from hL.get (by simp)
    exact ⟨h1.c0, h1.c1, h2.c0, h2.c1⟩
  have hb1n : (bentB ⟨O, l⟩ how n at_).recs.length ≤ 60 := hs1.1
  have HS0 := Lib.hid hs0
  have HS1 := Lib.hid hs1
  have HS2 := Lib.hid hs2
  obtain ⟨V, hV⟩ : ∃ V, V = w3.alloc (.cells #[.int .i64 O, .slice ra l.length rc] 25) := ⟨_, rfl⟩
  rw [← hV] at HL3 HQ
  have HVE := Lib.hid hV
  clear hV hs1 hs2
  go_wp2
  rw [← HVE.out]
  refine wp_region_calm ⟨[5, 7, 8], GmF V.heap.size O (.slice ra l.length rc) (bentB ⟨O, l⟩ how n at_) (cutB ⟨ro, rl⟩), fun _ => [], 99, none, 1000⟩ (by kernel_rfl) (by kernel_rfl) (by kernel_rfl) (fun g h => by cases h) (fun k hk v W W' c h hg hc => gmF_kept h hg fun g hh => ?_) ?_
  · obtain ⟨_, _, i, j, u, hd, _⟩ := hc g hh
    simp at hd
  iterate 5 (refine calm_quiet (v := ?_) (by rfl) (by rfl) (fun W hW hD => ?_) ?_; rotate_left; (· (obtain ⟨z0, z1, z2, z3⟩ := HQ.out W hW; clear hD hW; go_simp; try with_reducible rfl)); simp only [Act.put, List.setIfInBounds_toArray, List.set_cons_zero, List.set_cons_succ, Nat.reduceAdd, Nat.zero_add])
  refine calm_makes (by rfl) (by rfl) (fun W hW hD Kc hK => ?_) (fun v75 => ?_)
  · have hLW := HL3.out.step (grown_below hW)
    refine wp_of_call (f := 11) ?_ ((HBt.out O _ l W (show RecsN (.slice ra l.length rc) l W from hLW.get (by simp)) (by have := HS0.out.1; show l.length ≤ 100000; exact Nat.le_trans this (by omega))).mono ?_)
    · clear hLW hD hW hK
      go_simp
    · rintro e w5 ⟨rb, rfl, hO, hb5⟩
      exact ⟨_, rfl, hK _ _ (made_plain ⟨rb, rfl, hO.mono hW.size⟩ hb5 rfl)⟩
  simp only [Act.put, List.setIfInBounds_toArray, List.set_cons_zero, List.set_cons_succ, Nat.reduceAdd, Nat.zero_add]
  iterate 1 (refine calm_quiet (v := ?_) (by rfl) (by rfl) (fun W hW hD => ?_) ?_; rotate_left; (· (obtain ⟨z0, z1, z2, z3⟩ := HQ.out W hW; clear hD hW; go_simp; try with_reducible rfl)); simp only [Act.put, List.setIfInBounds_toArray, List.set_cons_zero, List.set_cons_succ, Nat.reduceAdd, Nat.zero_add])
  refine calm_makes (by rfl) (by rfl) (fun W hW hD Kc hK => ?_) (fun v77 => ?_)
  · have hLW := HL3.out.step (grown_below hW)
    refine wp_of_call (f := 12) ?_ ((HCt.out W (show RecsN (.slice rra rl.length rrc) rl W from hLW.get (by simp))).mono ?_)
    · clear hLW hD hW hK
      go_simp
    · rintro e w5 ⟨rb, rfl, hO, hb5⟩
      exact ⟨_, rfl, hK _ _ (made_plain ⟨rb, rfl, hO.mono hW.size⟩ hb5 rfl)⟩
  simp only [Act.put, List.setIfInBounds_toArray, List.set_cons_zero, List.set_cons_succ, Nat.reduceAdd, Nat.zero_add]
  refine calm_makes (by rfl) (by rfl) (fun W hW hD Kc hK => ?_) (fun v78 => ?_)
  · obtain ⟨r1, hv1, hO1⟩ : ∃ rv, v75 = bookV (bentB ⟨O, l⟩ how n at_).office rv ∧ OwnG V.heap.size W rv (bentB ⟨O, l⟩ how n at_).recs := hD [] 5 (by kernel_rfl) (by kernel_rfl) (by kernel_rfl)
    obtain ⟨r2, hv2, hO2⟩ : ∃ rv, v77 = bookV (cutB ⟨ro, rl⟩).office rv ∧ OwnG V.heap.size W rv (cutB ⟨ro, rl⟩).recs := hD [] 7 (by kernel_rfl) (by kernel_rfl) (by kernel_rfl)
    subst hv1
    subst hv2
    obtain ⟨a1, c1, hr1, _, _⟩ := hO1.shape
    obtain ⟨a2, c2, hr2, _, _⟩ := hO2.shape
    subst hr1
    subst hr2
    refine wp_of_run (v := .slice (some ⟨W.heap.size, 0, none⟩) 3 3) (w' := W.alloc (.cells #[.int .i64 O, .slice ra l.length rc, .int .i64 (bentB ⟨O, l⟩ how n at_).office, .slice a1 (bentB ⟨O, l⟩ how n at_).recs.length c1, .int .i64 (cutB ⟨ro, rl⟩).office, .slice a2 (cutB ⟨ro, rl⟩).recs.length c2] 25)) ?_ (hK _ _ (made_below ⟨W.heap.size, _, _, rfl, hW.size, heap_alloc_new W _, hO1.below ((Below.refl _ _).alloc (Nat.le_refl _) _) (Nat.le_refl _), hO2.below ((Below.refl _ _).alloc (Nat.le_refl _) _) (Nat.le_refl _)⟩ ((Below.refl _ _).alloc (Nat.le_refl _) _) (fun g hg => ?_)))
    · clear hD hW hK hO1 hO2
      generalize (bentB ⟨O, l⟩ how n at_).office = z1 at *
      generalize (cutB ⟨ro, rl⟩).office = z2 at *
      generalize (bentB ⟨O, l⟩ how n at_).recs.length = z3 at *
      generalize (cutB ⟨ro, rl⟩).recs.length = z4 at *
      go_simp
    · have hg' : some W.heap.size = some g := hg
      cases hg'
      exact ⟨Nat.le_refl _, by simp⟩
  simp only [Act.put, List.setIfInBounds_toArray, List.set_cons_zero, List.set_cons_succ, Nat.reduceAdd, Nat.zero_add]
  refine calm_quiet (v := .int .i64 3) (by rfl) (by rfl) (fun W hW hD => ?_) ?_
  · obtain ⟨g, r1, r2, rfl, _⟩ : ∃ g r1 r2, v78 = .slice (some ⟨g, 0, none⟩) 3 3 ∧ V.heap.size ≤ g ∧ ThreeB g O (.slice ra l.length rc) (bentB ⟨O, l⟩ how n at_).office r1 (cutB ⟨ro, rl⟩).office r2 W ∧ OwnG V.heap.size W r1 (bentB ⟨O, l⟩ how n at_).recs ∧ OwnG V.heap.size W r2 (cutB ⟨ro, rl⟩).recs := hD [] 8 (by kernel_rfl) (by kernel_rfl) (by kernel_rfl)
    clear hD hW
    go_simp
  simp only [Act.put, List.setIfInBounds_toArray, List.set_cons_zero, List.set_cons_succ, Nat.reduceAdd, Nat.zero_add]
  iterate 1 (refine calm_quiet (v := ?_) (by rfl) (by rfl) (fun W hW hD => ?_) ?_; rotate_left; (· (clear hD hW; go_simp; try with_reducible rfl)); simp only [Act.put, List.setIfInBounds_toArray, List.set_cons_zero, List.set_cons_succ, Nat.reduceAdd, Nat.zero_add])
  refine calm_nil fun W hW hF => ?_
  obtain ⟨g, r1, r2, hv78, _, hT3, hO1, hO2⟩ : ∃ g r1 r2, v78 = .slice (some ⟨g, 0, none⟩) 3 3 ∧ V.heap.size ≤ g ∧ ThreeB g O (.slice ra l.length rc) (bentB ⟨O, l⟩ how n at_).office r1 (cutB ⟨ro, rl⟩).office r2 W ∧ OwnG V.heap.size W r1 (bentB ⟨O, l⟩ how n at_).recs ∧ OwnG V.heap.size W r2 (cutB ⟨ro, rl⟩).recs := hF 8 (by kernel_rfl) (by kernel_rfl)
  subst hv78
  have HLx := Lib.hid ((((HL3.out.step (grown_below hW)).add (P := ThreeB g O (.slice ra l.length rc) (bentB ⟨O, l⟩ how n at_).office r1 (cutB ⟨ro, rl⟩).office r2) (keep_threeB hT3)).add (keep_recs hO1.recs)).add (keep_recs hO2.recs))
  have HLy := Lib.hid (HLx.out.sub (Qs := [RecsN r2 (cutB ⟨ro, rl⟩).recs, RecsN r1 (bentB ⟨O, l⟩ how n at_).recs, ThreeB g O (.slice ra l.length rc) (bentB ⟨O, l⟩ how n at_).office r1 (cutB ⟨ro, rl⟩).office r2, RecsN (.slice ra l.length rc) l, RecN (w.heap.size + 1) od]) (fun Q hQ => by simp at hQ; rcases hQ with rfl | rfl | rfl | rfl | rfl <;> simp))
  clear hF hW hT3 hO1 hO2 HL3 HLx HQ HVE hb1n HBt HCt HMa
  generalize bentB ⟨O, l⟩ how n at_ = b1 at *
  generalize cutB ⟨ro, rl⟩ = b2 at *
  go_wp2
  go_loopw [80] (fun i wr => ∃ j : Nat, j ≤ 3 ∧ i = .int .i64 j ∧ Hid (LiveP w [RecsN r2 b2.recs, RecsN r1 b1.recs, ThreeB g O (.slice ra l.length rc) b1.office r1 b2.office r2, RecsN (.slice ra l.length rc) l, RecN (w.heap.size + 1) od] wr)) (fun i _ => 3 - (intOf i).toNat)
  case atStart => exact ⟨0, by omega, rfl, HLy⟩
  case round =>
    clear HLy
    obtain ⟨j, hj, rfl, HW⟩ := hrel
    by_cases h1 : j < 3
    · have jj : (j : Int) < 3 := by omega
      have j0 : 0 ≤ (j : Int) := by omega
      obtain ⟨t0, t1⟩ := (show ThreeB g O (.slice ra l.length rc) b1.office r1 b2.office r2 wr from HW.out.get (by simp)).cell j h1
      have hrs := recs3 (show RecsN (.slice ra l.length rc) l wr from HW.out.get (by simp)) (show RecsN r1 b1.recs wr from HW.out.get (by simp)) (show RecsN r2 b2.recs wr from HW.out.get (by simp)) j
      have hsm : SmallB ⟨one3 O b1.office b2.office j, one3 l b1.recs b2.recs j⟩ := by
        unfold one3
        split
        · exact HS0.out
        · split
          · exact HS1.out
          · exact HS2.out
      generalize one3 O b1.office b2.office j = ob at *
      generalize one3 l b1.recs b2.recs j = lb at *
      obtain ⟨va, vc, hvb, hv1, hv2⟩ := (show RecsAt wr.heap.size wr _ _ from hrs).shape
      rw [hvb] at hrs t1
      unfold maxLen at hv2
      clear hvb
      obtain ⟨bn, hbn⟩ : ∃ x, x = lb.length := ⟨_, rfl⟩
      rw [← hbn] at hrs t1 hv1
      have hbn60 : bn ≤ 60 := by rw [hbn]; exact hsm.1
      have HBN := Lib.hid hbn
      have HSm := Lib.hid hsm.2
      have hL := ((HW.out.add (P := RecsN (.slice va bn vc) lb) (keep_recs hrs)).alloc (.cells #[.int .i64 ob, .slice va bn vc] 25)).add (keep_book (logBox_new wr ob (.slice va bn vc)))
      obtain ⟨G, hG⟩ : ∃ x, x = wr.heap.size := ⟨_, rfl⟩
      rw [← hG] at hL
      have b0 := (show BookN G ob (.slice va bn vc) _ from hL.get (by simp)).c0
      have b1' := (show BookN G ob (.slice va bn vc) _ from hL.get (by simp)).c1
      rw [hG] at b0 b1'
      obtain ⟨d0, d1, d2, d3, d4⟩ := (show RecBox _ (w.heap.size + 1) od from (show RecN (w.heap.size + 1) od _ from hL.get (by simp))).cells
      have HL1 := Lib.hid hL
      obtain ⟨eo, el, ee, he⟩ : ∃ eo el ee, addE ⟨ob, lb⟩ od = (⟨eo, el⟩, ee) := ⟨_, _, _, rfl⟩
      obtain ⟨fo, fl, fe, hf⟩ : ∃ eo el ee, addE ⟨ob, lb⟩ la = (⟨eo, el⟩, ee) := ⟨_, _, _, rfl⟩
      have HE := Lib.hid he
      have HF := Lib.hid hf
      clear he hf hL hrs hsm hbn HW
      go_wp2_with fail
      refine (gadd_any ob _ lb od _ (show RecsN (.slice va bn vc) lb _ from HL1.out.get (by simp)) (by rw [← HBN.out]; omega)).mono ?_
      rintro e w4 ⟨rv, rfl, hO, hb⟩
      rw [HE.out] at hO ⊢
      simp only at hO ⊢
      obtain ⟨a4, c4, hrv, _, _⟩ := hO.shape
      subst hrv
      have hL := (((HL1.out.step hb).add (keep_recs hO.recs)).alloc (.cells #[.int .i64 eo, .slice a4 el.length c4] 25)).add (keep_book (logBox_new w4 eo (.slice a4 el.length c4)))
      clear b0 b1' d0 d1 d2 d3 d4
      have b0 := (show BookN G ob (.slice va bn vc) _ from hL.get (by simp)).c0
      have b1' := (show BookN G ob (.slice va bn vc) _ from hL.get (by simp)).c1
      rw [hG] at b0 b1'
      obtain ⟨d0, d1, d2, d3, d4⟩ := (show RecBox _ (w.heap.size + 1) od from (show RecN (w.heap.size + 1) od _ from hL.get (by simp))).cells
      have HL4 := Lib.hid hL
      clear hb hO hL HL1
      go_wp2_with fail
      refine (refAdd_any ob _ lb od _ (show RecsN (.slice va bn vc) lb _ from HL4.out.get (by simp)) (by rw [← HBN.out]; omega)).mono ?_
      rintro e w5 ⟨rv, rfl, hO, hb⟩
      rw [HE.out] at hO ⊢
      simp only at hO ⊢
      obtain ⟨a5, c5, hrv, _, _⟩ := hO.shape
      subst hrv
      have hL := (((HL4.out.step hb).add (keep_recs hO.recs)).alloc (.cells #[.int .i64 eo, .slice a5 el.length c5] 25)).add (keep_book (logBox_new w5 eo (.slice a5 el.length c5)))
      clear b0 b1' d0 d1 d2 d3 d4 hb hO HL4
      have HL5 := Lib.hid hL
      clear hL
      go_wp2_with fail
      refine (HEn.out _).mono ?_
      rintro e w6 ⟨rfl, hb⟩
      have hL := ((HL5.out.step hb).alloc (.cells #[.int .i64 la.sec, .int .i64 la.kind, .int .i64 la.a, .int .i64 la.b, .string (bs la.text)] 27)).add (keep_rec (recBox_new w6 la))
      obtain ⟨L6, hL6⟩ : ∃ x, x = w6.heap.size := ⟨_, rfl⟩
      rw [← hL6] at hL
      have b0 := (show BookN G ob (.slice va bn vc) _ from hL.get (by simp)).c0
      have b1' := (show BookN G ob (.slice va bn vc) _ from hL.get (by simp)).c1
      rw [hG] at b0 b1'
      obtain ⟨d0, d1, d2, d3, d4⟩ := (show RecBox _ L6 la from (show RecN L6 la _ from hL.get (by simp))).cells
      have HL6 := Lib.hid hL
      rw [hL6] at d0 d1 d2 d3 d4
      clear hb hL HL5
      go_wp2_with fail
      refine (gadd_any ob _ lb la _ (show RecsN (.slice va bn vc) lb _ from HL6.out.get (by simp)) (by rw [← HBN.out]; omega)).mono ?_
      rintro e w7 ⟨rv, rfl, hO, hb⟩
      rw [HF.out] at hO ⊢
      simp only at hO ⊢
      obtain ⟨a7, c7, hrv, _, _⟩ := hO.shape
      subst hrv
      have hL := (((HL6.out.step hb).add (keep_recs hO.recs)).alloc (.cells #[.int .i64 fo, .slice a7 fl.length c7] 25)).add (keep_book (logBox_new w7 fo (.slice a7 fl.length c7)))
      clear b0 b1' d0 d1 d2 d3 d4
      have b0 := (show BookN G ob (.slice va bn vc) _ from hL.get (by simp)).c0
      have b1' := (show BookN G ob (.slice va bn vc) _ from hL.get (by simp)).c1
      rw [hG] at b0 b1'
      obtain ⟨d0, d1, d2, d3, d4⟩ := (show RecBox _ L6 la from (show RecN L6 la _ from hL.get (by simp))).cells
      have HL7 := Lib.hid hL
      rw [hL6] at d0 d1 d2 d3 d4
      clear hb hO hL HL6
      go_wp2_with fail
      refine (refAdd_any ob _ lb la _ (show RecsN (.slice va bn vc) lb _ from HL7.out.get (by simp)) (by rw [← HBN.out]; omega)).mono ?_
      rintro e w8 ⟨rv, rfl, hO, hb⟩
      rw [HF.out] at hO ⊢
      simp only at hO ⊢
      obtain ⟨a8, c8, hrv, _, _⟩ := hO.shape
      subst hrv
      have hL := (((HL7.out.step hb).add (keep_recs hO.recs)).alloc (.cells #[.int .i64 fo, .slice a8 fl.length c8] 25)).add (keep_book (logBox_new w8 fo (.slice a8 fl.length c8)))
      clear b0 b1' d0 d1 d2 d3 d4 hb hO HL7
      have HL8 := Lib.hid hL
      clear hL
      obtain ⟨V8, hV8⟩ : ∃ V, V = w8.alloc (.cells #[.int .i64 fo, .slice a8 fl.length c8] 25) := ⟨_, rfl⟩
      rw [← hV8] at HL8
      have HV8 := Lib.hid hV8
      have HQ : Hid (∀ W, V8.grownBy W none → W.cell? ⟨wr.heap.size, 0, none⟩ = some (.int .i64 ob) ∧ W.cell? ⟨wr.heap.size, 1, none⟩ = some (.slice va bn vc) ∧ W.cell? ⟨w4.heap.size, 0, none⟩ = some (.int .i64 eo) ∧ W.cell? ⟨w4.heap.size, 1, none⟩ = some (.slice a4 el.length c4) ∧ W.cell? ⟨w5.heap.size, 0, none⟩ = some (.int .i64 eo) ∧ W.cell? ⟨w5.heap.size, 1, none⟩ = some (.slice a5 el.length c5) ∧ W.cell? ⟨w7.heap.size, 0, none⟩ = some (.int .i64 fo) ∧ W.cell? ⟨w7.heap.size, 1, none⟩ = some (.slice a7 fl.length c7) ∧ W.cell? ⟨w8.heap.size, 0, none⟩ = some (.int .i64 fo) ∧ W.cell? ⟨w8.heap.size, 1, none⟩ = some (.slice a8 fl.length c8)) := fun W hW => by
        have hL := HL8.out.step (grown_below hW)
        have h1 := show BookN G ob (.slice va bn vc) W from hL.get (by simp)
        have h2 := show BookN w4.heap.size eo (.slice a4 el.length c4) W from hL.get (by simp)
        have h3 := show BookN w5.heap.size eo (.slice a5 el.length c5) W from hL.get (by simp)
        have h4 := show BookN w7.heap.size fo (.slice a7 fl.length c7) W from hL.get (by simp)
        have h5 := show BookN w8.heap.size fo (.slice a8 fl.length c8) W from hL.get (by simp)
        rw [hG] at h1
        exact ⟨h1.c0, h1.c1, h2.c0, h2.c1, h3.c0, h3.c1, h4.c0, h4.c1, h5.c0, h5.c1⟩
      clear hV8
      go_wp2
      rw [← HV8.out]
      obtain ⟨bb, hbb⟩ : ∃ b, bookB ⟨ob, lb⟩ = b := ⟨_, rfl⟩
      have HBB := Lib.hid hbb
      clear hbb
      refine wp_region_calm ⟨[1, 3, 18, 24], fun k v _ => if k = 1 then v = .bool bb else if k = 3 then v = .bool bb else v = .bool true, fun _ => [], 99, none, 1000⟩ (by kernel_rfl) (by kernel_rfl) (by kernel_rfl) (fun g h => by cases h) (fun k hk v W W' c h hg hc => h) ?_
      iterate 1 (refine calm_quiet (v := ?_) (by rfl) (by rfl) (fun W hW hD => ?_) ?_; rotate_left; (· (obtain ⟨z0, z1, z2, z3, z4, z5, z6, z7, z8, z9⟩ := HQ.out W hW; clear hD hW; go_simp; try with_reducible rfl)); simp only [Act.put, List.setIfInBounds_toArray, List.set_cons_zero, List.set_cons_succ, Nat.reduceAdd, Nat.zero_add])
      refine calm_makes (by rfl) (by rfl) (fun W hW hD Kc hK => ?_) (fun v116 => ?_)
      · have hLW := HL8.out.step (grown_below hW)
        refine wp_of_call (f := 16) ?_ ((valid_any ob _ lb W (show RecsN (.slice va bn vc) lb W from hLW.get (by simp))).mono ?_)
        · obtain ⟨z0, z1, z2, z3, z4, z5, z6, z7, z8, z9⟩ := HQ.out W hW
          clear hD hW hK hLW
          go_simp
        · rintro e w5 ⟨rfl, hb5⟩
          exact ⟨_, rfl, hK _ _ (made_plain (by show _ = _; rw [HBB.out]; rfl) hb5 rfl)⟩
      simp only [Act.put, List.setIfInBounds_toArray, List.set_cons_zero, List.set_cons_succ, Nat.reduceAdd, Nat.zero_add]
      iterate 1 (refine calm_quiet (v := ?_) (by rfl) (by rfl) (fun W hW hD => ?_) ?_; rotate_left; (· (obtain ⟨z0, z1, z2, z3, z4, z5, z6, z7, z8, z9⟩ := HQ.out W hW; clear hD hW; go_simp; try with_reducible rfl)); simp only [Act.put, List.setIfInBounds_toArray, List.set_cons_zero, List.set_cons_succ, Nat.reduceAdd, Nat.zero_add])
      refine calm_makes (by rfl) (by rfl) (fun W hW hD Kc hK => ?_) (fun v118 => ?_)
      · have hLW := HL8.out.step (grown_below hW)
        refine wp_of_call (f := 17) ?_ ((refValid_any ob _ lb W (show RecsN (.slice va bn vc) lb W from hLW.get (by simp)) (by rw [← HBN.out]; omega)).mono ?_)
        · obtain ⟨z0, z1, z2, z3, z4, z5, z6, z7, z8, z9⟩ := HQ.out W hW
          clear hD hW hK hLW
          go_simp
        · rintro e w5 ⟨rfl, hb5⟩
          exact ⟨_, rfl, hK _ _ (made_plain (by show _ = _; rw [HBB.out]; rfl) hb5 rfl)⟩
      simp only [Act.put, List.setIfInBounds_toArray, List.set_cons_zero, List.set_cons_succ, Nat.reduceAdd, Nat.zero_add]
      refine calm_quiet (v := .bool false) (by rfl) (by rfl) (fun W hW hD => ?_) ?_
      · obtain rfl : v116 = .bool bb := hD [] 1 (by kernel_rfl) (by kernel_rfl) (by kernel_rfl)
        obtain rfl : v118 = .bool bb := hD [] 3 (by kernel_rfl) (by kernel_rfl) (by kernel_rfl)
        clear hD hW
        go_simp
        try simp
      simp only [Act.put, List.setIfInBounds_toArray, List.set_cons_zero, List.set_cons_succ, Nat.reduceAdd, Nat.zero_add]
      iterate 13 (refine calm_quiet (v := ?_) (by rfl) (by rfl) (fun W hW hD => ?_) ?_; rotate_left; (· (obtain ⟨z0, z1, z2, z3, z4, z5, z6, z7, z8, z9⟩ := HQ.out W hW; clear hD hW; go_simp; try with_reducible rfl)); simp only [Act.put, List.setIfInBounds_toArray, List.set_cons_zero, List.set_cons_succ, Nat.reduceAdd, Nat.zero_add])
      refine calm_makes (by rfl) (by rfl) (fun W hW hD Kc hK => ?_) (fun v133 => ?_)
      · have hLW := HL8.out.step (grown_below hW)
        refine wp_of_call (f := 18) ?_ ((sameBook_any eo eo (.slice a4 el.length c4) (.slice a5 el.length c5) el el W (show RecsN (.slice a4 el.length c4) el W from hLW.get (by simp)) (show RecsN (.slice a5 el.length c5) el W from hLW.get (by simp))).mono ?_)
        · obtain ⟨z0, z1, z2, z3, z4, z5, z6, z7, z8, z9⟩ := HQ.out W hW
          clear hD hW hK hLW
          go_simp
        · rintro e w5 ⟨rfl, hb5⟩
          exact ⟨_, rfl, hK _ _ (made_plain (by show _ = _; rw [beq_self_eq_true]; rfl) hb5 rfl)⟩
      simp only [Act.put, List.setIfInBounds_toArray, List.set_cons_zero, List.set_cons_succ, Nat.reduceAdd, Nat.zero_add]
      refine calm_quiet (v := .bool false) (by rfl) (by rfl) (fun W hW hD => ?_) ?_
      · obtain rfl : v133 = .bool true := hD [] 18 (by kernel_rfl) (by kernel_rfl) (by kernel_rfl)
        clear hD hW
        go_simp
      simp only [Act.put, List.setIfInBounds_toArray, List.set_cons_zero, List.set_cons_succ, Nat.reduceAdd, Nat.zero_add]
      iterate 4 (refine calm_quiet (v := ?_) (by rfl) (by rfl) (fun W hW hD => ?_) ?_; rotate_left; (· (obtain ⟨z0, z1, z2, z3, z4, z5, z6, z7, z8, z9⟩ := HQ.out W hW; clear hD hW; go_simp; try with_reducible rfl)); simp only [Act.put, List.setIfInBounds_toArray, List.set_cons_zero, List.set_cons_succ, Nat.reduceAdd, Nat.zero_add])
      refine calm_makes (by rfl) (by rfl) (fun W hW hD Kc hK => ?_) (fun v139 => ?_)
      · have hLW := HL8.out.step (grown_below hW)
        refine wp_of_call (f := 18) ?_ ((sameBook_any fo fo (.slice a7 fl.length c7) (.slice a8 fl.length c8) fl fl W (show RecsN (.slice a7 fl.length c7) fl W from hLW.get (by simp)) (show RecsN (.slice a8 fl.length c8) fl W from hLW.get (by simp))).mono ?_)
        · obtain ⟨z0, z1, z2, z3, z4, z5, z6, z7, z8, z9⟩ := HQ.out W hW
          clear hD hW hK hLW
          go_simp
        · rintro e w5 ⟨rfl, hb5⟩
          exact ⟨_, rfl, hK _ _ (made_plain (by show _ = _; rw [beq_self_eq_true]; rfl) hb5 rfl)⟩
      simp only [Act.put, List.setIfInBounds_toArray, List.set_cons_zero, List.set_cons_succ, Nat.reduceAdd, Nat.zero_add]
      refine calm_quiet (v := .bool false) (by rfl) (by rfl) (fun W hW hD => ?_) ?_
      · obtain rfl : v139 = .bool true := hD [] 24 (by kernel_rfl) (by kernel_rfl) (by kernel_rfl)
        clear hD hW
        go_simp
      simp only [Act.put, List.setIfInBounds_toArray, List.set_cons_zero, List.set_cons_succ, Nat.reduceAdd, Nat.zero_add]
      iterate 1 (refine calm_quiet (v := ?_) (by rfl) (by rfl) (fun W hW hD => ?_) ?_; rotate_left; (· (obtain ⟨z0, z1, z2, z3, z4, z5, z6, z7, z8, z9⟩ := HQ.out W hW; clear hD hW; go_simp; try with_reducible rfl)); simp only [Act.put, List.setIfInBounds_toArray, List.set_cons_zero, List.set_cons_succ, Nat.reduceAdd, Nat.zero_add])
      refine calm_nil fun W hW hF => ?_
      have HL9 := Lib.hid ((HL8.out.step (grown_below hW)).sub (Qs := [BookN G ob (.slice va bn vc), RecsN (.slice va bn vc) lb, RecsN r2 b2.recs, RecsN r1 b1.recs, ThreeB g O (.slice ra l.length rc) b1.office r1 b2.office r2, RecsN (.slice ra l.length rc) l, RecN (w.heap.size + 1) od]) (fun Q hQ => by simp at hQ; rcases hQ with rfl | rfl | rfl | rfl | rfl | rfl | rfl <;> simp))
      clear hF hW HQ HL8 HV8 HE HF HBB
      rw [← hG]
      clear hG
      go_wp2_with fail
      refine (HPk3.out _).mono ?_
      rintro e w' ⟨rfl, rfl⟩
      have wk3 : IntKind.i64.wrap (1 + K3) = 1 + K3 := IntWalk.i64_in _ (by omega)
      have HL10 := Lib.hid ((HL9.out.alloc (.cells #[.int .i64 kd, .int .i64 (1 + K3)] 3)).add (P := TwoI W.heap.size kd (1 + K3)) (keep_twoI (twoI_new W _ _)))
      go_wp2
      clear wk3
      obtain ⟨gk, hgk⟩ : ∃ x, x = W.heap.size := ⟨_, rfl⟩
      rw [← hgk] at HL10 ⊢
      clear hgk HL9
      go_loopw [148] (fun i wr => ∃ j2 : Nat, j2 ≤ 2 ∧ i = .int .i64 j2 ∧ Hid (LiveP w [TwoI gk kd (1 + K3), BookN G ob (.slice va bn vc), RecsN (.slice va bn vc) lb, RecsN r2 b2.recs, RecsN r1 b1.recs, ThreeB g O (.slice ra l.length rc) b1.office r1 b2.office r2, RecsN (.slice ra l.length rc) l, RecN (w.heap.size + 1) od] wr)) (fun i _ => 2 - (intOf i).toNat)
      case atStart => exact ⟨0, by omega, rfl, HL10⟩
      case round =>
        clear HL10
        obtain ⟨j2, hj2, rfl, HW⟩ := hrel
        by_cases h2 : j2 < 2
        · have ji2 : (j2 : Int) < 2 := by omega
          have j20 : 0 ≤ (j2 : Int) := by omega
          have c0 := (show TwoI gk kd (1 + K3) wr from HW.out.get (by simp)).cell j2 h2
          generalize one2 kd (1 + K3) j2 = kk at *
          have HQ : Hid (∀ W, wr.grownBy W none → W.cell? ⟨G, 0, none⟩ = some (.int .i64 ob) ∧ W.cell? ⟨G, 1, none⟩ = some (.slice va bn vc)) := fun W hW => by
            have h1 := show BookN G ob (.slice va bn vc) W from (HW.out.step (grown_below hW)).get (by simp)
            exact ⟨h1.c0, h1.c1⟩
          obtain ⟨x1, hx1e⟩ : ∃ x, findB ⟨ob, lb⟩ kk at_ = x := ⟨_, rfl⟩
          obtain ⟨x2, hx2e⟩ : ∃ x, findB ⟨ob, lb⟩ kk A3 = x := ⟨_, rfl⟩
          have HX1 := Lib.hid hx1e
          have HX2 := Lib.hid hx2e
          clear hx1e hx2e
          go_wp2
          clear c0
          refine wp_region_calm ⟨[3, 7, 13, 14, 18, 19], fun k v _ => if k = 3 then v = .int .i64 x1 else if k = 7 then v = .int .i64 x1 else if k = 13 then v = .int .i64 A3 else if k = 18 then v = .int .i64 A3 else v = .int .i64 x2, fun _ => [], 99, none, 1000⟩ (by kernel_rfl) (by kernel_rfl) (by kernel_rfl) (fun g h => by cases h) (fun k hk v W W' c h hg hc => h) ?_
          iterate 3 (refine calm_quiet (v := ?_) (by rfl) (by rfl) (fun W hW hD => ?_) ?_; rotate_left; (· (obtain ⟨z0, z1⟩ := HQ.out W hW; clear hD hW; go_simp; try with_reducible rfl)); simp only [Act.put, List.setIfInBounds_toArray, List.set_cons_zero, List.set_cons_succ, Nat.reduceAdd, Nat.zero_add])
          refine calm_makes (by rfl) (by rfl) (fun W hW hD Kc hK => ?_) (fun v155 => ?_)
          · have hLW := HW.out.step (grown_below hW)
            refine wp_of_call (f := 20) ?_ ((find_any ob _ lb kk at_ W (show RecsN (.slice va bn vc) lb W from hLW.get (by simp)) (by rw [← HBN.out]; omega) hLW.rounds.lt).mono ?_)
            · obtain ⟨z0, z1⟩ := HQ.out W hW
              clear hD hW hK hLW
              go_simp
            · rintro e w5 ⟨rfl, hb5⟩
              exact ⟨_, rfl, hK _ _ (made_plain (by show _ = _; rw [HX1.out]; rfl) hb5 rfl)⟩
          simp only [Act.put, List.setIfInBounds_toArray, List.set_cons_zero, List.set_cons_succ, Nat.reduceAdd, Nat.zero_add]
          iterate 3 (refine calm_quiet (v := ?_) (by rfl) (by rfl) (fun W hW hD => ?_) ?_; rotate_left; (· (obtain ⟨z0, z1⟩ := HQ.out W hW; clear hD hW; go_simp; try with_reducible rfl)); simp only [Act.put, List.setIfInBounds_toArray, List.set_cons_zero, List.set_cons_succ, Nat.reduceAdd, Nat.zero_add])
          refine calm_makes (by rfl) (by rfl) (fun W hW hD Kc hK => ?_) (fun v159 => ?_)
          · have hLW := HW.out.step (grown_below hW)
            refine wp_of_call (f := 21) ?_ ((refFind_any ob _ lb kk at_ W (show RecsN (.slice va bn vc) lb W from hLW.get (by simp)) (by rw [← HBN.out]; omega)).mono ?_)
            · obtain ⟨z0, z1⟩ := HQ.out W hW
              clear hD hW hK hLW
              go_simp
            · rintro e w5 ⟨rfl, hb5⟩
              exact ⟨_, rfl, hK _ _ (made_plain (by show _ = _; rw [HX1.out]; rfl) hb5 rfl)⟩
          simp only [Act.put, List.setIfInBounds_toArray, List.set_cons_zero, List.set_cons_succ, Nat.reduceAdd, Nat.zero_add]
          refine calm_quiet (v := .bool false) (by rfl) (by rfl) (fun W hW hD => ?_) ?_
          · obtain rfl : v155 = .int .i64 x1 := hD [] 3 (by kernel_rfl) (by kernel_rfl) (by kernel_rfl)
            obtain rfl : v159 = .int .i64 x1 := hD [] 7 (by kernel_rfl) (by kernel_rfl) (by kernel_rfl)
            clear hD hW
            go_simp
            try simp
          simp only [Act.put, List.setIfInBounds_toArray, List.set_cons_zero, List.set_cons_succ, Nat.reduceAdd, Nat.zero_add]
          iterate 4 (refine calm_quiet (v := ?_) (by rfl) (by rfl) (fun W hW hD => ?_) ?_; rotate_left; (· (obtain ⟨z0, z1⟩ := HQ.out W hW; clear hD hW; go_simp; try with_reducible rfl)); simp only [Act.put, List.setIfInBounds_toArray, List.set_cons_zero, List.set_cons_succ, Nat.reduceAdd, Nat.zero_add])
          refine calm_makes (by rfl) (by rfl) (fun W hW hD Kc hK => ?_) (fun v165 => ?_)
          · refine wp_of_call (f := 19) ?_ ((HPa.out W).mono ?_)
            · clear hD hW hK
              go_simp
            · rintro e w5 ⟨rfl, rfl⟩
              exact ⟨_, rfl, hK _ _ (made_plain rfl (Below.refl _ _) rfl)⟩
          simp only [Act.put, List.setIfInBounds_toArray, List.set_cons_zero, List.set_cons_succ, Nat.reduceAdd, Nat.zero_add]
          refine calm_makes (by rfl) (by rfl) (fun W hW hD Kc hK => ?_) (fun v166 => ?_)
          · have hLW := HW.out.step (grown_below hW)
            obtain rfl : v165 = .int .i64 A3 := hD [] 13 (by kernel_rfl) (by kernel_rfl) (by kernel_rfl)
            refine wp_of_call (f := 20) ?_ ((find_any ob _ lb kk A3 W (show RecsN (.slice va bn vc) lb W from hLW.get (by simp)) (by rw [← HBN.out]; omega) hLW.rounds.lt).mono ?_)
            · obtain ⟨z0, z1⟩ := HQ.out W hW
              clear hD hW hK hLW
              go_simp
            · rintro e w5 ⟨rfl, hb5⟩
              exact ⟨_, rfl, hK _ _ (made_plain (by show _ = _; rw [HX2.out]; rfl) hb5 rfl)⟩
          simp only [Act.put, List.setIfInBounds_toArray, List.set_cons_zero, List.set_cons_succ, Nat.reduceAdd, Nat.zero_add]
          iterate 3 (refine calm_quiet (v := ?_) (by rfl) (by rfl) (fun W hW hD => ?_) ?_; rotate_left; (· (obtain ⟨z0, z1⟩ := HQ.out W hW; clear hD hW; go_simp; try with_reducible rfl)); simp only [Act.put, List.setIfInBounds_toArray, List.set_cons_zero, List.set_cons_succ, Nat.reduceAdd, Nat.zero_add])
          refine calm_makes (by rfl) (by rfl) (fun W hW hD Kc hK => ?_) (fun v170 => ?_)
          · refine wp_of_call (f := 19) ?_ ((HPa.out W).mono ?_)
            · clear hD hW hK
              go_simp
            · rintro e w5 ⟨rfl, rfl⟩
              exact ⟨_, rfl, hK _ _ (made_plain rfl (Below.refl _ _) rfl)⟩
          simp only [Act.put, List.setIfInBounds_toArray, List.set_cons_zero, List.set_cons_succ, Nat.reduceAdd, Nat.zero_add]
          refine calm_makes (by rfl) (by rfl) (fun W hW hD Kc hK => ?_) (fun v171 => ?_)
          · have hLW := HW.out.step (grown_below hW)
            obtain rfl : v170 = .int .i64 A3 := hD [] 18 (by kernel_rfl) (by kernel_rfl) (by kernel_rfl)
            refine wp_of_call (f := 21) ?_ ((refFind_any ob _ lb kk A3 W (show RecsN (.slice va bn vc) lb W from hLW.get (by simp)) (by rw [← HBN.out]; omega)).mono ?_)
            · obtain ⟨z0, z1⟩ := HQ.out W hW
              clear hD hW hK hLW
              go_simp
            · rintro e w5 ⟨rfl, hb5⟩
              exact ⟨_, rfl, hK _ _ (made_plain (by show _ = _; rw [HX2.out]; rfl) hb5 rfl)⟩
          simp only [Act.put, List.setIfInBounds_toArray, List.set_cons_zero, List.set_cons_succ, Nat.reduceAdd, Nat.zero_add]
          refine calm_quiet (v := .bool false) (by rfl) (by rfl) (fun W hW hD => ?_) ?_
          · obtain rfl : v166 = .int .i64 x2 := hD [] 14 (by kernel_rfl) (by kernel_rfl) (by kernel_rfl)
            obtain rfl : v171 = .int .i64 x2 := hD [] 19 (by kernel_rfl) (by kernel_rfl) (by kernel_rfl)
            clear hD hW
            go_simp
            try simp
          simp only [Act.put, List.setIfInBounds_toArray, List.set_cons_zero, List.set_cons_succ, Nat.reduceAdd, Nat.zero_add]
          iterate 1 (refine calm_quiet (v := ?_) (by rfl) (by rfl) (fun W hW hD => ?_) ?_; rotate_left; (· (obtain ⟨z0, z1⟩ := HQ.out W hW; clear hD hW; go_simp; try with_reducible rfl)); simp only [Act.put, List.setIfInBounds_toArray, List.set_cons_zero, List.set_cons_succ, Nat.reduceAdd, Nat.zero_add])
          refine calm_nil fun W hW hF => ?_
          have HW2 := Lib.hid (HW.out.step (grown_below hW))
          clear hF hW HQ HW
          go_wp2
          go_roundw
          case rel => exact ⟨j2 + 1, by omega, by go_num, HW2⟩
          case measure => simp [intOf]; omega
        · have ji22 : ¬ ((j2 : Int) < 2) := by omega
          have HL11 := Lib.hid (HW.out.sub (Qs := [BookN G ob (.slice va bn vc), RecsN (.slice va bn vc) lb, RecsN r2 b2.recs, RecsN r1 b1.recs, ThreeB g O (.slice ra l.length rc) b1.office r1 b2.office r2, RecsN (.slice ra l.length rc) l, RecN (w.heap.size + 1) od]) (fun Q hQ => List.mem_cons_of_mem _ hQ))
          clear HW
          go_wp2
          clear ji22 h2 hj2
          go_loopw [34] (fun i wr => ∃ j3 : Nat, j3 ≤ bn ∧ i = .int .i64 j3 ∧ Hid (LiveP w [BookN G ob (.slice va bn vc), RecsN (.slice va bn vc) lb, RecsN r2 b2.recs, RecsN r1 b1.recs, ThreeB g O (.slice ra l.length rc) b1.office r1 b2.office r2, RecsN (.slice ra l.length rc) l, RecN (w.heap.size + 1) od] wr)) (fun i _ => bn - (intOf i).toNat)
          case atStart => exact ⟨0, by omega, rfl, HL11⟩
          case round =>
            clear HL11
            obtain ⟨j3, hj3, rfl, HW⟩ := hrel
            have bk := show BookN G ob (.slice va bn vc) wr from HW.out.get (by simp)
            have q0 := bk.c0
            have q1 := bk.c1
            clear bk
            by_cases h3 : j3 < bn
            · have ji3 : (j3 : Int) < (bn : Int) := by omega
              have j30 : 0 ≤ (j3 : Int) := by omega
              obtain ⟨b, off, hae, hbb, hat⟩ := (show RecsAt _ _ (.slice va bn vc) lb from (show RecsN (.slice va bn vc) lb wr from HW.out.get (by simp))).at j3 (by rw [← HBN.out]; omega)
              subst hae
              have hxt := HSm.out (lb.getD j3 default) (by rw [List.getD_eq_getElem?_getD, List.getElem?_eq_getElem (by show j3 < lb.length; rw [← HBN.out]; exact h3)]; exact List.getElem_mem _)
              have HCx : Hid (∀ W, Below wr.heap.size wr W → RecAt W b (off + j3 * 5) (lb.getD j3 default)) := fun W hW => hat.below hW hbb
              generalize lb.getD j3 default = x at *
              obtain ⟨c0, c1, c2, c3, c4⟩ := hat
              have hen : ∃ s u, encE x = (s, u) ∧ s.length ≤ 1000 := by
                cases hr : recB x
                · exact ⟨[], 380, by unfold encE; rw [hr]; rfl, by simp⟩
                · exact ⟨encR x, 0, by unfold encE; rw [hr]; rfl, by have := encR_length hr; omega⟩
              obtain ⟨s, u, he, hsl⟩ := hen
              have HEx := Lib.hid he
              clear he
              go_wp2_with fail
              refine (encode_any x _).mono ?_
              rintro e w11 ⟨rfl, hb⟩
              rw [HEx.out]
              simp only
              have HL12 := Lib.hid (HW.out.step hb)
              have bk := show BookN G ob (.slice (some ⟨b, off, none⟩) bn vc) w11 from HL12.out.get (by simp)
              clear q0 q1 c0 c1 c2 c3 c4
              have q0 := bk.c0
              have q1 := bk.c1
              obtain ⟨c0, c1, c2, c3, c4⟩ := HCx.out w11 hb
              clear hb HW bk
              go_wp2_with fail
              refine (refEncode_any x _ (by omega)).mono ?_
              rintro e w12 ⟨rfl, hb⟩
              rw [HEx.out]
              simp only
              have HL13 := Lib.hid (HL12.out.step hb)
              clear hb HL12 q0 q1 c0 c1 c2 c3 c4 HCx HEx
              have hss : (bs s).size ≤ 1000 := by rw [bs_size]; exact hsl
              generalize bs s = SS at *
              have n1 : ¬ (9223372036854775807 < SS.size + TX.size) := by omega
              have n2 : (SS.size : Int) / 2 ≤ (SS.size : Int) := by omega
              have n3 : 0 ≤ (SS.size : Int) / 2 := by omega
              have n4 : ((SS.size : Int) / 2).toNat = SS.size / 2 := by omega
              have n5 : ((SS.size / 2 : Nat) : Int) ≤ (SS.size : Int) := by omega
              have hz0 : (one3 SS (SS ++ TX) (SS.extract 0 (SS.size / 2)) 0).size ≤ 2000 ∧ (one3 SS (SS ++ TX) (SS.extract 0 (SS.size / 2)) 1).size ≤ 2000 ∧ (one3 SS (SS ++ TX) (SS.extract 0 (SS.size / 2)) 2).size ≤ 2000 := by
                refine ⟨?_, ?_, ?_⟩
                · show SS.size ≤ 2000; omega
                · show (SS ++ TX).size ≤ 2000; rw [ByteArray.size_append]; omega
                · show (SS.extract 0 (SS.size / 2)).size ≤ 2000; rw [ByteArray.size_extract]; omega
              have HZs : Hid (∀ k, k < 3 → (one3 SS (SS ++ TX) (SS.extract 0 (SS.size / 2)) k).size ≤ 2000) := fun k hk => by
                match k, hk with
                | 0, _ => exact hz0.1
                | 1, _ => exact hz0.2.1
                | 2, _ => exact hz0.2.2
              have HL14 := Lib.hid ((HL13.out.alloc (.cells #[.string SS, .string (SS ++ TX), .string (SS.extract 0 (SS.size / 2))] 9)).add (P := ThreeS w12.heap.size SS (SS ++ TX) (SS.extract 0 (SS.size / 2))) (keep_threeS (heap_alloc_new w12 _)))
              clear hz0 HL13
              go_wp2
              clear n1 n2 n3 n4 n5
              obtain ⟨g5, hg5⟩ : ∃ x, x = w12.heap.size := ⟨_, rfl⟩
              rw [← hg5] at HL14 ⊢
              clear hg5
              go_loopw [219] (fun i wr => ∃ j4 : Nat, j4 ≤ 3 ∧ i = .int .i64 j4 ∧ Hid (LiveP w [ThreeS g5 SS (SS ++ TX) (SS.extract 0 (SS.size / 2)), BookN G ob (.slice (some ⟨b, off, none⟩) bn vc), RecsN (.slice (some ⟨b, off, none⟩) bn vc) lb, RecsN r2 b2.recs, RecsN r1 b1.recs, ThreeB g O (.slice ra l.length rc) b1.office r1 b2.office r2, RecsN (.slice ra l.length rc) l, RecN (w.heap.size + 1) od] wr)) (fun i _ => 3 - (intOf i).toNat)
              case atStart => exact ⟨0, by omega, rfl, HL14⟩
              case round =>
                clear HL14
                obtain ⟨j4, hj4, rfl, HW⟩ := hrel
                by_cases h4 : j4 < 3
                · have ji4 : (j4 : Int) < 3 := by omega
                  have j40 : 0 ≤ (j4 : Int) := by omega
                  have c0 := (show ThreeS g5 SS (SS ++ TX) (SS.extract 0 (SS.size / 2)) wr from HW.out.get (by simp)).cell j4 h4
                  have hzz := HZs.out j4 h4
                  generalize one3 SS (SS ++ TX) (SS.extract 0 (SS.size / 2)) j4 = Z at *
                  go_wp2_with fail
                  refine (decode_any Z _ (by unfold maxLen; omega)).mono ?_
                  rintro e w13 ⟨rfl, hb⟩
                  obtain ⟨dx, hdx⟩ : ∃ x, (decE Z.data.toList).1 = x := ⟨_, rfl⟩
                  obtain ⟨de, hde⟩ : ∃ x, (decE Z.data.toList).2 = x := ⟨_, rfl⟩
                  rw [hdx, hde]
                  have HDx := Lib.hid hdx
                  have HDe := Lib.hid hde
                  have HL15 := Lib.hid (((HW.out.step hb).alloc (.cells #[.int .i64 dx.sec, .int .i64 dx.kind, .int .i64 dx.a, .int .i64 dx.b, .string (bs dx.text)] 27)).add (keep_rec (recBox_new w13 dx)))
                  clear hb hdx hde HW c0
                  go_wp2_with fail
                  refine (refDecode_any Z _ (by unfold maxLen; omega)).mono ?_
                  rintro e w14 ⟨rfl, hb⟩
                  rw [HDx.out, HDe.out]
                  have HL16 := Lib.hid (((HL15.out.step hb).alloc (.cells #[.int .i64 dx.sec, .int .i64 dx.kind, .int .i64 dx.a, .int .i64 dx.b, .string (bs dx.text)] 27)).add (keep_rec (recBox_new w14 dx)))
                  obtain ⟨d0, d1, d2, d3, d4⟩ := (show RecBox _ w13.heap.size dx from (show RecN w13.heap.size dx _ from HL16.out.get (by simp))).cells
                  obtain ⟨e0, e1, e2, e3, e4⟩ := (show RecBox _ w14.heap.size dx from (show RecN w14.heap.size dx _ from HL16.out.get (by simp))).cells
                  have hne : ∀ W : World, (binOp .neq 27 (recV dx) (recV dx)).run Tryd.prog W = .ok (.bool false) W := fun W => by rw [run_neqRec]; simp
                  have HL17 := Lib.hid (HL16.out.sub (Qs := [ThreeS g5 SS (SS ++ TX) (SS.extract 0 (SS.size / 2)), BookN G ob (.slice (some ⟨b, off, none⟩) bn vc), RecsN (.slice (some ⟨b, off, none⟩) bn vc) lb, RecsN r2 b2.recs, RecsN r1 b1.recs, ThreeB g O (.slice ra l.length rc) b1.office r1 b2.office r2, RecsN (.slice ra l.length rc) l, RecN (w.heap.size + 1) od]) (fun Q hQ => List.mem_cons_of_mem _ (List.mem_cons_of_mem _ hQ)))
                  clear hb HL15 HL16
                  go_wp2
                  go_roundw
                  case rel => exact ⟨j4 + 1, by omega, by go_num, HL17⟩
                  case measure => simp [intOf]; omega
                · obtain rfl : j4 = 3 := by omega
                  have HL18 := Lib.hid (HW.out.sub (Qs := [BookN G ob (.slice (some ⟨b, off, none⟩) bn vc), RecsN (.slice (some ⟨b, off, none⟩) bn vc) lb, RecsN r2 b2.recs, RecsN r1 b1.recs, ThreeB g O (.slice ra l.length rc) b1.office r1 b2.office r2, RecsN (.slice ra l.length rc) l, RecN (w.heap.size + 1) od]) (fun Q hQ => List.mem_cons_of_mem _ hQ))
                  clear HW
                  go_wp2
                  go_roundw
                  case rel => exact ⟨j3 + 1, by omega, by go_num, HL18⟩
                  case measure => simp [intOf]; omega
            · obtain rfl : j3 = bn := by omega
              have HL14 := Lib.hid (HW.out.sub (Qs := [RecsN r2 b2.recs, RecsN r1 b1.recs, ThreeB g O (.slice ra l.length rc) b1.office r1 b2.office r2, RecsN (.slice ra l.length rc) l, RecN (w.heap.size + 1) od]) (fun Q hQ => List.mem_cons_of_mem _ (List.mem_cons_of_mem _ hQ)))
              clear HW
              go_wp2
              go_roundw
              case rel => exact ⟨j + 1, by omega, by go_num, HL14⟩
              case measure => simp [intOf]; omega
    · obtain rfl : j = 3 := by omega
      obtain ⟨d0, d1, d2, d3, d4⟩ := (show RecBox _ (w.heap.size + 1) od from (show RecN (w.heap.size + 1) od _ from HW.out.get (by simp))).cells
      have HLa := Lib.hid HW.out
      clear HW
      go_wp2_with fail
      refine (encode_any od _).mono ?_
      rintro e w4 ⟨rfl, hb⟩
      have HLb := Lib.hid (HLa.out.step hb)
      clear hb d0 d1 d2 d3 d4
      obtain ⟨d0, d1, d2, d3, d4⟩ := (show RecBox _ (w.heap.size + 1) od from (show RecN (w.heap.size + 1) od _ from HLb.out.get (by simp))).cells
      go_wp2_with fail
      refine (refEncode_any od _ (by omega)).mono ?_
      rintro e w5 ⟨rfl, hb⟩
      have HLc := Lib.hid (HLb.out.step hb)
      generalize (encE od).2 = ev at *
      generalize bs (encE od).1 = es at *
      clear hb d0 d1 d2 d3 d4 HLa HLb
      go_wp2_with fail
      refine (decode_any TX _ (by unfold maxLen; omega)).mono ?_
      rintro e w6 ⟨rfl, hb⟩
      obtain ⟨dx, hdx⟩ : ∃ x, (decE TX.data.toList).1 = x := ⟨_, rfl⟩
      obtain ⟨de, hde⟩ : ∃ x, (decE TX.data.toList).2 = x := ⟨_, rfl⟩
      rw [hdx, hde]
      have HDx := Lib.hid hdx
      have HDe := Lib.hid hde
      have HLd := Lib.hid (((HLc.out.step hb).alloc (.cells #[.int .i64 dx.sec, .int .i64 dx.kind, .int .i64 dx.a, .int .i64 dx.b, .string (bs dx.text)] 27)).add (keep_rec (recBox_new w6 dx)))
      clear hb hdx hde HLc
      go_wp2_with fail
      refine (refDecode_any TX _ (by unfold maxLen; omega)).mono ?_
      rintro e w7 ⟨rfl, hb⟩
      rw [HDx.out, HDe.out]
      have HLe := Lib.hid (((HLd.out.step hb).alloc (.cells #[.int .i64 dx.sec, .int .i64 dx.kind, .int .i64 dx.a, .int .i64 dx.b, .string (bs dx.text)] 27)).add (keep_rec (recBox_new w7 dx)))
      obtain ⟨d0, d1, d2, d3, d4⟩ := (show RecBox _ w6.heap.size dx from (show RecN w6.heap.size dx _ from HLe.out.get (by simp))).cells
      obtain ⟨e0, e1, e2, e3, e4⟩ := (show RecBox _ w7.heap.size dx from (show RecN w7.heap.size dx _ from HLe.out.get (by simp))).cells
      have heq : ∀ W : World, (binOp .eql 27 (recV dx) (recV dx)).run Tryd.prog W = .ok (.bool true) W := fun W => by rw [run_eqlRec]; simp
      have HBf := Lib.hid HLe.out.below
      clear hb HLd HLe
      go_wp2
      go_ret
      exact ⟨rfl, HBf.out⟩
end Go.Proofs.YthfenbdlolbikaaDoor
