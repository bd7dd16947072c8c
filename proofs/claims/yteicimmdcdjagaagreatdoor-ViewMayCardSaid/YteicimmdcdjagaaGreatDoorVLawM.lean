/- ViewMay. -/
import Derived.Test.YteicimmdcdjagaaGreatDoorVTit
import Derived.Test.YteicimmdcdjagaaGreatDoorVSame
import Derived.Test.YteicimmdcdjagaaGreatDoorVPages
set_option linter.unusedVariables false
set_option linter.unusedSimpArgs false
namespace Go.Proofs.YteicimmdcdjagaaGreatDoor
open Go.RowKit Go.Shelf

theorem LiveP.rebase {w0 W : World} {Ps : List (World → Prop)} (h : LiveP w0 Ps W) : LiveP W Ps W := ⟨Below.refl _ _, h.2.1, h.2.2⟩
def PagesN (key : List UInt8) (l : List VNote) (ls : List Bytes) (us : List Nat) (rs : List PageR) (W : World) : Prop := PagesAt 0 W key l ls us rs
theorem keep_pages {B : Nat} {W : World} {key : List UInt8} {l : List VNote} {ls : List Bytes} {us : List Nat} {rs : List PageR} (h : PagesAt B W key l ls us rs) : ∀ W', Below W.heap.size W W' → PagesN key l ls us rs W' := fun _ hb => h.map fun _ _ h => (h.below hb).mono (Nat.zero_le _)
theorem PagesAt.kept0 {B : Nat} {W W' : World} {key : List UInt8} {l : List VNote} {ls : List Bytes} {us : List Nat} {rs : List PageR} (h : PagesAt B W key l ls us rs) (hg : W.grownBy W' none) : PagesAt B W' key l ls us rs := h.map fun _ _ h => h.kept hg fun g hh => by cases hh
theorem pages_at {B : Nat} {w : World} {a : Option Addr} {n c : Nat} {l : List PageR} (h : RowsAt pageK B w (.slice a n c) l) (j : Nat) (x : PageR) (hj : l[j]? = some x) : ∃ b off, a = some ⟨b, off, none⟩ := by
  obtain ⟨b, off, ha, _, _⟩ := h.at j x hj
  exact ⟨b, off, ha⟩
theorem pages_el {B : Nat} {w : World} {b off n c : Nat} {l : List PageR} (h : RowsAt pageK B w (.slice (some ⟨b, off, none⟩) n c) l) (j : Nat) (x : PageR) (hj : l[j]? = some x) : w.cell? ⟨b, off + j * 4, none⟩ = some (.int .i64 x.unit) ∧ w.cell? ⟨b, off + j * 4 + 1, none⟩ = some (.slice x.na x.nn x.nc) ∧ w.cell? ⟨b, off + j * 4 + 2, none⟩ = some (.string (bs x.salt)) ∧ w.cell? ⟨b, off + j * 4 + 3, none⟩ = some (.slice x.pa x.pn x.pc) := ElAt.page (h.el j x hj)
/-- How many of the first units are shown. -/
def cntP (p : Nat → Bool) (k : Nat) : Nat := ((List.range k).filter p).length
theorem cntP_succ (p : Nat → Bool) (k : Nat) : cntP p (k + 1) = cntP p k + if p k then 1 else 0 := by
  unfold cntP
  rw [shown_succ, List.length_append]
  cases p k <;> rfl
theorem cntP_le (p : Nat → Bool) (k : Nat) : cntP p k ≤ k := Nat.le_trans (List.length_filter_le _ _) (by simp)
theorem cntP_at (p : Nat → Bool) (k m : Nat) : cntP p k ≤ cntP p (k + m) ∧ (p k = true → 0 < m → ((List.range (k + m)).filter p)[cntP p k]? = some k) := by
  have e : (List.range (k + m)).filter p = (List.range k).filter p ++ ((List.range m).map (k + ·)).filter p := by rw [List.range_add, List.filter_append]
  unfold cntP
  rw [e]
  refine ⟨by rw [List.length_append]; omega, fun hp hm => ?_⟩
  obtain ⟨j, rfl⟩ : ∃ j, m = j + 1 := ⟨m - 1, by omega⟩
  rw [List.getElem?_append_right (Nat.le_refl _), Nat.sub_self, List.range_succ_eq_map, List.map_cons, List.filter_cons]
  simp only [Nat.add_zero]
  rw [if_pos hp]
  rfl
theorem cntP_mono {p q : Nat → Bool} (h : ∀ u, q u = true → p u = true) (k : Nat) : cntP q k ≤ cntP p k := by
  unfold cntP
  rw [← List.countP_eq_length_filter, ← List.countP_eq_length_filter]
  exact List.countP_mono_left fun u _ => h u
set_option maxRecDepth 100000 in
set_option maxHeartbeats 16000000 in
theorem lawM (z : Int) (xv yv : Value) (N M : Nat) (f g : Nat → Nat → Int) (first owner day : Int) (w : World) (hz : -9223372036854775808 ≤ z ∧ z ≤ 9223372036854775807) (hfi : -9223372036854775808 ≤ first ∧ first ≤ 9223372036854775807)
    (how : -9223372036854775808 ≤ owner ∧ owner ≤ 9223372036854775807) (hda : -9223372036854775808 ≤ day ∧ day ≤ 9223372036854775807) (hX : FourAt w.heap.size w xv N f) (hY : FourAt w.heap.size w yv M g) (hT : Rounds w) :
    Calls Tryz.prog 7 #[.int .i64 z, xv, yv, .int .i64 first, .int .i64 owner, .int .i64 day] w fun e w' => e = .returned (.bool true) ∧ Below w.heap.size w w' := by
  have HL0 := Lib.hid (LiveP.start hT)
  have HX := Lib.hid hX
  have HY := Lib.hid hY
  have HZ := Lib.hid hz
  have HPo := Lib.hid (fun W => vpick_any owner 4 W how.1 how.2 (by omega) (by omega))
  have HPd := Lib.hid (fun W => vpick_any day 60 W hda.1 hda.2 (by omega) (by omega))
  have HPf := Lib.hid (fun (n : Nat) (hn : n ≤ 8) W => vpick_any first ((n : Int) + 1) W hfi.1 hfi.2 (by omega) (by omega))
  have HFb := Lib.hid (fun (n : Nat) => pickZ_bd first ((n : Int) + 1) (by omega))
  obtain ⟨o, ho⟩ : ∃ o, pickZ owner 4 = o := ⟨_, rfl⟩
  obtain ⟨t, ht⟩ : ∃ t, pickZ day 60 = t := ⟨_, rfl⟩
  rw [ho] at HPo
  rw [ht] at HPd
  clear ho ht hz hfi how hda hX hY hT
  go_enter Tryz.func7, Tryz.ntmps7
  go_wp2_with fail
  refine (vsane_any _ HL0.out.rounds).mono ?_
  rintro e w1 ⟨rfl, hb⟩
  have HL1 := Lib.hid (HL0.out.step hb)
  clear hb HL0
  go_wp2_with fail
  refine (made_any z xv N f w1 HZ.out (HX.out.later HL1.out.below)).mono ?_
  rintro e w2 ⟨nv, rfl, ho, hb⟩
  obtain ⟨hd1, hd2, hd3, hd4⟩ := madeD_ok (keyB_length z) N f
  obtain ⟨K, hK⟩ : ∃ K, K = keyB z := ⟨_, rfl⟩
  obtain ⟨l, hl⟩ : ∃ l, l = (madeD (keyB z) N f).notes := ⟨_, rfl⟩
  have hdo : dosB ⟨K, l⟩ = true := by rw [hK, hl]; exact made_dos z N f
  have hln : l.length ≤ 12 := by rw [hl]; exact hd3
  rw [← hl] at ho
  rw [← hK]
  clear hd1 hd2 hd3 hd4 hK hl HX HZ
  obtain ⟨ra, rc, hnv, hrc1, hrc2⟩ := ho.shape
  subst hnv
  generalize hrn : l.length = rn at *
  have HRn := Lib.hid hrn
  have HDo := Lib.hid hdo
  have hL := (((HL1.out.step hb).add (P := RowsN noteK (.slice ra rn rc) l) (keep_rows (ho.rows noteOk))).alloc (.cells #[.string (bs K), .slice ra rn rc] 26)).add (P := BoxN w2.heap.size 26 #[.string (bs K), .slice ra rn rc]) (keep_box (box_new w2 _ _))
  have HL2 := Lib.hid hL
  clear hL hrn hdo hb ho HL1
  go_wp2_with fail
  refine (titles_any yv M g _ (HY.out.later HL2.out.below)).mono ?_
  rintro e w3 ⟨tv, rfl, ho, hb⟩
  obtain ⟨htb, htl⟩ := titlesZ_ok M g
  obtain ⟨tl, hl⟩ : ∃ tl, tl = titlesZ M g := ⟨_, rfl⟩
  rw [← hl] at ho htb htl
  obtain ⟨ta, tc, hnv, htc1, htc2⟩ := ho.shape
  subst hnv
  generalize htn : tl.length = tn at *
  have HTn := Lib.hid htn
  have HTb := Lib.hid htb
  have hL := (HL2.out.step hb).add (P := RowsN titleK (.slice ta tn tc) tl) (keep_rows (ho.rows titleOk))
  clear htn htb hl hb ho HL2 HY
  have HL3 := Lib.hid hL
  clear hL
  go_wp2_with fail
  refine (HPo.out _).mono ?_
  rintro e w' ⟨rfl, rfl⟩
  go_wp2_with fail
  refine (HPd.out _).mono ?_
  rintro e w' ⟨rfl, rfl⟩
  have d0 := BoxN.cell (show (BoxN w2.heap.size 26 #[.string (bs K), .slice ra rn rc]) _ from HL3.out.get (by simp)) 0 _ rfl
  have d1 := BoxN.cell (show (BoxN w2.heap.size 26 #[.string (bs K), .slice ra rn rc]) _ from HL3.out.get (by simp)) 1 _ rfl
  go_wp2_with fail
  clear d0 d1 HPo HPd
  have hpg := pages_ok (d := ⟨K, l⟩) (tl := tl) (by rw [HDo.out, HTb.out]; rfl) o t
  obtain ⟨us, hus⟩ : ∃ us, us = shownL tl o t := ⟨_, rfl⟩
  rw [← hus] at hpg
  refine (vPages_any K _ l _ tl o t _ (show (RowsN noteK (.slice ra rn rc) l) _ from HL3.out.get (by simp)) (by rw [HRn.out]; omega) (show (RowsN titleK (.slice ta tn tc) tl) _ from HL3.out.get (by simp)) (by rw [HTn.out]; omega) HL3.out.rounds).mono ?_
  rintro e w4 ⟨pv, A, rfl, ho, hp, hb⟩
  rw [hpg.1] at hp
  rw [hpg.2]
  obtain ⟨aa, ac, hnv, hac1, hac2⟩ := ho.shape
  subst hnv
  generalize hna : A.length = na at *
  have HNa := Lib.hid hna
  have HUs := Lib.hid hus
  have hL := ((HL3.out.step hb).add (P := RowsN pageK (.slice aa na ac) A) (keep_rows (ho.rows pageOk))).add (P := PagesN K l (sealsL ⟨K, l⟩) us A) (keep_pages hp)
  have hnu : us.length = na := by have := hp.1; omega
  have HNu := Lib.hid hnu
  clear hna hus hnu hpg hb ho hp HL3
  have HL4 := Lib.hid hL
  clear hL
  have HPf1 := Lib.hid (HPf.out tn htl)
  have hpb := HFb.out tn
  generalize pickZ first ((tn : Int) + 1) = pz at *
  obtain ⟨m, rfl⟩ := Int.eq_ofNat_of_zero_le hpb.1
  have hmt : m ≤ tn := by omega
  have hpg := pages_ok (d := ⟨K, l⟩) (tl := tl.take m) (by rw [HDo.out, titledB_take m HTb.out]; rfl) o t
  obtain ⟨vs, hvs⟩ : ∃ vs, vs = shownL (tl.take m) o t := ⟨_, rfl⟩
  rw [← hvs] at hpg
  have HPg := Lib.hid hpg
  have HVs := Lib.hid hvs
  have HQ : Hid (∀ W, w4.grownBy W none → W.cell? ⟨w2.heap.size, 0, none⟩ = some (.string (bs K)) ∧ W.cell? ⟨w2.heap.size, 1, none⟩ = some (.slice ra rn rc)) := fun W hW => by
    have h := HL4.out.step (grown_below hW)
    exact ⟨BoxN.cell (show (BoxN w2.heap.size 26 #[.string (bs K), .slice ra rn rc]) _ from h.get (by simp)) 0 _ rfl, BoxN.cell (show (BoxN w2.heap.size 26 #[.string (bs K), .slice ra rn rc]) _ from h.get (by simp)) 1 _ rfl⟩
  have HLs := Lib.hid (fun W (hW : w4.grownBy W none) => HL4.out.step (grown_below hW))
  have wt : IntKind.i64.wrap ((tn : Int) + 1) = (tn : Int) + 1 := IntWalk.i64_in _ (by omega)
  have sl1 : (0 : Int) ≤ (m : Int) := by omega
  have sl2 : (m : Int) ≤ (tc : Int) := by omega
  have sl3 : m ≤ tc := by omega
  have WT := Lib.hid wt
  clear hpg hvs hpb wt HPf HFb
  go_wp2
  refine wp_region_calm ⟨[6, 10], fun q v W => if q = 6 then v = .int .i64 (m : Int) else ∃ pv B, v = .tuple #[pv, .int .i64 0] ∧ OwnK pageK w4.heap.size W pv B ∧ PagesAt w4.heap.size W K l (sealsL ⟨K, l⟩) vs B, fun _ => [], 99, none, 1000⟩ (by kernel_rfl) (by kernel_rfl) (by kernel_rfl) (fun g h => by cases h) (fun q hq v W W' c h hg hc => ?_) ?_
  · cases c with
    | some g => obtain ⟨_, _, i, j, u, hd, _⟩ := hc g rfl; simp at hd
    | none =>
      by_cases h5 : q = 6
      · simp only [h5, if_true] at h ⊢; exact h
      · simp only [h5, if_false] at h ⊢
        obtain ⟨pv, B, h1, h2, h3⟩ := h
        exact ⟨pv, B, h1, h2.kept hg (fun g h => by cases h), h3.kept0 hg⟩
  iterate 5 (refine calm_quiet (v := ?_) (by rfl) (by rfl) (fun W hW hD => ?_) ?_; rotate_left; (· (obtain ⟨z0, z1⟩ := HQ.out W hW; clear hD hW; go_simp; try with_reducible rfl)); simp only [Act.put, List.setIfInBounds_toArray, List.set_cons_zero, List.set_cons_succ, Nat.reduceAdd, Nat.zero_add])
  refine calm_quiet (v := .int .i64 ((tn : Int) + 1)) (by rfl) (by rfl) (fun W hW hD => ?_) ?_
  · have wt := WT.out
    clear hD hW
    go_simp
  simp only [Act.put, List.setIfInBounds_toArray, List.set_cons_zero, List.set_cons_succ, Nat.reduceAdd, Nat.zero_add]
  refine calm_makes (by rfl) (by rfl) (fun W hW hD Kc hK => ?_) (fun v57 => ?_)
  · refine wp_of_call (f := 18) ?_ ((HPf1.out W).mono ?_)
    · clear hD hW hK
      go_simp
    · rintro e w5 ⟨rfl, rfl⟩
      exact ⟨_, rfl, hK _ _ (made_plain rfl (Below.refl _ _) rfl)⟩
  simp only [Act.put, List.setIfInBounds_toArray, List.set_cons_zero, List.set_cons_succ, Nat.reduceAdd, Nat.zero_add]
  refine calm_quiet (v := .slice ta m tc) (by rfl) (by rfl) (fun W hW hD => ?_) ?_
  · obtain rfl : v57 = .int .i64 (m : Int) := hD [] 6 (by kernel_rfl) (by kernel_rfl) (by kernel_rfl)
    clear hD hW
    go_simp
  simp only [Act.put, List.setIfInBounds_toArray, List.set_cons_zero, List.set_cons_succ, Nat.reduceAdd, Nat.zero_add]
  iterate 2 (refine calm_quiet (v := ?_) (by rfl) (by rfl) (fun W hW hD => ?_) ?_; rotate_left; (· (clear hD hW; go_simp; try with_reducible rfl)); simp only [Act.put, List.setIfInBounds_toArray, List.set_cons_zero, List.set_cons_succ, Nat.reduceAdd, Nat.zero_add])
  refine calm_makes (by rfl) (by rfl) (fun W hW hD Kc hK => ?_) (fun v61 => ?_)
  · have hLW := HLs.out W hW
    have hrt := RowsAt.take (show RowsAt titleK W.heap.size W (.slice ta tn tc) tl from (show (RowsN titleK (.slice ta tn tc) tl) _ from hLW.get (by simp))) m tc (by rw [HTn.out]; exact hmt) sl3 htc2
    have hws := hW.size
    refine wp_of_call (f := 28) (args := #[dosV K (.slice ra rn rc), .slice ta m tc, .int .i64 o, .int .i64 t]) ?_ ((vPages_any K (.slice ra rn rc) l (.slice ta m tc) (tl.take m) o t W (show (RowsN noteK (.slice ra rn rc) l) _ from hLW.get (by simp)) (by rw [HRn.out]; omega) hrt (by rw [List.length_take, HTn.out]; omega) hLW.rounds).mono ?_)
    · clear hD hW hK hLW hrt
      go_simp
    · rintro e w5 ⟨pv, B, rfl, ho, hp, hb5⟩
      rw [HPg.out.1] at hp
      rw [HPg.out.2]
      exact ⟨_, rfl, hK _ _ (made_plain ⟨pv, B, rfl, ho.mono hws, hp.map fun _ _ h => h.mono hws⟩ hb5 rfl)⟩
  simp only [Act.put, List.setIfInBounds_toArray, List.set_cons_zero, List.set_cons_succ, Nat.reduceAdd, Nat.zero_add]
  iterate 1 (refine calm_quiet (v := ?_) (by rfl) (by rfl) (fun W hW hD => ?_) ?_; rotate_left; (· (clear hD hW; go_simp; try with_reducible rfl)); simp only [Act.put, List.setIfInBounds_toArray, List.set_cons_zero, List.set_cons_succ, Nat.reduceAdd, Nat.zero_add])
  refine calm_quiet (v := vtupAt v61 0) (by rfl) (by rfl) (fun W hW hD => ?_) ?_
  · obtain ⟨pv, B, rfl, _⟩ : ∃ pv B, v61 = .tuple #[pv, .int .i64 0] ∧ OwnK pageK w4.heap.size W pv B ∧ PagesAt w4.heap.size W K l (sealsL ⟨K, l⟩) vs B := hD [11] 10 (by kernel_rfl) (by kernel_rfl) (by kernel_rfl)
    clear hD hW
    go_simp
    try rfl
  simp only [Act.put, List.setIfInBounds_toArray, List.set_cons_zero, List.set_cons_succ, Nat.reduceAdd, Nat.zero_add]
  refine calm_quiet (v := vtupAt v61 1) (by rfl) (by rfl) (fun W hW hD => ?_) ?_
  · obtain ⟨pv, B, rfl, _⟩ : ∃ pv B, v61 = .tuple #[pv, .int .i64 0] ∧ OwnK pageK w4.heap.size W pv B ∧ PagesAt w4.heap.size W K l (sealsL ⟨K, l⟩) vs B := hD [11] 10 (by kernel_rfl) (by kernel_rfl) (by kernel_rfl)
    clear hD hW
    go_simp
    try rfl
  simp only [Act.put, List.setIfInBounds_toArray, List.set_cons_zero, List.set_cons_succ, Nat.reduceAdd, Nat.zero_add]
  iterate 2 (refine calm_quiet (v := ?_) (by rfl) (by rfl) (fun W hW hD => ?_) ?_; rotate_left; (· (clear hD hW; go_simp; try with_reducible rfl)); simp only [Act.put, List.setIfInBounds_toArray, List.set_cons_zero, List.set_cons_succ, Nat.reduceAdd, Nat.zero_add])
  refine calm_nil fun W hW hF => ?_
  obtain ⟨pv, B, hv, hob, hpb⟩ : ∃ pv B, v61 = .tuple #[pv, .int .i64 0] ∧ OwnK pageK w4.heap.size W pv B ∧ PagesAt w4.heap.size W K l (sealsL ⟨K, l⟩) vs B := hF 10 (by kernel_rfl) (by kernel_rfl)
  obtain ⟨fa, fc, hx, hfc1, hfc2⟩ := hob.shape
  subst hx hv
  generalize hnb : B.length = nb at *
  have HNb := Lib.hid hnb
  rw [show vtupAt (.tuple #[.slice fa nb fc, .int .i64 0]) 0 = .slice fa nb fc from rfl, show vtupAt (.tuple #[.slice fa nb fc, .int .i64 0]) 1 = .int .i64 0 from rfl]
  have hL := ((HLs.out W hW).add (P := RowsN pageK (.slice fa nb fc) B) (keep_rows (hob.rows pageOk))).add (P := PagesN K l (sealsL ⟨K, l⟩) vs B) (keep_pages hpb)
  have hnv : vs.length = nb := by have := hpb.1; omega
  obtain ⟨p, hp⟩ : ∃ p : Nat → Bool, p = fun (u : Nat) => mayB tl o u t := ⟨_, rfl⟩
  obtain ⟨q, hq⟩ : ∃ q : Nat → Bool, q = fun (u : Nat) => mayB (tl.take m) o u t := ⟨_, rfl⟩
  have hpus : us = (List.range 100).filter p := by rw [HUs.out, hp]; rfl
  have hqvs : vs = (List.range 100).filter q := by rw [HVs.out, hq]; rfl
  have hqp : ∀ u, q u = true → p u = true := fun u h => by rw [hq] at h; rw [hp]; exact mayB_take HTb.out h
  have hcp : cntP p 100 = na := by have := HNu.out; rw [hpus] at this; exact this
  have hcq : cntP q 100 = nb := by have := hnv; rw [hqvs] at this; exact this
  have hle : nb ≤ na := by rw [← hcp, ← hcq]; exact cntP_mono hqp 100
  have HMay := Lib.hid (fun u : Nat => (show p u = mayB tl o (u : Int) t by rw [hp]))
  have HQp := Lib.hid hqp; have HCp := Lib.hid hcp; have HCq := Lib.hid hcq; have HPu := Lib.hid hpus; have HQv := Lib.hid hqvs
  have HNv := Lib.hid hnv
  have HBw := Lib.hid hL.below
  have HLv := Lib.hid hL.rebase
  have gt1 : ¬ ((na : Int) < (nb : Int)) := by omega
  have gt2 : decide ((na : Int) < (nb : Int)) = false := decide_eq_false gt1
  have gt3 : decide ((nb : Int) > (na : Int)) = false := decide_eq_false gt1
  clear hL hF hW hob hpb hnb hnv hp hq hpus hqvs hqp hcp hcq HQ HLs HPg HPf1 WT HL4 HUs HVs
  have h100 : na ≤ 100 := by rw [← HCp.out]; exact cntP_le p 100
  go_wp2
  clear gt1 gt2 gt3
  go_loopw [22, 23, 24] (fun a b i wr => ∃ k : Nat, k ≤ 100 ∧ a = .int .i64 (cntP p k) ∧ b = .int .i64 (cntP q k) ∧ i = .int .i64 k ∧ Hid (Below W.heap.size W wr)) (fun _ _ i _ => 100 - (intOf i).toNat)
  case atStart => exact ⟨0, Nat.zero_le _, rfl, rfl, rfl, Lib.hid (Below.refl _ _)⟩
  case round =>
    obtain ⟨k, hk, rfl, rfl, rfl, HB⟩ := hrel
    by_cases h1 : k < 100
    rotate_left
    · obtain rfl : k = 100 := by omega
      have l0 : ¬ (((100 : Nat) : Int) ≤ 99) := by omega
      have l1 : decide (((100 : Nat) : Int) ≤ 99) = false := decide_eq_false l0
      have e1 : ((cntP p 100 : Int) == (na : Int)) = true := by rw [HCp.out]; simp
      have e2 : ((cntP q 100 : Int) == (nb : Int)) = true := by rw [HCq.out]; simp
      have HBf := Lib.hid (HBw.out.trans (HB.out.mono HBw.out.size))
      clear HB
      go_wp2
      go_ret
      exact ⟨rfl, HBf.out⟩
    have l0 : (k : Int) ≤ 99 := by omega
    have l1 : decide ((k : Int) ≤ 99) = true := decide_eq_true l0
    have HCs := Lib.hid (cntP_succ p k)
    have HCt := Lib.hid (cntP_succ q k)
    obtain ⟨hca, hpa⟩ := cntP_at p k (100 - k)
    obtain ⟨hcb, hqa⟩ := cntP_at q k (100 - k)
    rw [show k + (100 - k) = 100 from by omega] at hca hpa hcb hqa
    rw [HCp.out] at hca
    rw [HCq.out] at hcb
    rw [← HPu.out] at hpa
    rw [← HQv.out] at hqa
    have HPa := Lib.hid (fun h => hpa h (by omega))
    have HQa := Lib.hid (fun h => hqa h (by omega))
    clear hpa hqa
    generalize cntP p k = ca at *
    generalize cntP q k = cb at *
    have wa : IntKind.i64.wrap ((ca : Int) + 1) = (ca : Int) + 1 := IntWalk.i64_in _ (by omega)
    have wb : IntKind.i64.wrap ((cb : Int) + 1) = (cb : Int) + 1 := IntWalk.i64_in _ (by omega)
    have wk : IntKind.i64.wrap ((k : Int) + 1) = (k : Int) + 1 := IntWalk.i64_in _ (by omega)
    have WA := Lib.hid wa; have WB := Lib.hid wb; have WK := Lib.hid wk
    have ja0 : 0 ≤ (ca : Int) := by omega
    have jb0 : 0 ≤ (cb : Int) := by omega
    have HL1 := Lib.hid (HLv.out.step HB.out)
    clear wa wb wk HB
    go_wp2_with fail
    refine (may_any _ tl o (k : Int) t _ (show (RowsN titleK (.slice ta tn tc) tl) _ from HL1.out.get (by simp)) (by rw [HTn.out]; omega)).mono ?_
    rintro e w6 ⟨rfl, hb⟩
    rw [← HMay.out k]
    have HL2 := Lib.hid (HL1.out.step hb)
    clear hb HL1
    cases hpk : p k
    · have hqk : q k = false := by cases h : q k with | false => rfl | true => rw [HQp.out k h] at hpk; cases hpk
      have HC1 : Hid (cntP p (k + 1) = ca) := by show _ = _; rw [HCs.out, hpk]; rfl
      have HC2 : Hid (cntP q (k + 1) = cb) := by show _ = _; rw [HCt.out, hqk]; rfl
      have HBf := Lib.hid HL2.out.below
      by_cases hla : ca < na
      · have da0 : (ca : Int) < (na : Int) := by omega
        have da : decide ((ca : Int) < (na : Int)) = true := decide_eq_true da0
        obtain ⟨u1, hua⟩ : ∃ u1, us[ca]? = some u1 := ⟨_, List.getElem?_eq_getElem (by rw [HNu.out]; exact hla)⟩
        have hu1 : u1 ≠ k := fun e => by have hm := List.mem_of_getElem? hua; rw [HPu.out, List.mem_filter] at hm; rw [e, hpk] at hm; cases hm.2
        obtain ⟨r, hr, hra⟩ := (show (PagesN K l (sealsL ⟨K, l⟩) us A) _ from HL2.out.get (by simp)).2 ca u1 hua
        have f1 : ((u1 : Int) == (k : Int)) = false := beq_eq_false_iff_ne.2 (fun e => hu1 (Int.ofNat_inj.1 e))
        obtain ⟨gb, off, hae⟩ := pages_at (show (RowsN pageK (.slice aa na ac) A) _ from HL2.out.get (by simp)) ca r hr
        subst hae
        obtain ⟨ru, rna, rnn, rnc, rs, rpa, rpn, rpc⟩ := r
        obtain ⟨e1, e2, ho, hs⟩ := hra
        simp only at e1 e2 ho hs
        subst e1 e2
        obtain ⟨x0, _, _, _⟩ := pages_el (show (RowsN pageK (.slice (some ⟨gb, off, none⟩) na ac) A) _ from HL2.out.get (by simp)) ca _ hr
        simp only at x0
        by_cases hlb : cb < nb
        · skip
          obtain ⟨u2, hub⟩ : ∃ u2, vs[cb]? = some u2 := ⟨_, List.getElem?_eq_getElem (by rw [HNv.out]; exact hlb)⟩
          have hu2 : u2 ≠ k := fun e => by have hm := List.mem_of_getElem? hub; rw [HQv.out, List.mem_filter] at hm; rw [e, hqk] at hm; cases hm.2
          obtain ⟨r2, hr2, hrb⟩ := (show (PagesN K l (sealsL ⟨K, l⟩) vs B) _ from HL2.out.get (by simp)).2 cb u2 hub
          have f2 : ((u2 : Int) == (k : Int)) = false := beq_eq_false_iff_ne.2 (fun e => hu2 (Int.ofNat_inj.1 e))
          obtain ⟨gb2, off2, hbe⟩ := pages_at (show (RowsN pageK (.slice fa nb fc) B) _ from HL2.out.get (by simp)) cb r2 hr2
          subst hbe
          obtain ⟨ru2, sna, snn, snc, rs2, spa, spn, spc⟩ := r2
          obtain ⟨e1, e2, ho2, hs2⟩ := hrb
          simp only at e1 e2 ho2 hs2
          subst e1 e2
          have HR2 := Lib.hid hr2
          have db0 : (cb : Int) < (nb : Int) := by have h := (List.getElem?_eq_some_iff.1 hr2).1; have h2 := HNb.out; omega
          have db : decide ((cb : Int) < (nb : Int)) = true := decide_eq_true db0
          obtain ⟨y0, _, _, _⟩ := pages_el (show (RowsN pageK (.slice (some ⟨gb2, off2, none⟩) nb fc) B) _ from HL2.out.get (by simp)) cb _ hr2
          simp only at y0
          clear hub hu2 ho2 hs2 hr2 HR2
          clear hua hu1 ho hs hr
          have wk := WK.out
          clear hpk hqk HL2
          go_wp2
          go_roundw
          case rel => exact ⟨k + 1, by omega, by rw [HC1.out], by rw [HC2.out], by go_num, HBf⟩
          case measure => simp [intOf]; omega
        · skip
          have db0 : ¬ ((cb : Int) < (nb : Int)) := by omega
          have db : decide ((cb : Int) < (nb : Int)) = false := decide_eq_false db0
          clear hua hu1 ho hs hr
          have wk := WK.out
          clear hpk hqk HL2
          go_wp2
          go_roundw
          case rel => exact ⟨k + 1, by omega, by rw [HC1.out], by rw [HC2.out], by go_num, HBf⟩
          case measure => simp [intOf]; omega
      · have da0 : ¬ ((ca : Int) < (na : Int)) := by omega
        have da : decide ((ca : Int) < (na : Int)) = false := decide_eq_false da0
        by_cases hlb : cb < nb
        · skip
          obtain ⟨u2, hub⟩ : ∃ u2, vs[cb]? = some u2 := ⟨_, List.getElem?_eq_getElem (by rw [HNv.out]; exact hlb)⟩
          have hu2 : u2 ≠ k := fun e => by have hm := List.mem_of_getElem? hub; rw [HQv.out, List.mem_filter] at hm; rw [e, hqk] at hm; cases hm.2
          obtain ⟨r2, hr2, hrb⟩ := (show (PagesN K l (sealsL ⟨K, l⟩) vs B) _ from HL2.out.get (by simp)).2 cb u2 hub
          have f2 : ((u2 : Int) == (k : Int)) = false := beq_eq_false_iff_ne.2 (fun e => hu2 (Int.ofNat_inj.1 e))
          obtain ⟨gb2, off2, hbe⟩ := pages_at (show (RowsN pageK (.slice fa nb fc) B) _ from HL2.out.get (by simp)) cb r2 hr2
          subst hbe
          obtain ⟨ru2, sna, snn, snc, rs2, spa, spn, spc⟩ := r2
          obtain ⟨e1, e2, ho2, hs2⟩ := hrb
          simp only at e1 e2 ho2 hs2
          subst e1 e2
          have HR2 := Lib.hid hr2
          have db0 : (cb : Int) < (nb : Int) := by have h := (List.getElem?_eq_some_iff.1 hr2).1; have h2 := HNb.out; omega
          have db : decide ((cb : Int) < (nb : Int)) = true := decide_eq_true db0
          obtain ⟨y0, _, _, _⟩ := pages_el (show (RowsN pageK (.slice (some ⟨gb2, off2, none⟩) nb fc) B) _ from HL2.out.get (by simp)) cb _ hr2
          simp only at y0
          clear hub hu2 ho2 hs2 hr2 HR2
          have wk := WK.out
          clear hpk hqk HL2
          go_wp2
          go_roundw
          case rel => exact ⟨k + 1, by omega, by rw [HC1.out], by rw [HC2.out], by go_num, HBf⟩
          case measure => simp [intOf]; omega
        · skip
          have db0 : ¬ ((cb : Int) < (nb : Int)) := by omega
          have db : decide ((cb : Int) < (nb : Int)) = false := decide_eq_false db0
          have wk := WK.out
          clear hpk hqk HL2
          go_wp2
          go_roundw
          case rel => exact ⟨k + 1, by omega, by rw [HC1.out], by rw [HC2.out], by go_num, HBf⟩
          case measure => simp [intOf]; omega
    · have hua := HPa.out hpk
      have HC1 : Hid (cntP p (k + 1) = ca + 1) := by show _ = _; rw [HCs.out, hpk]; rfl
      obtain ⟨r, hr, hra⟩ := (show (PagesN K l (sealsL ⟨K, l⟩) us A) _ from HL2.out.get (by simp)).2 ca k hua
      obtain ⟨gb, off, hae⟩ := pages_at (show (RowsN pageK (.slice aa na ac) A) _ from HL2.out.get (by simp)) ca r hr
      subst hae
      obtain ⟨ru, rna, rnn, rnc, rs, rpa, rpn, rpc⟩ := r
      obtain ⟨e1, e2, ho, hs⟩ := hra
      simp only at e1 e2 ho hs
      subst e1 e2
      have HR1 := Lib.hid hr
      have da0 : (ca : Int) < (na : Int) := by have h := (List.getElem?_eq_some_iff.1 hr).1; have h2 := HNa.out; omega
      have da : decide ((ca : Int) < (na : Int)) = true := decide_eq_true da0
      have f1 : ((k : Int) == (k : Int)) = true := by simp
      have HPg : Hid (pageE ⟨K, l⟩ (k : Int) = (⟨k, ofN l k, saltB K k, proofL (sealsL ⟨K, l⟩) k⟩, 0)) := by show _ = _; rw [pageE_ok (by rw [HDo.out]; exact unit_in ⟨by omega, by omega⟩), Int.toNat_natCast]; rfl
      clear hua hr
      cases hqk : q k
      · by_cases hlb : cb < nb
        · skip
          obtain ⟨u2, hub⟩ : ∃ u2, vs[cb]? = some u2 := ⟨_, List.getElem?_eq_getElem (by rw [HNv.out]; exact hlb)⟩
          have hu2 : u2 ≠ k := fun e => by have hm := List.mem_of_getElem? hub; rw [HQv.out, List.mem_filter] at hm; rw [e, hqk] at hm; cases hm.2
          obtain ⟨r2, hr2, hrb⟩ := (show (PagesN K l (sealsL ⟨K, l⟩) vs B) _ from HL2.out.get (by simp)).2 cb u2 hub
          have f2 : ((u2 : Int) == (k : Int)) = false := beq_eq_false_iff_ne.2 (fun e => hu2 (Int.ofNat_inj.1 e))
          obtain ⟨gb2, off2, hbe⟩ := pages_at (show (RowsN pageK (.slice fa nb fc) B) _ from HL2.out.get (by simp)) cb r2 hr2
          subst hbe
          obtain ⟨ru2, sna, snn, snc, rs2, spa, spn, spc⟩ := r2
          obtain ⟨e1, e2, ho2, hs2⟩ := hrb
          simp only at e1 e2 ho2 hs2
          subst e1 e2
          have HR2 := Lib.hid hr2
          have db0 : (cb : Int) < (nb : Int) := by have h := (List.getElem?_eq_some_iff.1 hr2).1; have h2 := HNb.out; omega
          have db : decide ((cb : Int) < (nb : Int)) = true := decide_eq_true db0
          have HC2 : Hid (cntP q (k + 1) = cb) := by show _ = _; rw [HCt.out, hqk]; rfl
          obtain ⟨S, hS⟩ : ∃ S, S = saltB K (k : Int) := ⟨_, rfl⟩
          obtain ⟨PR, hPR⟩ : ∃ PR, PR = proofL (sealsL ⟨K, l⟩) k := ⟨_, rfl⟩
          rw [← hS, ← hPR] at HPg
          rw [← hPR] at hs
          rw [← hS] at HR1
          have hL := ((HL2.out.add (P := RowsN noteK (.slice rna rnn rnc) (ofN l k)) (keep_rows (ho.rows noteOk))).add (P := StrsN (.slice rpa rpn rpc) PR) (keep_strs hs.strs))
          obtain ⟨x0, _, _, _⟩ := pages_el (show (RowsN pageK (.slice (some ⟨gb, off, none⟩) na ac) A) _ from hL.get (by simp)) ca _ HR1.out
          simp only at x0
          obtain ⟨y0, _, _, _⟩ := pages_el (show (RowsN pageK (.slice (some ⟨gb2, off2, none⟩) nb fc) B) _ from hL.get (by simp)) cb _ HR2.out
          simp only at y0
          have d0 := BoxN.cell (show (BoxN w2.heap.size 26 #[.string (bs K), .slice ra rn rc]) _ from hL.get (by simp)) 0 _ rfl
          have d1 := BoxN.cell (show (BoxN w2.heap.size 26 #[.string (bs K), .slice ra rn rc]) _ from hL.get (by simp)) 1 _ rfl
          have HL3 := Lib.hid hL
          clear hL ho hs hpk hqk hS hPR HL2 ho2 hs2 hr2 hu2 hub
          go_wp2_with fail
          clear x0 d0 d1 y0
          refine (vPage_any K _ l (k : Int) _ (show (RowsN noteK (.slice ra rn rc) l) _ from HL3.out.get (by simp)) (by rw [HRn.out]; omega) HL3.out.rounds).mono ?_
          rintro e w7 ⟨nv7, pv7, rfl, hn, hp, hb⟩
          rw [HPg.out] at hn hp ⊢
          simp only at hn hp ⊢
          obtain ⟨xa, xc, hx, hxc1, hxc2⟩ := hn.shape
          obtain ⟨pa, pc, hpx, _, _⟩ := ownS_shape hp
          subst hx hpx
          generalize hxn : (ofN l (k : Int)).length = xn at *
          generalize hpn : PR.length = pn at *
          have hL := ((((HL3.out.step hb).add (P := RowsN noteK (.slice xa xn xc) (ofN l k)) (keep_rows (hn.rows noteOk))).add (P := StrsN (.slice pa pn pc) PR) (keep_strs hp.strs)).alloc (.cells #[.int .i64 (k : Int), .slice xa xn xc, .string (bs S), .slice pa pn pc] 39)).add (P := BoxN w7.heap.size 39 #[.int .i64 (k : Int), .slice xa xn xc, .string (bs S), .slice pa pn pc]) (keep_box (box_new w7 _ _))
          clear hxn hpn hb hn hp HL3 HPg
          obtain ⟨V8, hV8⟩ : ∃ V8, V8 = w7.alloc (.cells #[.int .i64 (k : Int), .slice xa xn xc, .string (bs S), .slice pa pn pc] 39) := ⟨_, rfl⟩
          rw [← hV8] at hL
          have HL8 := Lib.hid hL
          clear hL
          go_wp2
          rw [← hV8]
          clear hV8
          have HLs := Lib.hid (fun W (hW : V8.grownBy W none) => HL8.out.step (grown_below hW))
          have HQ : Hid (∀ W, V8.grownBy W none → (W.cell? ⟨w7.heap.size, 0, none⟩ = some (.int .i64 (k : Int)) ∧ W.cell? ⟨w7.heap.size, 1, none⟩ = some (.slice xa xn xc) ∧ W.cell? ⟨w7.heap.size, 2, none⟩ = some (.string (bs S)) ∧ W.cell? ⟨w7.heap.size, 3, none⟩ = some (.slice pa pn pc)) ∧ (W.cell? ⟨gb, off + ca * 4, none⟩ = some (.int .i64 (k : Int)) ∧ W.cell? ⟨gb, off + ca * 4 + 1, none⟩ = some (.slice rna rnn rnc) ∧ W.cell? ⟨gb, off + ca * 4 + 2, none⟩ = some (.string (bs S)) ∧ W.cell? ⟨gb, off + ca * 4 + 3, none⟩ = some (.slice rpa rpn rpc))) := fun W hW => by
            have h := HLs.out W hW
            have hbx := (show (BoxN w7.heap.size 39 #[.int .i64 (k : Int), .slice xa xn xc, .string (bs S), .slice pa pn pc]) _ from h.get (by simp))
            exact ⟨⟨BoxN.cell hbx 0 _ rfl, BoxN.cell hbx 1 _ rfl, BoxN.cell hbx 2 _ rfl, BoxN.cell hbx 3 _ rfl⟩, pages_el (show (RowsN pageK (.slice (some ⟨gb, off, none⟩) na ac) A) _ from h.get (by simp)) ca _ HR1.out⟩
          refine wp_region_calm ⟨[8], fun _ v _ => v = .bool true, fun _ => [], 99, none, 1000⟩ (by kernel_rfl) (by kernel_rfl) (by kernel_rfl) (fun g h => by cases h) (fun k hk v W W' c h hg hc => h) ?_
          iterate 3 (refine calm_quiet (v := ?_) (by rfl) (by rfl) (fun W hW hD => ?_) ?_; rotate_left; (· (clear hD hW; go_simp; try with_reducible rfl)); simp only [Act.put, List.setIfInBounds_toArray, List.set_cons_zero, List.set_cons_succ, Nat.reduceAdd, Nat.zero_add])
          iterate 5 (refine calm_quiet (v := ?_) (by rfl) (by rfl) (fun W hW hD => ?_) ?_; rotate_left; (· (obtain ⟨⟨x0, x1, x2, x3⟩, ⟨z0, z1, z2, z3⟩⟩ := HQ.out W hW; clear hD hW; go_simp; try with_reducible rfl)); simp only [Act.put, List.setIfInBounds_toArray, List.set_cons_zero, List.set_cons_succ, Nat.reduceAdd, Nat.zero_add])
          refine calm_makes (by rfl) (by rfl) (fun W hW hD Kc hK => ?_) (fun v135 => ?_)
          · have h := HLs.out W hW
            refine wp_of_call (f := 30) (args := #[.agg #[.int .i64 (k : Int), .slice xa xn xc, .string (bs S), .slice pa pn pc], .agg #[.int .i64 (k : Int), .slice rna rnn rnc, .string (bs S), .slice rpa rpn rpc]]) ?_ ((samePage_any (k : Int) (k : Int) _ _ _ _ S S (ofN l k) (ofN l k) PR PR W (show (RowsN noteK (.slice xa xn xc) (ofN l k)) _ from h.get (by simp)) (show (RowsN noteK (.slice rna rnn rnc) (ofN l k)) _ from h.get (by simp)) (show (StrsN (.slice pa pn pc) PR) _ from h.get (by simp)) (show (StrsN (.slice rpa rpn rpc) PR) _ from h.get (by simp)) h.rounds).mono ?_)
            · clear hD hW hK h
              go_simp
            · rintro e w5 ⟨rfl, hb5⟩
              exact ⟨_, rfl, hK _ _ (made_plain (by show _ = _; simp [kept]) hb5 rfl)⟩
          simp only [Act.put, List.setIfInBounds_toArray, List.set_cons_zero, List.set_cons_succ, Nat.reduceAdd, Nat.zero_add]
          refine calm_quiet (v := .bool false) (by rfl) (by rfl) (fun W hW hD => ?_) ?_
          · obtain rfl : v135 = .bool true := hD [] 8 (by kernel_rfl) (by kernel_rfl) (by kernel_rfl)
            clear hD hW
            go_simp
          simp only [Act.put, List.setIfInBounds_toArray, List.set_cons_zero, List.set_cons_succ, Nat.reduceAdd, Nat.zero_add]
          iterate 4 (refine calm_quiet (v := ?_) (by rfl) (by rfl) (fun W hW hD => ?_) ?_; rotate_left; (· (clear hD hW; go_simp; try with_reducible rfl)); simp only [Act.put, List.setIfInBounds_toArray, List.set_cons_zero, List.set_cons_succ, Nat.reduceAdd, Nat.zero_add])
          iterate 7 (refine calm_skip (by rfl) (by rfl) ?_; simp only [Act.put, List.setIfInBounds_toArray, List.set_cons_zero, List.set_cons_succ, Nat.reduceAdd, Nat.zero_add])
          iterate 2 (refine calm_quiet (v := ?_) (by rfl) (by rfl) (fun W hW hD => ?_) ?_; rotate_left; (· (clear hD hW; go_simp; try with_reducible rfl)); simp only [Act.put, List.setIfInBounds_toArray, List.set_cons_zero, List.set_cons_succ, Nat.reduceAdd, Nat.zero_add])
          refine calm_nil fun W hW hF => ?_
          have HBf := Lib.hid (HLs.out W hW).below
          have wk := WK.out; have wa := WA.out; have wb := WB.out
          clear hF hW HQ HLs HL8 HR1
          go_wp2
          go_roundw
          case rel => exact ⟨k + 1, by omega, by rw [HC1.out]; go_num, by rw [HC2.out], by go_num, HBf⟩
          case measure => simp [intOf]; omega
        · skip
          have db0 : ¬ ((cb : Int) < (nb : Int)) := by omega
          have db : decide ((cb : Int) < (nb : Int)) = false := decide_eq_false db0
          have HC2 : Hid (cntP q (k + 1) = cb) := by show _ = _; rw [HCt.out, hqk]; rfl
          obtain ⟨S, hS⟩ : ∃ S, S = saltB K (k : Int) := ⟨_, rfl⟩
          obtain ⟨PR, hPR⟩ : ∃ PR, PR = proofL (sealsL ⟨K, l⟩) k := ⟨_, rfl⟩
          rw [← hS, ← hPR] at HPg
          rw [← hPR] at hs
          rw [← hS] at HR1
          have hL := ((HL2.out.add (P := RowsN noteK (.slice rna rnn rnc) (ofN l k)) (keep_rows (ho.rows noteOk))).add (P := StrsN (.slice rpa rpn rpc) PR) (keep_strs hs.strs))
          obtain ⟨x0, _, _, _⟩ := pages_el (show (RowsN pageK (.slice (some ⟨gb, off, none⟩) na ac) A) _ from hL.get (by simp)) ca _ HR1.out
          simp only at x0
          have d0 := BoxN.cell (show (BoxN w2.heap.size 26 #[.string (bs K), .slice ra rn rc]) _ from hL.get (by simp)) 0 _ rfl
          have d1 := BoxN.cell (show (BoxN w2.heap.size 26 #[.string (bs K), .slice ra rn rc]) _ from hL.get (by simp)) 1 _ rfl
          have HL3 := Lib.hid hL
          clear hL ho hs hpk hqk hS hPR HL2
          go_wp2_with fail
          clear x0 d0 d1
          refine (vPage_any K _ l (k : Int) _ (show (RowsN noteK (.slice ra rn rc) l) _ from HL3.out.get (by simp)) (by rw [HRn.out]; omega) HL3.out.rounds).mono ?_
          rintro e w7 ⟨nv7, pv7, rfl, hn, hp, hb⟩
          rw [HPg.out] at hn hp ⊢
          simp only at hn hp ⊢
          obtain ⟨xa, xc, hx, hxc1, hxc2⟩ := hn.shape
          obtain ⟨pa, pc, hpx, _, _⟩ := ownS_shape hp
          subst hx hpx
          generalize hxn : (ofN l (k : Int)).length = xn at *
          generalize hpn : PR.length = pn at *
          have hL := ((((HL3.out.step hb).add (P := RowsN noteK (.slice xa xn xc) (ofN l k)) (keep_rows (hn.rows noteOk))).add (P := StrsN (.slice pa pn pc) PR) (keep_strs hp.strs)).alloc (.cells #[.int .i64 (k : Int), .slice xa xn xc, .string (bs S), .slice pa pn pc] 39)).add (P := BoxN w7.heap.size 39 #[.int .i64 (k : Int), .slice xa xn xc, .string (bs S), .slice pa pn pc]) (keep_box (box_new w7 _ _))
          clear hxn hpn hb hn hp HL3 HPg
          obtain ⟨V8, hV8⟩ : ∃ V8, V8 = w7.alloc (.cells #[.int .i64 (k : Int), .slice xa xn xc, .string (bs S), .slice pa pn pc] 39) := ⟨_, rfl⟩
          rw [← hV8] at hL
          have HL8 := Lib.hid hL
          clear hL
          go_wp2
          rw [← hV8]
          clear hV8
          have HLs := Lib.hid (fun W (hW : V8.grownBy W none) => HL8.out.step (grown_below hW))
          have HQ : Hid (∀ W, V8.grownBy W none → (W.cell? ⟨w7.heap.size, 0, none⟩ = some (.int .i64 (k : Int)) ∧ W.cell? ⟨w7.heap.size, 1, none⟩ = some (.slice xa xn xc) ∧ W.cell? ⟨w7.heap.size, 2, none⟩ = some (.string (bs S)) ∧ W.cell? ⟨w7.heap.size, 3, none⟩ = some (.slice pa pn pc)) ∧ (W.cell? ⟨gb, off + ca * 4, none⟩ = some (.int .i64 (k : Int)) ∧ W.cell? ⟨gb, off + ca * 4 + 1, none⟩ = some (.slice rna rnn rnc) ∧ W.cell? ⟨gb, off + ca * 4 + 2, none⟩ = some (.string (bs S)) ∧ W.cell? ⟨gb, off + ca * 4 + 3, none⟩ = some (.slice rpa rpn rpc))) := fun W hW => by
            have h := HLs.out W hW
            have hbx := (show (BoxN w7.heap.size 39 #[.int .i64 (k : Int), .slice xa xn xc, .string (bs S), .slice pa pn pc]) _ from h.get (by simp))
            exact ⟨⟨BoxN.cell hbx 0 _ rfl, BoxN.cell hbx 1 _ rfl, BoxN.cell hbx 2 _ rfl, BoxN.cell hbx 3 _ rfl⟩, pages_el (show (RowsN pageK (.slice (some ⟨gb, off, none⟩) na ac) A) _ from h.get (by simp)) ca _ HR1.out⟩
          refine wp_region_calm ⟨[8], fun _ v _ => v = .bool true, fun _ => [], 99, none, 1000⟩ (by kernel_rfl) (by kernel_rfl) (by kernel_rfl) (fun g h => by cases h) (fun k hk v W W' c h hg hc => h) ?_
          iterate 3 (refine calm_quiet (v := ?_) (by rfl) (by rfl) (fun W hW hD => ?_) ?_; rotate_left; (· (clear hD hW; go_simp; try with_reducible rfl)); simp only [Act.put, List.setIfInBounds_toArray, List.set_cons_zero, List.set_cons_succ, Nat.reduceAdd, Nat.zero_add])
          iterate 5 (refine calm_quiet (v := ?_) (by rfl) (by rfl) (fun W hW hD => ?_) ?_; rotate_left; (· (obtain ⟨⟨x0, x1, x2, x3⟩, ⟨z0, z1, z2, z3⟩⟩ := HQ.out W hW; clear hD hW; go_simp; try with_reducible rfl)); simp only [Act.put, List.setIfInBounds_toArray, List.set_cons_zero, List.set_cons_succ, Nat.reduceAdd, Nat.zero_add])
          refine calm_makes (by rfl) (by rfl) (fun W hW hD Kc hK => ?_) (fun v135 => ?_)
          · have h := HLs.out W hW
            refine wp_of_call (f := 30) (args := #[.agg #[.int .i64 (k : Int), .slice xa xn xc, .string (bs S), .slice pa pn pc], .agg #[.int .i64 (k : Int), .slice rna rnn rnc, .string (bs S), .slice rpa rpn rpc]]) ?_ ((samePage_any (k : Int) (k : Int) _ _ _ _ S S (ofN l k) (ofN l k) PR PR W (show (RowsN noteK (.slice xa xn xc) (ofN l k)) _ from h.get (by simp)) (show (RowsN noteK (.slice rna rnn rnc) (ofN l k)) _ from h.get (by simp)) (show (StrsN (.slice pa pn pc) PR) _ from h.get (by simp)) (show (StrsN (.slice rpa rpn rpc) PR) _ from h.get (by simp)) h.rounds).mono ?_)
            · clear hD hW hK h
              go_simp
            · rintro e w5 ⟨rfl, hb5⟩
              exact ⟨_, rfl, hK _ _ (made_plain (by show _ = _; simp [kept]) hb5 rfl)⟩
          simp only [Act.put, List.setIfInBounds_toArray, List.set_cons_zero, List.set_cons_succ, Nat.reduceAdd, Nat.zero_add]
          refine calm_quiet (v := .bool false) (by rfl) (by rfl) (fun W hW hD => ?_) ?_
          · obtain rfl : v135 = .bool true := hD [] 8 (by kernel_rfl) (by kernel_rfl) (by kernel_rfl)
            clear hD hW
            go_simp
          simp only [Act.put, List.setIfInBounds_toArray, List.set_cons_zero, List.set_cons_succ, Nat.reduceAdd, Nat.zero_add]
          iterate 4 (refine calm_quiet (v := ?_) (by rfl) (by rfl) (fun W hW hD => ?_) ?_; rotate_left; (· (clear hD hW; go_simp; try with_reducible rfl)); simp only [Act.put, List.setIfInBounds_toArray, List.set_cons_zero, List.set_cons_succ, Nat.reduceAdd, Nat.zero_add])
          iterate 7 (refine calm_skip (by rfl) (by rfl) ?_; simp only [Act.put, List.setIfInBounds_toArray, List.set_cons_zero, List.set_cons_succ, Nat.reduceAdd, Nat.zero_add])
          iterate 2 (refine calm_quiet (v := ?_) (by rfl) (by rfl) (fun W hW hD => ?_) ?_; rotate_left; (· (clear hD hW; go_simp; try with_reducible rfl)); simp only [Act.put, List.setIfInBounds_toArray, List.set_cons_zero, List.set_cons_succ, Nat.reduceAdd, Nat.zero_add])
          refine calm_nil fun W hW hF => ?_
          have HBf := Lib.hid (HLs.out W hW).below
          have wk := WK.out; have wa := WA.out; have wb := WB.out
          clear hF hW HQ HLs HL8 HR1
          go_wp2
          go_roundw
          case rel => exact ⟨k + 1, by omega, by rw [HC1.out]; go_num, by rw [HC2.out], by go_num, HBf⟩
          case measure => simp [intOf]; omega
      · skip
        have hub := HQa.out hqk
        obtain ⟨r2, hr2, hrb⟩ := (show (PagesN K l (sealsL ⟨K, l⟩) vs B) _ from HL2.out.get (by simp)).2 cb k hub
        obtain ⟨gb2, off2, hbe⟩ := pages_at (show (RowsN pageK (.slice fa nb fc) B) _ from HL2.out.get (by simp)) cb r2 hr2
        subst hbe
        obtain ⟨ru2, sna, snn, snc, rs2, spa, spn, spc⟩ := r2
        obtain ⟨e1, e2, ho2, hs2⟩ := hrb
        simp only at e1 e2 ho2 hs2
        subst e1 e2
        have HR2 := Lib.hid hr2
        have db0 : (cb : Int) < (nb : Int) := by have h := (List.getElem?_eq_some_iff.1 hr2).1; have h2 := HNb.out; omega
        have db : decide ((cb : Int) < (nb : Int)) = true := decide_eq_true db0
        have HC2 : Hid (cntP q (k + 1) = cb + 1) := by show _ = _; rw [HCt.out, hqk]; rfl
        obtain ⟨S, hS⟩ : ∃ S, S = saltB K (k : Int) := ⟨_, rfl⟩
        obtain ⟨PR, hPR⟩ : ∃ PR, PR = proofL (sealsL ⟨K, l⟩) k := ⟨_, rfl⟩
        rw [← hS, ← hPR] at HPg
        rw [← hPR] at hs
        rw [← hS] at HR1
        rw [← hPR] at hs2
        rw [← hS] at HR2
        have hL := ((((HL2.out.add (P := RowsN noteK (.slice rna rnn rnc) (ofN l k)) (keep_rows (ho.rows noteOk))).add (P := StrsN (.slice rpa rpn rpc) PR) (keep_strs hs.strs)).add (P := RowsN noteK (.slice sna snn snc) (ofN l k)) (keep_rows (ho2.rows noteOk))).add (P := StrsN (.slice spa spn spc) PR) (keep_strs hs2.strs))
        obtain ⟨x0, _, _, _⟩ := pages_el (show (RowsN pageK (.slice (some ⟨gb, off, none⟩) na ac) A) _ from hL.get (by simp)) ca _ HR1.out
        simp only at x0
        obtain ⟨y0, _, _, _⟩ := pages_el (show (RowsN pageK (.slice (some ⟨gb2, off2, none⟩) nb fc) B) _ from hL.get (by simp)) cb _ HR2.out
        simp only at y0
        have d0 := BoxN.cell (show (BoxN w2.heap.size 26 #[.string (bs K), .slice ra rn rc]) _ from hL.get (by simp)) 0 _ rfl
        have d1 := BoxN.cell (show (BoxN w2.heap.size 26 #[.string (bs K), .slice ra rn rc]) _ from hL.get (by simp)) 1 _ rfl
        have HL3 := Lib.hid hL
        clear hL ho hs hpk hqk hS hPR HL2 ho2 hs2 hr2 hub
        go_wp2_with fail
        clear x0 d0 d1 y0
        refine (vPage_any K _ l (k : Int) _ (show (RowsN noteK (.slice ra rn rc) l) _ from HL3.out.get (by simp)) (by rw [HRn.out]; omega) HL3.out.rounds).mono ?_
        rintro e w7 ⟨nv7, pv7, rfl, hn, hp, hb⟩
        rw [HPg.out] at hn hp ⊢
        simp only at hn hp ⊢
        obtain ⟨xa, xc, hx, hxc1, hxc2⟩ := hn.shape
        obtain ⟨pa, pc, hpx, _, _⟩ := ownS_shape hp
        subst hx hpx
        generalize hxn : (ofN l (k : Int)).length = xn at *
        generalize hpn : PR.length = pn at *
        have hL := ((((HL3.out.step hb).add (P := RowsN noteK (.slice xa xn xc) (ofN l k)) (keep_rows (hn.rows noteOk))).add (P := StrsN (.slice pa pn pc) PR) (keep_strs hp.strs)).alloc (.cells #[.int .i64 (k : Int), .slice xa xn xc, .string (bs S), .slice pa pn pc] 39)).add (P := BoxN w7.heap.size 39 #[.int .i64 (k : Int), .slice xa xn xc, .string (bs S), .slice pa pn pc]) (keep_box (box_new w7 _ _))
        clear hxn hpn hb hn hp HL3 HPg
        obtain ⟨V8, hV8⟩ : ∃ V8, V8 = w7.alloc (.cells #[.int .i64 (k : Int), .slice xa xn xc, .string (bs S), .slice pa pn pc] 39) := ⟨_, rfl⟩
        rw [← hV8] at hL
        have HL8 := Lib.hid hL
        clear hL
        go_wp2
        rw [← hV8]
        clear hV8
        have HLs := Lib.hid (fun W (hW : V8.grownBy W none) => HL8.out.step (grown_below hW))
        have HQ : Hid (∀ W, V8.grownBy W none → (W.cell? ⟨w7.heap.size, 0, none⟩ = some (.int .i64 (k : Int)) ∧ W.cell? ⟨w7.heap.size, 1, none⟩ = some (.slice xa xn xc) ∧ W.cell? ⟨w7.heap.size, 2, none⟩ = some (.string (bs S)) ∧ W.cell? ⟨w7.heap.size, 3, none⟩ = some (.slice pa pn pc)) ∧ (W.cell? ⟨gb, off + ca * 4, none⟩ = some (.int .i64 (k : Int)) ∧ W.cell? ⟨gb, off + ca * 4 + 1, none⟩ = some (.slice rna rnn rnc) ∧ W.cell? ⟨gb, off + ca * 4 + 2, none⟩ = some (.string (bs S)) ∧ W.cell? ⟨gb, off + ca * 4 + 3, none⟩ = some (.slice rpa rpn rpc)) ∧ (W.cell? ⟨gb2, off2 + cb * 4, none⟩ = some (.int .i64 (k : Int)) ∧ W.cell? ⟨gb2, off2 + cb * 4 + 1, none⟩ = some (.slice sna snn snc) ∧ W.cell? ⟨gb2, off2 + cb * 4 + 2, none⟩ = some (.string (bs S)) ∧ W.cell? ⟨gb2, off2 + cb * 4 + 3, none⟩ = some (.slice spa spn spc))) := fun W hW => by
          have h := HLs.out W hW
          have hbx := (show (BoxN w7.heap.size 39 #[.int .i64 (k : Int), .slice xa xn xc, .string (bs S), .slice pa pn pc]) _ from h.get (by simp))
          exact ⟨⟨BoxN.cell hbx 0 _ rfl, BoxN.cell hbx 1 _ rfl, BoxN.cell hbx 2 _ rfl, BoxN.cell hbx 3 _ rfl⟩, pages_el (show (RowsN pageK (.slice (some ⟨gb, off, none⟩) na ac) A) _ from h.get (by simp)) ca _ HR1.out, pages_el (show (RowsN pageK (.slice (some ⟨gb2, off2, none⟩) nb fc) B) _ from h.get (by simp)) cb _ HR2.out⟩
        refine wp_region_calm ⟨[8, 19], fun _ v _ => v = .bool true, fun _ => [], 99, none, 1000⟩ (by kernel_rfl) (by kernel_rfl) (by kernel_rfl) (fun g h => by cases h) (fun k hk v W W' c h hg hc => h) ?_
        iterate 3 (refine calm_quiet (v := ?_) (by rfl) (by rfl) (fun W hW hD => ?_) ?_; rotate_left; (· (clear hD hW; go_simp; try with_reducible rfl)); simp only [Act.put, List.setIfInBounds_toArray, List.set_cons_zero, List.set_cons_succ, Nat.reduceAdd, Nat.zero_add])
        iterate 5 (refine calm_quiet (v := ?_) (by rfl) (by rfl) (fun W hW hD => ?_) ?_; rotate_left; (· (obtain ⟨⟨x0, x1, x2, x3⟩, ⟨z0, z1, z2, z3⟩, ⟨y0, y1, y2, y3⟩⟩ := HQ.out W hW; clear hD hW; go_simp; try with_reducible rfl)); simp only [Act.put, List.setIfInBounds_toArray, List.set_cons_zero, List.set_cons_succ, Nat.reduceAdd, Nat.zero_add])
        refine calm_makes (by rfl) (by rfl) (fun W hW hD Kc hK => ?_) (fun v135 => ?_)
        · have h := HLs.out W hW
          refine wp_of_call (f := 30) (args := #[.agg #[.int .i64 (k : Int), .slice xa xn xc, .string (bs S), .slice pa pn pc], .agg #[.int .i64 (k : Int), .slice rna rnn rnc, .string (bs S), .slice rpa rpn rpc]]) ?_ ((samePage_any (k : Int) (k : Int) _ _ _ _ S S (ofN l k) (ofN l k) PR PR W (show (RowsN noteK (.slice xa xn xc) (ofN l k)) _ from h.get (by simp)) (show (RowsN noteK (.slice rna rnn rnc) (ofN l k)) _ from h.get (by simp)) (show (StrsN (.slice pa pn pc) PR) _ from h.get (by simp)) (show (StrsN (.slice rpa rpn rpc) PR) _ from h.get (by simp)) h.rounds).mono ?_)
          · clear hD hW hK h
            go_simp
          · rintro e w5 ⟨rfl, hb5⟩
            exact ⟨_, rfl, hK _ _ (made_plain (by show _ = _; simp [kept]) hb5 rfl)⟩
        simp only [Act.put, List.setIfInBounds_toArray, List.set_cons_zero, List.set_cons_succ, Nat.reduceAdd, Nat.zero_add]
        refine calm_quiet (v := .bool false) (by rfl) (by rfl) (fun W hW hD => ?_) ?_
        · obtain rfl : v135 = .bool true := hD [] 8 (by kernel_rfl) (by kernel_rfl) (by kernel_rfl)
          clear hD hW
          go_simp
        simp only [Act.put, List.setIfInBounds_toArray, List.set_cons_zero, List.set_cons_succ, Nat.reduceAdd, Nat.zero_add]
        iterate 4 (refine calm_quiet (v := ?_) (by rfl) (by rfl) (fun W hW hD => ?_) ?_; rotate_left; (· (clear hD hW; go_simp; try with_reducible rfl)); simp only [Act.put, List.setIfInBounds_toArray, List.set_cons_zero, List.set_cons_succ, Nat.reduceAdd, Nat.zero_add])
        iterate 5 (refine calm_quiet (v := ?_) (by rfl) (by rfl) (fun W hW hD => ?_) ?_; rotate_left; (· (obtain ⟨⟨x0, x1, x2, x3⟩, ⟨z0, z1, z2, z3⟩, ⟨y0, y1, y2, y3⟩⟩ := HQ.out W hW; clear hD hW; go_simp; try with_reducible rfl)); simp only [Act.put, List.setIfInBounds_toArray, List.set_cons_zero, List.set_cons_succ, Nat.reduceAdd, Nat.zero_add])
        refine calm_makes (by rfl) (by rfl) (fun W hW hD Kc hK => ?_) (fun v146 => ?_)
        · have h := HLs.out W hW
          refine wp_of_call (f := 30) (args := #[.agg #[.int .i64 (k : Int), .slice xa xn xc, .string (bs S), .slice pa pn pc], .agg #[.int .i64 (k : Int), .slice sna snn snc, .string (bs S), .slice spa spn spc]]) ?_ ((samePage_any (k : Int) (k : Int) _ _ _ _ S S (ofN l k) (ofN l k) PR PR W (show (RowsN noteK (.slice xa xn xc) (ofN l k)) _ from h.get (by simp)) (show (RowsN noteK (.slice sna snn snc) (ofN l k)) _ from h.get (by simp)) (show (StrsN (.slice pa pn pc) PR) _ from h.get (by simp)) (show (StrsN (.slice spa spn spc) PR) _ from h.get (by simp)) h.rounds).mono ?_)
          · clear hD hW hK h
            go_simp
          · rintro e w5 ⟨rfl, hb5⟩
            exact ⟨_, rfl, hK _ _ (made_plain (by show _ = _; simp [kept]) hb5 rfl)⟩
        simp only [Act.put, List.setIfInBounds_toArray, List.set_cons_zero, List.set_cons_succ, Nat.reduceAdd, Nat.zero_add]
        refine calm_quiet (v := .bool false) (by rfl) (by rfl) (fun W hW hD => ?_) ?_
        · obtain rfl : v146 = .bool true := hD [] 19 (by kernel_rfl) (by kernel_rfl) (by kernel_rfl)
          clear hD hW
          go_simp
        simp only [Act.put, List.setIfInBounds_toArray, List.set_cons_zero, List.set_cons_succ, Nat.reduceAdd, Nat.zero_add]
        iterate 2 (refine calm_quiet (v := ?_) (by rfl) (by rfl) (fun W hW hD => ?_) ?_; rotate_left; (· (clear hD hW; go_simp; try with_reducible rfl)); simp only [Act.put, List.setIfInBounds_toArray, List.set_cons_zero, List.set_cons_succ, Nat.reduceAdd, Nat.zero_add])
        refine calm_nil fun W hW hF => ?_
        have HBf := Lib.hid (HLs.out W hW).below
        have wk := WK.out; have wa := WA.out; have wb := WB.out
        clear hF hW HQ HLs HL8 HR1
        go_wp2
        go_roundw
        case rel => exact ⟨k + 1, by omega, by rw [HC1.out]; go_num, by rw [HC2.out]; go_num, by go_num, HBf⟩
        case measure => simp [intOf]; omega
end Go.Proofs.YteicimmdcdjagaaGreatDoor
